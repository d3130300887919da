/- Layer 25: the sameness of elements. Conditions: none. -/
import Derived.Test.YtjbaoopiffcigaaQM8
import Derived.Test.YtjbaoopiffcigaaQG4
set_option linter.unusedVariables false
set_option linter.unusedSimpArgs false
namespace Go.L25
open Go Go.Eng Go.Proofs
set_option pp.deepTerms false
set_option pp.deepTerms.threshold 9
set_option maxRecDepth 10000
set_option maxHeartbeats 4000000

theorem map_val_inj {α : Type} {p : α → Prop} : ∀ (a b : List { x // p x }), a.map Subtype.val = b.map Subtype.val → a = b
  | [], [], _ => rfl
  | [], _ :: _, h => by cases h
  | _ :: _, [], h => by cases h
  | x :: a, y :: b, h => by
    simp only [List.map_cons, List.cons.injEq] at h
    rw [Subtype.ext h.1, map_val_inj a b h.2]
theorem els_val (f : Eo) : (els f).map (fun (x : Eo) => x.1) = match f.1 with | .mk _ _ _ _ ks => ks := by
  obtain ⟨⟨c, m, n, t, ks⟩, h⟩ := f
  show ((ks.attach.map _).map _) = ks
  rw [List.map_map]
  exact List.attach_map_subtype_val ks
theorem Eo_ext {a b : Eo} (h1 : cls a = cls b) (h2 : made a = made b) (h3 : num a = num b) (h4 : bs (cont a) = bs (cont b)) (h5 : els a = els b) : a = b := by
  have e5 := (els_val a).symm.trans ((congrArg (fun l => List.map (fun (x : Eo) => x.1) l) h5).trans (els_val b))
  obtain ⟨⟨c, m, n, t, ks⟩, h⟩ := a
  obtain ⟨⟨c', m', n', t', ks'⟩, h'⟩ := b
  have e4 : t = t' := Subtype.ext h4
  simp only at e5
  apply Subtype.ext
  show El.mk c m n t ks = El.mk c' m' n' t' ks'
  rw [show c = c' from h1, show m = m' from h2, show n = n' from h3, e4, e5]

open Classical in
noncomputable def eqE (a b : Eo) : Bool := decide (a = b)
open Classical in
noncomputable def eqL (a b : List Eo) : Bool := decide (a = b)
open Classical in
theorem eqE_t {a b : Eo} (h : a = b) : eqE a b = true := by unfold eqE; exact decide_eq_true h
open Classical in
theorem eqE_f {a b : Eo} (h : ¬ a = b) : eqE a b = false := by unfold eqE; exact decide_eq_false h
open Classical in
theorem eqL_t {a b : List Eo} (h : a = b) : eqL a b = true := by unfold eqL; exact decide_eq_true h
open Classical in
theorem eqL_f {a b : List Eo} (h : ¬ a = b) : eqL a b = false := by unfold eqL; exact decide_eq_false h

theorem t26 (l m : List Eo) (hl : l.length ≤ 2 ^ 30) (hm : m.length ≤ 2 ^ 30) (IH : ∀ a ∈ l, ∀ b, pureCall C 11 [(.agg [.lit (.int .i64 (cls a)), .lit (.bool (made a)), .lit (.int .i64 (num a)), .str (bs (cont a)), .sl (List.map encE (els a))]), (.agg [.lit (.int .i64 (cls b)), .lit (.bool (made b)), .lit (.int .i64 (num b)), .str (bs (cont b)), .sl (List.map encE (els b))])] = some (tf (eqE a b))) : pureCall C 26 [.sl (List.map encE l), .sl (List.map encE m)] = some (tf (eqL l m)) := by
  by_cases hlen : l.length = m.length
  · have key : ∀ (r s : List Eo) (j : Nat) (x : Int), x = j → l.drop j = r → m.drop j = s →
        ∃ x', n26_14 ⟨[(0, .d (.sl (List.map encE l))), (1, .d (.sl (List.map encE m))), (5, .d (.lit (.int .i64 x)))], []⟩ =
          some (if eqL r s then (.exit 0, ⟨[(0, .d (.sl (List.map encE l))), (1, .d (.sl (List.map encE m))), (5, x'), (14, .d (.lit (.bool false)))], []⟩) else (.ret, ⟨[(4, .d (.lit (.bool false)))], []⟩)) := by
      intro r
      induction r with
      | nil =>
        intro s j x hx hd hd2
        have hd := drop_nil hd
        have hs : s = [] := by rw [← hd2]; exact List.drop_eq_nil_of_le (by omega)
        refine ⟨.d (.lit (.int .i64 x)), ?_⟩
        rw [r_n26_14, eqL_t hs.symm]
        simp -implicitDefEqProofs (maxSteps := 10000000) (disch := omega) only [go_sem, Int.reduceAdd, Int.reduceSub, Int.reduceMul, dec_t, dec_f, Nat.reduceBEq, Nat.reduceBNe, Nat.reduceShiftRight, Nat.reduceAnd, Nat.reduceAdd, Nat.reduceSub, Nat.reduceEqDiff, Nat.reduceLT, Nat.reduceLeDiff, Int.reduceToNat, Int.reduceLT, Int.reduceLE, Int.reduceEq, reduceIte, reduceCtorEq]
        try rfl
      | cons c r ih =>
        intro s j x hx hd hd2
        obtain ⟨g1, g2, g3, g4⟩ := drop_cons hd
        cases s with
        | nil => have := drop_nil hd2; omega
        | cons d s =>
          obtain ⟨f1, f2, f3, f4⟩ := drop_cons hd2
          have hnat : Int.toNat x = j := by omega
          have hc := IH c g4 d
          obtain ⟨x', h⟩ := ih s (j + 1) (x + 1) (by omega) g3 f3
          by_cases hcd : c = d
          · subst hcd
            rw [eqE_t rfl] at hc
            refine ⟨x', ?_⟩
            have : eqL (c :: r) (c :: s) = eqL r s := by
              by_cases q : r = s
              · rw [eqL_t q, eqL_t (by rw [q])]
              · rw [eqL_f q, eqL_f (fun e => q (List.cons.inj e).2)]
            rw [this]
            generalize eqL r s = w at h ⊢
            clear ih
            rw [r_n26_14]
            simp -implicitDefEqProofs (maxSteps := 10000000) (disch := omega) only [go_sem, Int.reduceAdd, Int.reduceSub, Int.reduceMul, dec_t, dec_f, Nat.reduceBEq, Nat.reduceBNe, Nat.reduceShiftRight, Nat.reduceAnd, Nat.reduceAdd, Nat.reduceSub, Nat.reduceEqDiff, Nat.reduceLT, Nat.reduceLeDiff, Int.reduceToNat, Int.reduceLT, Int.reduceLE, Int.reduceEq, reduceIte, reduceCtorEq, g2, f2, hnat, hc, h]
          · rw [eqE_f hcd] at hc
            refine ⟨.undef, ?_⟩
            rw [eqL_f (fun e => hcd (List.cons.inj e).1)]
            clear ih h
            rw [r_n26_14]
            simp -implicitDefEqProofs (maxSteps := 10000000) (disch := omega) only [go_sem, Int.reduceAdd, Int.reduceSub, Int.reduceMul, dec_t, dec_f, Nat.reduceBEq, Nat.reduceBNe, Nat.reduceShiftRight, Nat.reduceAnd, Nat.reduceAdd, Nat.reduceSub, Nat.reduceEqDiff, Nat.reduceLT, Nat.reduceLeDiff, Int.reduceToNat, Int.reduceLT, Int.reduceLE, Int.reduceEq, reduceIte, reduceCtorEq, g2, f2, hnat, hc]
            try rfl
    obtain ⟨x', h⟩ := key l m 0 0 rfl rfl rfl
    generalize eqL l m = w at h ⊢
    rw [p26]
    cases w
    · simp -implicitDefEqProofs (maxSteps := 10000000) (disch := omega) only [go_sem, Int.reduceAdd, Int.reduceSub, Int.reduceMul, dec_t, dec_f, Nat.reduceBEq, Nat.reduceBNe, Nat.reduceShiftRight, Nat.reduceAnd, Nat.reduceAdd, Nat.reduceSub, Nat.reduceEqDiff, Nat.reduceLT, Nat.reduceLeDiff, Int.reduceToNat, Int.reduceLT, Int.reduceLE, Int.reduceEq, reduceIte, reduceCtorEq]
      simp -implicitDefEqProofs (maxSteps := 10000000) (disch := omega) only [go_sem, Int.reduceAdd, Int.reduceSub, Int.reduceMul, dec_t, dec_f, Nat.reduceBEq, Nat.reduceBNe, Nat.reduceShiftRight, Nat.reduceAnd, Nat.reduceAdd, Nat.reduceSub, Nat.reduceEqDiff, Nat.reduceLT, Nat.reduceLeDiff, Int.reduceToNat, Int.reduceLT, Int.reduceLE, Int.reduceEq, reduceIte, reduceCtorEq, h]
      (first | done | rfl)
    · simp -implicitDefEqProofs (maxSteps := 10000000) (disch := omega) only [go_sem, Int.reduceAdd, Int.reduceSub, Int.reduceMul, dec_t, dec_f, Nat.reduceBEq, Nat.reduceBNe, Nat.reduceShiftRight, Nat.reduceAnd, Nat.reduceAdd, Nat.reduceSub, Nat.reduceEqDiff, Nat.reduceLT, Nat.reduceLeDiff, Int.reduceToNat, Int.reduceLT, Int.reduceLE, Int.reduceEq, reduceIte, reduceCtorEq]
      simp -implicitDefEqProofs (maxSteps := 10000000) (disch := omega) only [go_sem, Int.reduceAdd, Int.reduceSub, Int.reduceMul, dec_t, dec_f, Nat.reduceBEq, Nat.reduceBNe, Nat.reduceShiftRight, Nat.reduceAnd, Nat.reduceAdd, Nat.reduceSub, Nat.reduceEqDiff, Nat.reduceLT, Nat.reduceLeDiff, Int.reduceToNat, Int.reduceLT, Int.reduceLE, Int.reduceEq, reduceIte, reduceCtorEq, h]
      (first | done | rfl)
  · rw [eqL_f (fun e => hlen (by rw [e])), p26]
    simp -implicitDefEqProofs (maxSteps := 10000000) (disch := omega) only [go_sem, Int.reduceAdd, Int.reduceSub, Int.reduceMul, dec_t, dec_f, Nat.reduceBEq, Nat.reduceBNe, Nat.reduceShiftRight, Nat.reduceAnd, Nat.reduceAdd, Nat.reduceSub, Nat.reduceEqDiff, Nat.reduceLT, Nat.reduceLeDiff, Int.reduceToNat, Int.reduceLT, Int.reduceLE, Int.reduceEq, reduceIte, reduceCtorEq]
    (first | done | rfl)

@[go_sem] theorem t11 (a b : Eo) : pureCall C 11 [(.agg [.lit (.int .i64 (cls a)), .lit (.bool (made a)), .lit (.int .i64 (num a)), .str (bs (cont a)), .sl (List.map encE (els a))]), (.agg [.lit (.int .i64 (cls b)), .lit (.bool (made b)), .lit (.int .i64 (num b)), .str (bs (cont b)), .sl (List.map encE (els b))])] = some (tf (eqE a b)) := by
  have IH : ∀ c ∈ els a, ∀ d, pureCall C 11 [(.agg [.lit (.int .i64 (cls c)), .lit (.bool (made c)), .lit (.int .i64 (num c)), .str (bs (cont c)), .sl (List.map encE (els c))]), (.agg [.lit (.int .i64 (cls d)), .lit (.bool (made d)), .lit (.int .i64 (num d)), .str (bs (cont d)), .sl (List.map encE (els d))])] = some (tf (eqE c d)) := fun c hc d => t11 c d
  have h26 := t26 (els a) (els b) (els_le a) (els_le b) IH
  rw [p11]
  simp -implicitDefEqProofs (maxSteps := 10000000) (disch := omega) only [go_sem, Int.reduceAdd, Int.reduceSub, Int.reduceMul, dec_t, dec_f, Nat.reduceBEq, Nat.reduceBNe, Nat.reduceShiftRight, Nat.reduceAnd, Nat.reduceAdd, Nat.reduceSub, Nat.reduceEqDiff, Nat.reduceLT, Nat.reduceLeDiff, Int.reduceToNat, Int.reduceLT, Int.reduceLE, Int.reduceEq, reduceIte, reduceCtorEq]
  by_cases q1 : cls a = cls b
  · by_cases q2 : made a = made b
    · by_cases q3 : num a = num b
      · cases b4 : List.beq (bs (cont a)) (bs (cont b)) with
        | true =>
          have q4 : bs (cont a) = bs (cont b) := eq_of_beq b4
          have : eqE a b = eqL (els a) (els b) := by
            by_cases q5 : els a = els b
            · rw [eqL_t q5, eqE_t (Eo_ext q1 q2 q3 q4 q5)]
            · rw [eqL_f q5, eqE_f (fun e => q5 (by rw [e]))]
          rw [this]
          generalize eqL (els a) (els b) = w at h26 ⊢
          rw [q1, q2, q3]
          cases made b <;> (simp -implicitDefEqProofs (maxSteps := 10000000) (disch := omega) only [go_sem, Int.reduceAdd, Int.reduceSub, Int.reduceMul, dec_t, dec_f, Nat.reduceBEq, Nat.reduceBNe, Nat.reduceShiftRight, Nat.reduceAnd, Nat.reduceAdd, Nat.reduceSub, Nat.reduceEqDiff, Nat.reduceLT, Nat.reduceLeDiff, Int.reduceToNat, Int.reduceLT, Int.reduceLE, Int.reduceEq, reduceIte, reduceCtorEq, b4, h26]) <;> (first | done | rfl)
        | false =>
          rw [eqE_f (fun e => by rw [e, show List.beq (bs (cont b)) (bs (cont b)) = true from (beq_self_eq_true (bs (cont b)) : (bs (cont b) == bs (cont b)) = true)] at b4; cases b4)]
          rw [q1, q2, q3]
          cases made b <;> (simp -implicitDefEqProofs (maxSteps := 10000000) (disch := omega) only [go_sem, Int.reduceAdd, Int.reduceSub, Int.reduceMul, dec_t, dec_f, Nat.reduceBEq, Nat.reduceBNe, Nat.reduceShiftRight, Nat.reduceAnd, Nat.reduceAdd, Nat.reduceSub, Nat.reduceEqDiff, Nat.reduceLT, Nat.reduceLeDiff, Int.reduceToNat, Int.reduceLT, Int.reduceLE, Int.reduceEq, reduceIte, reduceCtorEq, b4]) <;> (first | done | rfl)
      · rw [eqE_f (fun e => q3 (by rw [e]))]
        rw [q1, q2]
        cases made b <;> (simp -implicitDefEqProofs (maxSteps := 10000000) (disch := omega) only [go_sem, Int.reduceAdd, Int.reduceSub, Int.reduceMul, dec_t, dec_f, Nat.reduceBEq, Nat.reduceBNe, Nat.reduceShiftRight, Nat.reduceAnd, Nat.reduceAdd, Nat.reduceSub, Nat.reduceEqDiff, Nat.reduceLT, Nat.reduceLeDiff, Int.reduceToNat, Int.reduceLT, Int.reduceLE, Int.reduceEq, reduceIte, reduceCtorEq, q3]) <;> (first | done | rfl)
    · rw [eqE_f (fun e => q2 (by rw [e]))]
      rw [q1]
      cases b1 : made a <;> cases b2 : made b <;> simp only [b1, b2, not_true_eq_false] at q2 <;> (simp -implicitDefEqProofs (maxSteps := 10000000) (disch := omega) only [go_sem, Int.reduceAdd, Int.reduceSub, Int.reduceMul, dec_t, dec_f, Nat.reduceBEq, Nat.reduceBNe, Nat.reduceShiftRight, Nat.reduceAnd, Nat.reduceAdd, Nat.reduceSub, Nat.reduceEqDiff, Nat.reduceLT, Nat.reduceLeDiff, Int.reduceToNat, Int.reduceLT, Int.reduceLE, Int.reduceEq, reduceIte, reduceCtorEq, b1, b2]) <;> (first | done | rfl)
  · rw [eqE_f (fun e => q1 (by rw [e]))]
    simp -implicitDefEqProofs (maxSteps := 10000000) (disch := omega) only [go_sem, Int.reduceAdd, Int.reduceSub, Int.reduceMul, dec_t, dec_f, Nat.reduceBEq, Nat.reduceBNe, Nat.reduceShiftRight, Nat.reduceAnd, Nat.reduceAdd, Nat.reduceSub, Nat.reduceEqDiff, Nat.reduceLT, Nat.reduceLeDiff, Int.reduceToNat, Int.reduceLT, Int.reduceLE, Int.reduceEq, reduceIte, reduceCtorEq, q1]
    (first | done | rfl)
termination_by szE a
decreasing_by exact els_lt hc
end Go.L25
