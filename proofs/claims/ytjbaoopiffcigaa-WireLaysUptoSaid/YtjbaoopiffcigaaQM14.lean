/- Layer 25: the document's pieces. Conditions: none. -/
import Derived.Test.YtjbaoopiffcigaaQM13
set_option linter.unusedVariables false
set_option linter.unusedSimpArgs false
namespace Go.L25
open Go Go.Eng Go.Proofs
set_option pp.deepTerms false
set_option pp.deepTerms.threshold 9
set_option maxRecDepth 10000
set_option maxHeartbeats 8000000

theorem beq_b0 (l : List UInt8) : decide ((l.length : Int) = 0) = List.beq [] l := by
  cases l with
  | nil => rfl
  | cons a r => exact decide_eq_false (by simp only [List.length_cons]; omega)
theorem lenp (l : List UInt8) : decide ((0 : Int) < l.length) = !List.beq l [] := by
  cases l with
  | nil => rfl
  | cons a r => exact decide_eq_true (by simp only [List.length_cons]; omega)
theorem t97k (i : Bs) (a : List Bs) (e : Bs) (hi hf : Bool) (ha : a.length ≤ 2 ^ 30) : ∀ (r' : List Bs) (j : Nat) (x : Int), x = j → a.drop j = r' →
    ∃ x', n97_28 ⟨[(1, .ptr 0 1 0 0), (4, .d (.lit (.int .i64 x)))], [⟨5, [.d (.agg [.str (bs i), .sl (a.map encS), .str (bs e), .lit (.bool hi), .lit (.bool hf)])], false, false, false⟩]⟩ =
      br (r'.any (fun s => List.beq [] (bs s))) (some (.ret, ⟨[(2, .d (.lit (.int .i64 2)))], [⟨5, [.d (.agg [.str (bs i), .sl (a.map encS), .str (bs e), .lit (.bool hi), .lit (.bool hf)])], false, false, false⟩]⟩))
        (some (.exit 0, ⟨[(1, .ptr 0 1 0 0), (4, x'), (46, .d (.lit (.bool false)))], [⟨5, [.d (.agg [.str (bs i), .sl (a.map encS), .str (bs e), .lit (.bool hi), .lit (.bool hf)])], false, false, false⟩]⟩)) := by
  intro r'
  induction r' with
  | nil =>
    intro j x hx hd
    have hd := drop_nil hd
    refine ⟨.d (.lit (.int .i64 x)), ?_⟩
    rw [r_n97_28]
    simp -implicitDefEqProofs (maxSteps := 10000000) (disch := omega) only [go_sem, Int.reduceAdd, Int.reduceSub, Int.reduceMul, dec_t, dec_f, Nat.reduceBEq, Nat.reduceBNe, Nat.reduceShiftRight, Nat.reduceAnd, Nat.reduceAdd, Nat.reduceSub, Nat.reduceEqDiff, Nat.reduceLT, Nat.reduceLeDiff, Int.reduceToNat, Int.reduceLT, Int.reduceLE, Int.reduceEq, reduceIte, reduceCtorEq]
    try rfl
  | cons c' r' ih =>
    intro j x hx hd
    obtain ⟨g1, g2, g3, g4⟩ := drop_cons hd
    have hnat : Int.toNat x = j := by omega
    obtain ⟨x', h⟩ := ih (j + 1) (x + 1) (by omega) g3
    have hl := bs_le c'
    have he := beq_b0 (bs c')
    cases hs : List.beq [] (bs c') with
    | true =>
      rw [hs] at he
      refine ⟨.undef, ?_⟩
      rw [r_n97_28, show ((c' :: r').any fun s => List.beq [] (bs s)) = true by simp [hs]]
      clear ih h
      simp -implicitDefEqProofs (maxSteps := 10000000) (disch := omega) only [go_sem, Int.reduceAdd, Int.reduceSub, Int.reduceMul, dec_t, dec_f, Nat.reduceBEq, Nat.reduceBNe, Nat.reduceShiftRight, Nat.reduceAnd, Nat.reduceAdd, Nat.reduceSub, Nat.reduceEqDiff, Nat.reduceLT, Nat.reduceLeDiff, Int.reduceToNat, Int.reduceLT, Int.reduceLE, Int.reduceEq, reduceIte, reduceCtorEq, g2, hnat, he]
      try rfl
    | false =>
      rw [hs] at he
      refine ⟨x', ?_⟩
      rw [r_n97_28, show ((c' :: r').any fun s => List.beq [] (bs s)) = r'.any (fun s => List.beq [] (bs s)) by simp [hs]]
      clear ih
      generalize (r'.any fun s => List.beq [] (bs s)) = w at h ⊢
      simp -implicitDefEqProofs (maxSteps := 10000000) (disch := omega) only [go_sem, Int.reduceAdd, Int.reduceSub, Int.reduceMul, dec_t, dec_f, Nat.reduceBEq, Nat.reduceBNe, Nat.reduceShiftRight, Nat.reduceAnd, Nat.reduceAdd, Nat.reduceSub, Nat.reduceEqDiff, Nat.reduceLT, Nat.reduceLeDiff, Int.reduceToNat, Int.reduceLT, Int.reduceLE, Int.reduceEq, reduceIte, reduceCtorEq, g2, hnat, he, h]

theorem t97 (i : Bs) (a : List Bs) (e : Bs) (hi hf : Bool) (ha : a.length ≤ 2 ^ 30) : pureCall C 97 [.agg [.str (bs i), .sl (a.map encS), .str (bs e), .lit (.bool hi), .lit (.bool hf)]] = some (lit (if pcOk i a e hi hf then 0 else 2)) := by
  obtain ⟨x', h⟩ := t97k i a e hi hf ha a 0 0 rfl rfl
  have h1 := bs_le i
  have h2 := bs_le e
  unfold pcOk
  rw [p97]
  generalize (a.any fun s => List.beq [] (bs s)) = w at h ⊢
  have hzz : (a.length = 0 ∧ a.isEmpty = true) ∨ (0 < a.length ∧ a.isEmpty = false) := by
    cases a with
    | nil => exact .inl ⟨rfl, rfl⟩
    | cons x r => exact .inr ⟨Nat.succ_pos _, rfl⟩
  rcases hzz with ⟨z, hz⟩ | ⟨z, hz⟩ <;> by_cases h6 : a.length ≤ 6 <;> first | omega | (
    cases hb1 : List.beq (bs i) [] <;> cases hb2 : List.beq (bs e) [] <;> cases hi <;> cases hf <;> (simp -implicitDefEqProofs (maxSteps := 10000000) (disch := omega) only [go_sem, Int.reduceAdd, Int.reduceSub, Int.reduceMul, dec_t, dec_f, Nat.reduceBEq, Nat.reduceBNe, Nat.reduceShiftRight, Nat.reduceAnd, Nat.reduceAdd, Nat.reduceSub, Nat.reduceEqDiff, Nat.reduceLT, Nat.reduceLeDiff, Int.reduceToNat, Int.reduceLT, Int.reduceLE, Int.reduceEq, reduceIte, reduceCtorEq, lenp, hz, hb1, hb2, h]) <;> (try (cases w <;> (simp -implicitDefEqProofs (maxSteps := 10000000) (disch := omega) only [go_sem, Int.reduceAdd, Int.reduceSub, Int.reduceMul, dec_t, dec_f, Nat.reduceBEq, Nat.reduceBNe, Nat.reduceShiftRight, Nat.reduceAnd, Nat.reduceAdd, Nat.reduceSub, Nat.reduceEqDiff, Nat.reduceLT, Nat.reduceLeDiff, Int.reduceToNat, Int.reduceLT, Int.reduceLE, Int.reduceEq, reduceIte, reduceCtorEq]))))

theorem t90k (i : Bs) (a : List Bs) (e : Bs) (hi hf : Bool) (ha : a.length ≤ 2 ^ 30) : ∀ (r' : List Bs) (j : Nat) (x : Int), x = j → a.drop j = r' →
    ∃ x', n90_14 ⟨[(1, .ptr 0 1 0 0), (3, .d (.lit (.int .i64 x)))], [⟨5, [.d (.agg [.str (bs i), .sl (a.map encS), .str (bs e), .lit (.bool hi), .lit (.bool hf)])], false, false, false⟩]⟩ =
      br (r'.any (fun s => decide (400 < (bs s).length))) (some (.ret, ⟨[(2, .d (.lit (.bool false)))], [⟨5, [.d (.agg [.str (bs i), .sl (a.map encS), .str (bs e), .lit (.bool hi), .lit (.bool hf)])], false, false, false⟩]⟩))
        (some (.exit 0, ⟨[(1, .ptr 0 1 0 0), (3, x'), (23, .d (.lit (.bool false)))], [⟨5, [.d (.agg [.str (bs i), .sl (a.map encS), .str (bs e), .lit (.bool hi), .lit (.bool hf)])], false, false, false⟩]⟩)) := by
  intro r'
  induction r' with
  | nil =>
    intro j x hx hd
    have hd := drop_nil hd
    refine ⟨.d (.lit (.int .i64 x)), ?_⟩
    rw [r_n90_14]
    simp -implicitDefEqProofs (maxSteps := 10000000) (disch := omega) only [go_sem, Int.reduceAdd, Int.reduceSub, Int.reduceMul, dec_t, dec_f, Nat.reduceBEq, Nat.reduceBNe, Nat.reduceShiftRight, Nat.reduceAnd, Nat.reduceAdd, Nat.reduceSub, Nat.reduceEqDiff, Nat.reduceLT, Nat.reduceLeDiff, Int.reduceToNat, Int.reduceLT, Int.reduceLE, Int.reduceEq, reduceIte, reduceCtorEq]
    try rfl
  | cons c' r' ih =>
    intro j x hx hd
    obtain ⟨g1, g2, g3, g4⟩ := drop_cons hd
    have hnat : Int.toNat x = j := by omega
    obtain ⟨x', h⟩ := ih (j + 1) (x + 1) (by omega) g3
    have hl := bs_le c'
    by_cases hs : 400 < (bs c').length
    · refine ⟨.undef, ?_⟩
      rw [r_n90_14, show ((c' :: r').any fun s => decide (400 < (bs s).length)) = true by simp [hs]]
      clear ih h
      simp -implicitDefEqProofs (maxSteps := 10000000) (disch := omega) only [go_sem, Int.reduceAdd, Int.reduceSub, Int.reduceMul, dec_t, dec_f, Nat.reduceBEq, Nat.reduceBNe, Nat.reduceShiftRight, Nat.reduceAnd, Nat.reduceAdd, Nat.reduceSub, Nat.reduceEqDiff, Nat.reduceLT, Nat.reduceLeDiff, Int.reduceToNat, Int.reduceLT, Int.reduceLE, Int.reduceEq, reduceIte, reduceCtorEq, g2, hnat]
      try rfl
    · refine ⟨x', ?_⟩
      rw [r_n90_14, show ((c' :: r').any fun s => decide (400 < (bs s).length)) = r'.any (fun s => decide (400 < (bs s).length)) by simp [hs]]
      clear ih
      generalize (r'.any fun s => decide (400 < (bs s).length)) = w at h ⊢
      simp -implicitDefEqProofs (maxSteps := 10000000) (disch := omega) only [go_sem, Int.reduceAdd, Int.reduceSub, Int.reduceMul, dec_t, dec_f, Nat.reduceBEq, Nat.reduceBNe, Nat.reduceShiftRight, Nat.reduceAnd, Nat.reduceAdd, Nat.reduceSub, Nat.reduceEqDiff, Nat.reduceLT, Nat.reduceLeDiff, Int.reduceToNat, Int.reduceLT, Int.reduceLE, Int.reduceEq, reduceIte, reduceCtorEq, g2, hnat, h]
/-- Pieces that may be, and are short. -/
theorem t90 (i : Bs) (a : List Bs) (e : Bs) (hi hf : Bool) (ha : a.length ≤ 2 ^ 30) : pureCall C 90 [.agg [.str (bs i), .sl (a.map encS), .str (bs e), .lit (.bool hi), .lit (.bool hf)]] = some (tf (pcOk i a e hi hf && pShort i a e)) := by
  obtain ⟨x', h⟩ := t90k i a e hi hf ha a 0 0 rfl rfl
  have h1 := bs_le i
  have h2 := bs_le e
  have h97 := t97 i a e hi hf ha
  unfold pShort
  rw [p90]
  generalize (a.any fun s => decide (400 < (bs s).length)) = w at h ⊢
  cases hp : pcOk i a e hi hf
  · rw [hp] at h97
    simp -implicitDefEqProofs (maxSteps := 10000000) (disch := omega) only [go_sem, Int.reduceAdd, Int.reduceSub, Int.reduceMul, dec_t, dec_f, Nat.reduceBEq, Nat.reduceBNe, Nat.reduceShiftRight, Nat.reduceAnd, Nat.reduceAdd, Nat.reduceSub, Nat.reduceEqDiff, Nat.reduceLT, Nat.reduceLeDiff, Int.reduceToNat, Int.reduceLT, Int.reduceLE, Int.reduceEq, reduceIte, reduceCtorEq, h97, h]
  · rw [hp] at h97
    by_cases q1 : 400 < (bs i).length
    · simp -implicitDefEqProofs (maxSteps := 10000000) (disch := omega) only [go_sem, Int.reduceAdd, Int.reduceSub, Int.reduceMul, dec_t, dec_f, Nat.reduceBEq, Nat.reduceBNe, Nat.reduceShiftRight, Nat.reduceAnd, Nat.reduceAdd, Nat.reduceSub, Nat.reduceEqDiff, Nat.reduceLT, Nat.reduceLeDiff, Int.reduceToNat, Int.reduceLT, Int.reduceLE, Int.reduceEq, reduceIte, reduceCtorEq, h97, h]
    · by_cases q2 : 400 < (bs e).length
      · simp -implicitDefEqProofs (maxSteps := 10000000) (disch := omega) only [go_sem, Int.reduceAdd, Int.reduceSub, Int.reduceMul, dec_t, dec_f, Nat.reduceBEq, Nat.reduceBNe, Nat.reduceShiftRight, Nat.reduceAnd, Nat.reduceAdd, Nat.reduceSub, Nat.reduceEqDiff, Nat.reduceLT, Nat.reduceLeDiff, Int.reduceToNat, Int.reduceLT, Int.reduceLE, Int.reduceEq, reduceIte, reduceCtorEq, h97, h]
      · simp -implicitDefEqProofs (maxSteps := 10000000) (disch := omega) only [go_sem, Int.reduceAdd, Int.reduceSub, Int.reduceMul, dec_t, dec_f, Nat.reduceBEq, Nat.reduceBNe, Nat.reduceShiftRight, Nat.reduceAnd, Nat.reduceAdd, Nat.reduceSub, Nat.reduceEqDiff, Nat.reduceLT, Nat.reduceLeDiff, Int.reduceToNat, Int.reduceLT, Int.reduceLE, Int.reduceEq, reduceIte, reduceCtorEq, h97, h]
        cases w <;> (simp -implicitDefEqProofs (maxSteps := 10000000) (disch := omega) only [go_sem, Int.reduceAdd, Int.reduceSub, Int.reduceMul, dec_t, dec_f, Nat.reduceBEq, Nat.reduceBNe, Nat.reduceShiftRight, Nat.reduceAnd, Nat.reduceAdd, Nat.reduceSub, Nat.reduceEqDiff, Nat.reduceLT, Nat.reduceLeDiff, Int.reduceToNat, Int.reduceLT, Int.reduceLE, Int.reduceEq, reduceIte, reduceCtorEq])
end Go.L25
