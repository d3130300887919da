/- Layer 25: the counting that guards a law. Conditions: none. -/
import Derived.Test.YtjbaoopiffcigaaQM2
import Derived.Test.YtjbaoopiffcigaaQG4
set_option linter.unusedVariables false
set_option linter.unusedSimpArgs false
namespace Go.L25
open Go Go.Eng Go.Proofs
set_option pp.deepTerms false
set_option pp.deepTerms.threshold 9
set_option maxRecDepth 10000
set_option maxHeartbeats 4000000

theorem t7a (f : Fo) (L : Int) : ∀ (r : List Bs) (j : Nat) (x : Int), x = j → (any f).drop j = r → 
    (∃ x', n7_18 ⟨[(1, .d (.lit (.int .i64 L))), (2, .ptr 0 1 0 0), (6, .d (.lit (.int .i64 x)))], [⟨11, [.d (.agg [.lit (.int .i64 (kind f)), .str (bs (name f)), .str (bs (value f)), .str (bs (ini f)), .sl (List.map encS (any f)), .str (bs (fin f)), .lit (.bool (hi f)), .lit (.bool (hf f)), .str (bs (rule f)), .lit (.bool (dn f)), .sl (List.map encO (kids f))])], false, false, false⟩]⟩ =
      some (.exit 0, ⟨[(1, .d (.lit (.int .i64 L))), (2, .ptr 0 1 0 0), (6, x'), (45, .d (.lit (.bool false)))], [⟨11, [.d (.agg [.lit (.int .i64 (kind f)), .str (bs (name f)), .str (bs (value f)), .str (bs (ini f)), .sl (List.map encS (any f)), .str (bs (fin f)), .lit (.bool (hi f)), .lit (.bool (hf f)), .str (bs (rule f)), .lit (.bool (dn f)), .sl (List.map encO (kids f))])], false, false, false⟩]⟩)) ∨
    n7_18 ⟨[(1, .d (.lit (.int .i64 L))), (2, .ptr 0 1 0 0), (6, .d (.lit (.int .i64 x)))], [⟨11, [.d (.agg [.lit (.int .i64 (kind f)), .str (bs (name f)), .str (bs (value f)), .str (bs (ini f)), .sl (List.map encS (any f)), .str (bs (fin f)), .lit (.bool (hi f)), .lit (.bool (hf f)), .str (bs (rule f)), .lit (.bool (dn f)), .sl (List.map encO (kids f))])], false, false, false⟩]⟩ =
      some (.ret, ⟨[(4, .d (.lit (.int .i64 (-1))))], [⟨11, [.d (.agg [.lit (.int .i64 (kind f)), .str (bs (name f)), .str (bs (value f)), .str (bs (ini f)), .sl (List.map encS (any f)), .str (bs (fin f)), .lit (.bool (hi f)), .lit (.bool (hf f)), .str (bs (rule f)), .lit (.bool (dn f)), .sl (List.map encO (kids f))])], false, false, false⟩]⟩) := by
  intro r
  induction r with
  | nil =>
    intro j x hx hd
    have hd := drop_nil hd
    have := any_28 f
    refine .inl ⟨.d (.lit (.int .i64 x)), ?_⟩
    rw [r_n7_18]
    simp -implicitDefEqProofs (maxSteps := 10000000) (disch := omega) only [go_sem, Int.reduceAdd, Int.reduceSub, Int.reduceMul, dec_t, dec_f, Nat.reduceBEq, Nat.reduceBNe, Nat.reduceShiftRight, Nat.reduceAnd, Nat.reduceAdd, Nat.reduceSub, Nat.reduceEqDiff, Nat.reduceLT, Nat.reduceLeDiff, Int.reduceToNat, Int.reduceLT, Int.reduceLE, Int.reduceEq, reduceIte, reduceCtorEq]
    try rfl
  | cons c r ih =>
    intro j x hx hd
    obtain ⟨g1, g2, g3, g4⟩ := drop_cons hd
    have := any_28 f
    have hnat : Int.toNat x = j := by omega
    have hb := bs_le c
    by_cases h1 : 1000 < (bs c).length
    · refine .inr ?_
      clear ih
      rw [r_n7_18]
      simp -implicitDefEqProofs (maxSteps := 10000000) (disch := omega) only [go_sem, Int.reduceAdd, Int.reduceSub, Int.reduceMul, dec_t, dec_f, Nat.reduceBEq, Nat.reduceBNe, Nat.reduceShiftRight, Nat.reduceAnd, Nat.reduceAdd, Nat.reduceSub, Nat.reduceEqDiff, Nat.reduceLT, Nat.reduceLeDiff, Int.reduceToNat, Int.reduceLT, Int.reduceLE, Int.reduceEq, reduceIte, reduceCtorEq, g2, hnat]
      try rfl
    · rcases ih (j + 1) (x + 1) (by omega) g3 with ⟨x', h⟩ | h
      · refine .inl ⟨x', ?_⟩
        clear ih
        rw [r_n7_18]
        simp -implicitDefEqProofs (maxSteps := 10000000) (disch := omega) only [go_sem, Int.reduceAdd, Int.reduceSub, Int.reduceMul, dec_t, dec_f, Nat.reduceBEq, Nat.reduceBNe, Nat.reduceShiftRight, Nat.reduceAnd, Nat.reduceAdd, Nat.reduceSub, Nat.reduceEqDiff, Nat.reduceLT, Nat.reduceLeDiff, Int.reduceToNat, Int.reduceLT, Int.reduceLE, Int.reduceEq, reduceIte, reduceCtorEq, g2, hnat, h]
      · refine .inr ?_
        clear ih
        rw [r_n7_18]
        simp -implicitDefEqProofs (maxSteps := 10000000) (disch := omega) only [go_sem, Int.reduceAdd, Int.reduceSub, Int.reduceMul, dec_t, dec_f, Nat.reduceBEq, Nat.reduceBNe, Nat.reduceShiftRight, Nat.reduceAnd, Nat.reduceAdd, Nat.reduceSub, Nat.reduceEqDiff, Nat.reduceLT, Nat.reduceLeDiff, Int.reduceToNat, Int.reduceLT, Int.reduceLE, Int.reduceEq, reduceIte, reduceCtorEq, g2, hnat, h]

theorem t7b (f : Fo) (IH : ∀ g ∈ kids f, ∀ l : Int, 0 ≤ l → l ≤ 150 → ∃ v : Int, -1 ≤ v ∧ v ≤ 150 ∧ pureCall C 7 [(.agg [.lit (.int .i64 (kind g)), .str (bs (name g)), .str (bs (value g)), .str (bs (ini g)), .sl (List.map encS (any g)), .str (bs (fin g)), .lit (.bool (hi g)), .lit (.bool (hf g)), .str (bs (rule g)), .lit (.bool (dn g)), .sl (List.map encO (kids g))]), .lit (.int .i64 l)] = some (lit v)) : ∀ (r : List Fo) (j : Nat) (x y : Int), x = j → (kids f).drop j = r → -1 ≤ y → y ≤ 150 →
    ∃ (v : Int) (x' : AV), -1 ≤ v ∧ v ≤ 150 ∧ n7_39 ⟨[(1, .d (.lit (.int .i64 y))), (2, .ptr 0 1 0 0), (7, .d (.lit (.int .i64 x)))], [⟨11, [.d (.agg [.lit (.int .i64 (kind f)), .str (bs (name f)), .str (bs (value f)), .str (bs (ini f)), .sl (List.map encS (any f)), .str (bs (fin f)), .lit (.bool (hi f)), .lit (.bool (hf f)), .str (bs (rule f)), .lit (.bool (dn f)), .sl (List.map encO (kids f))])], false, false, false⟩]⟩ =
      some (.exit 2, ⟨[(1, .d (.lit (.int .i64 v))), (2, .ptr 0 1 0 0), (7, x'), (64, .d (.lit (.bool false)))], [⟨11, [.d (.agg [.lit (.int .i64 (kind f)), .str (bs (name f)), .str (bs (value f)), .str (bs (ini f)), .sl (List.map encS (any f)), .str (bs (fin f)), .lit (.bool (hi f)), .lit (.bool (hf f)), .str (bs (rule f)), .lit (.bool (dn f)), .sl (List.map encO (kids f))])], false, false, false⟩]⟩) := by
  intro r
  induction r with
  | nil =>
    intro j x y hx hd hy hy'
    have hd := drop_nil hd
    have := kids_le f
    refine ⟨y, .d (.lit (.int .i64 x)), hy, hy', ?_⟩
    rw [r_n7_39]
    simp -implicitDefEqProofs (maxSteps := 10000000) (disch := omega) only [go_sem, Int.reduceAdd, Int.reduceSub, Int.reduceMul, dec_t, dec_f, Nat.reduceBEq, Nat.reduceBNe, Nat.reduceShiftRight, Nat.reduceAnd, Nat.reduceAdd, Nat.reduceSub, Nat.reduceEqDiff, Nat.reduceLT, Nat.reduceLeDiff, Int.reduceToNat, Int.reduceLT, Int.reduceLE, Int.reduceEq, reduceIte, reduceCtorEq]
    try rfl
  | cons c r ih =>
    intro j x y hx hd hy hy'
    obtain ⟨g1, g2, g3, g4⟩ := drop_cons hd
    have := kids_le f
    have hnat : Int.toNat x = j := by omega
    by_cases h0 : 0 ≤ y
    · obtain ⟨v, hv, hv', hc⟩ := IH c g4 y h0 hy'
      obtain ⟨w, x', hw, hw', h⟩ := ih (j + 1) (x + 1) v (by omega) g3 hv hv'
      refine ⟨w, x', hw, hw', ?_⟩
      clear ih
      rw [r_n7_39]
      simp -implicitDefEqProofs (maxSteps := 10000000) (disch := omega) only [go_sem, Int.reduceAdd, Int.reduceSub, Int.reduceMul, dec_t, dec_f, Nat.reduceBEq, Nat.reduceBNe, Nat.reduceShiftRight, Nat.reduceAnd, Nat.reduceAdd, Nat.reduceSub, Nat.reduceEqDiff, Nat.reduceLT, Nat.reduceLeDiff, Int.reduceToNat, Int.reduceLT, Int.reduceLE, Int.reduceEq, reduceIte, reduceCtorEq, g2, hnat, hc, h]
    · refine ⟨y, .d (.lit (.int .i64 x)), hy, hy', ?_⟩
      clear ih
      rw [r_n7_39]
      simp -implicitDefEqProofs (maxSteps := 10000000) (disch := omega) only [go_sem, Int.reduceAdd, Int.reduceSub, Int.reduceMul, dec_t, dec_f, Nat.reduceBEq, Nat.reduceBNe, Nat.reduceShiftRight, Nat.reduceAnd, Nat.reduceAdd, Nat.reduceSub, Nat.reduceEqDiff, Nat.reduceLT, Nat.reduceLeDiff, Int.reduceToNat, Int.reduceLT, Int.reduceLE, Int.reduceEq, reduceIte, reduceCtorEq]
      try rfl

theorem t7 (f : Fo) (l : Int) (h0 : 0 ≤ l) (h1 : l ≤ 150) : ∃ v : Int, -1 ≤ v ∧ v ≤ 150 ∧ pureCall C 7 [(.agg [.lit (.int .i64 (kind f)), .str (bs (name f)), .str (bs (value f)), .str (bs (ini f)), .sl (List.map encS (any f)), .str (bs (fin f)), .lit (.bool (hi f)), .lit (.bool (hf f)), .str (bs (rule f)), .lit (.bool (dn f)), .sl (List.map encO (kids f))]), .lit (.int .i64 l)] = some (lit v) := by
  have IH : ∀ g ∈ kids f, ∀ l : Int, 0 ≤ l → l ≤ 150 → ∃ v : Int, -1 ≤ v ∧ v ≤ 150 ∧ pureCall C 7 [(.agg [.lit (.int .i64 (kind g)), .str (bs (name g)), .str (bs (value g)), .str (bs (ini g)), .sl (List.map encS (any g)), .str (bs (fin g)), .lit (.bool (hi g)), .lit (.bool (hf g)), .str (bs (rule g)), .lit (.bool (dn g)), .sl (List.map encO (kids g))]), .lit (.int .i64 l)] = some (lit v) := fun g hg l h0 h1 => t7 g l h0 h1
  obtain ⟨v, x1, hv, hv', hb⟩ := t7b f IH (kids f) 0 0 (l - 1) rfl rfl (by omega) (by omega)
  have q1 := bs_le (name f)
  have q2 := bs_le (value f)
  have q3 := bs_le (rule f)
  have q4 := bs_le (ini f)
  have q5 := bs_le (fin f)
  have q6 := any_28 f
  clear IH
  have stop : ∀ (P : pureCall C 7 [(.agg [.lit (.int .i64 (kind f)), .str (bs (name f)), .str (bs (value f)), .str (bs (ini f)), .sl (List.map encS (any f)), .str (bs (fin f)), .lit (.bool (hi f)), .lit (.bool (hf f)), .str (bs (rule f)), .lit (.bool (dn f)), .sl (List.map encO (kids f))]), .lit (.int .i64 l)] = some (lit (-1))), ∃ v : Int, -1 ≤ v ∧ v ≤ 150 ∧ pureCall C 7 [(.agg [.lit (.int .i64 (kind f)), .str (bs (name f)), .str (bs (value f)), .str (bs (ini f)), .sl (List.map encS (any f)), .str (bs (fin f)), .lit (.bool (hi f)), .lit (.bool (hf f)), .str (bs (rule f)), .lit (.bool (dn f)), .sl (List.map encO (kids f))]), .lit (.int .i64 l)] = some (lit v) := fun P => ⟨-1, by omega, by omega, P⟩
  by_cases hn : 3000 < (bs (name f)).length + (bs (value f)).length + (bs (rule f)).length + (bs (ini f)).length + (bs (fin f)).length
  · refine stop ?_
    rw [p7]
    simp -implicitDefEqProofs (maxSteps := 10000000) (disch := omega) only [go_sem, Int.reduceAdd, Int.reduceSub, Int.reduceMul, dec_t, dec_f, Nat.reduceBEq, Nat.reduceBNe, Nat.reduceShiftRight, Nat.reduceAnd, Nat.reduceAdd, Nat.reduceSub, Nat.reduceEqDiff, Nat.reduceLT, Nat.reduceLeDiff, Int.reduceToNat, Int.reduceLT, Int.reduceLE, Int.reduceEq, reduceIte, reduceCtorEq]
    (first | done | rfl)
  · by_cases ha : 10 < (any f).length
    · refine stop ?_
      rw [p7]
      simp -implicitDefEqProofs (maxSteps := 10000000) (disch := omega) only [go_sem, Int.reduceAdd, Int.reduceSub, Int.reduceMul, dec_t, dec_f, Nat.reduceBEq, Nat.reduceBNe, Nat.reduceShiftRight, Nat.reduceAnd, Nat.reduceAdd, Nat.reduceSub, Nat.reduceEqDiff, Nat.reduceLT, Nat.reduceLeDiff, Int.reduceToNat, Int.reduceLT, Int.reduceLE, Int.reduceEq, reduceIte, reduceCtorEq]
      (first | done | rfl)
    · rcases t7a f (l - 1) (any f) 0 0 rfl rfl with ⟨x', h⟩ | h
      · refine ⟨v, hv, hv', ?_⟩
        rw [p7]
        simp -implicitDefEqProofs (maxSteps := 10000000) (disch := omega) only [go_sem, Int.reduceAdd, Int.reduceSub, Int.reduceMul, dec_t, dec_f, Nat.reduceBEq, Nat.reduceBNe, Nat.reduceShiftRight, Nat.reduceAnd, Nat.reduceAdd, Nat.reduceSub, Nat.reduceEqDiff, Nat.reduceLT, Nat.reduceLeDiff, Int.reduceToNat, Int.reduceLT, Int.reduceLE, Int.reduceEq, reduceIte, reduceCtorEq, h, hb]
        (first | done | rfl)
      · refine stop ?_
        rw [p7]
        simp -implicitDefEqProofs (maxSteps := 10000000) (disch := omega) only [go_sem, Int.reduceAdd, Int.reduceSub, Int.reduceMul, dec_t, dec_f, Nat.reduceBEq, Nat.reduceBNe, Nat.reduceShiftRight, Nat.reduceAnd, Nat.reduceAdd, Nat.reduceSub, Nat.reduceEqDiff, Nat.reduceLT, Nat.reduceLeDiff, Int.reduceToNat, Int.reduceLT, Int.reduceLE, Int.reduceEq, reduceIte, reduceCtorEq, h]
        (first | done | rfl)
termination_by sz f
decreasing_by exact kids_lt hg
end Go.L25
