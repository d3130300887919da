/- Layer 26: requests as data, held against each other. Conditions: none. -/
import Derived.Test.YtlehedloheojpaaGreatPD
set_option linter.unusedVariables false
set_option linter.unusedSimpArgs false
namespace Go.L25
open Go Go.Eng Go.Proofs
open Nat (reduceShiftRight reduceAnd reduceEqDiff reduceLeDiff)
open Int (reduceToNat)
set_option maxRecDepth 10000
set_option maxHeartbeats 4000000
theorem t18a (f : Fo) (L : Int) : ∀ (r : List Bs) (j : Nat) (x : Int), x = j → (any f).drop j = r → 
    (∃ x', n18_18 ⟨[(1, .d (.lit (.int .i64 L))), (2, .ptr 0 1 0 0), (6, .d (.lit (.int .i64 x)))], [⟨11, [.d (.agg [.lit (.int .i64 (kind f)), .str (bs (name f)), .str (bs (value f)), .str (bs (ini f)), .sl (List.map encS (any f)), .str (bs (fin f)), .lit (.bool (hi f)), .lit (.bool (hf f)), .str (bs (rule f)), .lit (.bool (dn f)), .sl (List.map encO (kids f))])], false, false, false⟩]⟩ =
      some (.exit 0, ⟨[(1, .d (.lit (.int .i64 L))), (2, .ptr 0 1 0 0), (6, x'), (45, .d (.lit (.bool false)))], [⟨11, [.d (.agg [.lit (.int .i64 (kind f)), .str (bs (name f)), .str (bs (value f)), .str (bs (ini f)), .sl (List.map encS (any f)), .str (bs (fin f)), .lit (.bool (hi f)), .lit (.bool (hf f)), .str (bs (rule f)), .lit (.bool (dn f)), .sl (List.map encO (kids f))])], false, false, false⟩]⟩)) ∨
    n18_18 ⟨[(1, .d (.lit (.int .i64 L))), (2, .ptr 0 1 0 0), (6, .d (.lit (.int .i64 x)))], [⟨11, [.d (.agg [.lit (.int .i64 (kind f)), .str (bs (name f)), .str (bs (value f)), .str (bs (ini f)), .sl (List.map encS (any f)), .str (bs (fin f)), .lit (.bool (hi f)), .lit (.bool (hf f)), .str (bs (rule f)), .lit (.bool (dn f)), .sl (List.map encO (kids f))])], false, false, false⟩]⟩ =
      some (.ret, ⟨[(4, .d (.lit (.int .i64 (-1))))], [⟨11, [.d (.agg [.lit (.int .i64 (kind f)), .str (bs (name f)), .str (bs (value f)), .str (bs (ini f)), .sl (List.map encS (any f)), .str (bs (fin f)), .lit (.bool (hi f)), .lit (.bool (hf f)), .str (bs (rule f)), .lit (.bool (dn f)), .sl (List.map encO (kids f))])], false, false, false⟩]⟩) := by
  intro r
  induction r with
  | nil =>
    intro j x hx hd
    have hd := drop_nil hd
    have := any_28 f
    refine .inl ⟨.d (.lit (.int .i64 x)), ?_⟩
    rw [r_n18_18]
    simp -implicitDefEqProofs (maxSteps := 10000000) (disch := omega) only [go_sem, Int.reduceAdd, Int.reduceSub, Int.reduceMul, dec_t, dec_f, Nat.reduceBEq, Nat.reduceBNe, reduceShiftRight, reduceAnd, Nat.reduceAdd, Nat.reduceSub, reduceEqDiff, Nat.reduceLT, reduceLeDiff, reduceToNat, Int.reduceLT, Int.reduceLE, Int.reduceEq, reduceIte, reduceCtorEq]
    try rfl
  | cons c r ih =>
    intro j x hx hd
    obtain ⟨g1, g2, g3, g4⟩ := drop_cons hd
    have := any_28 f
    have hnat : Int.toNat x = j := by omega
    have hb := bs_le c
    by_cases h1 : 1000 < (bs c).length
    · refine .inr ?_
      clear ih
      rw [r_n18_18]
      simp -implicitDefEqProofs (maxSteps := 10000000) (disch := omega) only [go_sem, Int.reduceAdd, Int.reduceSub, Int.reduceMul, dec_t, dec_f, Nat.reduceBEq, Nat.reduceBNe, reduceShiftRight, reduceAnd, Nat.reduceAdd, Nat.reduceSub, reduceEqDiff, Nat.reduceLT, reduceLeDiff, reduceToNat, Int.reduceLT, Int.reduceLE, Int.reduceEq, reduceIte, reduceCtorEq, g2, hnat]
      try rfl
    · rcases ih (j + 1) (x + 1) (by omega) g3 with ⟨x', h⟩ | h
      · refine .inl ⟨x', ?_⟩
        clear ih
        rw [r_n18_18]
        simp -implicitDefEqProofs (maxSteps := 10000000) (disch := omega) only [go_sem, Int.reduceAdd, Int.reduceSub, Int.reduceMul, dec_t, dec_f, Nat.reduceBEq, Nat.reduceBNe, reduceShiftRight, reduceAnd, Nat.reduceAdd, Nat.reduceSub, reduceEqDiff, Nat.reduceLT, reduceLeDiff, reduceToNat, Int.reduceLT, Int.reduceLE, Int.reduceEq, reduceIte, reduceCtorEq, g2, hnat, h]
      · refine .inr ?_
        clear ih
        rw [r_n18_18]
        simp -implicitDefEqProofs (maxSteps := 10000000) (disch := omega) only [go_sem, Int.reduceAdd, Int.reduceSub, Int.reduceMul, dec_t, dec_f, Nat.reduceBEq, Nat.reduceBNe, reduceShiftRight, reduceAnd, Nat.reduceAdd, Nat.reduceSub, reduceEqDiff, Nat.reduceLT, reduceLeDiff, reduceToNat, Int.reduceLT, Int.reduceLE, Int.reduceEq, reduceIte, reduceCtorEq, g2, hnat, h]
theorem t18b (f : Fo) (IH : ∀ g ∈ kids f, ∀ l : Int, 0 ≤ l → l ≤ 150 → ∃ v : Int, -1 ≤ v ∧ v ≤ 150 ∧ pureCall C 18 [(.agg [.lit (.int .i64 (kind g)), .str (bs (name g)), .str (bs (value g)), .str (bs (ini g)), .sl (List.map encS (any g)), .str (bs (fin g)), .lit (.bool (hi g)), .lit (.bool (hf g)), .str (bs (rule g)), .lit (.bool (dn g)), .sl (List.map encO (kids g))]), .lit (.int .i64 l)] = some (lit v)) : ∀ (r : List Fo) (j : Nat) (x y : Int), x = j → (kids f).drop j = r → -1 ≤ y → y ≤ 150 →
    ∃ (v : Int) (x' : AV), -1 ≤ v ∧ v ≤ 150 ∧ n18_39 ⟨[(1, .d (.lit (.int .i64 y))), (2, .ptr 0 1 0 0), (7, .d (.lit (.int .i64 x)))], [⟨11, [.d (.agg [.lit (.int .i64 (kind f)), .str (bs (name f)), .str (bs (value f)), .str (bs (ini f)), .sl (List.map encS (any f)), .str (bs (fin f)), .lit (.bool (hi f)), .lit (.bool (hf f)), .str (bs (rule f)), .lit (.bool (dn f)), .sl (List.map encO (kids f))])], false, false, false⟩]⟩ =
      some (.exit 2, ⟨[(1, .d (.lit (.int .i64 v))), (2, .ptr 0 1 0 0), (7, x'), (64, .d (.lit (.bool false)))], [⟨11, [.d (.agg [.lit (.int .i64 (kind f)), .str (bs (name f)), .str (bs (value f)), .str (bs (ini f)), .sl (List.map encS (any f)), .str (bs (fin f)), .lit (.bool (hi f)), .lit (.bool (hf f)), .str (bs (rule f)), .lit (.bool (dn f)), .sl (List.map encO (kids f))])], false, false, false⟩]⟩) := by
  intro r
  induction r with
  | nil =>
    intro j x y hx hd hy hy'
    have hd := drop_nil hd
    have := kids_le f
    refine ⟨y, .d (.lit (.int .i64 x)), hy, hy', ?_⟩
    rw [r_n18_39]
    simp -implicitDefEqProofs (maxSteps := 10000000) (disch := omega) only [go_sem, Int.reduceAdd, Int.reduceSub, Int.reduceMul, dec_t, dec_f, Nat.reduceBEq, Nat.reduceBNe, reduceShiftRight, reduceAnd, Nat.reduceAdd, Nat.reduceSub, reduceEqDiff, Nat.reduceLT, reduceLeDiff, reduceToNat, Int.reduceLT, Int.reduceLE, Int.reduceEq, reduceIte, reduceCtorEq]
    try rfl
  | cons c r ih =>
    intro j x y hx hd hy hy'
    obtain ⟨g1, g2, g3, g4⟩ := drop_cons hd
    have := kids_le f
    have hnat : Int.toNat x = j := by omega
    by_cases h0 : 0 ≤ y
    · obtain ⟨v, hv, hv', hc⟩ := IH c g4 y h0 hy'
      obtain ⟨w, x', hw, hw', h⟩ := ih (j + 1) (x + 1) v (by omega) g3 hv hv'
      refine ⟨w, x', hw, hw', ?_⟩
      clear ih
      rw [r_n18_39]
      simp -implicitDefEqProofs (maxSteps := 10000000) (disch := omega) only [go_sem, Int.reduceAdd, Int.reduceSub, Int.reduceMul, dec_t, dec_f, Nat.reduceBEq, Nat.reduceBNe, reduceShiftRight, reduceAnd, Nat.reduceAdd, Nat.reduceSub, reduceEqDiff, Nat.reduceLT, reduceLeDiff, reduceToNat, Int.reduceLT, Int.reduceLE, Int.reduceEq, reduceIte, reduceCtorEq, g2, hnat, hc, h]
    · refine ⟨y, .d (.lit (.int .i64 x)), hy, hy', ?_⟩
      clear ih
      rw [r_n18_39]
      simp -implicitDefEqProofs (maxSteps := 10000000) (disch := omega) only [go_sem, Int.reduceAdd, Int.reduceSub, Int.reduceMul, dec_t, dec_f, Nat.reduceBEq, Nat.reduceBNe, reduceShiftRight, reduceAnd, Nat.reduceAdd, Nat.reduceSub, reduceEqDiff, Nat.reduceLT, reduceLeDiff, reduceToNat, Int.reduceLT, Int.reduceLE, Int.reduceEq, reduceIte, reduceCtorEq]
      try rfl
theorem t18 (f : Fo) (l : Int) (h0 : 0 ≤ l) (h1 : l ≤ 150) : ∃ v : Int, -1 ≤ v ∧ v ≤ 150 ∧ pureCall C 18 [(.agg [.lit (.int .i64 (kind f)), .str (bs (name f)), .str (bs (value f)), .str (bs (ini f)), .sl (List.map encS (any f)), .str (bs (fin f)), .lit (.bool (hi f)), .lit (.bool (hf f)), .str (bs (rule f)), .lit (.bool (dn f)), .sl (List.map encO (kids f))]), .lit (.int .i64 l)] = some (lit v) := by
  have IH : ∀ g ∈ kids f, ∀ l : Int, 0 ≤ l → l ≤ 150 → ∃ v : Int, -1 ≤ v ∧ v ≤ 150 ∧ pureCall C 18 [(.agg [.lit (.int .i64 (kind g)), .str (bs (name g)), .str (bs (value g)), .str (bs (ini g)), .sl (List.map encS (any g)), .str (bs (fin g)), .lit (.bool (hi g)), .lit (.bool (hf g)), .str (bs (rule g)), .lit (.bool (dn g)), .sl (List.map encO (kids g))]), .lit (.int .i64 l)] = some (lit v) := fun g hg l h0 h1 => t18 g l h0 h1
  obtain ⟨v, x1, hv, hv', hb⟩ := t18b f IH (kids f) 0 0 (l - 1) rfl rfl (by omega) (by omega)
  have q1 := bs_le (name f)
  have q2 := bs_le (value f)
  have q3 := bs_le (rule f)
  have q4 := bs_le (ini f)
  have q5 := bs_le (fin f)
  have q6 := any_28 f
  clear IH
  have stop : ∀ (P : pureCall C 18 [(.agg [.lit (.int .i64 (kind f)), .str (bs (name f)), .str (bs (value f)), .str (bs (ini f)), .sl (List.map encS (any f)), .str (bs (fin f)), .lit (.bool (hi f)), .lit (.bool (hf f)), .str (bs (rule f)), .lit (.bool (dn f)), .sl (List.map encO (kids f))]), .lit (.int .i64 l)] = some (lit (-1))), ∃ v : Int, -1 ≤ v ∧ v ≤ 150 ∧ pureCall C 18 [(.agg [.lit (.int .i64 (kind f)), .str (bs (name f)), .str (bs (value f)), .str (bs (ini f)), .sl (List.map encS (any f)), .str (bs (fin f)), .lit (.bool (hi f)), .lit (.bool (hf f)), .str (bs (rule f)), .lit (.bool (dn f)), .sl (List.map encO (kids f))]), .lit (.int .i64 l)] = some (lit v) := fun P => ⟨-1, by omega, by omega, P⟩
  by_cases hn : 3000 < (bs (name f)).length + (bs (value f)).length + (bs (rule f)).length + (bs (ini f)).length + (bs (fin f)).length
  · refine stop ?_
    rw [p18]
    simp -implicitDefEqProofs (maxSteps := 10000000) (disch := omega) only [go_sem, Int.reduceAdd, Int.reduceSub, Int.reduceMul, dec_t, dec_f, Nat.reduceBEq, Nat.reduceBNe, reduceShiftRight, reduceAnd, Nat.reduceAdd, Nat.reduceSub, reduceEqDiff, Nat.reduceLT, reduceLeDiff, reduceToNat, Int.reduceLT, Int.reduceLE, Int.reduceEq, reduceIte, reduceCtorEq]
    (first | done | rfl)
  · by_cases ha : 10 < (any f).length
    · refine stop ?_
      rw [p18]
      simp -implicitDefEqProofs (maxSteps := 10000000) (disch := omega) only [go_sem, Int.reduceAdd, Int.reduceSub, Int.reduceMul, dec_t, dec_f, Nat.reduceBEq, Nat.reduceBNe, reduceShiftRight, reduceAnd, Nat.reduceAdd, Nat.reduceSub, reduceEqDiff, Nat.reduceLT, reduceLeDiff, reduceToNat, Int.reduceLT, Int.reduceLE, Int.reduceEq, reduceIte, reduceCtorEq]
      (first | done | rfl)
    · rcases t18a f (l - 1) (any f) 0 0 rfl rfl with ⟨x', h⟩ | h
      · refine ⟨v, hv, hv', ?_⟩
        rw [p18]
        simp -implicitDefEqProofs (maxSteps := 10000000) (disch := omega) only [go_sem, Int.reduceAdd, Int.reduceSub, Int.reduceMul, dec_t, dec_f, Nat.reduceBEq, Nat.reduceBNe, reduceShiftRight, reduceAnd, Nat.reduceAdd, Nat.reduceSub, reduceEqDiff, Nat.reduceLT, reduceLeDiff, reduceToNat, Int.reduceLT, Int.reduceLE, Int.reduceEq, reduceIte, reduceCtorEq, h, hb]
        (first | done | rfl)
      · refine stop ?_
        rw [p18]
        simp -implicitDefEqProofs (maxSteps := 10000000) (disch := omega) only [go_sem, Int.reduceAdd, Int.reduceSub, Int.reduceMul, dec_t, dec_f, Nat.reduceBEq, Nat.reduceBNe, reduceShiftRight, reduceAnd, Nat.reduceAdd, Nat.reduceSub, reduceEqDiff, Nat.reduceLT, reduceLeDiff, reduceToNat, Int.reduceLT, Int.reduceLE, Int.reduceEq, reduceIte, reduceCtorEq, h]
        (first | done | rfl)
termination_by sz f
decreasing_by exact kids_lt hg
set_option maxRecDepth 10000
set_option maxHeartbeats 1000000
theorem t19i (l : List Vl) (hl : l.length ≤ 2 ^ 28) (i : Nat) (c : Vl) (hi : i < l.length) (hc : l[i]? = some c) : ∀ (r : List Bs) (j : Nat) (x : Int), x = j → (vv c).drop j = r →
    (∃ x', n19_34 ⟨[(0, .d (.sl (List.map encV l))), (3, .d (.lit (.int .i64 i))), (4, .d (.lit (.int .i64 x)))], []⟩ = some (.exit 2, ⟨[(0, .d (.sl (List.map encV l))), (3, .d (.lit (.int .i64 i))), (4, x'), (37, .d (.lit (.bool false)))], []⟩)) ∨
    n19_34 ⟨[(0, .d (.sl (List.map encV l))), (3, .d (.lit (.int .i64 i))), (4, .d (.lit (.int .i64 x)))], []⟩ = some (.ret, ⟨[(2, .d (.lit (.bool false)))], []⟩) := by
  have hv := vv_le c
  have hin : Int.toNat (i : Int) = i := by omega
  intro r
  induction r with
  | nil =>
    intro j x hx hd
    have hd := drop_nil hd
    refine .inl ⟨.d (.lit (.int .i64 x)), ?_⟩
    rw [r_n19_34]
    simp -implicitDefEqProofs (maxSteps := 10000000) (disch := omega) only [go_sem, Int.reduceAdd, Int.reduceSub, Int.reduceMul, dec_t, dec_f, Nat.reduceBEq, Nat.reduceBNe, reduceShiftRight, reduceAnd, Nat.reduceAdd, Nat.reduceSub, reduceEqDiff, Nat.reduceLT, reduceLeDiff, reduceToNat, Int.reduceLT, Int.reduceLE, Int.reduceEq, reduceIte, reduceCtorEq, hc, hin]
  | cons s r ih =>
    intro j x hx hd
    obtain ⟨g1, g2, g3, g4⟩ := drop_cons hd
    have hnat : Int.toNat x = j := by omega
    have hb := bs_le s
    by_cases q : 2000 < (bs s).length
    · refine .inr ?_
      clear ih
      rw [r_n19_34]
      simp -implicitDefEqProofs (maxSteps := 10000000) (disch := omega) only [go_sem, Int.reduceAdd, Int.reduceSub, Int.reduceMul, dec_t, dec_f, Nat.reduceBEq, Nat.reduceBNe, reduceShiftRight, reduceAnd, Nat.reduceAdd, Nat.reduceSub, reduceEqDiff, Nat.reduceLT, reduceLeDiff, reduceToNat, Int.reduceLT, Int.reduceLE, Int.reduceEq, reduceIte, reduceCtorEq, hc, hin, g2, hnat]
    · rcases ih (j + 1) (x + 1) (by omega) g3 with ⟨x', h⟩ | h
      · refine .inl ⟨x', ?_⟩
        clear ih
        rw [r_n19_34]
        simp -implicitDefEqProofs (maxSteps := 10000000) (disch := omega) only [go_sem, Int.reduceAdd, Int.reduceSub, Int.reduceMul, dec_t, dec_f, Nat.reduceBEq, Nat.reduceBNe, reduceShiftRight, reduceAnd, Nat.reduceAdd, Nat.reduceSub, reduceEqDiff, Nat.reduceLT, reduceLeDiff, reduceToNat, Int.reduceLT, Int.reduceLE, Int.reduceEq, reduceIte, reduceCtorEq, hc, hin, g2, hnat, h]
      · refine .inr ?_
        clear ih
        rw [r_n19_34]
        simp -implicitDefEqProofs (maxSteps := 10000000) (disch := omega) only [go_sem, Int.reduceAdd, Int.reduceSub, Int.reduceMul, dec_t, dec_f, Nat.reduceBEq, Nat.reduceBNe, reduceShiftRight, reduceAnd, Nat.reduceAdd, Nat.reduceSub, reduceEqDiff, Nat.reduceLT, reduceLeDiff, reduceToNat, Int.reduceLT, Int.reduceLE, Int.reduceEq, reduceIte, reduceCtorEq, hc, hin, g2, hnat, h]
theorem t19o (l : List Vl) (hl : l.length ≤ 2 ^ 28) : ∀ (r : List Vl) (j : Nat) (x : Int), x = j → l.drop j = r →
    (∃ x', n19_14 ⟨[(0, .d (.sl (List.map encV l))), (3, .d (.lit (.int .i64 x)))], []⟩ = some (.exit 0, ⟨[(0, .d (.sl (List.map encV l))), (3, x'), (11, .d (.lit (.bool false)))], []⟩)) ∨
    n19_14 ⟨[(0, .d (.sl (List.map encV l))), (3, .d (.lit (.int .i64 x)))], []⟩ = some (.ret, ⟨[(2, .d (.lit (.bool false)))], []⟩) := by
  intro r
  induction r with
  | nil =>
    intro j x hx hd
    have hd := drop_nil hd
    refine .inl ⟨.d (.lit (.int .i64 x)), ?_⟩
    rw [r_n19_14]
    simp -implicitDefEqProofs (maxSteps := 10000000) (disch := omega) only [go_sem, Int.reduceAdd, Int.reduceSub, Int.reduceMul, dec_t, dec_f, Nat.reduceBEq, Nat.reduceBNe, reduceShiftRight, reduceAnd, Nat.reduceAdd, Nat.reduceSub, reduceEqDiff, Nat.reduceLT, reduceLeDiff, reduceToNat, Int.reduceLT, Int.reduceLE, Int.reduceEq, reduceIte, reduceCtorEq]
  | cons c r ih =>
    intro j x hx hd
    obtain ⟨g1, g2, g3, g4⟩ := drop_cons hd
    have hnat : Int.toNat x = j := by omega
    have hv := vv_le c
    have hb := bs_le (vn c)
    by_cases q : 20 < (vv c).length
    · refine .inr ?_
      clear ih
      rw [r_n19_14]
      simp -implicitDefEqProofs (maxSteps := 10000000) (disch := omega) only [go_sem, Int.reduceAdd, Int.reduceSub, Int.reduceMul, dec_t, dec_f, Nat.reduceBEq, Nat.reduceBNe, reduceShiftRight, reduceAnd, Nat.reduceAdd, Nat.reduceSub, reduceEqDiff, Nat.reduceLT, reduceLeDiff, reduceToNat, Int.reduceLT, Int.reduceLE, Int.reduceEq, reduceIte, reduceCtorEq, g2, hnat]
    by_cases q2 : 1000 < (bs (vn c)).length
    · refine .inr ?_
      clear ih
      rw [r_n19_14]
      simp -implicitDefEqProofs (maxSteps := 10000000) (disch := omega) only [go_sem, Int.reduceAdd, Int.reduceSub, Int.reduceMul, dec_t, dec_f, Nat.reduceBEq, Nat.reduceBNe, reduceShiftRight, reduceAnd, Nat.reduceAdd, Nat.reduceSub, reduceEqDiff, Nat.reduceLT, reduceLeDiff, reduceToNat, Int.reduceLT, Int.reduceLE, Int.reduceEq, reduceIte, reduceCtorEq, g2, hnat]
    rcases t19i l hl j c g1 g2 (vv c) 0 0 rfl rfl with ⟨y, k⟩ | k
    · rw [← hx] at k
      rcases ih (j + 1) (x + 1) (by omega) g3 with ⟨x', h⟩ | h
      · refine .inl ⟨x', ?_⟩
        clear ih
        rw [r_n19_14]
        simp -implicitDefEqProofs (maxSteps := 10000000) (disch := omega) only [go_sem, Int.reduceAdd, Int.reduceSub, Int.reduceMul, dec_t, dec_f, Nat.reduceBEq, Nat.reduceBNe, reduceShiftRight, reduceAnd, Nat.reduceAdd, Nat.reduceSub, reduceEqDiff, Nat.reduceLT, reduceLeDiff, reduceToNat, Int.reduceLT, Int.reduceLE, Int.reduceEq, reduceIte, reduceCtorEq, g2, hnat, k, h]
      · refine .inr ?_
        clear ih
        rw [r_n19_14]
        simp -implicitDefEqProofs (maxSteps := 10000000) (disch := omega) only [go_sem, Int.reduceAdd, Int.reduceSub, Int.reduceMul, dec_t, dec_f, Nat.reduceBEq, Nat.reduceBNe, reduceShiftRight, reduceAnd, Nat.reduceAdd, Nat.reduceSub, reduceEqDiff, Nat.reduceLT, reduceLeDiff, reduceToNat, Int.reduceLT, Int.reduceLE, Int.reduceEq, reduceIte, reduceCtorEq, g2, hnat, k, h]
    · rw [← hx] at k
      refine .inr ?_
      clear ih
      rw [r_n19_14]
      simp -implicitDefEqProofs (maxSteps := 10000000) (disch := omega) only [go_sem, Int.reduceAdd, Int.reduceSub, Int.reduceMul, dec_t, dec_f, Nat.reduceBEq, Nat.reduceBNe, reduceShiftRight, reduceAnd, Nat.reduceAdd, Nat.reduceSub, reduceEqDiff, Nat.reduceLT, reduceLeDiff, reduceToNat, Int.reduceLT, Int.reduceLE, Int.reduceEq, reduceIte, reduceCtorEq, g2, hnat, k]
theorem t19 (l : List Vl) (hl : l.length ≤ 2 ^ 28) : ∃ v, pureCall C 19 [.sl (List.map encV l)] = some (tf v) := by
  by_cases q : 20 < l.length
  · refine ⟨false, ?_⟩
    rw [p19]
    simp -implicitDefEqProofs (maxSteps := 10000000) (disch := omega) only [go_sem, Int.reduceAdd, Int.reduceSub, Int.reduceMul, dec_t, dec_f, Nat.reduceBEq, Nat.reduceBNe, reduceShiftRight, reduceAnd, Nat.reduceAdd, Nat.reduceSub, reduceEqDiff, Nat.reduceLT, reduceLeDiff, reduceToNat, Int.reduceLT, Int.reduceLE, Int.reduceEq, reduceIte, reduceCtorEq]
  · rcases t19o l hl l 0 0 rfl rfl with ⟨x', h⟩ | h
    · refine ⟨true, ?_⟩
      rw [p19]
      simp -implicitDefEqProofs (maxSteps := 10000000) (disch := omega) only [go_sem, Int.reduceAdd, Int.reduceSub, Int.reduceMul, dec_t, dec_f, Nat.reduceBEq, Nat.reduceBNe, reduceShiftRight, reduceAnd, Nat.reduceAdd, Nat.reduceSub, reduceEqDiff, Nat.reduceLT, reduceLeDiff, reduceToNat, Int.reduceLT, Int.reduceLE, Int.reduceEq, reduceIte, reduceCtorEq, h]
    · refine ⟨false, ?_⟩
      rw [p19]
      simp -implicitDefEqProofs (maxSteps := 10000000) (disch := omega) only [go_sem, Int.reduceAdd, Int.reduceSub, Int.reduceMul, dec_t, dec_f, Nat.reduceBEq, Nat.reduceBNe, reduceShiftRight, reduceAnd, Nat.reduceAdd, Nat.reduceSub, reduceEqDiff, Nat.reduceLT, reduceLeDiff, reduceToNat, Int.reduceLT, Int.reduceLE, Int.reduceEq, reduceIte, reduceCtorEq, h]
set_option maxRecDepth 10000
set_option maxHeartbeats 4000000
structure Rq where
  id : Int
  kd : Int
  nm : Bs
  ver : Int
  mth : Int
  sec : Bs
  scp : Int
  mst : Int
  typ : Bool
  flt : Fo
  att : List Bs
  chg : List Ch
  vls : List Vl
  rdn : Bs
  kep : Bool
  abv : Bs
  hab : Bool
  pn : Bs
  pv : Bs
  tgt : Int
  att_le : att.length ≤ 2 ^ 28
  chg_le : chg.length ≤ 2 ^ 28
  vls_le : vls.length ≤ 2 ^ 28
def encR (r : Rq) : D := (.agg [.lit (.int .i64 r.id), .lit (.int .i64 r.kd), .str (bs r.nm), .lit (.int .i64 r.ver), .lit (.int .i64 r.mth), .str (bs r.sec), .lit (.int .i64 r.scp), .lit (.int .i64 r.mst), .lit (.bool r.typ), .lit (.int .i64 (kind r.flt)), .str (bs (name r.flt)), .str (bs (value r.flt)), .str (bs (ini r.flt)), .sl (List.map encS (any r.flt)), .str (bs (fin r.flt)), .lit (.bool (hi r.flt)), .lit (.bool (hf r.flt)), .str (bs (rule r.flt)), .lit (.bool (dn r.flt)), .sl (List.map encO (kids r.flt)), .sl (List.map encS r.att), .sl (List.map encC r.chg), .sl (List.map encV r.vls), .str (bs r.rdn), .lit (.bool r.kep), .str (bs r.abv), .lit (.bool r.hab), .str (bs r.pn), .str (bs r.pv), .lit (.int .i64 r.tgt)])
theorem beq2_dq (a b c d : Bs) : (List.beq (bs a) (bs c) && List.beq (bs b) (bs d)) = (dq a c && dq b d) := by rw [beq_dq, beq_dq]
theorem pair31 : pair2 Tryz.prog 31 = true := by kernel_rfl
@[go_sem] theorem bp_neq (st : Store) (a b c d : List UInt8) : binV Tryz.prog 31 .neq st (.d (.agg [.str a, .str b])) (.d (.agg [.str c, .str d])) = some (.d (.lit (.bool (!(List.beq a c && List.beq b d))))) := by
  show (bif pair2 Tryz.prog 31 then _ else _) = _
  rw [pair31]; rfl
@[go_sem] theorem bp_eql (st : Store) (a b c d : List UInt8) : binV Tryz.prog 31 .eql st (.d (.agg [.str a, .str b])) (.d (.agg [.str c, .str d])) = some (.d (.lit (.bool (List.beq a c && List.beq b d)))) := by
  show (bif pair2 Tryz.prog 31 then _ else _) = _
  rw [pair31]; rfl
theorem t17 (a b : Rq) : pureCall C 17 [(.agg [.lit (.int .i64 a.id), .lit (.int .i64 a.kd), .str (bs a.nm), .lit (.int .i64 a.ver), .lit (.int .i64 a.mth), .str (bs a.sec), .lit (.int .i64 a.scp), .lit (.int .i64 a.mst), .lit (.bool a.typ), .lit (.int .i64 (kind a.flt)), .str (bs (name a.flt)), .str (bs (value a.flt)), .str (bs (ini a.flt)), .sl (List.map encS (any a.flt)), .str (bs (fin a.flt)), .lit (.bool (hi a.flt)), .lit (.bool (hf a.flt)), .str (bs (rule a.flt)), .lit (.bool (dn a.flt)), .sl (List.map encO (kids a.flt)), .sl (List.map encS a.att), .sl (List.map encC a.chg), .sl (List.map encV a.vls), .str (bs a.rdn), .lit (.bool a.kep), .str (bs a.abv), .lit (.bool a.hab), .str (bs a.pn), .str (bs a.pv), .lit (.int .i64 a.tgt)]), (.agg [.lit (.int .i64 b.id), .lit (.int .i64 b.kd), .str (bs b.nm), .lit (.int .i64 b.ver), .lit (.int .i64 b.mth), .str (bs b.sec), .lit (.int .i64 b.scp), .lit (.int .i64 b.mst), .lit (.bool b.typ), .lit (.int .i64 (kind b.flt)), .str (bs (name b.flt)), .str (bs (value b.flt)), .str (bs (ini b.flt)), .sl (List.map encS (any b.flt)), .str (bs (fin b.flt)), .lit (.bool (hi b.flt)), .lit (.bool (hf b.flt)), .str (bs (rule b.flt)), .lit (.bool (dn b.flt)), .sl (List.map encO (kids b.flt)), .sl (List.map encS b.att), .sl (List.map encC b.chg), .sl (List.map encV b.vls), .str (bs b.rdn), .lit (.bool b.kep), .str (bs b.abv), .lit (.bool b.hab), .str (bs b.pn), .str (bs b.pv), .lit (.int .i64 b.tgt)])] = some (tf
    (dq a.id b.id && (dq a.kd b.kd && (dq a.nm b.nm && (dq a.ver b.ver && (dq a.mth b.mth && (dq a.sec b.sec && (dq a.scp b.scp && (dq a.mst b.mst && (dq a.typ b.typ &&
    (dq a.rdn b.rdn && (dq a.kep b.kep && (dq a.abv b.abv && (dq a.hab b.hab && ((dq a.pn b.pn && dq a.pv b.pv) && (dq a.tgt b.tgt && (dq a.flt b.flt &&
    (dq a.att b.att && (dq a.chg b.chg && dq a.vls b.vls))))))))))))))))))) := by
  have b0 := dq_int a.id b.id
  have b1 := dq_int a.kd b.kd
  have b2 := beq_dq a.nm b.nm
  have b3 := dq_int a.ver b.ver
  have b4 := dq_int a.mth b.mth
  have b5 := beq_dq a.sec b.sec
  have b6 := dq_int a.scp b.scp
  have b7 := dq_int a.mst b.mst
  have b9 := beq_dq a.rdn b.rdn
  have b11 := beq_dq a.abv b.abv
  have b13 := beq_dq a.pn b.pn
  have b14 := beq_dq a.pv b.pv
  have b15 := dq_int a.tgt b.tgt
  have h46 := t46 a.flt b.flt
  have h49 := t49 a.att b.att a.att_le b.att_le
  have h50 := t50 a.chg b.chg a.chg_le b.chg_le
  have h51 := t51 a.vls b.vls a.vls_le b.vls_le
  rw [dq_bool a.typ, dq_bool a.kep, dq_bool a.hab]
  generalize dq a.id b.id = v0 at b0 ⊢
  generalize dq a.kd b.kd = v1 at b1 ⊢
  generalize dq a.nm b.nm = v2 at b2 ⊢
  generalize dq a.ver b.ver = v3 at b3 ⊢
  generalize dq a.mth b.mth = v4 at b4 ⊢
  generalize dq a.sec b.sec = v5 at b5 ⊢
  generalize dq a.scp b.scp = v6 at b6 ⊢
  generalize dq a.mst b.mst = v7 at b7 ⊢
  generalize b8 : (a.typ == b.typ) = v8
  generalize dq a.rdn b.rdn = v9 at b9 ⊢
  generalize b10 : (a.kep == b.kep) = v10
  generalize dq a.abv b.abv = v11 at b11 ⊢
  generalize b12 : (a.hab == b.hab) = v12
  generalize dq a.pn b.pn = v13 at b13 ⊢
  generalize dq a.pv b.pv = v14 at b14 ⊢
  generalize dq a.tgt b.tgt = v15 at b15 ⊢
  generalize dq a.flt b.flt = v16 at h46 ⊢
  generalize dq a.att b.att = v17 at h49 ⊢
  generalize dq a.chg b.chg = v18 at h50 ⊢
  generalize dq a.vls b.vls = v19 at h51 ⊢
  rw [p17]
  simp -implicitDefEqProofs (maxSteps := 10000000) (disch := omega) only [go_sem, Int.reduceAdd, Int.reduceSub, Int.reduceMul, dec_t, dec_f, Nat.reduceBEq, Nat.reduceBNe, reduceShiftRight, reduceAnd, Nat.reduceAdd, Nat.reduceSub, reduceEqDiff, Nat.reduceLT, reduceLeDiff, reduceToNat, Int.reduceLT, Int.reduceLE, Int.reduceEq, reduceIte, reduceCtorEq, b0]
  cases v0
  · simp -implicitDefEqProofs (maxSteps := 10000000) (disch := omega) only [go_sem, Int.reduceAdd, Int.reduceSub, Int.reduceMul, dec_t, dec_f, Nat.reduceBEq, Nat.reduceBNe, reduceShiftRight, reduceAnd, Nat.reduceAdd, Nat.reduceSub, reduceEqDiff, Nat.reduceLT, reduceLeDiff, reduceToNat, Int.reduceLT, Int.reduceLE, Int.reduceEq, reduceIte, reduceCtorEq]
  simp -implicitDefEqProofs (maxSteps := 10000000) (disch := omega) only [go_sem, Int.reduceAdd, Int.reduceSub, Int.reduceMul, dec_t, dec_f, Nat.reduceBEq, Nat.reduceBNe, reduceShiftRight, reduceAnd, Nat.reduceAdd, Nat.reduceSub, reduceEqDiff, Nat.reduceLT, reduceLeDiff, reduceToNat, Int.reduceLT, Int.reduceLE, Int.reduceEq, reduceIte, reduceCtorEq, b1]
  cases v1
  · simp -implicitDefEqProofs (maxSteps := 10000000) (disch := omega) only [go_sem, Int.reduceAdd, Int.reduceSub, Int.reduceMul, dec_t, dec_f, Nat.reduceBEq, Nat.reduceBNe, reduceShiftRight, reduceAnd, Nat.reduceAdd, Nat.reduceSub, reduceEqDiff, Nat.reduceLT, reduceLeDiff, reduceToNat, Int.reduceLT, Int.reduceLE, Int.reduceEq, reduceIte, reduceCtorEq]
  simp -implicitDefEqProofs (maxSteps := 10000000) (disch := omega) only [go_sem, Int.reduceAdd, Int.reduceSub, Int.reduceMul, dec_t, dec_f, Nat.reduceBEq, Nat.reduceBNe, reduceShiftRight, reduceAnd, Nat.reduceAdd, Nat.reduceSub, reduceEqDiff, Nat.reduceLT, reduceLeDiff, reduceToNat, Int.reduceLT, Int.reduceLE, Int.reduceEq, reduceIte, reduceCtorEq, b2]
  cases v2
  · simp -implicitDefEqProofs (maxSteps := 10000000) (disch := omega) only [go_sem, Int.reduceAdd, Int.reduceSub, Int.reduceMul, dec_t, dec_f, Nat.reduceBEq, Nat.reduceBNe, reduceShiftRight, reduceAnd, Nat.reduceAdd, Nat.reduceSub, reduceEqDiff, Nat.reduceLT, reduceLeDiff, reduceToNat, Int.reduceLT, Int.reduceLE, Int.reduceEq, reduceIte, reduceCtorEq]
  simp -implicitDefEqProofs (maxSteps := 10000000) (disch := omega) only [go_sem, Int.reduceAdd, Int.reduceSub, Int.reduceMul, dec_t, dec_f, Nat.reduceBEq, Nat.reduceBNe, reduceShiftRight, reduceAnd, Nat.reduceAdd, Nat.reduceSub, reduceEqDiff, Nat.reduceLT, reduceLeDiff, reduceToNat, Int.reduceLT, Int.reduceLE, Int.reduceEq, reduceIte, reduceCtorEq, b3]
  cases v3
  · simp -implicitDefEqProofs (maxSteps := 10000000) (disch := omega) only [go_sem, Int.reduceAdd, Int.reduceSub, Int.reduceMul, dec_t, dec_f, Nat.reduceBEq, Nat.reduceBNe, reduceShiftRight, reduceAnd, Nat.reduceAdd, Nat.reduceSub, reduceEqDiff, Nat.reduceLT, reduceLeDiff, reduceToNat, Int.reduceLT, Int.reduceLE, Int.reduceEq, reduceIte, reduceCtorEq]
  simp -implicitDefEqProofs (maxSteps := 10000000) (disch := omega) only [go_sem, Int.reduceAdd, Int.reduceSub, Int.reduceMul, dec_t, dec_f, Nat.reduceBEq, Nat.reduceBNe, reduceShiftRight, reduceAnd, Nat.reduceAdd, Nat.reduceSub, reduceEqDiff, Nat.reduceLT, reduceLeDiff, reduceToNat, Int.reduceLT, Int.reduceLE, Int.reduceEq, reduceIte, reduceCtorEq, b4]
  cases v4
  · simp -implicitDefEqProofs (maxSteps := 10000000) (disch := omega) only [go_sem, Int.reduceAdd, Int.reduceSub, Int.reduceMul, dec_t, dec_f, Nat.reduceBEq, Nat.reduceBNe, reduceShiftRight, reduceAnd, Nat.reduceAdd, Nat.reduceSub, reduceEqDiff, Nat.reduceLT, reduceLeDiff, reduceToNat, Int.reduceLT, Int.reduceLE, Int.reduceEq, reduceIte, reduceCtorEq]
  simp -implicitDefEqProofs (maxSteps := 10000000) (disch := omega) only [go_sem, Int.reduceAdd, Int.reduceSub, Int.reduceMul, dec_t, dec_f, Nat.reduceBEq, Nat.reduceBNe, reduceShiftRight, reduceAnd, Nat.reduceAdd, Nat.reduceSub, reduceEqDiff, Nat.reduceLT, reduceLeDiff, reduceToNat, Int.reduceLT, Int.reduceLE, Int.reduceEq, reduceIte, reduceCtorEq, b5]
  cases v5
  · simp -implicitDefEqProofs (maxSteps := 10000000) (disch := omega) only [go_sem, Int.reduceAdd, Int.reduceSub, Int.reduceMul, dec_t, dec_f, Nat.reduceBEq, Nat.reduceBNe, reduceShiftRight, reduceAnd, Nat.reduceAdd, Nat.reduceSub, reduceEqDiff, Nat.reduceLT, reduceLeDiff, reduceToNat, Int.reduceLT, Int.reduceLE, Int.reduceEq, reduceIte, reduceCtorEq]
  simp -implicitDefEqProofs (maxSteps := 10000000) (disch := omega) only [go_sem, Int.reduceAdd, Int.reduceSub, Int.reduceMul, dec_t, dec_f, Nat.reduceBEq, Nat.reduceBNe, reduceShiftRight, reduceAnd, Nat.reduceAdd, Nat.reduceSub, reduceEqDiff, Nat.reduceLT, reduceLeDiff, reduceToNat, Int.reduceLT, Int.reduceLE, Int.reduceEq, reduceIte, reduceCtorEq, b6]
  cases v6
  · simp -implicitDefEqProofs (maxSteps := 10000000) (disch := omega) only [go_sem, Int.reduceAdd, Int.reduceSub, Int.reduceMul, dec_t, dec_f, Nat.reduceBEq, Nat.reduceBNe, reduceShiftRight, reduceAnd, Nat.reduceAdd, Nat.reduceSub, reduceEqDiff, Nat.reduceLT, reduceLeDiff, reduceToNat, Int.reduceLT, Int.reduceLE, Int.reduceEq, reduceIte, reduceCtorEq]
  simp -implicitDefEqProofs (maxSteps := 10000000) (disch := omega) only [go_sem, Int.reduceAdd, Int.reduceSub, Int.reduceMul, dec_t, dec_f, Nat.reduceBEq, Nat.reduceBNe, reduceShiftRight, reduceAnd, Nat.reduceAdd, Nat.reduceSub, reduceEqDiff, Nat.reduceLT, reduceLeDiff, reduceToNat, Int.reduceLT, Int.reduceLE, Int.reduceEq, reduceIte, reduceCtorEq, b7]
  cases v7
  · simp -implicitDefEqProofs (maxSteps := 10000000) (disch := omega) only [go_sem, Int.reduceAdd, Int.reduceSub, Int.reduceMul, dec_t, dec_f, Nat.reduceBEq, Nat.reduceBNe, reduceShiftRight, reduceAnd, Nat.reduceAdd, Nat.reduceSub, reduceEqDiff, Nat.reduceLT, reduceLeDiff, reduceToNat, Int.reduceLT, Int.reduceLE, Int.reduceEq, reduceIte, reduceCtorEq]
  simp -implicitDefEqProofs (maxSteps := 10000000) (disch := omega) only [go_sem, Int.reduceAdd, Int.reduceSub, Int.reduceMul, dec_t, dec_f, Nat.reduceBEq, Nat.reduceBNe, reduceShiftRight, reduceAnd, Nat.reduceAdd, Nat.reduceSub, reduceEqDiff, Nat.reduceLT, reduceLeDiff, reduceToNat, Int.reduceLT, Int.reduceLE, Int.reduceEq, reduceIte, reduceCtorEq, b8]
  cases v8
  · simp -implicitDefEqProofs (maxSteps := 10000000) (disch := omega) only [go_sem, Int.reduceAdd, Int.reduceSub, Int.reduceMul, dec_t, dec_f, Nat.reduceBEq, Nat.reduceBNe, reduceShiftRight, reduceAnd, Nat.reduceAdd, Nat.reduceSub, reduceEqDiff, Nat.reduceLT, reduceLeDiff, reduceToNat, Int.reduceLT, Int.reduceLE, Int.reduceEq, reduceIte, reduceCtorEq]
  simp -implicitDefEqProofs (maxSteps := 10000000) (disch := omega) only [go_sem, Int.reduceAdd, Int.reduceSub, Int.reduceMul, dec_t, dec_f, Nat.reduceBEq, Nat.reduceBNe, reduceShiftRight, reduceAnd, Nat.reduceAdd, Nat.reduceSub, reduceEqDiff, Nat.reduceLT, reduceLeDiff, reduceToNat, Int.reduceLT, Int.reduceLE, Int.reduceEq, reduceIte, reduceCtorEq, b9]
  cases v9
  · simp -implicitDefEqProofs (maxSteps := 10000000) (disch := omega) only [go_sem, Int.reduceAdd, Int.reduceSub, Int.reduceMul, dec_t, dec_f, Nat.reduceBEq, Nat.reduceBNe, reduceShiftRight, reduceAnd, Nat.reduceAdd, Nat.reduceSub, reduceEqDiff, Nat.reduceLT, reduceLeDiff, reduceToNat, Int.reduceLT, Int.reduceLE, Int.reduceEq, reduceIte, reduceCtorEq]
  simp -implicitDefEqProofs (maxSteps := 10000000) (disch := omega) only [go_sem, Int.reduceAdd, Int.reduceSub, Int.reduceMul, dec_t, dec_f, Nat.reduceBEq, Nat.reduceBNe, reduceShiftRight, reduceAnd, Nat.reduceAdd, Nat.reduceSub, reduceEqDiff, Nat.reduceLT, reduceLeDiff, reduceToNat, Int.reduceLT, Int.reduceLE, Int.reduceEq, reduceIte, reduceCtorEq, b10]
  cases v10
  · simp -implicitDefEqProofs (maxSteps := 10000000) (disch := omega) only [go_sem, Int.reduceAdd, Int.reduceSub, Int.reduceMul, dec_t, dec_f, Nat.reduceBEq, Nat.reduceBNe, reduceShiftRight, reduceAnd, Nat.reduceAdd, Nat.reduceSub, reduceEqDiff, Nat.reduceLT, reduceLeDiff, reduceToNat, Int.reduceLT, Int.reduceLE, Int.reduceEq, reduceIte, reduceCtorEq]
  simp -implicitDefEqProofs (maxSteps := 10000000) (disch := omega) only [go_sem, Int.reduceAdd, Int.reduceSub, Int.reduceMul, dec_t, dec_f, Nat.reduceBEq, Nat.reduceBNe, reduceShiftRight, reduceAnd, Nat.reduceAdd, Nat.reduceSub, reduceEqDiff, Nat.reduceLT, reduceLeDiff, reduceToNat, Int.reduceLT, Int.reduceLE, Int.reduceEq, reduceIte, reduceCtorEq, b11]
  cases v11
  · simp -implicitDefEqProofs (maxSteps := 10000000) (disch := omega) only [go_sem, Int.reduceAdd, Int.reduceSub, Int.reduceMul, dec_t, dec_f, Nat.reduceBEq, Nat.reduceBNe, reduceShiftRight, reduceAnd, Nat.reduceAdd, Nat.reduceSub, reduceEqDiff, Nat.reduceLT, reduceLeDiff, reduceToNat, Int.reduceLT, Int.reduceLE, Int.reduceEq, reduceIte, reduceCtorEq]
  simp -implicitDefEqProofs (maxSteps := 10000000) (disch := omega) only [go_sem, Int.reduceAdd, Int.reduceSub, Int.reduceMul, dec_t, dec_f, Nat.reduceBEq, Nat.reduceBNe, reduceShiftRight, reduceAnd, Nat.reduceAdd, Nat.reduceSub, reduceEqDiff, Nat.reduceLT, reduceLeDiff, reduceToNat, Int.reduceLT, Int.reduceLE, Int.reduceEq, reduceIte, reduceCtorEq, b12]
  cases v12
  · simp -implicitDefEqProofs (maxSteps := 10000000) (disch := omega) only [go_sem, Int.reduceAdd, Int.reduceSub, Int.reduceMul, dec_t, dec_f, Nat.reduceBEq, Nat.reduceBNe, reduceShiftRight, reduceAnd, Nat.reduceAdd, Nat.reduceSub, reduceEqDiff, Nat.reduceLT, reduceLeDiff, reduceToNat, Int.reduceLT, Int.reduceLE, Int.reduceEq, reduceIte, reduceCtorEq]
  simp -implicitDefEqProofs (maxSteps := 10000000) (disch := omega) only [go_sem, Int.reduceAdd, Int.reduceSub, Int.reduceMul, dec_t, dec_f, Nat.reduceBEq, Nat.reduceBNe, reduceShiftRight, reduceAnd, Nat.reduceAdd, Nat.reduceSub, reduceEqDiff, Nat.reduceLT, reduceLeDiff, reduceToNat, Int.reduceLT, Int.reduceLE, Int.reduceEq, reduceIte, reduceCtorEq, b13, b14]
  cases v13
  · simp -implicitDefEqProofs (maxSteps := 10000000) (disch := omega) only [go_sem, Int.reduceAdd, Int.reduceSub, Int.reduceMul, dec_t, dec_f, Nat.reduceBEq, Nat.reduceBNe, reduceShiftRight, reduceAnd, Nat.reduceAdd, Nat.reduceSub, reduceEqDiff, Nat.reduceLT, reduceLeDiff, reduceToNat, Int.reduceLT, Int.reduceLE, Int.reduceEq, reduceIte, reduceCtorEq, Bool.false_and]
  cases v14
  · simp -implicitDefEqProofs (maxSteps := 10000000) (disch := omega) only [go_sem, Int.reduceAdd, Int.reduceSub, Int.reduceMul, dec_t, dec_f, Nat.reduceBEq, Nat.reduceBNe, reduceShiftRight, reduceAnd, Nat.reduceAdd, Nat.reduceSub, reduceEqDiff, Nat.reduceLT, reduceLeDiff, reduceToNat, Int.reduceLT, Int.reduceLE, Int.reduceEq, reduceIte, reduceCtorEq, Bool.and_false]
  simp -implicitDefEqProofs (maxSteps := 10000000) (disch := omega) only [go_sem, Int.reduceAdd, Int.reduceSub, Int.reduceMul, dec_t, dec_f, Nat.reduceBEq, Nat.reduceBNe, reduceShiftRight, reduceAnd, Nat.reduceAdd, Nat.reduceSub, reduceEqDiff, Nat.reduceLT, reduceLeDiff, reduceToNat, Int.reduceLT, Int.reduceLE, Int.reduceEq, reduceIte, reduceCtorEq, Bool.and_self, b15]
  cases v15
  · simp -implicitDefEqProofs (maxSteps := 10000000) (disch := omega) only [go_sem, Int.reduceAdd, Int.reduceSub, Int.reduceMul, dec_t, dec_f, Nat.reduceBEq, Nat.reduceBNe, reduceShiftRight, reduceAnd, Nat.reduceAdd, Nat.reduceSub, reduceEqDiff, Nat.reduceLT, reduceLeDiff, reduceToNat, Int.reduceLT, Int.reduceLE, Int.reduceEq, reduceIte, reduceCtorEq]
  simp -implicitDefEqProofs (maxSteps := 10000000) (disch := omega) only [go_sem, Int.reduceAdd, Int.reduceSub, Int.reduceMul, dec_t, dec_f, Nat.reduceBEq, Nat.reduceBNe, reduceShiftRight, reduceAnd, Nat.reduceAdd, Nat.reduceSub, reduceEqDiff, Nat.reduceLT, reduceLeDiff, reduceToNat, Int.reduceLT, Int.reduceLE, Int.reduceEq, reduceIte, reduceCtorEq, h46]
  cases v16
  · simp -implicitDefEqProofs (maxSteps := 10000000) (disch := omega) only [go_sem, Int.reduceAdd, Int.reduceSub, Int.reduceMul, dec_t, dec_f, Nat.reduceBEq, Nat.reduceBNe, reduceShiftRight, reduceAnd, Nat.reduceAdd, Nat.reduceSub, reduceEqDiff, Nat.reduceLT, reduceLeDiff, reduceToNat, Int.reduceLT, Int.reduceLE, Int.reduceEq, reduceIte, reduceCtorEq]
  simp -implicitDefEqProofs (maxSteps := 10000000) (disch := omega) only [go_sem, Int.reduceAdd, Int.reduceSub, Int.reduceMul, dec_t, dec_f, Nat.reduceBEq, Nat.reduceBNe, reduceShiftRight, reduceAnd, Nat.reduceAdd, Nat.reduceSub, reduceEqDiff, Nat.reduceLT, reduceLeDiff, reduceToNat, Int.reduceLT, Int.reduceLE, Int.reduceEq, reduceIte, reduceCtorEq, h49]
  cases v17
  · simp -implicitDefEqProofs (maxSteps := 10000000) (disch := omega) only [go_sem, Int.reduceAdd, Int.reduceSub, Int.reduceMul, dec_t, dec_f, Nat.reduceBEq, Nat.reduceBNe, reduceShiftRight, reduceAnd, Nat.reduceAdd, Nat.reduceSub, reduceEqDiff, Nat.reduceLT, reduceLeDiff, reduceToNat, Int.reduceLT, Int.reduceLE, Int.reduceEq, reduceIte, reduceCtorEq]
  simp -implicitDefEqProofs (maxSteps := 10000000) (disch := omega) only [go_sem, Int.reduceAdd, Int.reduceSub, Int.reduceMul, dec_t, dec_f, Nat.reduceBEq, Nat.reduceBNe, reduceShiftRight, reduceAnd, Nat.reduceAdd, Nat.reduceSub, reduceEqDiff, Nat.reduceLT, reduceLeDiff, reduceToNat, Int.reduceLT, Int.reduceLE, Int.reduceEq, reduceIte, reduceCtorEq, h50]
  cases v18
  · simp -implicitDefEqProofs (maxSteps := 10000000) (disch := omega) only [go_sem, Int.reduceAdd, Int.reduceSub, Int.reduceMul, dec_t, dec_f, Nat.reduceBEq, Nat.reduceBNe, reduceShiftRight, reduceAnd, Nat.reduceAdd, Nat.reduceSub, reduceEqDiff, Nat.reduceLT, reduceLeDiff, reduceToNat, Int.reduceLT, Int.reduceLE, Int.reduceEq, reduceIte, reduceCtorEq]
  simp -implicitDefEqProofs (maxSteps := 10000000) (disch := omega) only [go_sem, Int.reduceAdd, Int.reduceSub, Int.reduceMul, dec_t, dec_f, Nat.reduceBEq, Nat.reduceBNe, reduceShiftRight, reduceAnd, Nat.reduceAdd, Nat.reduceSub, reduceEqDiff, Nat.reduceLT, reduceLeDiff, reduceToNat, Int.reduceLT, Int.reduceLE, Int.reduceEq, reduceIte, reduceCtorEq, h51]
  done
set_option maxRecDepth 10000
set_option maxHeartbeats 4000000
theorem t16a (a b : Rq) : n16_3 ⟨[(2, .ptr 0 1 0 0), (3, .ptr 1 1 0 0)], [⟨30, [.d (.agg [.lit (.int .i64 a.id), .lit (.int .i64 a.kd), .str (bs a.nm), .lit (.int .i64 a.ver), .lit (.int .i64 a.mth), .str (bs a.sec), .lit (.int .i64 a.scp), .lit (.int .i64 a.mst), .lit (.bool a.typ), .lit (.int .i64 (kind a.flt)), .str (bs (name a.flt)), .str (bs (value a.flt)), .str (bs (ini a.flt)), .sl (List.map encS (any a.flt)), .str (bs (fin a.flt)), .lit (.bool (hi a.flt)), .lit (.bool (hf a.flt)), .str (bs (rule a.flt)), .lit (.bool (dn a.flt)), .sl (List.map encO (kids a.flt)), .sl (List.map encS a.att), .sl (List.map encC a.chg), .sl (List.map encV a.vls), .str (bs a.rdn), .lit (.bool a.kep), .str (bs a.abv), .lit (.bool a.hab), .str (bs a.pn), .str (bs a.pv), .lit (.int .i64 a.tgt)])], false, false, false⟩, ⟨30, [.d (.agg [.lit (.int .i64 b.id), .lit (.int .i64 b.kd), .str (bs b.nm), .lit (.int .i64 b.ver), .lit (.int .i64 b.mth), .str (bs b.sec), .lit (.int .i64 b.scp), .lit (.int .i64 b.mst), .lit (.bool b.typ), .lit (.int .i64 (kind b.flt)), .str (bs (name b.flt)), .str (bs (value b.flt)), .str (bs (ini b.flt)), .sl (List.map encS (any b.flt)), .str (bs (fin b.flt)), .lit (.bool (hi b.flt)), .lit (.bool (hf b.flt)), .str (bs (rule b.flt)), .lit (.bool (dn b.flt)), .sl (List.map encO (kids b.flt)), .sl (List.map encS b.att), .sl (List.map encC b.chg), .sl (List.map encV b.vls), .str (bs b.rdn), .lit (.bool b.kep), .str (bs b.abv), .lit (.bool b.hab), .str (bs b.pn), .str (bs b.pv), .lit (.int .i64 b.tgt)])], false, false, false⟩]⟩ = some (.norm, ⟨[(2, .ptr 0 1 0 0), (3, .ptr 1 1 0 0), (5, .d (.lit (.bool (dq a.id b.id && (dq a.kd b.kd && (dq a.nm b.nm && (dq a.ver b.ver && (dq a.mth b.mth && (dq a.sec b.sec && (dq a.scp b.scp && (dq a.mst b.mst && dq a.typ b.typ)))))))))))], [⟨30, [.d (.agg [.lit (.int .i64 a.id), .lit (.int .i64 a.kd), .str (bs a.nm), .lit (.int .i64 a.ver), .lit (.int .i64 a.mth), .str (bs a.sec), .lit (.int .i64 a.scp), .lit (.int .i64 a.mst), .lit (.bool a.typ), .lit (.int .i64 (kind a.flt)), .str (bs (name a.flt)), .str (bs (value a.flt)), .str (bs (ini a.flt)), .sl (List.map encS (any a.flt)), .str (bs (fin a.flt)), .lit (.bool (hi a.flt)), .lit (.bool (hf a.flt)), .str (bs (rule a.flt)), .lit (.bool (dn a.flt)), .sl (List.map encO (kids a.flt)), .sl (List.map encS a.att), .sl (List.map encC a.chg), .sl (List.map encV a.vls), .str (bs a.rdn), .lit (.bool a.kep), .str (bs a.abv), .lit (.bool a.hab), .str (bs a.pn), .str (bs a.pv), .lit (.int .i64 a.tgt)])], false, false, false⟩, ⟨30, [.d (.agg [.lit (.int .i64 b.id), .lit (.int .i64 b.kd), .str (bs b.nm), .lit (.int .i64 b.ver), .lit (.int .i64 b.mth), .str (bs b.sec), .lit (.int .i64 b.scp), .lit (.int .i64 b.mst), .lit (.bool b.typ), .lit (.int .i64 (kind b.flt)), .str (bs (name b.flt)), .str (bs (value b.flt)), .str (bs (ini b.flt)), .sl (List.map encS (any b.flt)), .str (bs (fin b.flt)), .lit (.bool (hi b.flt)), .lit (.bool (hf b.flt)), .str (bs (rule b.flt)), .lit (.bool (dn b.flt)), .sl (List.map encO (kids b.flt)), .sl (List.map encS b.att), .sl (List.map encC b.chg), .sl (List.map encV b.vls), .str (bs b.rdn), .lit (.bool b.kep), .str (bs b.abv), .lit (.bool b.hab), .str (bs b.pn), .str (bs b.pv), .lit (.int .i64 b.tgt)])], false, false, false⟩]⟩) := by
  have b0 := dq_int a.id b.id
  have b1 := dq_int a.kd b.kd
  have b2 := beq_dq a.nm b.nm
  have b3 := dq_int a.ver b.ver
  have b4 := dq_int a.mth b.mth
  have b5 := beq_dq a.sec b.sec
  have b6 := dq_int a.scp b.scp
  have b7 := dq_int a.mst b.mst
  rw [dq_bool a.typ]
  generalize dq a.id b.id = v0 at b0 ⊢
  generalize dq a.kd b.kd = v1 at b1 ⊢
  generalize dq a.nm b.nm = v2 at b2 ⊢
  generalize dq a.ver b.ver = v3 at b3 ⊢
  generalize dq a.mth b.mth = v4 at b4 ⊢
  generalize dq a.sec b.sec = v5 at b5 ⊢
  generalize dq a.scp b.scp = v6 at b6 ⊢
  generalize dq a.mst b.mst = v7 at b7 ⊢
  generalize b8 : (a.typ == b.typ) = v8
  simp -implicitDefEqProofs (maxSteps := 10000000) (disch := omega) only [go_sem, Int.reduceAdd, Int.reduceSub, Int.reduceMul, dec_t, dec_f, Nat.reduceBEq, Nat.reduceBNe, reduceShiftRight, reduceAnd, Nat.reduceAdd, Nat.reduceSub, reduceEqDiff, Nat.reduceLT, reduceLeDiff, reduceToNat, Int.reduceLT, Int.reduceLE, Int.reduceEq, reduceIte, reduceCtorEq, b0]
  cases v0
  · simp -implicitDefEqProofs (maxSteps := 10000000) (disch := omega) only [go_sem, Int.reduceAdd, Int.reduceSub, Int.reduceMul, dec_t, dec_f, Nat.reduceBEq, Nat.reduceBNe, reduceShiftRight, reduceAnd, Nat.reduceAdd, Nat.reduceSub, reduceEqDiff, Nat.reduceLT, reduceLeDiff, reduceToNat, Int.reduceLT, Int.reduceLE, Int.reduceEq, reduceIte, reduceCtorEq]
  simp -implicitDefEqProofs (maxSteps := 10000000) (disch := omega) only [go_sem, Int.reduceAdd, Int.reduceSub, Int.reduceMul, dec_t, dec_f, Nat.reduceBEq, Nat.reduceBNe, reduceShiftRight, reduceAnd, Nat.reduceAdd, Nat.reduceSub, reduceEqDiff, Nat.reduceLT, reduceLeDiff, reduceToNat, Int.reduceLT, Int.reduceLE, Int.reduceEq, reduceIte, reduceCtorEq, b1]
  cases v1
  · simp -implicitDefEqProofs (maxSteps := 10000000) (disch := omega) only [go_sem, Int.reduceAdd, Int.reduceSub, Int.reduceMul, dec_t, dec_f, Nat.reduceBEq, Nat.reduceBNe, reduceShiftRight, reduceAnd, Nat.reduceAdd, Nat.reduceSub, reduceEqDiff, Nat.reduceLT, reduceLeDiff, reduceToNat, Int.reduceLT, Int.reduceLE, Int.reduceEq, reduceIte, reduceCtorEq]
  simp -implicitDefEqProofs (maxSteps := 10000000) (disch := omega) only [go_sem, Int.reduceAdd, Int.reduceSub, Int.reduceMul, dec_t, dec_f, Nat.reduceBEq, Nat.reduceBNe, reduceShiftRight, reduceAnd, Nat.reduceAdd, Nat.reduceSub, reduceEqDiff, Nat.reduceLT, reduceLeDiff, reduceToNat, Int.reduceLT, Int.reduceLE, Int.reduceEq, reduceIte, reduceCtorEq, b2]
  cases v2
  · simp -implicitDefEqProofs (maxSteps := 10000000) (disch := omega) only [go_sem, Int.reduceAdd, Int.reduceSub, Int.reduceMul, dec_t, dec_f, Nat.reduceBEq, Nat.reduceBNe, reduceShiftRight, reduceAnd, Nat.reduceAdd, Nat.reduceSub, reduceEqDiff, Nat.reduceLT, reduceLeDiff, reduceToNat, Int.reduceLT, Int.reduceLE, Int.reduceEq, reduceIte, reduceCtorEq]
  simp -implicitDefEqProofs (maxSteps := 10000000) (disch := omega) only [go_sem, Int.reduceAdd, Int.reduceSub, Int.reduceMul, dec_t, dec_f, Nat.reduceBEq, Nat.reduceBNe, reduceShiftRight, reduceAnd, Nat.reduceAdd, Nat.reduceSub, reduceEqDiff, Nat.reduceLT, reduceLeDiff, reduceToNat, Int.reduceLT, Int.reduceLE, Int.reduceEq, reduceIte, reduceCtorEq, b3]
  cases v3
  · simp -implicitDefEqProofs (maxSteps := 10000000) (disch := omega) only [go_sem, Int.reduceAdd, Int.reduceSub, Int.reduceMul, dec_t, dec_f, Nat.reduceBEq, Nat.reduceBNe, reduceShiftRight, reduceAnd, Nat.reduceAdd, Nat.reduceSub, reduceEqDiff, Nat.reduceLT, reduceLeDiff, reduceToNat, Int.reduceLT, Int.reduceLE, Int.reduceEq, reduceIte, reduceCtorEq]
  simp -implicitDefEqProofs (maxSteps := 10000000) (disch := omega) only [go_sem, Int.reduceAdd, Int.reduceSub, Int.reduceMul, dec_t, dec_f, Nat.reduceBEq, Nat.reduceBNe, reduceShiftRight, reduceAnd, Nat.reduceAdd, Nat.reduceSub, reduceEqDiff, Nat.reduceLT, reduceLeDiff, reduceToNat, Int.reduceLT, Int.reduceLE, Int.reduceEq, reduceIte, reduceCtorEq, b4]
  cases v4
  · simp -implicitDefEqProofs (maxSteps := 10000000) (disch := omega) only [go_sem, Int.reduceAdd, Int.reduceSub, Int.reduceMul, dec_t, dec_f, Nat.reduceBEq, Nat.reduceBNe, reduceShiftRight, reduceAnd, Nat.reduceAdd, Nat.reduceSub, reduceEqDiff, Nat.reduceLT, reduceLeDiff, reduceToNat, Int.reduceLT, Int.reduceLE, Int.reduceEq, reduceIte, reduceCtorEq]
  simp -implicitDefEqProofs (maxSteps := 10000000) (disch := omega) only [go_sem, Int.reduceAdd, Int.reduceSub, Int.reduceMul, dec_t, dec_f, Nat.reduceBEq, Nat.reduceBNe, reduceShiftRight, reduceAnd, Nat.reduceAdd, Nat.reduceSub, reduceEqDiff, Nat.reduceLT, reduceLeDiff, reduceToNat, Int.reduceLT, Int.reduceLE, Int.reduceEq, reduceIte, reduceCtorEq, b5]
  cases v5
  · simp -implicitDefEqProofs (maxSteps := 10000000) (disch := omega) only [go_sem, Int.reduceAdd, Int.reduceSub, Int.reduceMul, dec_t, dec_f, Nat.reduceBEq, Nat.reduceBNe, reduceShiftRight, reduceAnd, Nat.reduceAdd, Nat.reduceSub, reduceEqDiff, Nat.reduceLT, reduceLeDiff, reduceToNat, Int.reduceLT, Int.reduceLE, Int.reduceEq, reduceIte, reduceCtorEq]
  simp -implicitDefEqProofs (maxSteps := 10000000) (disch := omega) only [go_sem, Int.reduceAdd, Int.reduceSub, Int.reduceMul, dec_t, dec_f, Nat.reduceBEq, Nat.reduceBNe, reduceShiftRight, reduceAnd, Nat.reduceAdd, Nat.reduceSub, reduceEqDiff, Nat.reduceLT, reduceLeDiff, reduceToNat, Int.reduceLT, Int.reduceLE, Int.reduceEq, reduceIte, reduceCtorEq, b6]
  cases v6
  · simp -implicitDefEqProofs (maxSteps := 10000000) (disch := omega) only [go_sem, Int.reduceAdd, Int.reduceSub, Int.reduceMul, dec_t, dec_f, Nat.reduceBEq, Nat.reduceBNe, reduceShiftRight, reduceAnd, Nat.reduceAdd, Nat.reduceSub, reduceEqDiff, Nat.reduceLT, reduceLeDiff, reduceToNat, Int.reduceLT, Int.reduceLE, Int.reduceEq, reduceIte, reduceCtorEq]
  simp -implicitDefEqProofs (maxSteps := 10000000) (disch := omega) only [go_sem, Int.reduceAdd, Int.reduceSub, Int.reduceMul, dec_t, dec_f, Nat.reduceBEq, Nat.reduceBNe, reduceShiftRight, reduceAnd, Nat.reduceAdd, Nat.reduceSub, reduceEqDiff, Nat.reduceLT, reduceLeDiff, reduceToNat, Int.reduceLT, Int.reduceLE, Int.reduceEq, reduceIte, reduceCtorEq, b7]
  cases v7
  · simp -implicitDefEqProofs (maxSteps := 10000000) (disch := omega) only [go_sem, Int.reduceAdd, Int.reduceSub, Int.reduceMul, dec_t, dec_f, Nat.reduceBEq, Nat.reduceBNe, reduceShiftRight, reduceAnd, Nat.reduceAdd, Nat.reduceSub, reduceEqDiff, Nat.reduceLT, reduceLeDiff, reduceToNat, Int.reduceLT, Int.reduceLE, Int.reduceEq, reduceIte, reduceCtorEq]
  simp -implicitDefEqProofs (maxSteps := 10000000) (disch := omega) only [go_sem, Int.reduceAdd, Int.reduceSub, Int.reduceMul, dec_t, dec_f, Nat.reduceBEq, Nat.reduceBNe, reduceShiftRight, reduceAnd, Nat.reduceAdd, Nat.reduceSub, reduceEqDiff, Nat.reduceLT, reduceLeDiff, reduceToNat, Int.reduceLT, Int.reduceLE, Int.reduceEq, reduceIte, reduceCtorEq, b8]
theorem t16b (a b : Rq) (e : Bool) : n16_5 ⟨[(2, .ptr 0 1 0 0), (3, .ptr 1 1 0 0), (5, .d (.lit (.bool e)))], [⟨30, [.d (.agg [.lit (.int .i64 a.id), .lit (.int .i64 a.kd), .str (bs a.nm), .lit (.int .i64 a.ver), .lit (.int .i64 a.mth), .str (bs a.sec), .lit (.int .i64 a.scp), .lit (.int .i64 a.mst), .lit (.bool a.typ), .lit (.int .i64 (kind a.flt)), .str (bs (name a.flt)), .str (bs (value a.flt)), .str (bs (ini a.flt)), .sl (List.map encS (any a.flt)), .str (bs (fin a.flt)), .lit (.bool (hi a.flt)), .lit (.bool (hf a.flt)), .str (bs (rule a.flt)), .lit (.bool (dn a.flt)), .sl (List.map encO (kids a.flt)), .sl (List.map encS a.att), .sl (List.map encC a.chg), .sl (List.map encV a.vls), .str (bs a.rdn), .lit (.bool a.kep), .str (bs a.abv), .lit (.bool a.hab), .str (bs a.pn), .str (bs a.pv), .lit (.int .i64 a.tgt)])], false, false, false⟩, ⟨30, [.d (.agg [.lit (.int .i64 b.id), .lit (.int .i64 b.kd), .str (bs b.nm), .lit (.int .i64 b.ver), .lit (.int .i64 b.mth), .str (bs b.sec), .lit (.int .i64 b.scp), .lit (.int .i64 b.mst), .lit (.bool b.typ), .lit (.int .i64 (kind b.flt)), .str (bs (name b.flt)), .str (bs (value b.flt)), .str (bs (ini b.flt)), .sl (List.map encS (any b.flt)), .str (bs (fin b.flt)), .lit (.bool (hi b.flt)), .lit (.bool (hf b.flt)), .str (bs (rule b.flt)), .lit (.bool (dn b.flt)), .sl (List.map encO (kids b.flt)), .sl (List.map encS b.att), .sl (List.map encC b.chg), .sl (List.map encV b.vls), .str (bs b.rdn), .lit (.bool b.kep), .str (bs b.abv), .lit (.bool b.hab), .str (bs b.pn), .str (bs b.pv), .lit (.int .i64 b.tgt)])], false, false, false⟩]⟩ = some (.norm, ⟨[(2, .ptr 0 1 0 0), (3, .ptr 1 1 0 0), (5, .d (.lit (.bool e))), (6, .d (.lit (.bool (dq a.rdn b.rdn && (dq a.kep b.kep && (dq a.abv b.abv && (dq a.hab b.hab && ((dq a.pn b.pn && dq a.pv b.pv) && dq a.tgt b.tgt))))))))], [⟨30, [.d (.agg [.lit (.int .i64 a.id), .lit (.int .i64 a.kd), .str (bs a.nm), .lit (.int .i64 a.ver), .lit (.int .i64 a.mth), .str (bs a.sec), .lit (.int .i64 a.scp), .lit (.int .i64 a.mst), .lit (.bool a.typ), .lit (.int .i64 (kind a.flt)), .str (bs (name a.flt)), .str (bs (value a.flt)), .str (bs (ini a.flt)), .sl (List.map encS (any a.flt)), .str (bs (fin a.flt)), .lit (.bool (hi a.flt)), .lit (.bool (hf a.flt)), .str (bs (rule a.flt)), .lit (.bool (dn a.flt)), .sl (List.map encO (kids a.flt)), .sl (List.map encS a.att), .sl (List.map encC a.chg), .sl (List.map encV a.vls), .str (bs a.rdn), .lit (.bool a.kep), .str (bs a.abv), .lit (.bool a.hab), .str (bs a.pn), .str (bs a.pv), .lit (.int .i64 a.tgt)])], false, false, false⟩, ⟨30, [.d (.agg [.lit (.int .i64 b.id), .lit (.int .i64 b.kd), .str (bs b.nm), .lit (.int .i64 b.ver), .lit (.int .i64 b.mth), .str (bs b.sec), .lit (.int .i64 b.scp), .lit (.int .i64 b.mst), .lit (.bool b.typ), .lit (.int .i64 (kind b.flt)), .str (bs (name b.flt)), .str (bs (value b.flt)), .str (bs (ini b.flt)), .sl (List.map encS (any b.flt)), .str (bs (fin b.flt)), .lit (.bool (hi b.flt)), .lit (.bool (hf b.flt)), .str (bs (rule b.flt)), .lit (.bool (dn b.flt)), .sl (List.map encO (kids b.flt)), .sl (List.map encS b.att), .sl (List.map encC b.chg), .sl (List.map encV b.vls), .str (bs b.rdn), .lit (.bool b.kep), .str (bs b.abv), .lit (.bool b.hab), .str (bs b.pn), .str (bs b.pv), .lit (.int .i64 b.tgt)])], false, false, false⟩]⟩) := by
  have b9 := beq_dq a.rdn b.rdn
  have b11 := beq_dq a.abv b.abv
  have b13 := beq2_dq a.pn a.pv b.pn b.pv
  have b15 := dq_int a.tgt b.tgt
  rw [dq_bool a.kep, dq_bool a.hab]
  generalize dq a.rdn b.rdn = v9 at b9 ⊢
  generalize b10 : (a.kep == b.kep) = v10
  generalize dq a.abv b.abv = v11 at b11 ⊢
  generalize b12 : (a.hab == b.hab) = v12
  generalize (dq a.pn b.pn && dq a.pv b.pv) = v13 at b13 ⊢
  generalize dq a.tgt b.tgt = v15 at b15 ⊢
  simp -implicitDefEqProofs (maxSteps := 10000000) (disch := omega) only [go_sem, Int.reduceAdd, Int.reduceSub, Int.reduceMul, dec_t, dec_f, Nat.reduceBEq, Nat.reduceBNe, reduceShiftRight, reduceAnd, Nat.reduceAdd, Nat.reduceSub, reduceEqDiff, Nat.reduceLT, reduceLeDiff, reduceToNat, Int.reduceLT, Int.reduceLE, Int.reduceEq, reduceIte, reduceCtorEq, b9]
  cases v9
  · simp -implicitDefEqProofs (maxSteps := 10000000) (disch := omega) only [go_sem, Int.reduceAdd, Int.reduceSub, Int.reduceMul, dec_t, dec_f, Nat.reduceBEq, Nat.reduceBNe, reduceShiftRight, reduceAnd, Nat.reduceAdd, Nat.reduceSub, reduceEqDiff, Nat.reduceLT, reduceLeDiff, reduceToNat, Int.reduceLT, Int.reduceLE, Int.reduceEq, reduceIte, reduceCtorEq]
  simp -implicitDefEqProofs (maxSteps := 10000000) (disch := omega) only [go_sem, Int.reduceAdd, Int.reduceSub, Int.reduceMul, dec_t, dec_f, Nat.reduceBEq, Nat.reduceBNe, reduceShiftRight, reduceAnd, Nat.reduceAdd, Nat.reduceSub, reduceEqDiff, Nat.reduceLT, reduceLeDiff, reduceToNat, Int.reduceLT, Int.reduceLE, Int.reduceEq, reduceIte, reduceCtorEq, b10]
  cases v10
  · simp -implicitDefEqProofs (maxSteps := 10000000) (disch := omega) only [go_sem, Int.reduceAdd, Int.reduceSub, Int.reduceMul, dec_t, dec_f, Nat.reduceBEq, Nat.reduceBNe, reduceShiftRight, reduceAnd, Nat.reduceAdd, Nat.reduceSub, reduceEqDiff, Nat.reduceLT, reduceLeDiff, reduceToNat, Int.reduceLT, Int.reduceLE, Int.reduceEq, reduceIte, reduceCtorEq]
  simp -implicitDefEqProofs (maxSteps := 10000000) (disch := omega) only [go_sem, Int.reduceAdd, Int.reduceSub, Int.reduceMul, dec_t, dec_f, Nat.reduceBEq, Nat.reduceBNe, reduceShiftRight, reduceAnd, Nat.reduceAdd, Nat.reduceSub, reduceEqDiff, Nat.reduceLT, reduceLeDiff, reduceToNat, Int.reduceLT, Int.reduceLE, Int.reduceEq, reduceIte, reduceCtorEq, b11]
  cases v11
  · simp -implicitDefEqProofs (maxSteps := 10000000) (disch := omega) only [go_sem, Int.reduceAdd, Int.reduceSub, Int.reduceMul, dec_t, dec_f, Nat.reduceBEq, Nat.reduceBNe, reduceShiftRight, reduceAnd, Nat.reduceAdd, Nat.reduceSub, reduceEqDiff, Nat.reduceLT, reduceLeDiff, reduceToNat, Int.reduceLT, Int.reduceLE, Int.reduceEq, reduceIte, reduceCtorEq]
  simp -implicitDefEqProofs (maxSteps := 10000000) (disch := omega) only [go_sem, Int.reduceAdd, Int.reduceSub, Int.reduceMul, dec_t, dec_f, Nat.reduceBEq, Nat.reduceBNe, reduceShiftRight, reduceAnd, Nat.reduceAdd, Nat.reduceSub, reduceEqDiff, Nat.reduceLT, reduceLeDiff, reduceToNat, Int.reduceLT, Int.reduceLE, Int.reduceEq, reduceIte, reduceCtorEq, b12]
  cases v12
  · simp -implicitDefEqProofs (maxSteps := 10000000) (disch := omega) only [go_sem, Int.reduceAdd, Int.reduceSub, Int.reduceMul, dec_t, dec_f, Nat.reduceBEq, Nat.reduceBNe, reduceShiftRight, reduceAnd, Nat.reduceAdd, Nat.reduceSub, reduceEqDiff, Nat.reduceLT, reduceLeDiff, reduceToNat, Int.reduceLT, Int.reduceLE, Int.reduceEq, reduceIte, reduceCtorEq]
  simp -implicitDefEqProofs (maxSteps := 10000000) (disch := omega) only [go_sem, Int.reduceAdd, Int.reduceSub, Int.reduceMul, dec_t, dec_f, Nat.reduceBEq, Nat.reduceBNe, reduceShiftRight, reduceAnd, Nat.reduceAdd, Nat.reduceSub, reduceEqDiff, Nat.reduceLT, reduceLeDiff, reduceToNat, Int.reduceLT, Int.reduceLE, Int.reduceEq, reduceIte, reduceCtorEq, b13]
  cases v13
  · simp -implicitDefEqProofs (maxSteps := 10000000) (disch := omega) only [go_sem, Int.reduceAdd, Int.reduceSub, Int.reduceMul, dec_t, dec_f, Nat.reduceBEq, Nat.reduceBNe, reduceShiftRight, reduceAnd, Nat.reduceAdd, Nat.reduceSub, reduceEqDiff, Nat.reduceLT, reduceLeDiff, reduceToNat, Int.reduceLT, Int.reduceLE, Int.reduceEq, reduceIte, reduceCtorEq]
  simp -implicitDefEqProofs (maxSteps := 10000000) (disch := omega) only [go_sem, Int.reduceAdd, Int.reduceSub, Int.reduceMul, dec_t, dec_f, Nat.reduceBEq, Nat.reduceBNe, reduceShiftRight, reduceAnd, Nat.reduceAdd, Nat.reduceSub, reduceEqDiff, Nat.reduceLT, reduceLeDiff, reduceToNat, Int.reduceLT, Int.reduceLE, Int.reduceEq, reduceIte, reduceCtorEq, b15]
theorem t16k (a b : Rq) (hlen : a.chg.length = b.chg.length) : ∀ (r s : List Ch) (j : Nat) (x : Int), x = j → a.chg.drop j = r → b.chg.drop j = s →
    ∃ x' st', n16_18 ⟨[(2, .ptr 0 1 0 0), (3, .ptr 1 1 0 0), (7, .d (.lit (.int .i64 x)))], [⟨30, [.d (.agg [.lit (.int .i64 a.id), .lit (.int .i64 a.kd), .str (bs a.nm), .lit (.int .i64 a.ver), .lit (.int .i64 a.mth), .str (bs a.sec), .lit (.int .i64 a.scp), .lit (.int .i64 a.mst), .lit (.bool a.typ), .lit (.int .i64 (kind a.flt)), .str (bs (name a.flt)), .str (bs (value a.flt)), .str (bs (ini a.flt)), .sl (List.map encS (any a.flt)), .str (bs (fin a.flt)), .lit (.bool (hi a.flt)), .lit (.bool (hf a.flt)), .str (bs (rule a.flt)), .lit (.bool (dn a.flt)), .sl (List.map encO (kids a.flt)), .sl (List.map encS a.att), .sl (List.map encC a.chg), .sl (List.map encV a.vls), .str (bs a.rdn), .lit (.bool a.kep), .str (bs a.abv), .lit (.bool a.hab), .str (bs a.pn), .str (bs a.pv), .lit (.int .i64 a.tgt)])], false, false, false⟩, ⟨30, [.d (.agg [.lit (.int .i64 b.id), .lit (.int .i64 b.kd), .str (bs b.nm), .lit (.int .i64 b.ver), .lit (.int .i64 b.mth), .str (bs b.sec), .lit (.int .i64 b.scp), .lit (.int .i64 b.mst), .lit (.bool b.typ), .lit (.int .i64 (kind b.flt)), .str (bs (name b.flt)), .str (bs (value b.flt)), .str (bs (ini b.flt)), .sl (List.map encS (any b.flt)), .str (bs (fin b.flt)), .lit (.bool (hi b.flt)), .lit (.bool (hf b.flt)), .str (bs (rule b.flt)), .lit (.bool (dn b.flt)), .sl (List.map encO (kids b.flt)), .sl (List.map encS b.att), .sl (List.map encC b.chg), .sl (List.map encV b.vls), .str (bs b.rdn), .lit (.bool b.kep), .str (bs b.abv), .lit (.bool b.hab), .str (bs b.pn), .str (bs b.pv), .lit (.int .i64 b.tgt)])], false, false, false⟩]⟩ =
      some (bif dq r s then (.exit 0, ⟨[(2, .ptr 0 1 0 0), (3, .ptr 1 1 0 0), (7, x'), (130, .d (.lit (.bool false)))], [⟨30, [.d (.agg [.lit (.int .i64 a.id), .lit (.int .i64 a.kd), .str (bs a.nm), .lit (.int .i64 a.ver), .lit (.int .i64 a.mth), .str (bs a.sec), .lit (.int .i64 a.scp), .lit (.int .i64 a.mst), .lit (.bool a.typ), .lit (.int .i64 (kind a.flt)), .str (bs (name a.flt)), .str (bs (value a.flt)), .str (bs (ini a.flt)), .sl (List.map encS (any a.flt)), .str (bs (fin a.flt)), .lit (.bool (hi a.flt)), .lit (.bool (hf a.flt)), .str (bs (rule a.flt)), .lit (.bool (dn a.flt)), .sl (List.map encO (kids a.flt)), .sl (List.map encS a.att), .sl (List.map encC a.chg), .sl (List.map encV a.vls), .str (bs a.rdn), .lit (.bool a.kep), .str (bs a.abv), .lit (.bool a.hab), .str (bs a.pn), .str (bs a.pv), .lit (.int .i64 a.tgt)])], false, false, false⟩, ⟨30, [.d (.agg [.lit (.int .i64 b.id), .lit (.int .i64 b.kd), .str (bs b.nm), .lit (.int .i64 b.ver), .lit (.int .i64 b.mth), .str (bs b.sec), .lit (.int .i64 b.scp), .lit (.int .i64 b.mst), .lit (.bool b.typ), .lit (.int .i64 (kind b.flt)), .str (bs (name b.flt)), .str (bs (value b.flt)), .str (bs (ini b.flt)), .sl (List.map encS (any b.flt)), .str (bs (fin b.flt)), .lit (.bool (hi b.flt)), .lit (.bool (hf b.flt)), .str (bs (rule b.flt)), .lit (.bool (dn b.flt)), .sl (List.map encO (kids b.flt)), .sl (List.map encS b.att), .sl (List.map encC b.chg), .sl (List.map encV b.vls), .str (bs b.rdn), .lit (.bool b.kep), .str (bs b.abv), .lit (.bool b.hab), .str (bs b.pn), .str (bs b.pv), .lit (.int .i64 b.tgt)])], false, false, false⟩]⟩) else (.ret, ⟨[(4, .d (.lit (.bool false)))], st'⟩)) := by
  have hla := a.chg_le
  intro r
  induction r with
  | nil =>
    intro s j x hx hd hd2
    have hd := drop_nil hd
    have hs : s = [] := by rw [← hd2]; exact List.drop_eq_nil_of_le (by omega)
    refine ⟨.d (.lit (.int .i64 x)), [], ?_⟩
    rw [r_n16_18, dq_t hs.symm]
    simp -implicitDefEqProofs (maxSteps := 10000000) (disch := omega) only [go_sem, Int.reduceAdd, Int.reduceSub, Int.reduceMul, dec_t, dec_f, Nat.reduceBEq, Nat.reduceBNe, reduceShiftRight, reduceAnd, Nat.reduceAdd, Nat.reduceSub, reduceEqDiff, Nat.reduceLT, reduceLeDiff, reduceToNat, Int.reduceLT, Int.reduceLE, Int.reduceEq, reduceIte, reduceCtorEq]
  | cons c r ih =>
    intro s j x hx hd hd2
    obtain ⟨g1, g2, g3, g4⟩ := drop_cons hd
    cases s with
    | nil => have := drop_nil hd2; omega
    | cons d s =>
      obtain ⟨f1, f2, f3, f4⟩ := drop_cons hd2
      have hnat : Int.toNat x = j := by omega
      obtain ⟨x', st', h⟩ := ih s (j + 1) (x + 1) (by omega) g3 f3
      rw [dq_cons, dq_Ch]
      have b0 := dq_int (ck c) (ck d)
      have b1 := beq_dq (cn c) (cn d)
      have h43 := t43 (cv c) (cv d) (cv_le c) (cv_le d)
      generalize dq r s = w at h ⊢
      generalize dq (ck c) (ck d) = v0 at b0 ⊢
      generalize dq (cn c) (cn d) = v1 at b1 ⊢
      generalize dq (cv c) (cv d) = v2 at h43 ⊢
      clear ih
      rw [r_n16_18]
      cases v0
      · refine ⟨.undef, [⟨30, [.d (.agg [.lit (.int .i64 a.id), .lit (.int .i64 a.kd), .str (bs a.nm), .lit (.int .i64 a.ver), .lit (.int .i64 a.mth), .str (bs a.sec), .lit (.int .i64 a.scp), .lit (.int .i64 a.mst), .lit (.bool a.typ), .lit (.int .i64 (kind a.flt)), .str (bs (name a.flt)), .str (bs (value a.flt)), .str (bs (ini a.flt)), .sl (List.map encS (any a.flt)), .str (bs (fin a.flt)), .lit (.bool (hi a.flt)), .lit (.bool (hf a.flt)), .str (bs (rule a.flt)), .lit (.bool (dn a.flt)), .sl (List.map encO (kids a.flt)), .sl (List.map encS a.att), .sl (List.map encC a.chg), .sl (List.map encV a.vls), .str (bs a.rdn), .lit (.bool a.kep), .str (bs a.abv), .lit (.bool a.hab), .str (bs a.pn), .str (bs a.pv), .lit (.int .i64 a.tgt)])], false, false, false⟩, ⟨30, [.d (.agg [.lit (.int .i64 b.id), .lit (.int .i64 b.kd), .str (bs b.nm), .lit (.int .i64 b.ver), .lit (.int .i64 b.mth), .str (bs b.sec), .lit (.int .i64 b.scp), .lit (.int .i64 b.mst), .lit (.bool b.typ), .lit (.int .i64 (kind b.flt)), .str (bs (name b.flt)), .str (bs (value b.flt)), .str (bs (ini b.flt)), .sl (List.map encS (any b.flt)), .str (bs (fin b.flt)), .lit (.bool (hi b.flt)), .lit (.bool (hf b.flt)), .str (bs (rule b.flt)), .lit (.bool (dn b.flt)), .sl (List.map encO (kids b.flt)), .sl (List.map encS b.att), .sl (List.map encC b.chg), .sl (List.map encV b.vls), .str (bs b.rdn), .lit (.bool b.kep), .str (bs b.abv), .lit (.bool b.hab), .str (bs b.pn), .str (bs b.pv), .lit (.int .i64 b.tgt)])], false, false, false⟩] ++ [⟨3, [.d (.agg [.lit (.int .i64 (ck c)), .str (bs (cn c)), .sl (List.map encS (cv c))])], false, false, false⟩, ⟨3, [.d (.agg [.lit (.int .i64 (ck d)), .str (bs (cn d)), .sl (List.map encS (cv d))])], false, false, false⟩], ?_⟩
        simp -implicitDefEqProofs (maxSteps := 10000000) (disch := omega) only [go_sem, Int.reduceAdd, Int.reduceSub, Int.reduceMul, dec_t, dec_f, Nat.reduceBEq, Nat.reduceBNe, reduceShiftRight, reduceAnd, Nat.reduceAdd, Nat.reduceSub, reduceEqDiff, Nat.reduceLT, reduceLeDiff, reduceToNat, Int.reduceLT, Int.reduceLE, Int.reduceEq, reduceIte, reduceCtorEq, g2, f2, hnat, b0]
      cases v1
      · refine ⟨.undef, [⟨30, [.d (.agg [.lit (.int .i64 a.id), .lit (.int .i64 a.kd), .str (bs a.nm), .lit (.int .i64 a.ver), .lit (.int .i64 a.mth), .str (bs a.sec), .lit (.int .i64 a.scp), .lit (.int .i64 a.mst), .lit (.bool a.typ), .lit (.int .i64 (kind a.flt)), .str (bs (name a.flt)), .str (bs (value a.flt)), .str (bs (ini a.flt)), .sl (List.map encS (any a.flt)), .str (bs (fin a.flt)), .lit (.bool (hi a.flt)), .lit (.bool (hf a.flt)), .str (bs (rule a.flt)), .lit (.bool (dn a.flt)), .sl (List.map encO (kids a.flt)), .sl (List.map encS a.att), .sl (List.map encC a.chg), .sl (List.map encV a.vls), .str (bs a.rdn), .lit (.bool a.kep), .str (bs a.abv), .lit (.bool a.hab), .str (bs a.pn), .str (bs a.pv), .lit (.int .i64 a.tgt)])], false, false, false⟩, ⟨30, [.d (.agg [.lit (.int .i64 b.id), .lit (.int .i64 b.kd), .str (bs b.nm), .lit (.int .i64 b.ver), .lit (.int .i64 b.mth), .str (bs b.sec), .lit (.int .i64 b.scp), .lit (.int .i64 b.mst), .lit (.bool b.typ), .lit (.int .i64 (kind b.flt)), .str (bs (name b.flt)), .str (bs (value b.flt)), .str (bs (ini b.flt)), .sl (List.map encS (any b.flt)), .str (bs (fin b.flt)), .lit (.bool (hi b.flt)), .lit (.bool (hf b.flt)), .str (bs (rule b.flt)), .lit (.bool (dn b.flt)), .sl (List.map encO (kids b.flt)), .sl (List.map encS b.att), .sl (List.map encC b.chg), .sl (List.map encV b.vls), .str (bs b.rdn), .lit (.bool b.kep), .str (bs b.abv), .lit (.bool b.hab), .str (bs b.pn), .str (bs b.pv), .lit (.int .i64 b.tgt)])], false, false, false⟩] ++ [⟨3, [.d (.agg [.lit (.int .i64 (ck c)), .str (bs (cn c)), .sl (List.map encS (cv c))])], false, false, false⟩, ⟨3, [.d (.agg [.lit (.int .i64 (ck d)), .str (bs (cn d)), .sl (List.map encS (cv d))])], false, false, false⟩], ?_⟩
        simp -implicitDefEqProofs (maxSteps := 10000000) (disch := omega) only [go_sem, Int.reduceAdd, Int.reduceSub, Int.reduceMul, dec_t, dec_f, Nat.reduceBEq, Nat.reduceBNe, reduceShiftRight, reduceAnd, Nat.reduceAdd, Nat.reduceSub, reduceEqDiff, Nat.reduceLT, reduceLeDiff, reduceToNat, Int.reduceLT, Int.reduceLE, Int.reduceEq, reduceIte, reduceCtorEq, g2, f2, hnat, b0, b1]
      cases v2
      · refine ⟨.undef, [⟨30, [.d (.agg [.lit (.int .i64 a.id), .lit (.int .i64 a.kd), .str (bs a.nm), .lit (.int .i64 a.ver), .lit (.int .i64 a.mth), .str (bs a.sec), .lit (.int .i64 a.scp), .lit (.int .i64 a.mst), .lit (.bool a.typ), .lit (.int .i64 (kind a.flt)), .str (bs (name a.flt)), .str (bs (value a.flt)), .str (bs (ini a.flt)), .sl (List.map encS (any a.flt)), .str (bs (fin a.flt)), .lit (.bool (hi a.flt)), .lit (.bool (hf a.flt)), .str (bs (rule a.flt)), .lit (.bool (dn a.flt)), .sl (List.map encO (kids a.flt)), .sl (List.map encS a.att), .sl (List.map encC a.chg), .sl (List.map encV a.vls), .str (bs a.rdn), .lit (.bool a.kep), .str (bs a.abv), .lit (.bool a.hab), .str (bs a.pn), .str (bs a.pv), .lit (.int .i64 a.tgt)])], false, false, false⟩, ⟨30, [.d (.agg [.lit (.int .i64 b.id), .lit (.int .i64 b.kd), .str (bs b.nm), .lit (.int .i64 b.ver), .lit (.int .i64 b.mth), .str (bs b.sec), .lit (.int .i64 b.scp), .lit (.int .i64 b.mst), .lit (.bool b.typ), .lit (.int .i64 (kind b.flt)), .str (bs (name b.flt)), .str (bs (value b.flt)), .str (bs (ini b.flt)), .sl (List.map encS (any b.flt)), .str (bs (fin b.flt)), .lit (.bool (hi b.flt)), .lit (.bool (hf b.flt)), .str (bs (rule b.flt)), .lit (.bool (dn b.flt)), .sl (List.map encO (kids b.flt)), .sl (List.map encS b.att), .sl (List.map encC b.chg), .sl (List.map encV b.vls), .str (bs b.rdn), .lit (.bool b.kep), .str (bs b.abv), .lit (.bool b.hab), .str (bs b.pn), .str (bs b.pv), .lit (.int .i64 b.tgt)])], false, false, false⟩] ++ [⟨3, [.d (.agg [.lit (.int .i64 (ck c)), .str (bs (cn c)), .sl (List.map encS (cv c))])], false, false, false⟩, ⟨3, [.d (.agg [.lit (.int .i64 (ck d)), .str (bs (cn d)), .sl (List.map encS (cv d))])], false, false, false⟩], ?_⟩
        simp -implicitDefEqProofs (maxSteps := 10000000) (disch := omega) only [go_sem, Int.reduceAdd, Int.reduceSub, Int.reduceMul, dec_t, dec_f, Nat.reduceBEq, Nat.reduceBNe, reduceShiftRight, reduceAnd, Nat.reduceAdd, Nat.reduceSub, reduceEqDiff, Nat.reduceLT, reduceLeDiff, reduceToNat, Int.reduceLT, Int.reduceLE, Int.reduceEq, reduceIte, reduceCtorEq, g2, f2, hnat, b0, b1, h43]
      · refine ⟨x', st', ?_⟩
        simp -implicitDefEqProofs (maxSteps := 10000000) (disch := omega) only [go_sem, Int.reduceAdd, Int.reduceSub, Int.reduceMul, dec_t, dec_f, Nat.reduceBEq, Nat.reduceBNe, reduceShiftRight, reduceAnd, Nat.reduceAdd, Nat.reduceSub, reduceEqDiff, Nat.reduceLT, reduceLeDiff, reduceToNat, Int.reduceLT, Int.reduceLE, Int.reduceEq, reduceIte, reduceCtorEq, g2, f2, hnat, b0, b1, h43, h]
set_option maxRecDepth 10000
set_option maxHeartbeats 4000000
theorem t16 (a b : Rq) : pureCall C 16 [(.agg [.lit (.int .i64 a.id), .lit (.int .i64 a.kd), .str (bs a.nm), .lit (.int .i64 a.ver), .lit (.int .i64 a.mth), .str (bs a.sec), .lit (.int .i64 a.scp), .lit (.int .i64 a.mst), .lit (.bool a.typ), .lit (.int .i64 (kind a.flt)), .str (bs (name a.flt)), .str (bs (value a.flt)), .str (bs (ini a.flt)), .sl (List.map encS (any a.flt)), .str (bs (fin a.flt)), .lit (.bool (hi a.flt)), .lit (.bool (hf a.flt)), .str (bs (rule a.flt)), .lit (.bool (dn a.flt)), .sl (List.map encO (kids a.flt)), .sl (List.map encS a.att), .sl (List.map encC a.chg), .sl (List.map encV a.vls), .str (bs a.rdn), .lit (.bool a.kep), .str (bs a.abv), .lit (.bool a.hab), .str (bs a.pn), .str (bs a.pv), .lit (.int .i64 a.tgt)]), (.agg [.lit (.int .i64 b.id), .lit (.int .i64 b.kd), .str (bs b.nm), .lit (.int .i64 b.ver), .lit (.int .i64 b.mth), .str (bs b.sec), .lit (.int .i64 b.scp), .lit (.int .i64 b.mst), .lit (.bool b.typ), .lit (.int .i64 (kind b.flt)), .str (bs (name b.flt)), .str (bs (value b.flt)), .str (bs (ini b.flt)), .sl (List.map encS (any b.flt)), .str (bs (fin b.flt)), .lit (.bool (hi b.flt)), .lit (.bool (hf b.flt)), .str (bs (rule b.flt)), .lit (.bool (dn b.flt)), .sl (List.map encO (kids b.flt)), .sl (List.map encS b.att), .sl (List.map encC b.chg), .sl (List.map encV b.vls), .str (bs b.rdn), .lit (.bool b.kep), .str (bs b.abv), .lit (.bool b.hab), .str (bs b.pn), .str (bs b.pv), .lit (.int .i64 b.tgt)])] = some (tf ((dq a.id b.id && (dq a.kd b.kd && (dq a.nm b.nm && (dq a.ver b.ver && (dq a.mth b.mth && (dq a.sec b.sec && (dq a.scp b.scp && (dq a.mst b.mst && dq a.typ b.typ)))))))) && ((dq a.rdn b.rdn && (dq a.kep b.kep && (dq a.abv b.abv && (dq a.hab b.hab && ((dq a.pn b.pn && dq a.pv b.pv) && dq a.tgt b.tgt))))) && (dq a.chg b.chg && (dq a.flt b.flt && (dq a.att b.att && dq a.vls b.vls)))))) := by
  have ha := t16a a b
  have h44 := t44 a.flt b.flt
  have h43 := t43 a.att b.att a.att_le b.att_le
  have h45 := t45 a.vls b.vls a.vls_le b.vls_le
  have b6 := dq_int (a.chg.length : Nat) (b.chg.length : Nat)
  generalize (dq a.id b.id && (dq a.kd b.kd && (dq a.nm b.nm && (dq a.ver b.ver && (dq a.mth b.mth && (dq a.sec b.sec && (dq a.scp b.scp && (dq a.mst b.mst && dq a.typ b.typ)))))))) = e1 at ha ⊢
  have hb := t16b a b e1
  generalize (dq a.rdn b.rdn && (dq a.kep b.kep && (dq a.abv b.abv && (dq a.hab b.hab && ((dq a.pn b.pn && dq a.pv b.pv) && dq a.tgt b.tgt))))) = e2 at hb ⊢
  generalize dq a.flt b.flt = v1 at h44 ⊢
  generalize dq a.att b.att = v2 at h43 ⊢
  generalize dq a.vls b.vls = v3 at h45 ⊢
  generalize hv6 : dq ((a.chg.length : Nat) : Int) (b.chg.length : Nat) = v6 at b6
  rw [p16]
  simp -implicitDefEqProofs (maxSteps := 10000000) (disch := omega) only [go_sem, Int.reduceAdd, Int.reduceSub, Int.reduceMul, dec_t, dec_f, Nat.reduceBEq, Nat.reduceBNe, reduceShiftRight, reduceAnd, Nat.reduceAdd, Nat.reduceSub, reduceEqDiff, Nat.reduceLT, reduceLeDiff, reduceToNat, Int.reduceLT, Int.reduceLE, Int.reduceEq, reduceIte, reduceCtorEq, ↓ha, ↓hb, b6]
  cases e1
  · simp -implicitDefEqProofs (maxSteps := 10000000) (disch := omega) only [go_sem, Int.reduceAdd, Int.reduceSub, Int.reduceMul, dec_t, dec_f, Nat.reduceBEq, Nat.reduceBNe, reduceShiftRight, reduceAnd, Nat.reduceAdd, Nat.reduceSub, reduceEqDiff, Nat.reduceLT, reduceLeDiff, reduceToNat, Int.reduceLT, Int.reduceLE, Int.reduceEq, reduceIte, reduceCtorEq]
  simp -implicitDefEqProofs (maxSteps := 10000000) (disch := omega) only [go_sem, Int.reduceAdd, Int.reduceSub, Int.reduceMul, dec_t, dec_f, Nat.reduceBEq, Nat.reduceBNe, reduceShiftRight, reduceAnd, Nat.reduceAdd, Nat.reduceSub, reduceEqDiff, Nat.reduceLT, reduceLeDiff, reduceToNat, Int.reduceLT, Int.reduceLE, Int.reduceEq, reduceIte, reduceCtorEq, b6]
  cases e2
  · simp -implicitDefEqProofs (maxSteps := 10000000) (disch := omega) only [go_sem, Int.reduceAdd, Int.reduceSub, Int.reduceMul, dec_t, dec_f, Nat.reduceBEq, Nat.reduceBNe, reduceShiftRight, reduceAnd, Nat.reduceAdd, Nat.reduceSub, reduceEqDiff, Nat.reduceLT, reduceLeDiff, reduceToNat, Int.reduceLT, Int.reduceLE, Int.reduceEq, reduceIte, reduceCtorEq]
  simp -implicitDefEqProofs (maxSteps := 10000000) (disch := omega) only [go_sem, Int.reduceAdd, Int.reduceSub, Int.reduceMul, dec_t, dec_f, Nat.reduceBEq, Nat.reduceBNe, reduceShiftRight, reduceAnd, Nat.reduceAdd, Nat.reduceSub, reduceEqDiff, Nat.reduceLT, reduceLeDiff, reduceToNat, Int.reduceLT, Int.reduceLE, Int.reduceEq, reduceIte, reduceCtorEq, b6]
  cases v6
  · have hlen : ¬ a.chg.length = b.chg.length := fun e => by rw [e, dq_self] at hv6; cases hv6
    rw [dq_len hlen]
    simp -implicitDefEqProofs (maxSteps := 10000000) (disch := omega) only [go_sem, Int.reduceAdd, Int.reduceSub, Int.reduceMul, dec_t, dec_f, Nat.reduceBEq, Nat.reduceBNe, reduceShiftRight, reduceAnd, Nat.reduceAdd, Nat.reduceSub, reduceEqDiff, Nat.reduceLT, reduceLeDiff, reduceToNat, Int.reduceLT, Int.reduceLE, Int.reduceEq, reduceIte, reduceCtorEq]
  have hlen : a.chg.length = b.chg.length := by
    have := dq_true.1 hv6
    omega
  obtain ⟨x', st', h⟩ := t16k a b hlen a.chg b.chg 0 0 rfl rfl rfl
  generalize dq a.chg b.chg = w at h ⊢
  simp -implicitDefEqProofs (maxSteps := 10000000) (disch := omega) only [go_sem, Int.reduceAdd, Int.reduceSub, Int.reduceMul, dec_t, dec_f, Nat.reduceBEq, Nat.reduceBNe, reduceShiftRight, reduceAnd, Nat.reduceAdd, Nat.reduceSub, reduceEqDiff, Nat.reduceLT, reduceLeDiff, reduceToNat, Int.reduceLT, Int.reduceLE, Int.reduceEq, reduceIte, reduceCtorEq]
  cases w
  · simp -implicitDefEqProofs (maxSteps := 10000000) (disch := omega) only [go_sem, Int.reduceAdd, Int.reduceSub, Int.reduceMul, dec_t, dec_f, Nat.reduceBEq, Nat.reduceBNe, reduceShiftRight, reduceAnd, Nat.reduceAdd, Nat.reduceSub, reduceEqDiff, Nat.reduceLT, reduceLeDiff, reduceToNat, Int.reduceLT, Int.reduceLE, Int.reduceEq, reduceIte, reduceCtorEq, h]
  simp -implicitDefEqProofs (maxSteps := 10000000) (disch := omega) only [go_sem, Int.reduceAdd, Int.reduceSub, Int.reduceMul, dec_t, dec_f, Nat.reduceBEq, Nat.reduceBNe, reduceShiftRight, reduceAnd, Nat.reduceAdd, Nat.reduceSub, reduceEqDiff, Nat.reduceLT, reduceLeDiff, reduceToNat, Int.reduceLT, Int.reduceLE, Int.reduceEq, reduceIte, reduceCtorEq, h, h44]
  cases v1
  · simp -implicitDefEqProofs (maxSteps := 10000000) (disch := omega) only [go_sem, Int.reduceAdd, Int.reduceSub, Int.reduceMul, dec_t, dec_f, Nat.reduceBEq, Nat.reduceBNe, reduceShiftRight, reduceAnd, Nat.reduceAdd, Nat.reduceSub, reduceEqDiff, Nat.reduceLT, reduceLeDiff, reduceToNat, Int.reduceLT, Int.reduceLE, Int.reduceEq, reduceIte, reduceCtorEq]
  simp -implicitDefEqProofs (maxSteps := 10000000) (disch := omega) only [go_sem, Int.reduceAdd, Int.reduceSub, Int.reduceMul, dec_t, dec_f, Nat.reduceBEq, Nat.reduceBNe, reduceShiftRight, reduceAnd, Nat.reduceAdd, Nat.reduceSub, reduceEqDiff, Nat.reduceLT, reduceLeDiff, reduceToNat, Int.reduceLT, Int.reduceLE, Int.reduceEq, reduceIte, reduceCtorEq, h43]
  cases v2
  · simp -implicitDefEqProofs (maxSteps := 10000000) (disch := omega) only [go_sem, Int.reduceAdd, Int.reduceSub, Int.reduceMul, dec_t, dec_f, Nat.reduceBEq, Nat.reduceBNe, reduceShiftRight, reduceAnd, Nat.reduceAdd, Nat.reduceSub, reduceEqDiff, Nat.reduceLT, reduceLeDiff, reduceToNat, Int.reduceLT, Int.reduceLE, Int.reduceEq, reduceIte, reduceCtorEq]
  simp -implicitDefEqProofs (maxSteps := 10000000) (disch := omega) only [go_sem, Int.reduceAdd, Int.reduceSub, Int.reduceMul, dec_t, dec_f, Nat.reduceBEq, Nat.reduceBNe, reduceShiftRight, reduceAnd, Nat.reduceAdd, Nat.reduceSub, reduceEqDiff, Nat.reduceLT, reduceLeDiff, reduceToNat, Int.reduceLT, Int.reduceLE, Int.reduceEq, reduceIte, reduceCtorEq, h45]
set_option maxRecDepth 10000
set_option maxHeartbeats 4000000
theorem t8a (r : Rq) : ∀ (t : List Bs) (j : Nat) (x : Int), x = j → r.att.drop j = t →
    (∃ x', n8_14 ⟨[(1, .ptr 0 1 0 0), (3, .d (.lit (.int .i64 x)))], [⟨30, [.d (.agg [.lit (.int .i64 r.id), .lit (.int .i64 r.kd), .str (bs r.nm), .lit (.int .i64 r.ver), .lit (.int .i64 r.mth), .str (bs r.sec), .lit (.int .i64 r.scp), .lit (.int .i64 r.mst), .lit (.bool r.typ), .lit (.int .i64 (kind r.flt)), .str (bs (name r.flt)), .str (bs (value r.flt)), .str (bs (ini r.flt)), .sl (List.map encS (any r.flt)), .str (bs (fin r.flt)), .lit (.bool (hi r.flt)), .lit (.bool (hf r.flt)), .str (bs (rule r.flt)), .lit (.bool (dn r.flt)), .sl (List.map encO (kids r.flt)), .sl (List.map encS r.att), .sl (List.map encC r.chg), .sl (List.map encV r.vls), .str (bs r.rdn), .lit (.bool r.kep), .str (bs r.abv), .lit (.bool r.hab), .str (bs r.pn), .str (bs r.pv), .lit (.int .i64 r.tgt)])], false, false, false⟩]⟩ = some (.exit 0, ⟨[(1, .ptr 0 1 0 0), (3, x'), (31, .d (.lit (.bool false)))], [⟨30, [.d (.agg [.lit (.int .i64 r.id), .lit (.int .i64 r.kd), .str (bs r.nm), .lit (.int .i64 r.ver), .lit (.int .i64 r.mth), .str (bs r.sec), .lit (.int .i64 r.scp), .lit (.int .i64 r.mst), .lit (.bool r.typ), .lit (.int .i64 (kind r.flt)), .str (bs (name r.flt)), .str (bs (value r.flt)), .str (bs (ini r.flt)), .sl (List.map encS (any r.flt)), .str (bs (fin r.flt)), .lit (.bool (hi r.flt)), .lit (.bool (hf r.flt)), .str (bs (rule r.flt)), .lit (.bool (dn r.flt)), .sl (List.map encO (kids r.flt)), .sl (List.map encS r.att), .sl (List.map encC r.chg), .sl (List.map encV r.vls), .str (bs r.rdn), .lit (.bool r.kep), .str (bs r.abv), .lit (.bool r.hab), .str (bs r.pn), .str (bs r.pv), .lit (.int .i64 r.tgt)])], false, false, false⟩]⟩)) ∨
    n8_14 ⟨[(1, .ptr 0 1 0 0), (3, .d (.lit (.int .i64 x)))], [⟨30, [.d (.agg [.lit (.int .i64 r.id), .lit (.int .i64 r.kd), .str (bs r.nm), .lit (.int .i64 r.ver), .lit (.int .i64 r.mth), .str (bs r.sec), .lit (.int .i64 r.scp), .lit (.int .i64 r.mst), .lit (.bool r.typ), .lit (.int .i64 (kind r.flt)), .str (bs (name r.flt)), .str (bs (value r.flt)), .str (bs (ini r.flt)), .sl (List.map encS (any r.flt)), .str (bs (fin r.flt)), .lit (.bool (hi r.flt)), .lit (.bool (hf r.flt)), .str (bs (rule r.flt)), .lit (.bool (dn r.flt)), .sl (List.map encO (kids r.flt)), .sl (List.map encS r.att), .sl (List.map encC r.chg), .sl (List.map encV r.vls), .str (bs r.rdn), .lit (.bool r.kep), .str (bs r.abv), .lit (.bool r.hab), .str (bs r.pn), .str (bs r.pv), .lit (.int .i64 r.tgt)])], false, false, false⟩]⟩ = some (.ret, ⟨[(2, .d (.lit (.bool false)))], [⟨30, [.d (.agg [.lit (.int .i64 r.id), .lit (.int .i64 r.kd), .str (bs r.nm), .lit (.int .i64 r.ver), .lit (.int .i64 r.mth), .str (bs r.sec), .lit (.int .i64 r.scp), .lit (.int .i64 r.mst), .lit (.bool r.typ), .lit (.int .i64 (kind r.flt)), .str (bs (name r.flt)), .str (bs (value r.flt)), .str (bs (ini r.flt)), .sl (List.map encS (any r.flt)), .str (bs (fin r.flt)), .lit (.bool (hi r.flt)), .lit (.bool (hf r.flt)), .str (bs (rule r.flt)), .lit (.bool (dn r.flt)), .sl (List.map encO (kids r.flt)), .sl (List.map encS r.att), .sl (List.map encC r.chg), .sl (List.map encV r.vls), .str (bs r.rdn), .lit (.bool r.kep), .str (bs r.abv), .lit (.bool r.hab), .str (bs r.pn), .str (bs r.pv), .lit (.int .i64 r.tgt)])], false, false, false⟩]⟩) := by
  have hla := r.att_le
  intro t
  induction t with
  | nil =>
    intro j x hx hd
    have hd := drop_nil hd
    refine .inl ⟨.d (.lit (.int .i64 x)), ?_⟩
    rw [r_n8_14]
    simp -implicitDefEqProofs (maxSteps := 10000000) (disch := omega) only [go_sem, Int.reduceAdd, Int.reduceSub, Int.reduceMul, dec_t, dec_f, Nat.reduceBEq, Nat.reduceBNe, reduceShiftRight, reduceAnd, Nat.reduceAdd, Nat.reduceSub, reduceEqDiff, Nat.reduceLT, reduceLeDiff, reduceToNat, Int.reduceLT, Int.reduceLE, Int.reduceEq, reduceIte, reduceCtorEq]
  | cons c t ih =>
    intro j x hx hd
    obtain ⟨g1, g2, g3, g4⟩ := drop_cons hd
    have hnat : Int.toNat x = j := by omega
    have hb := bs_le c
    by_cases q : 1000 < (bs c).length
    · refine .inr ?_
      clear ih
      rw [r_n8_14]
      simp -implicitDefEqProofs (maxSteps := 10000000) (disch := omega) only [go_sem, Int.reduceAdd, Int.reduceSub, Int.reduceMul, dec_t, dec_f, Nat.reduceBEq, Nat.reduceBNe, reduceShiftRight, reduceAnd, Nat.reduceAdd, Nat.reduceSub, reduceEqDiff, Nat.reduceLT, reduceLeDiff, reduceToNat, Int.reduceLT, Int.reduceLE, Int.reduceEq, reduceIte, reduceCtorEq, g2, hnat]
    · rcases ih (j + 1) (x + 1) (by omega) g3 with ⟨x', h⟩ | h
      · refine .inl ⟨x', ?_⟩
        clear ih
        rw [r_n8_14]
        simp -implicitDefEqProofs (maxSteps := 10000000) (disch := omega) only [go_sem, Int.reduceAdd, Int.reduceSub, Int.reduceMul, dec_t, dec_f, Nat.reduceBEq, Nat.reduceBNe, reduceShiftRight, reduceAnd, Nat.reduceAdd, Nat.reduceSub, reduceEqDiff, Nat.reduceLT, reduceLeDiff, reduceToNat, Int.reduceLT, Int.reduceLE, Int.reduceEq, reduceIte, reduceCtorEq, g2, hnat, h]
      · refine .inr ?_
        clear ih
        rw [r_n8_14]
        simp -implicitDefEqProofs (maxSteps := 10000000) (disch := omega) only [go_sem, Int.reduceAdd, Int.reduceSub, Int.reduceMul, dec_t, dec_f, Nat.reduceBEq, Nat.reduceBNe, reduceShiftRight, reduceAnd, Nat.reduceAdd, Nat.reduceSub, reduceEqDiff, Nat.reduceLT, reduceLeDiff, reduceToNat, Int.reduceLT, Int.reduceLE, Int.reduceEq, reduceIte, reduceCtorEq, g2, hnat, h]
theorem t8b (r : Rq) : ∀ (t : List Ch) (j : Nat) (x : Int), x = j → r.chg.drop j = t →
    (∃ x', n8_35 ⟨[(1, .ptr 0 1 0 0), (4, .d (.lit (.int .i64 x)))], [⟨30, [.d (.agg [.lit (.int .i64 r.id), .lit (.int .i64 r.kd), .str (bs r.nm), .lit (.int .i64 r.ver), .lit (.int .i64 r.mth), .str (bs r.sec), .lit (.int .i64 r.scp), .lit (.int .i64 r.mst), .lit (.bool r.typ), .lit (.int .i64 (kind r.flt)), .str (bs (name r.flt)), .str (bs (value r.flt)), .str (bs (ini r.flt)), .sl (List.map encS (any r.flt)), .str (bs (fin r.flt)), .lit (.bool (hi r.flt)), .lit (.bool (hf r.flt)), .str (bs (rule r.flt)), .lit (.bool (dn r.flt)), .sl (List.map encO (kids r.flt)), .sl (List.map encS r.att), .sl (List.map encC r.chg), .sl (List.map encV r.vls), .str (bs r.rdn), .lit (.bool r.kep), .str (bs r.abv), .lit (.bool r.hab), .str (bs r.pn), .str (bs r.pv), .lit (.int .i64 r.tgt)])], false, false, false⟩]⟩ = some (.exit 2, ⟨[(1, .ptr 0 1 0 0), (4, x'), (45, .d (.lit (.bool false)))], [⟨30, [.d (.agg [.lit (.int .i64 r.id), .lit (.int .i64 r.kd), .str (bs r.nm), .lit (.int .i64 r.ver), .lit (.int .i64 r.mth), .str (bs r.sec), .lit (.int .i64 r.scp), .lit (.int .i64 r.mst), .lit (.bool r.typ), .lit (.int .i64 (kind r.flt)), .str (bs (name r.flt)), .str (bs (value r.flt)), .str (bs (ini r.flt)), .sl (List.map encS (any r.flt)), .str (bs (fin r.flt)), .lit (.bool (hi r.flt)), .lit (.bool (hf r.flt)), .str (bs (rule r.flt)), .lit (.bool (dn r.flt)), .sl (List.map encO (kids r.flt)), .sl (List.map encS r.att), .sl (List.map encC r.chg), .sl (List.map encV r.vls), .str (bs r.rdn), .lit (.bool r.kep), .str (bs r.abv), .lit (.bool r.hab), .str (bs r.pn), .str (bs r.pv), .lit (.int .i64 r.tgt)])], false, false, false⟩]⟩)) ∨
    n8_35 ⟨[(1, .ptr 0 1 0 0), (4, .d (.lit (.int .i64 x)))], [⟨30, [.d (.agg [.lit (.int .i64 r.id), .lit (.int .i64 r.kd), .str (bs r.nm), .lit (.int .i64 r.ver), .lit (.int .i64 r.mth), .str (bs r.sec), .lit (.int .i64 r.scp), .lit (.int .i64 r.mst), .lit (.bool r.typ), .lit (.int .i64 (kind r.flt)), .str (bs (name r.flt)), .str (bs (value r.flt)), .str (bs (ini r.flt)), .sl (List.map encS (any r.flt)), .str (bs (fin r.flt)), .lit (.bool (hi r.flt)), .lit (.bool (hf r.flt)), .str (bs (rule r.flt)), .lit (.bool (dn r.flt)), .sl (List.map encO (kids r.flt)), .sl (List.map encS r.att), .sl (List.map encC r.chg), .sl (List.map encV r.vls), .str (bs r.rdn), .lit (.bool r.kep), .str (bs r.abv), .lit (.bool r.hab), .str (bs r.pn), .str (bs r.pv), .lit (.int .i64 r.tgt)])], false, false, false⟩]⟩ = some (.ret, ⟨[(2, .d (.lit (.bool false)))], [⟨30, [.d (.agg [.lit (.int .i64 r.id), .lit (.int .i64 r.kd), .str (bs r.nm), .lit (.int .i64 r.ver), .lit (.int .i64 r.mth), .str (bs r.sec), .lit (.int .i64 r.scp), .lit (.int .i64 r.mst), .lit (.bool r.typ), .lit (.int .i64 (kind r.flt)), .str (bs (name r.flt)), .str (bs (value r.flt)), .str (bs (ini r.flt)), .sl (List.map encS (any r.flt)), .str (bs (fin r.flt)), .lit (.bool (hi r.flt)), .lit (.bool (hf r.flt)), .str (bs (rule r.flt)), .lit (.bool (dn r.flt)), .sl (List.map encO (kids r.flt)), .sl (List.map encS r.att), .sl (List.map encC r.chg), .sl (List.map encV r.vls), .str (bs r.rdn), .lit (.bool r.kep), .str (bs r.abv), .lit (.bool r.hab), .str (bs r.pn), .str (bs r.pv), .lit (.int .i64 r.tgt)])], false, false, false⟩]⟩) := by
  have hla := r.chg_le
  intro t
  induction t with
  | nil =>
    intro j x hx hd
    have hd := drop_nil hd
    refine .inl ⟨.d (.lit (.int .i64 x)), ?_⟩
    rw [r_n8_35]
    simp -implicitDefEqProofs (maxSteps := 10000000) (disch := omega) only [go_sem, Int.reduceAdd, Int.reduceSub, Int.reduceMul, dec_t, dec_f, Nat.reduceBEq, Nat.reduceBNe, reduceShiftRight, reduceAnd, Nat.reduceAdd, Nat.reduceSub, reduceEqDiff, Nat.reduceLT, reduceLeDiff, reduceToNat, Int.reduceLT, Int.reduceLE, Int.reduceEq, reduceIte, reduceCtorEq]
  | cons c t ih =>
    intro j x hx hd
    obtain ⟨g1, g2, g3, g4⟩ := drop_cons hd
    have hnat : Int.toNat x = j := by omega
    obtain ⟨v, h19⟩ := t19 [vOf c] (by simp)
    change pureCall C 19 [.sl [.agg [.str (bs (cn c)), .sl (List.map encS (cv c))]]] = some (tf v) at h19
    cases v
    · refine .inr ?_
      clear ih
      rw [r_n8_35]
      simp -implicitDefEqProofs (maxSteps := 10000000) (disch := omega) only [go_sem, Int.reduceAdd, Int.reduceSub, Int.reduceMul, dec_t, dec_f, Nat.reduceBEq, Nat.reduceBNe, reduceShiftRight, reduceAnd, Nat.reduceAdd, Nat.reduceSub, reduceEqDiff, Nat.reduceLT, reduceLeDiff, reduceToNat, Int.reduceLT, Int.reduceLE, Int.reduceEq, reduceIte, reduceCtorEq, g2, hnat, h19]
    · rcases ih (j + 1) (x + 1) (by omega) g3 with ⟨x', h⟩ | h
      · refine .inl ⟨x', ?_⟩
        clear ih
        rw [r_n8_35]
        simp -implicitDefEqProofs (maxSteps := 10000000) (disch := omega) only [go_sem, Int.reduceAdd, Int.reduceSub, Int.reduceMul, dec_t, dec_f, Nat.reduceBEq, Nat.reduceBNe, reduceShiftRight, reduceAnd, Nat.reduceAdd, Nat.reduceSub, reduceEqDiff, Nat.reduceLT, reduceLeDiff, reduceToNat, Int.reduceLT, Int.reduceLE, Int.reduceEq, reduceIte, reduceCtorEq, g2, hnat, h19, h]
      · refine .inr ?_
        clear ih
        rw [r_n8_35]
        simp -implicitDefEqProofs (maxSteps := 10000000) (disch := omega) only [go_sem, Int.reduceAdd, Int.reduceSub, Int.reduceMul, dec_t, dec_f, Nat.reduceBEq, Nat.reduceBNe, reduceShiftRight, reduceAnd, Nat.reduceAdd, Nat.reduceSub, reduceEqDiff, Nat.reduceLT, reduceLeDiff, reduceToNat, Int.reduceLT, Int.reduceLE, Int.reduceEq, reduceIte, reduceCtorEq, g2, hnat, h19, h]
theorem t8 (r : Rq) : ∃ v, pureCall C 8 [(.agg [.lit (.int .i64 r.id), .lit (.int .i64 r.kd), .str (bs r.nm), .lit (.int .i64 r.ver), .lit (.int .i64 r.mth), .str (bs r.sec), .lit (.int .i64 r.scp), .lit (.int .i64 r.mst), .lit (.bool r.typ), .lit (.int .i64 (kind r.flt)), .str (bs (name r.flt)), .str (bs (value r.flt)), .str (bs (ini r.flt)), .sl (List.map encS (any r.flt)), .str (bs (fin r.flt)), .lit (.bool (hi r.flt)), .lit (.bool (hf r.flt)), .str (bs (rule r.flt)), .lit (.bool (dn r.flt)), .sl (List.map encO (kids r.flt)), .sl (List.map encS r.att), .sl (List.map encC r.chg), .sl (List.map encV r.vls), .str (bs r.rdn), .lit (.bool r.kep), .str (bs r.abv), .lit (.bool r.hab), .str (bs r.pn), .str (bs r.pv), .lit (.int .i64 r.tgt)])] = some (tf v) := by
  obtain ⟨y, hy0, hy1, h18⟩ := t18 r.flt 150 (by omega) (by omega)
  obtain ⟨v, h19⟩ := t19 r.vls r.vls_le
  have l1 := r.att_le
  have l2 := r.chg_le
  have l3 := r.vls_le
  have q1 := bs_le r.nm
  have q2 := bs_le r.sec
  have q3 := bs_le r.rdn
  have q4 := bs_le r.abv
  have q5 := bs_le r.pn
  have q6 := bs_le r.pv
  have ha := t8a r r.att 0 0 rfl rfl
  have hb := t8b r r.chg 0 0 rfl rfl
  rw [p8]
  by_cases c0 : y < 0
  · simp -implicitDefEqProofs (maxSteps := 10000000) (disch := omega) only [go_sem, Int.reduceAdd, Int.reduceSub, Int.reduceMul, dec_t, dec_f, Nat.reduceBEq, Nat.reduceBNe, reduceShiftRight, reduceAnd, Nat.reduceAdd, Nat.reduceSub, reduceEqDiff, Nat.reduceLT, reduceLeDiff, reduceToNat, Int.reduceLT, Int.reduceLE, Int.reduceEq, reduceIte, reduceCtorEq, h18]
    exact ⟨_, rfl⟩
  by_cases c1 : 40 < r.att.length
  · simp -implicitDefEqProofs (maxSteps := 10000000) (disch := omega) only [go_sem, Int.reduceAdd, Int.reduceSub, Int.reduceMul, dec_t, dec_f, Nat.reduceBEq, Nat.reduceBNe, reduceShiftRight, reduceAnd, Nat.reduceAdd, Nat.reduceSub, reduceEqDiff, Nat.reduceLT, reduceLeDiff, reduceToNat, Int.reduceLT, Int.reduceLE, Int.reduceEq, reduceIte, reduceCtorEq, h18]
    exact ⟨_, rfl⟩
  by_cases c2 : 20 < r.chg.length
  · simp -implicitDefEqProofs (maxSteps := 10000000) (disch := omega) only [go_sem, Int.reduceAdd, Int.reduceSub, Int.reduceMul, dec_t, dec_f, Nat.reduceBEq, Nat.reduceBNe, reduceShiftRight, reduceAnd, Nat.reduceAdd, Nat.reduceSub, reduceEqDiff, Nat.reduceLT, reduceLeDiff, reduceToNat, Int.reduceLT, Int.reduceLE, Int.reduceEq, reduceIte, reduceCtorEq, h18]
    exact ⟨_, rfl⟩
  cases v
  · simp -implicitDefEqProofs (maxSteps := 10000000) (disch := omega) only [go_sem, Int.reduceAdd, Int.reduceSub, Int.reduceMul, dec_t, dec_f, Nat.reduceBEq, Nat.reduceBNe, reduceShiftRight, reduceAnd, Nat.reduceAdd, Nat.reduceSub, reduceEqDiff, Nat.reduceLT, reduceLeDiff, reduceToNat, Int.reduceLT, Int.reduceLE, Int.reduceEq, reduceIte, reduceCtorEq, h18, h19]
    exact ⟨_, rfl⟩
  rcases ha with ⟨x', ha⟩ | ha
  · rcases hb with ⟨x'', hb⟩ | hb
    · by_cases d1 : (bs r.nm).length ≤ 5000
      · by_cases d2 : (bs r.sec).length ≤ 5000
        · by_cases d3 : (bs r.rdn).length ≤ 5000
          · by_cases d4 : (bs r.abv).length ≤ 5000
            · by_cases d5 : (bs r.pn).length + (bs r.pv).length ≤ 5000
              · simp -implicitDefEqProofs (maxSteps := 10000000) (disch := omega) only [go_sem, Int.reduceAdd, Int.reduceSub, Int.reduceMul, dec_t, dec_f, Nat.reduceBEq, Nat.reduceBNe, reduceShiftRight, reduceAnd, Nat.reduceAdd, Nat.reduceSub, reduceEqDiff, Nat.reduceLT, reduceLeDiff, reduceToNat, Int.reduceLT, Int.reduceLE, Int.reduceEq, reduceIte, reduceCtorEq, h18, h19, ha, hb]
                exact ⟨_, rfl⟩
              · simp -implicitDefEqProofs (maxSteps := 10000000) (disch := omega) only [go_sem, Int.reduceAdd, Int.reduceSub, Int.reduceMul, dec_t, dec_f, Nat.reduceBEq, Nat.reduceBNe, reduceShiftRight, reduceAnd, Nat.reduceAdd, Nat.reduceSub, reduceEqDiff, Nat.reduceLT, reduceLeDiff, reduceToNat, Int.reduceLT, Int.reduceLE, Int.reduceEq, reduceIte, reduceCtorEq, h18, h19, ha, hb]
                exact ⟨_, rfl⟩
            · simp -implicitDefEqProofs (maxSteps := 10000000) (disch := omega) only [go_sem, Int.reduceAdd, Int.reduceSub, Int.reduceMul, dec_t, dec_f, Nat.reduceBEq, Nat.reduceBNe, reduceShiftRight, reduceAnd, Nat.reduceAdd, Nat.reduceSub, reduceEqDiff, Nat.reduceLT, reduceLeDiff, reduceToNat, Int.reduceLT, Int.reduceLE, Int.reduceEq, reduceIte, reduceCtorEq, h18, h19, ha, hb]
              exact ⟨_, rfl⟩
          · simp -implicitDefEqProofs (maxSteps := 10000000) (disch := omega) only [go_sem, Int.reduceAdd, Int.reduceSub, Int.reduceMul, dec_t, dec_f, Nat.reduceBEq, Nat.reduceBNe, reduceShiftRight, reduceAnd, Nat.reduceAdd, Nat.reduceSub, reduceEqDiff, Nat.reduceLT, reduceLeDiff, reduceToNat, Int.reduceLT, Int.reduceLE, Int.reduceEq, reduceIte, reduceCtorEq, h18, h19, ha, hb]
            exact ⟨_, rfl⟩
        · simp -implicitDefEqProofs (maxSteps := 10000000) (disch := omega) only [go_sem, Int.reduceAdd, Int.reduceSub, Int.reduceMul, dec_t, dec_f, Nat.reduceBEq, Nat.reduceBNe, reduceShiftRight, reduceAnd, Nat.reduceAdd, Nat.reduceSub, reduceEqDiff, Nat.reduceLT, reduceLeDiff, reduceToNat, Int.reduceLT, Int.reduceLE, Int.reduceEq, reduceIte, reduceCtorEq, h18, h19, ha, hb]
          exact ⟨_, rfl⟩
      · simp -implicitDefEqProofs (maxSteps := 10000000) (disch := omega) only [go_sem, Int.reduceAdd, Int.reduceSub, Int.reduceMul, dec_t, dec_f, Nat.reduceBEq, Nat.reduceBNe, reduceShiftRight, reduceAnd, Nat.reduceAdd, Nat.reduceSub, reduceEqDiff, Nat.reduceLT, reduceLeDiff, reduceToNat, Int.reduceLT, Int.reduceLE, Int.reduceEq, reduceIte, reduceCtorEq, h18, h19, ha, hb]
        exact ⟨_, rfl⟩
    · simp -implicitDefEqProofs (maxSteps := 10000000) (disch := omega) only [go_sem, Int.reduceAdd, Int.reduceSub, Int.reduceMul, dec_t, dec_f, Nat.reduceBEq, Nat.reduceBNe, reduceShiftRight, reduceAnd, Nat.reduceAdd, Nat.reduceSub, reduceEqDiff, Nat.reduceLT, reduceLeDiff, reduceToNat, Int.reduceLT, Int.reduceLE, Int.reduceEq, reduceIte, reduceCtorEq, h18, h19, ha, hb]
      exact ⟨_, rfl⟩
  · simp -implicitDefEqProofs (maxSteps := 10000000) (disch := omega) only [go_sem, Int.reduceAdd, Int.reduceSub, Int.reduceMul, dec_t, dec_f, Nat.reduceBEq, Nat.reduceBNe, reduceShiftRight, reduceAnd, Nat.reduceAdd, Nat.reduceSub, reduceEqDiff, Nat.reduceLT, reduceLeDiff, reduceToNat, Int.reduceLT, Int.reduceLE, Int.reduceEq, reduceIte, reduceCtorEq, h18, h19, ha]
    exact ⟨_, rfl⟩
end Go.L25
