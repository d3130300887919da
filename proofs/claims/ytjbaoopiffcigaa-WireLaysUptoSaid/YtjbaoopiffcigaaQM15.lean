/- Layer 25: the document's law of single filters. Conditions: none. -/
import Derived.Test.YtjbaoopiffcigaaQM14
import Derived.Test.YtjbaoopiffcigaaQM6
set_option linter.unusedVariables false
set_option linter.unusedSimpArgs false
namespace Go.L25
open Go Go.Eng Go.Proofs
set_option pp.deepTerms false
set_option pp.deepTerms.threshold 9
set_option maxRecDepth 10000
set_option maxHeartbeats 4000000

def neO (f : Fo) : Bool := List.beq (bs (name f)) []
def wrO (f : Fo) : Bool := word (bs (rule f))
def fineO (f : Fo) : Bool := pcOkO f && pShortO f
def A1 (f : Fo) : Bool := brO f && !dn f && pEmptyO f && nvO f
def A2 (f : Fo) : Bool := brO f && !dn f && pEmptyO f
def A3 (f : Fo) : Bool := brO f && !dn f && pEmptyO f && bvO f
def A4 (f : Fo) : Bool := brO f && !dn f && bvO f
theorem nv_eq (f : Fo) : nvO f = (neO f && bvO f) := by
  unfold nvO neO bvO
  cases bs (name f) <;> cases bs (value f) <;> rfl
theorem nr_eq (f : Fo) : nrO f = (neO f && brO f) := by
  unfold nrO neO brO
  cases bs (name f) <;> cases bs (rule f) <;> rfl

theorem t89_a (f : Fo) : pureCall C 89 [(.agg [.lit (.int .i64 (kind f)), .str (bs (name f)), .str (bs (value f)), .str (bs (ini f)), .sl (List.map encS (any f)), .str (bs (fin f)), .lit (.bool (hi f)), .lit (.bool (hf f)), .str (bs (rule f)), .lit (.bool (dn f)), .sl (List.map encO (kids f))]), .lit (.bool true), .lit (.bool true), .lit (.bool true), .lit (.bool true)] = some (tf (A1 f)) := by
  have h33 : pureCall C 33 [(.agg [.str (bs (ini f)), .sl (List.map encS (any f)), .str (bs (fin f)), .lit (.bool (hi f)), .lit (.bool (hf f))]), .agg [.str [], .sl [], .str [], .lit (.bool false), .lit (.bool false)]] = some (tf (pEmptyO f)) := t33 (ini f) (any f) (fin f) (hi f) (hf f) (any_le f)
  have e5 : List.beq (bs (rule f)) [] = brO f := rfl
  have e6 : List.beq (bs (value f)) [] = bvO f := rfl
  have e7 : List.beq (bs (name f)) [] = neO f := rfl
  generalize hR : A1 f = R
  unfold A1 at hR
  try rw [nv_eq] at hR
  rw [p89]
  (try simp -implicitDefEqProofs (maxSteps := 10000000) (disch := omega) only [go_sem, Int.reduceAdd, Int.reduceSub, Int.reduceMul, dec_t, dec_f, Nat.reduceBEq, Nat.reduceBNe, Nat.reduceShiftRight, Nat.reduceAnd, Nat.reduceAdd, Nat.reduceSub, Nat.reduceEqDiff, Nat.reduceLT, Nat.reduceLeDiff, Int.reduceToNat, Int.reduceLT, Int.reduceLE, Int.reduceEq, reduceIte, reduceCtorEq, e5, e6, e7, h33])
  cases w5 : neO f with
  | false =>
    simp only [w5] at hR
    (try simp -implicitDefEqProofs (maxSteps := 10000000) (disch := omega) only [go_sem, Int.reduceAdd, Int.reduceSub, Int.reduceMul, dec_t, dec_f, Nat.reduceBEq, Nat.reduceBNe, Nat.reduceShiftRight, Nat.reduceAnd, Nat.reduceAdd, Nat.reduceSub, Nat.reduceEqDiff, Nat.reduceLT, Nat.reduceLeDiff, Int.reduceToNat, Int.reduceLT, Int.reduceLE, Int.reduceEq, reduceIte, reduceCtorEq, e5, e6, e7, h33, w5])
    try simp only [Bool.not_true, Bool.not_false, Bool.and_true, Bool.and_false, Bool.true_and, Bool.false_and] at hR
    subst hR
    (first | done | rfl)
  | true =>
    simp only [w5] at hR
    (try simp -implicitDefEqProofs (maxSteps := 10000000) (disch := omega) only [go_sem, Int.reduceAdd, Int.reduceSub, Int.reduceMul, dec_t, dec_f, Nat.reduceBEq, Nat.reduceBNe, Nat.reduceShiftRight, Nat.reduceAnd, Nat.reduceAdd, Nat.reduceSub, Nat.reduceEqDiff, Nat.reduceLT, Nat.reduceLeDiff, Int.reduceToNat, Int.reduceLT, Int.reduceLE, Int.reduceEq, reduceIte, reduceCtorEq, e5, e6, e7, h33, w5])
    cases w4 : bvO f with
    | false =>
      simp only [w4] at hR
      (try simp -implicitDefEqProofs (maxSteps := 10000000) (disch := omega) only [go_sem, Int.reduceAdd, Int.reduceSub, Int.reduceMul, dec_t, dec_f, Nat.reduceBEq, Nat.reduceBNe, Nat.reduceShiftRight, Nat.reduceAnd, Nat.reduceAdd, Nat.reduceSub, Nat.reduceEqDiff, Nat.reduceLT, Nat.reduceLeDiff, Int.reduceToNat, Int.reduceLT, Int.reduceLE, Int.reduceEq, reduceIte, reduceCtorEq, e5, e6, e7, h33, w5, w4])
      try simp only [Bool.not_true, Bool.not_false, Bool.and_true, Bool.and_false, Bool.true_and, Bool.false_and] at hR
      subst hR
      (first | done | rfl)
    | true =>
      simp only [w4] at hR
      (try simp -implicitDefEqProofs (maxSteps := 10000000) (disch := omega) only [go_sem, Int.reduceAdd, Int.reduceSub, Int.reduceMul, dec_t, dec_f, Nat.reduceBEq, Nat.reduceBNe, Nat.reduceShiftRight, Nat.reduceAnd, Nat.reduceAdd, Nat.reduceSub, Nat.reduceEqDiff, Nat.reduceLT, Nat.reduceLeDiff, Int.reduceToNat, Int.reduceLT, Int.reduceLE, Int.reduceEq, reduceIte, reduceCtorEq, e5, e6, e7, h33, w5, w4])
      cases w3 : brO f with
      | false =>
        simp only [w3] at hR
        (try simp -implicitDefEqProofs (maxSteps := 10000000) (disch := omega) only [go_sem, Int.reduceAdd, Int.reduceSub, Int.reduceMul, dec_t, dec_f, Nat.reduceBEq, Nat.reduceBNe, Nat.reduceShiftRight, Nat.reduceAnd, Nat.reduceAdd, Nat.reduceSub, Nat.reduceEqDiff, Nat.reduceLT, Nat.reduceLeDiff, Int.reduceToNat, Int.reduceLT, Int.reduceLE, Int.reduceEq, reduceIte, reduceCtorEq, e5, e6, e7, h33, w5, w4, w3])
        try simp only [Bool.not_true, Bool.not_false, Bool.and_true, Bool.and_false, Bool.true_and, Bool.false_and] at hR
        subst hR
        (first | done | rfl)
      | true =>
        simp only [w3] at hR
        (try simp -implicitDefEqProofs (maxSteps := 10000000) (disch := omega) only [go_sem, Int.reduceAdd, Int.reduceSub, Int.reduceMul, dec_t, dec_f, Nat.reduceBEq, Nat.reduceBNe, Nat.reduceShiftRight, Nat.reduceAnd, Nat.reduceAdd, Nat.reduceSub, Nat.reduceEqDiff, Nat.reduceLT, Nat.reduceLeDiff, Int.reduceToNat, Int.reduceLT, Int.reduceLE, Int.reduceEq, reduceIte, reduceCtorEq, e5, e6, e7, h33, w5, w4, w3])
        cases w2 : dn f with
        | true =>
          simp only [w2] at hR
          (try simp -implicitDefEqProofs (maxSteps := 10000000) (disch := omega) only [go_sem, Int.reduceAdd, Int.reduceSub, Int.reduceMul, dec_t, dec_f, Nat.reduceBEq, Nat.reduceBNe, Nat.reduceShiftRight, Nat.reduceAnd, Nat.reduceAdd, Nat.reduceSub, Nat.reduceEqDiff, Nat.reduceLT, Nat.reduceLeDiff, Int.reduceToNat, Int.reduceLT, Int.reduceLE, Int.reduceEq, reduceIte, reduceCtorEq, e5, e6, e7, h33, w5, w4, w3, w2])
          try simp only [Bool.not_true, Bool.not_false, Bool.and_true, Bool.and_false, Bool.true_and, Bool.false_and] at hR
          subst hR
          (first | done | rfl)
        | false =>
          simp only [w2] at hR
          (try simp -implicitDefEqProofs (maxSteps := 10000000) (disch := omega) only [go_sem, Int.reduceAdd, Int.reduceSub, Int.reduceMul, dec_t, dec_f, Nat.reduceBEq, Nat.reduceBNe, Nat.reduceShiftRight, Nat.reduceAnd, Nat.reduceAdd, Nat.reduceSub, Nat.reduceEqDiff, Nat.reduceLT, Nat.reduceLeDiff, Int.reduceToNat, Int.reduceLT, Int.reduceLE, Int.reduceEq, reduceIte, reduceCtorEq, e5, e6, e7, h33, w5, w4, w3, w2])
          cases w1 : pEmptyO f with
          | false =>
            simp only [w1] at hR
            (try simp -implicitDefEqProofs (maxSteps := 10000000) (disch := omega) only [go_sem, Int.reduceAdd, Int.reduceSub, Int.reduceMul, dec_t, dec_f, Nat.reduceBEq, Nat.reduceBNe, Nat.reduceShiftRight, Nat.reduceAnd, Nat.reduceAdd, Nat.reduceSub, Nat.reduceEqDiff, Nat.reduceLT, Nat.reduceLeDiff, Int.reduceToNat, Int.reduceLT, Int.reduceLE, Int.reduceEq, reduceIte, reduceCtorEq, e5, e6, e7, h33, w5, w4, w3, w2, w1])
            try simp only [Bool.not_true, Bool.not_false, Bool.and_true, Bool.and_false, Bool.true_and, Bool.false_and] at hR
            subst hR
            (first | done | rfl)
          | true =>
            simp only [w1] at hR
            (try simp -implicitDefEqProofs (maxSteps := 10000000) (disch := omega) only [go_sem, Int.reduceAdd, Int.reduceSub, Int.reduceMul, dec_t, dec_f, Nat.reduceBEq, Nat.reduceBNe, Nat.reduceShiftRight, Nat.reduceAnd, Nat.reduceAdd, Nat.reduceSub, Nat.reduceEqDiff, Nat.reduceLT, Nat.reduceLeDiff, Int.reduceToNat, Int.reduceLT, Int.reduceLE, Int.reduceEq, reduceIte, reduceCtorEq, e5, e6, e7, h33, w5, w4, w3, w2, w1])
            try simp only [Bool.not_true, Bool.not_false, Bool.and_true, Bool.and_false, Bool.true_and, Bool.false_and] at hR
            subst hR
            (first | done | rfl)

theorem t89_b (f : Fo) : pureCall C 89 [(.agg [.lit (.int .i64 (kind f)), .str (bs (name f)), .str (bs (value f)), .str (bs (ini f)), .sl (List.map encS (any f)), .str (bs (fin f)), .lit (.bool (hi f)), .lit (.bool (hf f)), .str (bs (rule f)), .lit (.bool (dn f)), .sl (List.map encO (kids f))]), .lit (.bool false), .lit (.bool false), .lit (.bool true), .lit (.bool true)] = some (tf (A2 f)) := by
  have h33 : pureCall C 33 [(.agg [.str (bs (ini f)), .sl (List.map encS (any f)), .str (bs (fin f)), .lit (.bool (hi f)), .lit (.bool (hf f))]), .agg [.str [], .sl [], .str [], .lit (.bool false), .lit (.bool false)]] = some (tf (pEmptyO f)) := t33 (ini f) (any f) (fin f) (hi f) (hf f) (any_le f)
  have e5 : List.beq (bs (rule f)) [] = brO f := rfl
  have e6 : List.beq (bs (value f)) [] = bvO f := rfl
  have e7 : List.beq (bs (name f)) [] = neO f := rfl
  generalize hR : A2 f = R
  unfold A2 at hR
  try rw [nv_eq] at hR
  rw [p89]
  (try simp -implicitDefEqProofs (maxSteps := 10000000) (disch := omega) only [go_sem, Int.reduceAdd, Int.reduceSub, Int.reduceMul, dec_t, dec_f, Nat.reduceBEq, Nat.reduceBNe, Nat.reduceShiftRight, Nat.reduceAnd, Nat.reduceAdd, Nat.reduceSub, Nat.reduceEqDiff, Nat.reduceLT, Nat.reduceLeDiff, Int.reduceToNat, Int.reduceLT, Int.reduceLE, Int.reduceEq, reduceIte, reduceCtorEq, e5, e6, e7, h33])
  cases w3 : brO f with
  | false =>
    simp only [w3] at hR
    (try simp -implicitDefEqProofs (maxSteps := 10000000) (disch := omega) only [go_sem, Int.reduceAdd, Int.reduceSub, Int.reduceMul, dec_t, dec_f, Nat.reduceBEq, Nat.reduceBNe, Nat.reduceShiftRight, Nat.reduceAnd, Nat.reduceAdd, Nat.reduceSub, Nat.reduceEqDiff, Nat.reduceLT, Nat.reduceLeDiff, Int.reduceToNat, Int.reduceLT, Int.reduceLE, Int.reduceEq, reduceIte, reduceCtorEq, e5, e6, e7, h33, w3])
    try simp only [Bool.not_true, Bool.not_false, Bool.and_true, Bool.and_false, Bool.true_and, Bool.false_and] at hR
    subst hR
    (first | done | rfl)
  | true =>
    simp only [w3] at hR
    (try simp -implicitDefEqProofs (maxSteps := 10000000) (disch := omega) only [go_sem, Int.reduceAdd, Int.reduceSub, Int.reduceMul, dec_t, dec_f, Nat.reduceBEq, Nat.reduceBNe, Nat.reduceShiftRight, Nat.reduceAnd, Nat.reduceAdd, Nat.reduceSub, Nat.reduceEqDiff, Nat.reduceLT, Nat.reduceLeDiff, Int.reduceToNat, Int.reduceLT, Int.reduceLE, Int.reduceEq, reduceIte, reduceCtorEq, e5, e6, e7, h33, w3])
    cases w2 : dn f with
    | true =>
      simp only [w2] at hR
      (try simp -implicitDefEqProofs (maxSteps := 10000000) (disch := omega) only [go_sem, Int.reduceAdd, Int.reduceSub, Int.reduceMul, dec_t, dec_f, Nat.reduceBEq, Nat.reduceBNe, Nat.reduceShiftRight, Nat.reduceAnd, Nat.reduceAdd, Nat.reduceSub, Nat.reduceEqDiff, Nat.reduceLT, Nat.reduceLeDiff, Int.reduceToNat, Int.reduceLT, Int.reduceLE, Int.reduceEq, reduceIte, reduceCtorEq, e5, e6, e7, h33, w3, w2])
      try simp only [Bool.not_true, Bool.not_false, Bool.and_true, Bool.and_false, Bool.true_and, Bool.false_and] at hR
      subst hR
      (first | done | rfl)
    | false =>
      simp only [w2] at hR
      (try simp -implicitDefEqProofs (maxSteps := 10000000) (disch := omega) only [go_sem, Int.reduceAdd, Int.reduceSub, Int.reduceMul, dec_t, dec_f, Nat.reduceBEq, Nat.reduceBNe, Nat.reduceShiftRight, Nat.reduceAnd, Nat.reduceAdd, Nat.reduceSub, Nat.reduceEqDiff, Nat.reduceLT, Nat.reduceLeDiff, Int.reduceToNat, Int.reduceLT, Int.reduceLE, Int.reduceEq, reduceIte, reduceCtorEq, e5, e6, e7, h33, w3, w2])
      cases w1 : pEmptyO f with
      | false =>
        simp only [w1] at hR
        (try simp -implicitDefEqProofs (maxSteps := 10000000) (disch := omega) only [go_sem, Int.reduceAdd, Int.reduceSub, Int.reduceMul, dec_t, dec_f, Nat.reduceBEq, Nat.reduceBNe, Nat.reduceShiftRight, Nat.reduceAnd, Nat.reduceAdd, Nat.reduceSub, Nat.reduceEqDiff, Nat.reduceLT, Nat.reduceLeDiff, Int.reduceToNat, Int.reduceLT, Int.reduceLE, Int.reduceEq, reduceIte, reduceCtorEq, e5, e6, e7, h33, w3, w2, w1])
        try simp only [Bool.not_true, Bool.not_false, Bool.and_true, Bool.and_false, Bool.true_and, Bool.false_and] at hR
        subst hR
        (first | done | rfl)
      | true =>
        simp only [w1] at hR
        (try simp -implicitDefEqProofs (maxSteps := 10000000) (disch := omega) only [go_sem, Int.reduceAdd, Int.reduceSub, Int.reduceMul, dec_t, dec_f, Nat.reduceBEq, Nat.reduceBNe, Nat.reduceShiftRight, Nat.reduceAnd, Nat.reduceAdd, Nat.reduceSub, Nat.reduceEqDiff, Nat.reduceLT, Nat.reduceLeDiff, Int.reduceToNat, Int.reduceLT, Int.reduceLE, Int.reduceEq, reduceIte, reduceCtorEq, e5, e6, e7, h33, w3, w2, w1])
        try simp only [Bool.not_true, Bool.not_false, Bool.and_true, Bool.and_false, Bool.true_and, Bool.false_and] at hR
        subst hR
        (first | done | rfl)

theorem t89_c (f : Fo) : pureCall C 89 [(.agg [.lit (.int .i64 (kind f)), .str (bs (name f)), .str (bs (value f)), .str (bs (ini f)), .sl (List.map encS (any f)), .str (bs (fin f)), .lit (.bool (hi f)), .lit (.bool (hf f)), .str (bs (rule f)), .lit (.bool (dn f)), .sl (List.map encO (kids f))]), .lit (.bool false), .lit (.bool true), .lit (.bool true), .lit (.bool true)] = some (tf (A3 f)) := by
  have h33 : pureCall C 33 [(.agg [.str (bs (ini f)), .sl (List.map encS (any f)), .str (bs (fin f)), .lit (.bool (hi f)), .lit (.bool (hf f))]), .agg [.str [], .sl [], .str [], .lit (.bool false), .lit (.bool false)]] = some (tf (pEmptyO f)) := t33 (ini f) (any f) (fin f) (hi f) (hf f) (any_le f)
  have e5 : List.beq (bs (rule f)) [] = brO f := rfl
  have e6 : List.beq (bs (value f)) [] = bvO f := rfl
  have e7 : List.beq (bs (name f)) [] = neO f := rfl
  generalize hR : A3 f = R
  unfold A3 at hR
  try rw [nv_eq] at hR
  rw [p89]
  (try simp -implicitDefEqProofs (maxSteps := 10000000) (disch := omega) only [go_sem, Int.reduceAdd, Int.reduceSub, Int.reduceMul, dec_t, dec_f, Nat.reduceBEq, Nat.reduceBNe, Nat.reduceShiftRight, Nat.reduceAnd, Nat.reduceAdd, Nat.reduceSub, Nat.reduceEqDiff, Nat.reduceLT, Nat.reduceLeDiff, Int.reduceToNat, Int.reduceLT, Int.reduceLE, Int.reduceEq, reduceIte, reduceCtorEq, e5, e6, e7, h33])
  cases w4 : bvO f with
  | false =>
    simp only [w4] at hR
    (try simp -implicitDefEqProofs (maxSteps := 10000000) (disch := omega) only [go_sem, Int.reduceAdd, Int.reduceSub, Int.reduceMul, dec_t, dec_f, Nat.reduceBEq, Nat.reduceBNe, Nat.reduceShiftRight, Nat.reduceAnd, Nat.reduceAdd, Nat.reduceSub, Nat.reduceEqDiff, Nat.reduceLT, Nat.reduceLeDiff, Int.reduceToNat, Int.reduceLT, Int.reduceLE, Int.reduceEq, reduceIte, reduceCtorEq, e5, e6, e7, h33, w4])
    try simp only [Bool.not_true, Bool.not_false, Bool.and_true, Bool.and_false, Bool.true_and, Bool.false_and] at hR
    subst hR
    (first | done | rfl)
  | true =>
    simp only [w4] at hR
    (try simp -implicitDefEqProofs (maxSteps := 10000000) (disch := omega) only [go_sem, Int.reduceAdd, Int.reduceSub, Int.reduceMul, dec_t, dec_f, Nat.reduceBEq, Nat.reduceBNe, Nat.reduceShiftRight, Nat.reduceAnd, Nat.reduceAdd, Nat.reduceSub, Nat.reduceEqDiff, Nat.reduceLT, Nat.reduceLeDiff, Int.reduceToNat, Int.reduceLT, Int.reduceLE, Int.reduceEq, reduceIte, reduceCtorEq, e5, e6, e7, h33, w4])
    cases w3 : brO f with
    | false =>
      simp only [w3] at hR
      (try simp -implicitDefEqProofs (maxSteps := 10000000) (disch := omega) only [go_sem, Int.reduceAdd, Int.reduceSub, Int.reduceMul, dec_t, dec_f, Nat.reduceBEq, Nat.reduceBNe, Nat.reduceShiftRight, Nat.reduceAnd, Nat.reduceAdd, Nat.reduceSub, Nat.reduceEqDiff, Nat.reduceLT, Nat.reduceLeDiff, Int.reduceToNat, Int.reduceLT, Int.reduceLE, Int.reduceEq, reduceIte, reduceCtorEq, e5, e6, e7, h33, w4, w3])
      try simp only [Bool.not_true, Bool.not_false, Bool.and_true, Bool.and_false, Bool.true_and, Bool.false_and] at hR
      subst hR
      (first | done | rfl)
    | true =>
      simp only [w3] at hR
      (try simp -implicitDefEqProofs (maxSteps := 10000000) (disch := omega) only [go_sem, Int.reduceAdd, Int.reduceSub, Int.reduceMul, dec_t, dec_f, Nat.reduceBEq, Nat.reduceBNe, Nat.reduceShiftRight, Nat.reduceAnd, Nat.reduceAdd, Nat.reduceSub, Nat.reduceEqDiff, Nat.reduceLT, Nat.reduceLeDiff, Int.reduceToNat, Int.reduceLT, Int.reduceLE, Int.reduceEq, reduceIte, reduceCtorEq, e5, e6, e7, h33, w4, w3])
      cases w2 : dn f with
      | true =>
        simp only [w2] at hR
        (try simp -implicitDefEqProofs (maxSteps := 10000000) (disch := omega) only [go_sem, Int.reduceAdd, Int.reduceSub, Int.reduceMul, dec_t, dec_f, Nat.reduceBEq, Nat.reduceBNe, Nat.reduceShiftRight, Nat.reduceAnd, Nat.reduceAdd, Nat.reduceSub, Nat.reduceEqDiff, Nat.reduceLT, Nat.reduceLeDiff, Int.reduceToNat, Int.reduceLT, Int.reduceLE, Int.reduceEq, reduceIte, reduceCtorEq, e5, e6, e7, h33, w4, w3, w2])
        try simp only [Bool.not_true, Bool.not_false, Bool.and_true, Bool.and_false, Bool.true_and, Bool.false_and] at hR
        subst hR
        (first | done | rfl)
      | false =>
        simp only [w2] at hR
        (try simp -implicitDefEqProofs (maxSteps := 10000000) (disch := omega) only [go_sem, Int.reduceAdd, Int.reduceSub, Int.reduceMul, dec_t, dec_f, Nat.reduceBEq, Nat.reduceBNe, Nat.reduceShiftRight, Nat.reduceAnd, Nat.reduceAdd, Nat.reduceSub, Nat.reduceEqDiff, Nat.reduceLT, Nat.reduceLeDiff, Int.reduceToNat, Int.reduceLT, Int.reduceLE, Int.reduceEq, reduceIte, reduceCtorEq, e5, e6, e7, h33, w4, w3, w2])
        cases w1 : pEmptyO f with
        | false =>
          simp only [w1] at hR
          (try simp -implicitDefEqProofs (maxSteps := 10000000) (disch := omega) only [go_sem, Int.reduceAdd, Int.reduceSub, Int.reduceMul, dec_t, dec_f, Nat.reduceBEq, Nat.reduceBNe, Nat.reduceShiftRight, Nat.reduceAnd, Nat.reduceAdd, Nat.reduceSub, Nat.reduceEqDiff, Nat.reduceLT, Nat.reduceLeDiff, Int.reduceToNat, Int.reduceLT, Int.reduceLE, Int.reduceEq, reduceIte, reduceCtorEq, e5, e6, e7, h33, w4, w3, w2, w1])
          try simp only [Bool.not_true, Bool.not_false, Bool.and_true, Bool.and_false, Bool.true_and, Bool.false_and] at hR
          subst hR
          (first | done | rfl)
        | true =>
          simp only [w1] at hR
          (try simp -implicitDefEqProofs (maxSteps := 10000000) (disch := omega) only [go_sem, Int.reduceAdd, Int.reduceSub, Int.reduceMul, dec_t, dec_f, Nat.reduceBEq, Nat.reduceBNe, Nat.reduceShiftRight, Nat.reduceAnd, Nat.reduceAdd, Nat.reduceSub, Nat.reduceEqDiff, Nat.reduceLT, Nat.reduceLeDiff, Int.reduceToNat, Int.reduceLT, Int.reduceLE, Int.reduceEq, reduceIte, reduceCtorEq, e5, e6, e7, h33, w4, w3, w2, w1])
          try simp only [Bool.not_true, Bool.not_false, Bool.and_true, Bool.and_false, Bool.true_and, Bool.false_and] at hR
          subst hR
          (first | done | rfl)

theorem t89_d (f : Fo) : pureCall C 89 [(.agg [.lit (.int .i64 (kind f)), .str (bs (name f)), .str (bs (value f)), .str (bs (ini f)), .sl (List.map encS (any f)), .str (bs (fin f)), .lit (.bool (hi f)), .lit (.bool (hf f)), .str (bs (rule f)), .lit (.bool (dn f)), .sl (List.map encO (kids f))]), .lit (.bool false), .lit (.bool true), .lit (.bool false), .lit (.bool true)] = some (tf (A4 f)) := by
  have h33 : pureCall C 33 [(.agg [.str (bs (ini f)), .sl (List.map encS (any f)), .str (bs (fin f)), .lit (.bool (hi f)), .lit (.bool (hf f))]), .agg [.str [], .sl [], .str [], .lit (.bool false), .lit (.bool false)]] = some (tf (pEmptyO f)) := t33 (ini f) (any f) (fin f) (hi f) (hf f) (any_le f)
  have e5 : List.beq (bs (rule f)) [] = brO f := rfl
  have e6 : List.beq (bs (value f)) [] = bvO f := rfl
  have e7 : List.beq (bs (name f)) [] = neO f := rfl
  generalize hR : A4 f = R
  unfold A4 at hR
  try rw [nv_eq] at hR
  rw [p89]
  (try simp -implicitDefEqProofs (maxSteps := 10000000) (disch := omega) only [go_sem, Int.reduceAdd, Int.reduceSub, Int.reduceMul, dec_t, dec_f, Nat.reduceBEq, Nat.reduceBNe, Nat.reduceShiftRight, Nat.reduceAnd, Nat.reduceAdd, Nat.reduceSub, Nat.reduceEqDiff, Nat.reduceLT, Nat.reduceLeDiff, Int.reduceToNat, Int.reduceLT, Int.reduceLE, Int.reduceEq, reduceIte, reduceCtorEq, e5, e6, e7, h33])
  cases w3 : bvO f with
  | false =>
    simp only [w3] at hR
    (try simp -implicitDefEqProofs (maxSteps := 10000000) (disch := omega) only [go_sem, Int.reduceAdd, Int.reduceSub, Int.reduceMul, dec_t, dec_f, Nat.reduceBEq, Nat.reduceBNe, Nat.reduceShiftRight, Nat.reduceAnd, Nat.reduceAdd, Nat.reduceSub, Nat.reduceEqDiff, Nat.reduceLT, Nat.reduceLeDiff, Int.reduceToNat, Int.reduceLT, Int.reduceLE, Int.reduceEq, reduceIte, reduceCtorEq, e5, e6, e7, h33, w3])
    try simp only [Bool.not_true, Bool.not_false, Bool.and_true, Bool.and_false, Bool.true_and, Bool.false_and] at hR
    subst hR
    (first | done | rfl)
  | true =>
    simp only [w3] at hR
    (try simp -implicitDefEqProofs (maxSteps := 10000000) (disch := omega) only [go_sem, Int.reduceAdd, Int.reduceSub, Int.reduceMul, dec_t, dec_f, Nat.reduceBEq, Nat.reduceBNe, Nat.reduceShiftRight, Nat.reduceAnd, Nat.reduceAdd, Nat.reduceSub, Nat.reduceEqDiff, Nat.reduceLT, Nat.reduceLeDiff, Int.reduceToNat, Int.reduceLT, Int.reduceLE, Int.reduceEq, reduceIte, reduceCtorEq, e5, e6, e7, h33, w3])
    cases w2 : brO f with
    | false =>
      simp only [w2] at hR
      (try simp -implicitDefEqProofs (maxSteps := 10000000) (disch := omega) only [go_sem, Int.reduceAdd, Int.reduceSub, Int.reduceMul, dec_t, dec_f, Nat.reduceBEq, Nat.reduceBNe, Nat.reduceShiftRight, Nat.reduceAnd, Nat.reduceAdd, Nat.reduceSub, Nat.reduceEqDiff, Nat.reduceLT, Nat.reduceLeDiff, Int.reduceToNat, Int.reduceLT, Int.reduceLE, Int.reduceEq, reduceIte, reduceCtorEq, e5, e6, e7, h33, w3, w2])
      try simp only [Bool.not_true, Bool.not_false, Bool.and_true, Bool.and_false, Bool.true_and, Bool.false_and] at hR
      subst hR
      (first | done | rfl)
    | true =>
      simp only [w2] at hR
      (try simp -implicitDefEqProofs (maxSteps := 10000000) (disch := omega) only [go_sem, Int.reduceAdd, Int.reduceSub, Int.reduceMul, dec_t, dec_f, Nat.reduceBEq, Nat.reduceBNe, Nat.reduceShiftRight, Nat.reduceAnd, Nat.reduceAdd, Nat.reduceSub, Nat.reduceEqDiff, Nat.reduceLT, Nat.reduceLeDiff, Int.reduceToNat, Int.reduceLT, Int.reduceLE, Int.reduceEq, reduceIte, reduceCtorEq, e5, e6, e7, h33, w3, w2])
      cases w1 : dn f with
      | true =>
        simp only [w1] at hR
        (try simp -implicitDefEqProofs (maxSteps := 10000000) (disch := omega) only [go_sem, Int.reduceAdd, Int.reduceSub, Int.reduceMul, dec_t, dec_f, Nat.reduceBEq, Nat.reduceBNe, Nat.reduceShiftRight, Nat.reduceAnd, Nat.reduceAdd, Nat.reduceSub, Nat.reduceEqDiff, Nat.reduceLT, Nat.reduceLeDiff, Int.reduceToNat, Int.reduceLT, Int.reduceLE, Int.reduceEq, reduceIte, reduceCtorEq, e5, e6, e7, h33, w3, w2, w1])
        try simp only [Bool.not_true, Bool.not_false, Bool.and_true, Bool.and_false, Bool.true_and, Bool.false_and] at hR
        subst hR
        (first | done | rfl)
      | false =>
        simp only [w1] at hR
        (try simp -implicitDefEqProofs (maxSteps := 10000000) (disch := omega) only [go_sem, Int.reduceAdd, Int.reduceSub, Int.reduceMul, dec_t, dec_f, Nat.reduceBEq, Nat.reduceBNe, Nat.reduceShiftRight, Nat.reduceAnd, Nat.reduceAdd, Nat.reduceSub, Nat.reduceEqDiff, Nat.reduceLT, Nat.reduceLeDiff, Int.reduceToNat, Int.reduceLT, Int.reduceLE, Int.reduceEq, reduceIte, reduceCtorEq, e5, e6, e7, h33, w3, w2, w1])
        try simp only [Bool.not_true, Bool.not_false, Bool.and_true, Bool.and_false, Bool.true_and, Bool.false_and] at hR
        subst hR
        (first | done | rfl)

theorem t89_e (f : Fo) : pureCall C 89 [(.agg [.lit (.int .i64 (kind f)), .str (bs (name f)), .str (bs (value f)), .str (bs (ini f)), .sl (List.map encS (any f)), .str (bs (fin f)), .lit (.bool (hi f)), .lit (.bool (hf f)), .str (bs (rule f)), .lit (.bool (dn f)), .sl (List.map encO (kids f))]), .lit (.bool false), .lit (.bool false), .lit (.bool true), .lit (.bool false)] = some (tf (pEmptyO f)) := by
  have h33 : pureCall C 33 [(.agg [.str (bs (ini f)), .sl (List.map encS (any f)), .str (bs (fin f)), .lit (.bool (hi f)), .lit (.bool (hf f))]), .agg [.str [], .sl [], .str [], .lit (.bool false), .lit (.bool false)]] = some (tf (pEmptyO f)) := t33 (ini f) (any f) (fin f) (hi f) (hf f) (any_le f)
  have e5 : List.beq (bs (rule f)) [] = brO f := rfl
  have e6 : List.beq (bs (value f)) [] = bvO f := rfl
  have e7 : List.beq (bs (name f)) [] = neO f := rfl
  generalize hR : pEmptyO f = R
  skip
  try rw [nv_eq] at hR
  rw [p89]
  (try simp -implicitDefEqProofs (maxSteps := 10000000) (disch := omega) only [go_sem, Int.reduceAdd, Int.reduceSub, Int.reduceMul, dec_t, dec_f, Nat.reduceBEq, Nat.reduceBNe, Nat.reduceShiftRight, Nat.reduceAnd, Nat.reduceAdd, Nat.reduceSub, Nat.reduceEqDiff, Nat.reduceLT, Nat.reduceLeDiff, Int.reduceToNat, Int.reduceLT, Int.reduceLE, Int.reduceEq, reduceIte, reduceCtorEq, e5, e6, e7, h33])
  cases w1 : pEmptyO f with
  | false =>
    simp only [w1] at hR
    (try simp -implicitDefEqProofs (maxSteps := 10000000) (disch := omega) only [go_sem, Int.reduceAdd, Int.reduceSub, Int.reduceMul, dec_t, dec_f, Nat.reduceBEq, Nat.reduceBNe, Nat.reduceShiftRight, Nat.reduceAnd, Nat.reduceAdd, Nat.reduceSub, Nat.reduceEqDiff, Nat.reduceLT, Nat.reduceLeDiff, Int.reduceToNat, Int.reduceLT, Int.reduceLE, Int.reduceEq, reduceIte, reduceCtorEq, e5, e6, e7, h33, w1])
    try simp only [Bool.not_true, Bool.not_false, Bool.and_true, Bool.and_false, Bool.true_and, Bool.false_and] at hR
    subst hR
    (first | done | rfl)
  | true =>
    simp only [w1] at hR
    (try simp -implicitDefEqProofs (maxSteps := 10000000) (disch := omega) only [go_sem, Int.reduceAdd, Int.reduceSub, Int.reduceMul, dec_t, dec_f, Nat.reduceBEq, Nat.reduceBNe, Nat.reduceShiftRight, Nat.reduceAnd, Nat.reduceAdd, Nat.reduceSub, Nat.reduceEqDiff, Nat.reduceLT, Nat.reduceLeDiff, Int.reduceToNat, Int.reduceLT, Int.reduceLE, Int.reduceEq, reduceIte, reduceCtorEq, e5, e6, e7, h33, w1])
    try simp only [Bool.not_true, Bool.not_false, Bool.and_true, Bool.and_false, Bool.true_and, Bool.false_and] at hR
    subst hR
    (first | done | rfl)

def rOne (f : Fo) : Bool :=
  if kind f = 0 then A1 f else
  if kind f = 1 then A1 f else
  if kind f = 2 then A1 f && k1O f else
  if leafO f && v4O f then
    if kind f = 3 then A2 f && wnO f else
    if kind f = 5 then A2 f && wnO f else
    if kind f = 6 then A2 f && wnO f else
    if kind f = 8 then A2 f && wnO f else
    if kind f = 7 then A3 f && wnO f else
    if kind f = 4 then A4 f && wnO f && fineO f else
    if kind f = 9 then pEmptyO f && (wnO f || neO f) && (wrO f && !rdO f || brO f) && (wnO f || wrO f && !rdO f) else false
  else false

theorem t72 (f : Fo) : pureCall C 72 [(.agg [.lit (.int .i64 (kind f)), .str (bs (name f)), .str (bs (value f)), .str (bs (ini f)), .sl (List.map encS (any f)), .str (bs (fin f)), .lit (.bool (hi f)), .lit (.bool (hf f)), .str (bs (rule f)), .lit (.bool (dn f)), .sl (List.map encO (kids f))])] = some (tf (rOne f)) := by
  have ha := t89_a f
  have hb := t89_b f
  have hc := t89_c f
  have hd := t89_d f
  have he := t89_e f
  have h90 : pureCall C 90 [(.agg [.str (bs (ini f)), .sl (List.map encS (any f)), .str (bs (fin f)), .lit (.bool (hi f)), .lit (.bool (hf f))])] = some (tf (fineO f)) := t90 (ini f) (any f) (fin f) (hi f) (hf f) (any_le f)
  have q1 := bs_le (name f)
  have q2 := bs_le (value f)
  have q3 := bs_le (rule f)
  have q4 := kids_le f
  have e1 : decide (((kids f).length : Int) = 1) = k1O f := by unfold k1O; exact decide_eq_decide.2 (by omega)
  have e0 : decide ((0 : Int) < (kids f).length) = !leafO f := by unfold leafO; rw [← decide_not]; exact decide_eq_decide.2 (by omega)
  have e4 : decide ((400 : Int) < (bs (value f)).length) = !v4O f := by unfold v4O; rw [← decide_not]; exact decide_eq_decide.2 (by omega)
  have e5 : List.beq (bs (rule f)) [] = brO f := rfl
  have e6 : List.beq (bs (value f)) [] = bvO f := rfl
  have e7 : List.beq (bs (name f)) [] = neO f := rfl
  have e9 : List.beq (bs (rule f)) [100, 110] = rdO f := rfl
  have e10 : word (bs (name f)) = wnO f := rfl
  have e11 : word (bs (rule f)) = wrO f := rfl
  generalize hR : rOne f = R
  unfold rOne at hR
  rw [p72]
  (try simp -implicitDefEqProofs (maxSteps := 10000000) (disch := omega) only [go_sem, Int.reduceAdd, Int.reduceSub, Int.reduceMul, dec_t, dec_f, Nat.reduceBEq, Nat.reduceBNe, Nat.reduceShiftRight, Nat.reduceAnd, Nat.reduceAdd, Nat.reduceSub, Nat.reduceEqDiff, Nat.reduceLT, Nat.reduceLeDiff, Int.reduceToNat, Int.reduceLT, Int.reduceLE, Int.reduceEq, reduceIte, reduceCtorEq, e1, e0, e4, e5, e6, e7, e9, e10, e11, ha, hb, hc, hd, he, h90])
  by_cases k0 : kind f = 0
  · simp only [k0] at hR
    simp only [reduceIte, Int.reduceEq] at hR
    rw [k0] at ha hb hc hd he
    (try simp -implicitDefEqProofs (maxSteps := 10000000) (disch := omega) only [go_sem, Int.reduceAdd, Int.reduceSub, Int.reduceMul, dec_t, dec_f, Nat.reduceBEq, Nat.reduceBNe, Nat.reduceShiftRight, Nat.reduceAnd, Nat.reduceAdd, Nat.reduceSub, Nat.reduceEqDiff, Nat.reduceLT, Nat.reduceLeDiff, Int.reduceToNat, Int.reduceLT, Int.reduceLE, Int.reduceEq, reduceIte, reduceCtorEq, e1, e0, e4, e5, e6, e7, e9, e10, e11, ha, hb, hc, hd, he, h90, k0])
    try simp only [Bool.not_true, Bool.not_false, Bool.and_true, Bool.and_false, Bool.true_and, Bool.false_and, Bool.or_true, Bool.or_false, Bool.true_or, Bool.false_or] at hR
    subst hR
    (first | done | rfl)
  rw [if_neg k0] at hR
  by_cases k1 : kind f = 1
  · simp only [k1] at hR
    simp only [reduceIte, Int.reduceEq] at hR
    rw [k1] at ha hb hc hd he
    (try simp -implicitDefEqProofs (maxSteps := 10000000) (disch := omega) only [go_sem, Int.reduceAdd, Int.reduceSub, Int.reduceMul, dec_t, dec_f, Nat.reduceBEq, Nat.reduceBNe, Nat.reduceShiftRight, Nat.reduceAnd, Nat.reduceAdd, Nat.reduceSub, Nat.reduceEqDiff, Nat.reduceLT, Nat.reduceLeDiff, Int.reduceToNat, Int.reduceLT, Int.reduceLE, Int.reduceEq, reduceIte, reduceCtorEq, e1, e0, e4, e5, e6, e7, e9, e10, e11, ha, hb, hc, hd, he, h90, k1])
    try simp only [Bool.not_true, Bool.not_false, Bool.and_true, Bool.and_false, Bool.true_and, Bool.false_and, Bool.or_true, Bool.or_false, Bool.true_or, Bool.false_or] at hR
    subst hR
    (first | done | rfl)
  rw [if_neg k1] at hR
  by_cases k2 : kind f = 2
  · simp only [k2] at hR
    simp only [reduceIte, Int.reduceEq] at hR
    rw [k2] at ha hb hc hd he
    (try simp -implicitDefEqProofs (maxSteps := 10000000) (disch := omega) only [go_sem, Int.reduceAdd, Int.reduceSub, Int.reduceMul, dec_t, dec_f, Nat.reduceBEq, Nat.reduceBNe, Nat.reduceShiftRight, Nat.reduceAnd, Nat.reduceAdd, Nat.reduceSub, Nat.reduceEqDiff, Nat.reduceLT, Nat.reduceLeDiff, Int.reduceToNat, Int.reduceLT, Int.reduceLE, Int.reduceEq, reduceIte, reduceCtorEq, e1, e0, e4, e5, e6, e7, e9, e10, e11, ha, hb, hc, hd, he, h90, k2])
    cases w1 : A1 f with
    | false =>
      simp only [w1] at hR
      (try simp -implicitDefEqProofs (maxSteps := 10000000) (disch := omega) only [go_sem, Int.reduceAdd, Int.reduceSub, Int.reduceMul, dec_t, dec_f, Nat.reduceBEq, Nat.reduceBNe, Nat.reduceShiftRight, Nat.reduceAnd, Nat.reduceAdd, Nat.reduceSub, Nat.reduceEqDiff, Nat.reduceLT, Nat.reduceLeDiff, Int.reduceToNat, Int.reduceLT, Int.reduceLE, Int.reduceEq, reduceIte, reduceCtorEq, e1, e0, e4, e5, e6, e7, e9, e10, e11, ha, hb, hc, hd, he, h90, k2, w1])
      try simp only [Bool.not_true, Bool.not_false, Bool.and_true, Bool.and_false, Bool.true_and, Bool.false_and, Bool.or_true, Bool.or_false, Bool.true_or, Bool.false_or] at hR
      subst hR
      (first | done | rfl)
    | true =>
      simp only [w1] at hR
      (try simp -implicitDefEqProofs (maxSteps := 10000000) (disch := omega) only [go_sem, Int.reduceAdd, Int.reduceSub, Int.reduceMul, dec_t, dec_f, Nat.reduceBEq, Nat.reduceBNe, Nat.reduceShiftRight, Nat.reduceAnd, Nat.reduceAdd, Nat.reduceSub, Nat.reduceEqDiff, Nat.reduceLT, Nat.reduceLeDiff, Int.reduceToNat, Int.reduceLT, Int.reduceLE, Int.reduceEq, reduceIte, reduceCtorEq, e1, e0, e4, e5, e6, e7, e9, e10, e11, ha, hb, hc, hd, he, h90, k2, w1])
      try simp only [Bool.not_true, Bool.not_false, Bool.and_true, Bool.and_false, Bool.true_and, Bool.false_and, Bool.or_true, Bool.or_false, Bool.true_or, Bool.false_or] at hR
      subst hR
      (first | done | rfl)
  rw [if_neg k2] at hR
  (try simp -implicitDefEqProofs (maxSteps := 10000000) (disch := omega) only [go_sem, Int.reduceAdd, Int.reduceSub, Int.reduceMul, dec_t, dec_f, Nat.reduceBEq, Nat.reduceBNe, Nat.reduceShiftRight, Nat.reduceAnd, Nat.reduceAdd, Nat.reduceSub, Nat.reduceEqDiff, Nat.reduceLT, Nat.reduceLeDiff, Int.reduceToNat, Int.reduceLT, Int.reduceLE, Int.reduceEq, reduceIte, reduceCtorEq, e1, e0, e4, e5, e6, e7, e9, e10, e11, ha, hb, hc, hd, he, h90])
  cases w0 : leafO f with
  | false =>
    simp only [w0, Bool.false_and, Bool.false_eq_true, if_false] at hR
    (try simp -implicitDefEqProofs (maxSteps := 10000000) (disch := omega) only [go_sem, Int.reduceAdd, Int.reduceSub, Int.reduceMul, dec_t, dec_f, Nat.reduceBEq, Nat.reduceBNe, Nat.reduceShiftRight, Nat.reduceAnd, Nat.reduceAdd, Nat.reduceSub, Nat.reduceEqDiff, Nat.reduceLT, Nat.reduceLeDiff, Int.reduceToNat, Int.reduceLT, Int.reduceLE, Int.reduceEq, reduceIte, reduceCtorEq, e1, e0, e4, e5, e6, e7, e9, e10, e11, ha, hb, hc, hd, he, h90, w0])
    try simp only [Bool.not_true, Bool.not_false, Bool.and_true, Bool.and_false, Bool.true_and, Bool.false_and, Bool.or_true, Bool.or_false, Bool.true_or, Bool.false_or] at hR
    subst hR
    (first | done | rfl)
  | true =>
    cases w00 : v4O f with
    | false =>
      simp only [w0, w00, Bool.and_false, Bool.false_eq_true, if_false] at hR
      (try simp -implicitDefEqProofs (maxSteps := 10000000) (disch := omega) only [go_sem, Int.reduceAdd, Int.reduceSub, Int.reduceMul, dec_t, dec_f, Nat.reduceBEq, Nat.reduceBNe, Nat.reduceShiftRight, Nat.reduceAnd, Nat.reduceAdd, Nat.reduceSub, Nat.reduceEqDiff, Nat.reduceLT, Nat.reduceLeDiff, Int.reduceToNat, Int.reduceLT, Int.reduceLE, Int.reduceEq, reduceIte, reduceCtorEq, e1, e0, e4, e5, e6, e7, e9, e10, e11, ha, hb, hc, hd, he, h90, w0, w00])
      try simp only [Bool.not_true, Bool.not_false, Bool.and_true, Bool.and_false, Bool.true_and, Bool.false_and, Bool.or_true, Bool.or_false, Bool.true_or, Bool.false_or] at hR
      subst hR
      (first | done | rfl)
    | true =>
      simp only [w0, w00, Bool.and_true, if_true] at hR
      (try simp -implicitDefEqProofs (maxSteps := 10000000) (disch := omega) only [go_sem, Int.reduceAdd, Int.reduceSub, Int.reduceMul, dec_t, dec_f, Nat.reduceBEq, Nat.reduceBNe, Nat.reduceShiftRight, Nat.reduceAnd, Nat.reduceAdd, Nat.reduceSub, Nat.reduceEqDiff, Nat.reduceLT, Nat.reduceLeDiff, Int.reduceToNat, Int.reduceLT, Int.reduceLE, Int.reduceEq, reduceIte, reduceCtorEq, e1, e0, e4, e5, e6, e7, e9, e10, e11, ha, hb, hc, hd, he, h90, w0, w00])
      by_cases k3 : kind f = 3
      · simp only [k3] at hR
        simp only [reduceIte, Int.reduceEq] at hR
        rw [k3] at ha hb hc hd he
        (try simp -implicitDefEqProofs (maxSteps := 10000000) (disch := omega) only [go_sem, Int.reduceAdd, Int.reduceSub, Int.reduceMul, dec_t, dec_f, Nat.reduceBEq, Nat.reduceBNe, Nat.reduceShiftRight, Nat.reduceAnd, Nat.reduceAdd, Nat.reduceSub, Nat.reduceEqDiff, Nat.reduceLT, Nat.reduceLeDiff, Int.reduceToNat, Int.reduceLT, Int.reduceLE, Int.reduceEq, reduceIte, reduceCtorEq, e1, e0, e4, e5, e6, e7, e9, e10, e11, ha, hb, hc, hd, he, h90, w0, w00, k3])
        cases w1 : A2 f with
        | false =>
          simp only [w1] at hR
          (try simp -implicitDefEqProofs (maxSteps := 10000000) (disch := omega) only [go_sem, Int.reduceAdd, Int.reduceSub, Int.reduceMul, dec_t, dec_f, Nat.reduceBEq, Nat.reduceBNe, Nat.reduceShiftRight, Nat.reduceAnd, Nat.reduceAdd, Nat.reduceSub, Nat.reduceEqDiff, Nat.reduceLT, Nat.reduceLeDiff, Int.reduceToNat, Int.reduceLT, Int.reduceLE, Int.reduceEq, reduceIte, reduceCtorEq, e1, e0, e4, e5, e6, e7, e9, e10, e11, ha, hb, hc, hd, he, h90, w0, w00, k3, w1])
          try simp only [Bool.not_true, Bool.not_false, Bool.and_true, Bool.and_false, Bool.true_and, Bool.false_and, Bool.or_true, Bool.or_false, Bool.true_or, Bool.false_or] at hR
          subst hR
          (first | done | rfl)
        | true =>
          simp only [w1] at hR
          (try simp -implicitDefEqProofs (maxSteps := 10000000) (disch := omega) only [go_sem, Int.reduceAdd, Int.reduceSub, Int.reduceMul, dec_t, dec_f, Nat.reduceBEq, Nat.reduceBNe, Nat.reduceShiftRight, Nat.reduceAnd, Nat.reduceAdd, Nat.reduceSub, Nat.reduceEqDiff, Nat.reduceLT, Nat.reduceLeDiff, Int.reduceToNat, Int.reduceLT, Int.reduceLE, Int.reduceEq, reduceIte, reduceCtorEq, e1, e0, e4, e5, e6, e7, e9, e10, e11, ha, hb, hc, hd, he, h90, w0, w00, k3, w1])
          try simp only [Bool.not_true, Bool.not_false, Bool.and_true, Bool.and_false, Bool.true_and, Bool.false_and, Bool.or_true, Bool.or_false, Bool.true_or, Bool.false_or] at hR
          subst hR
          (first | done | rfl)
      rw [if_neg k3] at hR
      by_cases k5 : kind f = 5
      · simp only [k5] at hR
        simp only [reduceIte, Int.reduceEq] at hR
        rw [k5] at ha hb hc hd he
        (try simp -implicitDefEqProofs (maxSteps := 10000000) (disch := omega) only [go_sem, Int.reduceAdd, Int.reduceSub, Int.reduceMul, dec_t, dec_f, Nat.reduceBEq, Nat.reduceBNe, Nat.reduceShiftRight, Nat.reduceAnd, Nat.reduceAdd, Nat.reduceSub, Nat.reduceEqDiff, Nat.reduceLT, Nat.reduceLeDiff, Int.reduceToNat, Int.reduceLT, Int.reduceLE, Int.reduceEq, reduceIte, reduceCtorEq, e1, e0, e4, e5, e6, e7, e9, e10, e11, ha, hb, hc, hd, he, h90, w0, w00, k5])
        cases w1 : A2 f with
        | false =>
          simp only [w1] at hR
          (try simp -implicitDefEqProofs (maxSteps := 10000000) (disch := omega) only [go_sem, Int.reduceAdd, Int.reduceSub, Int.reduceMul, dec_t, dec_f, Nat.reduceBEq, Nat.reduceBNe, Nat.reduceShiftRight, Nat.reduceAnd, Nat.reduceAdd, Nat.reduceSub, Nat.reduceEqDiff, Nat.reduceLT, Nat.reduceLeDiff, Int.reduceToNat, Int.reduceLT, Int.reduceLE, Int.reduceEq, reduceIte, reduceCtorEq, e1, e0, e4, e5, e6, e7, e9, e10, e11, ha, hb, hc, hd, he, h90, w0, w00, k5, w1])
          try simp only [Bool.not_true, Bool.not_false, Bool.and_true, Bool.and_false, Bool.true_and, Bool.false_and, Bool.or_true, Bool.or_false, Bool.true_or, Bool.false_or] at hR
          subst hR
          (first | done | rfl)
        | true =>
          simp only [w1] at hR
          (try simp -implicitDefEqProofs (maxSteps := 10000000) (disch := omega) only [go_sem, Int.reduceAdd, Int.reduceSub, Int.reduceMul, dec_t, dec_f, Nat.reduceBEq, Nat.reduceBNe, Nat.reduceShiftRight, Nat.reduceAnd, Nat.reduceAdd, Nat.reduceSub, Nat.reduceEqDiff, Nat.reduceLT, Nat.reduceLeDiff, Int.reduceToNat, Int.reduceLT, Int.reduceLE, Int.reduceEq, reduceIte, reduceCtorEq, e1, e0, e4, e5, e6, e7, e9, e10, e11, ha, hb, hc, hd, he, h90, w0, w00, k5, w1])
          try simp only [Bool.not_true, Bool.not_false, Bool.and_true, Bool.and_false, Bool.true_and, Bool.false_and, Bool.or_true, Bool.or_false, Bool.true_or, Bool.false_or] at hR
          subst hR
          (first | done | rfl)
      rw [if_neg k5] at hR
      by_cases k6 : kind f = 6
      · simp only [k6] at hR
        simp only [reduceIte, Int.reduceEq] at hR
        rw [k6] at ha hb hc hd he
        (try simp -implicitDefEqProofs (maxSteps := 10000000) (disch := omega) only [go_sem, Int.reduceAdd, Int.reduceSub, Int.reduceMul, dec_t, dec_f, Nat.reduceBEq, Nat.reduceBNe, Nat.reduceShiftRight, Nat.reduceAnd, Nat.reduceAdd, Nat.reduceSub, Nat.reduceEqDiff, Nat.reduceLT, Nat.reduceLeDiff, Int.reduceToNat, Int.reduceLT, Int.reduceLE, Int.reduceEq, reduceIte, reduceCtorEq, e1, e0, e4, e5, e6, e7, e9, e10, e11, ha, hb, hc, hd, he, h90, w0, w00, k6])
        cases w1 : A2 f with
        | false =>
          simp only [w1] at hR
          (try simp -implicitDefEqProofs (maxSteps := 10000000) (disch := omega) only [go_sem, Int.reduceAdd, Int.reduceSub, Int.reduceMul, dec_t, dec_f, Nat.reduceBEq, Nat.reduceBNe, Nat.reduceShiftRight, Nat.reduceAnd, Nat.reduceAdd, Nat.reduceSub, Nat.reduceEqDiff, Nat.reduceLT, Nat.reduceLeDiff, Int.reduceToNat, Int.reduceLT, Int.reduceLE, Int.reduceEq, reduceIte, reduceCtorEq, e1, e0, e4, e5, e6, e7, e9, e10, e11, ha, hb, hc, hd, he, h90, w0, w00, k6, w1])
          try simp only [Bool.not_true, Bool.not_false, Bool.and_true, Bool.and_false, Bool.true_and, Bool.false_and, Bool.or_true, Bool.or_false, Bool.true_or, Bool.false_or] at hR
          subst hR
          (first | done | rfl)
        | true =>
          simp only [w1] at hR
          (try simp -implicitDefEqProofs (maxSteps := 10000000) (disch := omega) only [go_sem, Int.reduceAdd, Int.reduceSub, Int.reduceMul, dec_t, dec_f, Nat.reduceBEq, Nat.reduceBNe, Nat.reduceShiftRight, Nat.reduceAnd, Nat.reduceAdd, Nat.reduceSub, Nat.reduceEqDiff, Nat.reduceLT, Nat.reduceLeDiff, Int.reduceToNat, Int.reduceLT, Int.reduceLE, Int.reduceEq, reduceIte, reduceCtorEq, e1, e0, e4, e5, e6, e7, e9, e10, e11, ha, hb, hc, hd, he, h90, w0, w00, k6, w1])
          try simp only [Bool.not_true, Bool.not_false, Bool.and_true, Bool.and_false, Bool.true_and, Bool.false_and, Bool.or_true, Bool.or_false, Bool.true_or, Bool.false_or] at hR
          subst hR
          (first | done | rfl)
      rw [if_neg k6] at hR
      by_cases k8 : kind f = 8
      · simp only [k8] at hR
        simp only [reduceIte, Int.reduceEq] at hR
        rw [k8] at ha hb hc hd he
        (try simp -implicitDefEqProofs (maxSteps := 10000000) (disch := omega) only [go_sem, Int.reduceAdd, Int.reduceSub, Int.reduceMul, dec_t, dec_f, Nat.reduceBEq, Nat.reduceBNe, Nat.reduceShiftRight, Nat.reduceAnd, Nat.reduceAdd, Nat.reduceSub, Nat.reduceEqDiff, Nat.reduceLT, Nat.reduceLeDiff, Int.reduceToNat, Int.reduceLT, Int.reduceLE, Int.reduceEq, reduceIte, reduceCtorEq, e1, e0, e4, e5, e6, e7, e9, e10, e11, ha, hb, hc, hd, he, h90, w0, w00, k8])
        cases w1 : A2 f with
        | false =>
          simp only [w1] at hR
          (try simp -implicitDefEqProofs (maxSteps := 10000000) (disch := omega) only [go_sem, Int.reduceAdd, Int.reduceSub, Int.reduceMul, dec_t, dec_f, Nat.reduceBEq, Nat.reduceBNe, Nat.reduceShiftRight, Nat.reduceAnd, Nat.reduceAdd, Nat.reduceSub, Nat.reduceEqDiff, Nat.reduceLT, Nat.reduceLeDiff, Int.reduceToNat, Int.reduceLT, Int.reduceLE, Int.reduceEq, reduceIte, reduceCtorEq, e1, e0, e4, e5, e6, e7, e9, e10, e11, ha, hb, hc, hd, he, h90, w0, w00, k8, w1])
          try simp only [Bool.not_true, Bool.not_false, Bool.and_true, Bool.and_false, Bool.true_and, Bool.false_and, Bool.or_true, Bool.or_false, Bool.true_or, Bool.false_or] at hR
          subst hR
          (first | done | rfl)
        | true =>
          simp only [w1] at hR
          (try simp -implicitDefEqProofs (maxSteps := 10000000) (disch := omega) only [go_sem, Int.reduceAdd, Int.reduceSub, Int.reduceMul, dec_t, dec_f, Nat.reduceBEq, Nat.reduceBNe, Nat.reduceShiftRight, Nat.reduceAnd, Nat.reduceAdd, Nat.reduceSub, Nat.reduceEqDiff, Nat.reduceLT, Nat.reduceLeDiff, Int.reduceToNat, Int.reduceLT, Int.reduceLE, Int.reduceEq, reduceIte, reduceCtorEq, e1, e0, e4, e5, e6, e7, e9, e10, e11, ha, hb, hc, hd, he, h90, w0, w00, k8, w1])
          try simp only [Bool.not_true, Bool.not_false, Bool.and_true, Bool.and_false, Bool.true_and, Bool.false_and, Bool.or_true, Bool.or_false, Bool.true_or, Bool.false_or] at hR
          subst hR
          (first | done | rfl)
      rw [if_neg k8] at hR
      by_cases k7 : kind f = 7
      · simp only [k7] at hR
        simp only [reduceIte, Int.reduceEq] at hR
        rw [k7] at ha hb hc hd he
        (try simp -implicitDefEqProofs (maxSteps := 10000000) (disch := omega) only [go_sem, Int.reduceAdd, Int.reduceSub, Int.reduceMul, dec_t, dec_f, Nat.reduceBEq, Nat.reduceBNe, Nat.reduceShiftRight, Nat.reduceAnd, Nat.reduceAdd, Nat.reduceSub, Nat.reduceEqDiff, Nat.reduceLT, Nat.reduceLeDiff, Int.reduceToNat, Int.reduceLT, Int.reduceLE, Int.reduceEq, reduceIte, reduceCtorEq, e1, e0, e4, e5, e6, e7, e9, e10, e11, ha, hb, hc, hd, he, h90, w0, w00, k7])
        cases w1 : A3 f with
        | false =>
          simp only [w1] at hR
          (try simp -implicitDefEqProofs (maxSteps := 10000000) (disch := omega) only [go_sem, Int.reduceAdd, Int.reduceSub, Int.reduceMul, dec_t, dec_f, Nat.reduceBEq, Nat.reduceBNe, Nat.reduceShiftRight, Nat.reduceAnd, Nat.reduceAdd, Nat.reduceSub, Nat.reduceEqDiff, Nat.reduceLT, Nat.reduceLeDiff, Int.reduceToNat, Int.reduceLT, Int.reduceLE, Int.reduceEq, reduceIte, reduceCtorEq, e1, e0, e4, e5, e6, e7, e9, e10, e11, ha, hb, hc, hd, he, h90, w0, w00, k7, w1])
          try simp only [Bool.not_true, Bool.not_false, Bool.and_true, Bool.and_false, Bool.true_and, Bool.false_and, Bool.or_true, Bool.or_false, Bool.true_or, Bool.false_or] at hR
          subst hR
          (first | done | rfl)
        | true =>
          simp only [w1] at hR
          (try simp -implicitDefEqProofs (maxSteps := 10000000) (disch := omega) only [go_sem, Int.reduceAdd, Int.reduceSub, Int.reduceMul, dec_t, dec_f, Nat.reduceBEq, Nat.reduceBNe, Nat.reduceShiftRight, Nat.reduceAnd, Nat.reduceAdd, Nat.reduceSub, Nat.reduceEqDiff, Nat.reduceLT, Nat.reduceLeDiff, Int.reduceToNat, Int.reduceLT, Int.reduceLE, Int.reduceEq, reduceIte, reduceCtorEq, e1, e0, e4, e5, e6, e7, e9, e10, e11, ha, hb, hc, hd, he, h90, w0, w00, k7, w1])
          try simp only [Bool.not_true, Bool.not_false, Bool.and_true, Bool.and_false, Bool.true_and, Bool.false_and, Bool.or_true, Bool.or_false, Bool.true_or, Bool.false_or] at hR
          subst hR
          (first | done | rfl)
      rw [if_neg k7] at hR
      by_cases k4 : kind f = 4
      · simp only [k4] at hR
        simp only [reduceIte, Int.reduceEq] at hR
        rw [k4] at ha hb hc hd he
        (try simp -implicitDefEqProofs (maxSteps := 10000000) (disch := omega) only [go_sem, Int.reduceAdd, Int.reduceSub, Int.reduceMul, dec_t, dec_f, Nat.reduceBEq, Nat.reduceBNe, Nat.reduceShiftRight, Nat.reduceAnd, Nat.reduceAdd, Nat.reduceSub, Nat.reduceEqDiff, Nat.reduceLT, Nat.reduceLeDiff, Int.reduceToNat, Int.reduceLT, Int.reduceLE, Int.reduceEq, reduceIte, reduceCtorEq, e1, e0, e4, e5, e6, e7, e9, e10, e11, ha, hb, hc, hd, he, h90, w0, w00, k4])
        cases w2 : A4 f with
        | false =>
          simp only [w2] at hR
          (try simp -implicitDefEqProofs (maxSteps := 10000000) (disch := omega) only [go_sem, Int.reduceAdd, Int.reduceSub, Int.reduceMul, dec_t, dec_f, Nat.reduceBEq, Nat.reduceBNe, Nat.reduceShiftRight, Nat.reduceAnd, Nat.reduceAdd, Nat.reduceSub, Nat.reduceEqDiff, Nat.reduceLT, Nat.reduceLeDiff, Int.reduceToNat, Int.reduceLT, Int.reduceLE, Int.reduceEq, reduceIte, reduceCtorEq, e1, e0, e4, e5, e6, e7, e9, e10, e11, ha, hb, hc, hd, he, h90, w0, w00, k4, w2])
          try simp only [Bool.not_true, Bool.not_false, Bool.and_true, Bool.and_false, Bool.true_and, Bool.false_and, Bool.or_true, Bool.or_false, Bool.true_or, Bool.false_or] at hR
          subst hR
          (first | done | rfl)
        | true =>
          simp only [w2] at hR
          (try simp -implicitDefEqProofs (maxSteps := 10000000) (disch := omega) only [go_sem, Int.reduceAdd, Int.reduceSub, Int.reduceMul, dec_t, dec_f, Nat.reduceBEq, Nat.reduceBNe, Nat.reduceShiftRight, Nat.reduceAnd, Nat.reduceAdd, Nat.reduceSub, Nat.reduceEqDiff, Nat.reduceLT, Nat.reduceLeDiff, Int.reduceToNat, Int.reduceLT, Int.reduceLE, Int.reduceEq, reduceIte, reduceCtorEq, e1, e0, e4, e5, e6, e7, e9, e10, e11, ha, hb, hc, hd, he, h90, w0, w00, k4, w2])
          cases w1 : wnO f with
          | false =>
            simp only [w1] at hR
            (try simp -implicitDefEqProofs (maxSteps := 10000000) (disch := omega) only [go_sem, Int.reduceAdd, Int.reduceSub, Int.reduceMul, dec_t, dec_f, Nat.reduceBEq, Nat.reduceBNe, Nat.reduceShiftRight, Nat.reduceAnd, Nat.reduceAdd, Nat.reduceSub, Nat.reduceEqDiff, Nat.reduceLT, Nat.reduceLeDiff, Int.reduceToNat, Int.reduceLT, Int.reduceLE, Int.reduceEq, reduceIte, reduceCtorEq, e1, e0, e4, e5, e6, e7, e9, e10, e11, ha, hb, hc, hd, he, h90, w0, w00, k4, w2, w1])
            try simp only [Bool.not_true, Bool.not_false, Bool.and_true, Bool.and_false, Bool.true_and, Bool.false_and, Bool.or_true, Bool.or_false, Bool.true_or, Bool.false_or] at hR
            subst hR
            (first | done | rfl)
          | true =>
            simp only [w1] at hR
            (try simp -implicitDefEqProofs (maxSteps := 10000000) (disch := omega) only [go_sem, Int.reduceAdd, Int.reduceSub, Int.reduceMul, dec_t, dec_f, Nat.reduceBEq, Nat.reduceBNe, Nat.reduceShiftRight, Nat.reduceAnd, Nat.reduceAdd, Nat.reduceSub, Nat.reduceEqDiff, Nat.reduceLT, Nat.reduceLeDiff, Int.reduceToNat, Int.reduceLT, Int.reduceLE, Int.reduceEq, reduceIte, reduceCtorEq, e1, e0, e4, e5, e6, e7, e9, e10, e11, ha, hb, hc, hd, he, h90, w0, w00, k4, w2, w1])
            try simp only [Bool.not_true, Bool.not_false, Bool.and_true, Bool.and_false, Bool.true_and, Bool.false_and, Bool.or_true, Bool.or_false, Bool.true_or, Bool.false_or] at hR
            subst hR
            (first | done | rfl)
      rw [if_neg k4] at hR
      by_cases k9 : kind f = 9
      · simp only [k9] at hR
        simp only [reduceIte, Int.reduceEq] at hR
        rw [k9] at ha hb hc hd he
        (try simp -implicitDefEqProofs (maxSteps := 10000000) (disch := omega) only [go_sem, Int.reduceAdd, Int.reduceSub, Int.reduceMul, dec_t, dec_f, Nat.reduceBEq, Nat.reduceBNe, Nat.reduceShiftRight, Nat.reduceAnd, Nat.reduceAdd, Nat.reduceSub, Nat.reduceEqDiff, Nat.reduceLT, Nat.reduceLeDiff, Int.reduceToNat, Int.reduceLT, Int.reduceLE, Int.reduceEq, reduceIte, reduceCtorEq, e1, e0, e4, e5, e6, e7, e9, e10, e11, ha, hb, hc, hd, he, h90, w0, w00, k9])
        cases w6 : wrO f with
        | false =>
          simp only [w6] at hR
          (try simp -implicitDefEqProofs (maxSteps := 10000000) (disch := omega) only [go_sem, Int.reduceAdd, Int.reduceSub, Int.reduceMul, dec_t, dec_f, Nat.reduceBEq, Nat.reduceBNe, Nat.reduceShiftRight, Nat.reduceAnd, Nat.reduceAdd, Nat.reduceSub, Nat.reduceEqDiff, Nat.reduceLT, Nat.reduceLeDiff, Int.reduceToNat, Int.reduceLT, Int.reduceLE, Int.reduceEq, reduceIte, reduceCtorEq, e1, e0, e4, e5, e6, e7, e9, e10, e11, ha, hb, hc, hd, he, h90, w0, w00, k9, w6])
          cases w5 : rdO f with
          | false =>
            simp only [w5] at hR
            (try simp -implicitDefEqProofs (maxSteps := 10000000) (disch := omega) only [go_sem, Int.reduceAdd, Int.reduceSub, Int.reduceMul, dec_t, dec_f, Nat.reduceBEq, Nat.reduceBNe, Nat.reduceShiftRight, Nat.reduceAnd, Nat.reduceAdd, Nat.reduceSub, Nat.reduceEqDiff, Nat.reduceLT, Nat.reduceLeDiff, Int.reduceToNat, Int.reduceLT, Int.reduceLE, Int.reduceEq, reduceIte, reduceCtorEq, e1, e0, e4, e5, e6, e7, e9, e10, e11, ha, hb, hc, hd, he, h90, w0, w00, k9, w6, w5])
            cases w4 : pEmptyO f with
            | false =>
              simp only [w4] at hR
              (try simp -implicitDefEqProofs (maxSteps := 10000000) (disch := omega) only [go_sem, Int.reduceAdd, Int.reduceSub, Int.reduceMul, dec_t, dec_f, Nat.reduceBEq, Nat.reduceBNe, Nat.reduceShiftRight, Nat.reduceAnd, Nat.reduceAdd, Nat.reduceSub, Nat.reduceEqDiff, Nat.reduceLT, Nat.reduceLeDiff, Int.reduceToNat, Int.reduceLT, Int.reduceLE, Int.reduceEq, reduceIte, reduceCtorEq, e1, e0, e4, e5, e6, e7, e9, e10, e11, ha, hb, hc, hd, he, h90, w0, w00, k9, w6, w5, w4])
              try simp only [Bool.not_true, Bool.not_false, Bool.and_true, Bool.and_false, Bool.true_and, Bool.false_and, Bool.or_true, Bool.or_false, Bool.true_or, Bool.false_or] at hR
              subst hR
              (first | done | rfl)
            | true =>
              simp only [w4] at hR
              (try simp -implicitDefEqProofs (maxSteps := 10000000) (disch := omega) only [go_sem, Int.reduceAdd, Int.reduceSub, Int.reduceMul, dec_t, dec_f, Nat.reduceBEq, Nat.reduceBNe, Nat.reduceShiftRight, Nat.reduceAnd, Nat.reduceAdd, Nat.reduceSub, Nat.reduceEqDiff, Nat.reduceLT, Nat.reduceLeDiff, Int.reduceToNat, Int.reduceLT, Int.reduceLE, Int.reduceEq, reduceIte, reduceCtorEq, e1, e0, e4, e5, e6, e7, e9, e10, e11, ha, hb, hc, hd, he, h90, w0, w00, k9, w6, w5, w4])
              cases w3 : wnO f with
              | false =>
                simp only [w3] at hR
                (try simp -implicitDefEqProofs (maxSteps := 10000000) (disch := omega) only [go_sem, Int.reduceAdd, Int.reduceSub, Int.reduceMul, dec_t, dec_f, Nat.reduceBEq, Nat.reduceBNe, Nat.reduceShiftRight, Nat.reduceAnd, Nat.reduceAdd, Nat.reduceSub, Nat.reduceEqDiff, Nat.reduceLT, Nat.reduceLeDiff, Int.reduceToNat, Int.reduceLT, Int.reduceLE, Int.reduceEq, reduceIte, reduceCtorEq, e1, e0, e4, e5, e6, e7, e9, e10, e11, ha, hb, hc, hd, he, h90, w0, w00, k9, w6, w5, w4, w3])
                cases w2 : neO f with
                | false =>
                  simp only [w2] at hR
                  (try simp -implicitDefEqProofs (maxSteps := 10000000) (disch := omega) only [go_sem, Int.reduceAdd, Int.reduceSub, Int.reduceMul, dec_t, dec_f, Nat.reduceBEq, Nat.reduceBNe, Nat.reduceShiftRight, Nat.reduceAnd, Nat.reduceAdd, Nat.reduceSub, Nat.reduceEqDiff, Nat.reduceLT, Nat.reduceLeDiff, Int.reduceToNat, Int.reduceLT, Int.reduceLE, Int.reduceEq, reduceIte, reduceCtorEq, e1, e0, e4, e5, e6, e7, e9, e10, e11, ha, hb, hc, hd, he, h90, w0, w00, k9, w6, w5, w4, w3, w2])
                  cases w1 : brO f with
                  | false =>
                    simp only [w1] at hR
                    (try simp -implicitDefEqProofs (maxSteps := 10000000) (disch := omega) only [go_sem, Int.reduceAdd, Int.reduceSub, Int.reduceMul, dec_t, dec_f, Nat.reduceBEq, Nat.reduceBNe, Nat.reduceShiftRight, Nat.reduceAnd, Nat.reduceAdd, Nat.reduceSub, Nat.reduceEqDiff, Nat.reduceLT, Nat.reduceLeDiff, Int.reduceToNat, Int.reduceLT, Int.reduceLE, Int.reduceEq, reduceIte, reduceCtorEq, e1, e0, e4, e5, e6, e7, e9, e10, e11, ha, hb, hc, hd, he, h90, w0, w00, k9, w6, w5, w4, w3, w2, w1])
                    try simp only [Bool.not_true, Bool.not_false, Bool.and_true, Bool.and_false, Bool.true_and, Bool.false_and, Bool.or_true, Bool.or_false, Bool.true_or, Bool.false_or] at hR
                    subst hR
                    (first | done | rfl)
                  | true =>
                    simp only [w1] at hR
                    (try simp -implicitDefEqProofs (maxSteps := 10000000) (disch := omega) only [go_sem, Int.reduceAdd, Int.reduceSub, Int.reduceMul, dec_t, dec_f, Nat.reduceBEq, Nat.reduceBNe, Nat.reduceShiftRight, Nat.reduceAnd, Nat.reduceAdd, Nat.reduceSub, Nat.reduceEqDiff, Nat.reduceLT, Nat.reduceLeDiff, Int.reduceToNat, Int.reduceLT, Int.reduceLE, Int.reduceEq, reduceIte, reduceCtorEq, e1, e0, e4, e5, e6, e7, e9, e10, e11, ha, hb, hc, hd, he, h90, w0, w00, k9, w6, w5, w4, w3, w2, w1])
                    try simp only [Bool.not_true, Bool.not_false, Bool.and_true, Bool.and_false, Bool.true_and, Bool.false_and, Bool.or_true, Bool.or_false, Bool.true_or, Bool.false_or] at hR
                    subst hR
                    (first | done | rfl)
                | true =>
                  simp only [w2] at hR
                  (try simp -implicitDefEqProofs (maxSteps := 10000000) (disch := omega) only [go_sem, Int.reduceAdd, Int.reduceSub, Int.reduceMul, dec_t, dec_f, Nat.reduceBEq, Nat.reduceBNe, Nat.reduceShiftRight, Nat.reduceAnd, Nat.reduceAdd, Nat.reduceSub, Nat.reduceEqDiff, Nat.reduceLT, Nat.reduceLeDiff, Int.reduceToNat, Int.reduceLT, Int.reduceLE, Int.reduceEq, reduceIte, reduceCtorEq, e1, e0, e4, e5, e6, e7, e9, e10, e11, ha, hb, hc, hd, he, h90, w0, w00, k9, w6, w5, w4, w3, w2])
                  cases w1 : brO f with
                  | false =>
                    simp only [w1] at hR
                    (try simp -implicitDefEqProofs (maxSteps := 10000000) (disch := omega) only [go_sem, Int.reduceAdd, Int.reduceSub, Int.reduceMul, dec_t, dec_f, Nat.reduceBEq, Nat.reduceBNe, Nat.reduceShiftRight, Nat.reduceAnd, Nat.reduceAdd, Nat.reduceSub, Nat.reduceEqDiff, Nat.reduceLT, Nat.reduceLeDiff, Int.reduceToNat, Int.reduceLT, Int.reduceLE, Int.reduceEq, reduceIte, reduceCtorEq, e1, e0, e4, e5, e6, e7, e9, e10, e11, ha, hb, hc, hd, he, h90, w0, w00, k9, w6, w5, w4, w3, w2, w1])
                    try simp only [Bool.not_true, Bool.not_false, Bool.and_true, Bool.and_false, Bool.true_and, Bool.false_and, Bool.or_true, Bool.or_false, Bool.true_or, Bool.false_or] at hR
                    subst hR
                    (first | done | rfl)
                  | true =>
                    simp only [w1] at hR
                    (try simp -implicitDefEqProofs (maxSteps := 10000000) (disch := omega) only [go_sem, Int.reduceAdd, Int.reduceSub, Int.reduceMul, dec_t, dec_f, Nat.reduceBEq, Nat.reduceBNe, Nat.reduceShiftRight, Nat.reduceAnd, Nat.reduceAdd, Nat.reduceSub, Nat.reduceEqDiff, Nat.reduceLT, Nat.reduceLeDiff, Int.reduceToNat, Int.reduceLT, Int.reduceLE, Int.reduceEq, reduceIte, reduceCtorEq, e1, e0, e4, e5, e6, e7, e9, e10, e11, ha, hb, hc, hd, he, h90, w0, w00, k9, w6, w5, w4, w3, w2, w1])
                    try simp only [Bool.not_true, Bool.not_false, Bool.and_true, Bool.and_false, Bool.true_and, Bool.false_and, Bool.or_true, Bool.or_false, Bool.true_or, Bool.false_or] at hR
                    subst hR
                    (first | done | rfl)
              | true =>
                simp only [w3] at hR
                (try simp -implicitDefEqProofs (maxSteps := 10000000) (disch := omega) only [go_sem, Int.reduceAdd, Int.reduceSub, Int.reduceMul, dec_t, dec_f, Nat.reduceBEq, Nat.reduceBNe, Nat.reduceShiftRight, Nat.reduceAnd, Nat.reduceAdd, Nat.reduceSub, Nat.reduceEqDiff, Nat.reduceLT, Nat.reduceLeDiff, Int.reduceToNat, Int.reduceLT, Int.reduceLE, Int.reduceEq, reduceIte, reduceCtorEq, e1, e0, e4, e5, e6, e7, e9, e10, e11, ha, hb, hc, hd, he, h90, w0, w00, k9, w6, w5, w4, w3])
                cases w2 : neO f with
                | false =>
                  simp only [w2] at hR
                  (try simp -implicitDefEqProofs (maxSteps := 10000000) (disch := omega) only [go_sem, Int.reduceAdd, Int.reduceSub, Int.reduceMul, dec_t, dec_f, Nat.reduceBEq, Nat.reduceBNe, Nat.reduceShiftRight, Nat.reduceAnd, Nat.reduceAdd, Nat.reduceSub, Nat.reduceEqDiff, Nat.reduceLT, Nat.reduceLeDiff, Int.reduceToNat, Int.reduceLT, Int.reduceLE, Int.reduceEq, reduceIte, reduceCtorEq, e1, e0, e4, e5, e6, e7, e9, e10, e11, ha, hb, hc, hd, he, h90, w0, w00, k9, w6, w5, w4, w3, w2])
                  cases w1 : brO f with
                  | false =>
                    simp only [w1] at hR
                    (try simp -implicitDefEqProofs (maxSteps := 10000000) (disch := omega) only [go_sem, Int.reduceAdd, Int.reduceSub, Int.reduceMul, dec_t, dec_f, Nat.reduceBEq, Nat.reduceBNe, Nat.reduceShiftRight, Nat.reduceAnd, Nat.reduceAdd, Nat.reduceSub, Nat.reduceEqDiff, Nat.reduceLT, Nat.reduceLeDiff, Int.reduceToNat, Int.reduceLT, Int.reduceLE, Int.reduceEq, reduceIte, reduceCtorEq, e1, e0, e4, e5, e6, e7, e9, e10, e11, ha, hb, hc, hd, he, h90, w0, w00, k9, w6, w5, w4, w3, w2, w1])
                    try simp only [Bool.not_true, Bool.not_false, Bool.and_true, Bool.and_false, Bool.true_and, Bool.false_and, Bool.or_true, Bool.or_false, Bool.true_or, Bool.false_or] at hR
                    subst hR
                    (first | done | rfl)
                  | true =>
                    simp only [w1] at hR
                    (try simp -implicitDefEqProofs (maxSteps := 10000000) (disch := omega) only [go_sem, Int.reduceAdd, Int.reduceSub, Int.reduceMul, dec_t, dec_f, Nat.reduceBEq, Nat.reduceBNe, Nat.reduceShiftRight, Nat.reduceAnd, Nat.reduceAdd, Nat.reduceSub, Nat.reduceEqDiff, Nat.reduceLT, Nat.reduceLeDiff, Int.reduceToNat, Int.reduceLT, Int.reduceLE, Int.reduceEq, reduceIte, reduceCtorEq, e1, e0, e4, e5, e6, e7, e9, e10, e11, ha, hb, hc, hd, he, h90, w0, w00, k9, w6, w5, w4, w3, w2, w1])
                    try simp only [Bool.not_true, Bool.not_false, Bool.and_true, Bool.and_false, Bool.true_and, Bool.false_and, Bool.or_true, Bool.or_false, Bool.true_or, Bool.false_or] at hR
                    subst hR
                    (first | done | rfl)
                | true =>
                  simp only [w2] at hR
                  (try simp -implicitDefEqProofs (maxSteps := 10000000) (disch := omega) only [go_sem, Int.reduceAdd, Int.reduceSub, Int.reduceMul, dec_t, dec_f, Nat.reduceBEq, Nat.reduceBNe, Nat.reduceShiftRight, Nat.reduceAnd, Nat.reduceAdd, Nat.reduceSub, Nat.reduceEqDiff, Nat.reduceLT, Nat.reduceLeDiff, Int.reduceToNat, Int.reduceLT, Int.reduceLE, Int.reduceEq, reduceIte, reduceCtorEq, e1, e0, e4, e5, e6, e7, e9, e10, e11, ha, hb, hc, hd, he, h90, w0, w00, k9, w6, w5, w4, w3, w2])
                  cases w1 : brO f with
                  | false =>
                    simp only [w1] at hR
                    (try simp -implicitDefEqProofs (maxSteps := 10000000) (disch := omega) only [go_sem, Int.reduceAdd, Int.reduceSub, Int.reduceMul, dec_t, dec_f, Nat.reduceBEq, Nat.reduceBNe, Nat.reduceShiftRight, Nat.reduceAnd, Nat.reduceAdd, Nat.reduceSub, Nat.reduceEqDiff, Nat.reduceLT, Nat.reduceLeDiff, Int.reduceToNat, Int.reduceLT, Int.reduceLE, Int.reduceEq, reduceIte, reduceCtorEq, e1, e0, e4, e5, e6, e7, e9, e10, e11, ha, hb, hc, hd, he, h90, w0, w00, k9, w6, w5, w4, w3, w2, w1])
                    try simp only [Bool.not_true, Bool.not_false, Bool.and_true, Bool.and_false, Bool.true_and, Bool.false_and, Bool.or_true, Bool.or_false, Bool.true_or, Bool.false_or] at hR
                    subst hR
                    (first | done | rfl)
                  | true =>
                    simp only [w1] at hR
                    (try simp -implicitDefEqProofs (maxSteps := 10000000) (disch := omega) only [go_sem, Int.reduceAdd, Int.reduceSub, Int.reduceMul, dec_t, dec_f, Nat.reduceBEq, Nat.reduceBNe, Nat.reduceShiftRight, Nat.reduceAnd, Nat.reduceAdd, Nat.reduceSub, Nat.reduceEqDiff, Nat.reduceLT, Nat.reduceLeDiff, Int.reduceToNat, Int.reduceLT, Int.reduceLE, Int.reduceEq, reduceIte, reduceCtorEq, e1, e0, e4, e5, e6, e7, e9, e10, e11, ha, hb, hc, hd, he, h90, w0, w00, k9, w6, w5, w4, w3, w2, w1])
                    try simp only [Bool.not_true, Bool.not_false, Bool.and_true, Bool.and_false, Bool.true_and, Bool.false_and, Bool.or_true, Bool.or_false, Bool.true_or, Bool.false_or] at hR
                    subst hR
                    (first | done | rfl)
          | true =>
            simp only [w5] at hR
            (try simp -implicitDefEqProofs (maxSteps := 10000000) (disch := omega) only [go_sem, Int.reduceAdd, Int.reduceSub, Int.reduceMul, dec_t, dec_f, Nat.reduceBEq, Nat.reduceBNe, Nat.reduceShiftRight, Nat.reduceAnd, Nat.reduceAdd, Nat.reduceSub, Nat.reduceEqDiff, Nat.reduceLT, Nat.reduceLeDiff, Int.reduceToNat, Int.reduceLT, Int.reduceLE, Int.reduceEq, reduceIte, reduceCtorEq, e1, e0, e4, e5, e6, e7, e9, e10, e11, ha, hb, hc, hd, he, h90, w0, w00, k9, w6, w5])
            cases w4 : pEmptyO f with
            | false =>
              simp only [w4] at hR
              (try simp -implicitDefEqProofs (maxSteps := 10000000) (disch := omega) only [go_sem, Int.reduceAdd, Int.reduceSub, Int.reduceMul, dec_t, dec_f, Nat.reduceBEq, Nat.reduceBNe, Nat.reduceShiftRight, Nat.reduceAnd, Nat.reduceAdd, Nat.reduceSub, Nat.reduceEqDiff, Nat.reduceLT, Nat.reduceLeDiff, Int.reduceToNat, Int.reduceLT, Int.reduceLE, Int.reduceEq, reduceIte, reduceCtorEq, e1, e0, e4, e5, e6, e7, e9, e10, e11, ha, hb, hc, hd, he, h90, w0, w00, k9, w6, w5, w4])
              try simp only [Bool.not_true, Bool.not_false, Bool.and_true, Bool.and_false, Bool.true_and, Bool.false_and, Bool.or_true, Bool.or_false, Bool.true_or, Bool.false_or] at hR
              subst hR
              (first | done | rfl)
            | true =>
              simp only [w4] at hR
              (try simp -implicitDefEqProofs (maxSteps := 10000000) (disch := omega) only [go_sem, Int.reduceAdd, Int.reduceSub, Int.reduceMul, dec_t, dec_f, Nat.reduceBEq, Nat.reduceBNe, Nat.reduceShiftRight, Nat.reduceAnd, Nat.reduceAdd, Nat.reduceSub, Nat.reduceEqDiff, Nat.reduceLT, Nat.reduceLeDiff, Int.reduceToNat, Int.reduceLT, Int.reduceLE, Int.reduceEq, reduceIte, reduceCtorEq, e1, e0, e4, e5, e6, e7, e9, e10, e11, ha, hb, hc, hd, he, h90, w0, w00, k9, w6, w5, w4])
              cases w3 : wnO f with
              | false =>
                simp only [w3] at hR
                (try simp -implicitDefEqProofs (maxSteps := 10000000) (disch := omega) only [go_sem, Int.reduceAdd, Int.reduceSub, Int.reduceMul, dec_t, dec_f, Nat.reduceBEq, Nat.reduceBNe, Nat.reduceShiftRight, Nat.reduceAnd, Nat.reduceAdd, Nat.reduceSub, Nat.reduceEqDiff, Nat.reduceLT, Nat.reduceLeDiff, Int.reduceToNat, Int.reduceLT, Int.reduceLE, Int.reduceEq, reduceIte, reduceCtorEq, e1, e0, e4, e5, e6, e7, e9, e10, e11, ha, hb, hc, hd, he, h90, w0, w00, k9, w6, w5, w4, w3])
                cases w2 : neO f with
                | false =>
                  simp only [w2] at hR
                  (try simp -implicitDefEqProofs (maxSteps := 10000000) (disch := omega) only [go_sem, Int.reduceAdd, Int.reduceSub, Int.reduceMul, dec_t, dec_f, Nat.reduceBEq, Nat.reduceBNe, Nat.reduceShiftRight, Nat.reduceAnd, Nat.reduceAdd, Nat.reduceSub, Nat.reduceEqDiff, Nat.reduceLT, Nat.reduceLeDiff, Int.reduceToNat, Int.reduceLT, Int.reduceLE, Int.reduceEq, reduceIte, reduceCtorEq, e1, e0, e4, e5, e6, e7, e9, e10, e11, ha, hb, hc, hd, he, h90, w0, w00, k9, w6, w5, w4, w3, w2])
                  cases w1 : brO f with
                  | false =>
                    simp only [w1] at hR
                    (try simp -implicitDefEqProofs (maxSteps := 10000000) (disch := omega) only [go_sem, Int.reduceAdd, Int.reduceSub, Int.reduceMul, dec_t, dec_f, Nat.reduceBEq, Nat.reduceBNe, Nat.reduceShiftRight, Nat.reduceAnd, Nat.reduceAdd, Nat.reduceSub, Nat.reduceEqDiff, Nat.reduceLT, Nat.reduceLeDiff, Int.reduceToNat, Int.reduceLT, Int.reduceLE, Int.reduceEq, reduceIte, reduceCtorEq, e1, e0, e4, e5, e6, e7, e9, e10, e11, ha, hb, hc, hd, he, h90, w0, w00, k9, w6, w5, w4, w3, w2, w1])
                    try simp only [Bool.not_true, Bool.not_false, Bool.and_true, Bool.and_false, Bool.true_and, Bool.false_and, Bool.or_true, Bool.or_false, Bool.true_or, Bool.false_or] at hR
                    subst hR
                    (first | done | rfl)
                  | true =>
                    simp only [w1] at hR
                    (try simp -implicitDefEqProofs (maxSteps := 10000000) (disch := omega) only [go_sem, Int.reduceAdd, Int.reduceSub, Int.reduceMul, dec_t, dec_f, Nat.reduceBEq, Nat.reduceBNe, Nat.reduceShiftRight, Nat.reduceAnd, Nat.reduceAdd, Nat.reduceSub, Nat.reduceEqDiff, Nat.reduceLT, Nat.reduceLeDiff, Int.reduceToNat, Int.reduceLT, Int.reduceLE, Int.reduceEq, reduceIte, reduceCtorEq, e1, e0, e4, e5, e6, e7, e9, e10, e11, ha, hb, hc, hd, he, h90, w0, w00, k9, w6, w5, w4, w3, w2, w1])
                    try simp only [Bool.not_true, Bool.not_false, Bool.and_true, Bool.and_false, Bool.true_and, Bool.false_and, Bool.or_true, Bool.or_false, Bool.true_or, Bool.false_or] at hR
                    subst hR
                    (first | done | rfl)
                | true =>
                  simp only [w2] at hR
                  (try simp -implicitDefEqProofs (maxSteps := 10000000) (disch := omega) only [go_sem, Int.reduceAdd, Int.reduceSub, Int.reduceMul, dec_t, dec_f, Nat.reduceBEq, Nat.reduceBNe, Nat.reduceShiftRight, Nat.reduceAnd, Nat.reduceAdd, Nat.reduceSub, Nat.reduceEqDiff, Nat.reduceLT, Nat.reduceLeDiff, Int.reduceToNat, Int.reduceLT, Int.reduceLE, Int.reduceEq, reduceIte, reduceCtorEq, e1, e0, e4, e5, e6, e7, e9, e10, e11, ha, hb, hc, hd, he, h90, w0, w00, k9, w6, w5, w4, w3, w2])
                  cases w1 : brO f with
                  | false =>
                    simp only [w1] at hR
                    (try simp -implicitDefEqProofs (maxSteps := 10000000) (disch := omega) only [go_sem, Int.reduceAdd, Int.reduceSub, Int.reduceMul, dec_t, dec_f, Nat.reduceBEq, Nat.reduceBNe, Nat.reduceShiftRight, Nat.reduceAnd, Nat.reduceAdd, Nat.reduceSub, Nat.reduceEqDiff, Nat.reduceLT, Nat.reduceLeDiff, Int.reduceToNat, Int.reduceLT, Int.reduceLE, Int.reduceEq, reduceIte, reduceCtorEq, e1, e0, e4, e5, e6, e7, e9, e10, e11, ha, hb, hc, hd, he, h90, w0, w00, k9, w6, w5, w4, w3, w2, w1])
                    try simp only [Bool.not_true, Bool.not_false, Bool.and_true, Bool.and_false, Bool.true_and, Bool.false_and, Bool.or_true, Bool.or_false, Bool.true_or, Bool.false_or] at hR
                    subst hR
                    (first | done | rfl)
                  | true =>
                    simp only [w1] at hR
                    (try simp -implicitDefEqProofs (maxSteps := 10000000) (disch := omega) only [go_sem, Int.reduceAdd, Int.reduceSub, Int.reduceMul, dec_t, dec_f, Nat.reduceBEq, Nat.reduceBNe, Nat.reduceShiftRight, Nat.reduceAnd, Nat.reduceAdd, Nat.reduceSub, Nat.reduceEqDiff, Nat.reduceLT, Nat.reduceLeDiff, Int.reduceToNat, Int.reduceLT, Int.reduceLE, Int.reduceEq, reduceIte, reduceCtorEq, e1, e0, e4, e5, e6, e7, e9, e10, e11, ha, hb, hc, hd, he, h90, w0, w00, k9, w6, w5, w4, w3, w2, w1])
                    try simp only [Bool.not_true, Bool.not_false, Bool.and_true, Bool.and_false, Bool.true_and, Bool.false_and, Bool.or_true, Bool.or_false, Bool.true_or, Bool.false_or] at hR
                    subst hR
                    (first | done | rfl)
              | true =>
                simp only [w3] at hR
                (try simp -implicitDefEqProofs (maxSteps := 10000000) (disch := omega) only [go_sem, Int.reduceAdd, Int.reduceSub, Int.reduceMul, dec_t, dec_f, Nat.reduceBEq, Nat.reduceBNe, Nat.reduceShiftRight, Nat.reduceAnd, Nat.reduceAdd, Nat.reduceSub, Nat.reduceEqDiff, Nat.reduceLT, Nat.reduceLeDiff, Int.reduceToNat, Int.reduceLT, Int.reduceLE, Int.reduceEq, reduceIte, reduceCtorEq, e1, e0, e4, e5, e6, e7, e9, e10, e11, ha, hb, hc, hd, he, h90, w0, w00, k9, w6, w5, w4, w3])
                cases w2 : neO f with
                | false =>
                  simp only [w2] at hR
                  (try simp -implicitDefEqProofs (maxSteps := 10000000) (disch := omega) only [go_sem, Int.reduceAdd, Int.reduceSub, Int.reduceMul, dec_t, dec_f, Nat.reduceBEq, Nat.reduceBNe, Nat.reduceShiftRight, Nat.reduceAnd, Nat.reduceAdd, Nat.reduceSub, Nat.reduceEqDiff, Nat.reduceLT, Nat.reduceLeDiff, Int.reduceToNat, Int.reduceLT, Int.reduceLE, Int.reduceEq, reduceIte, reduceCtorEq, e1, e0, e4, e5, e6, e7, e9, e10, e11, ha, hb, hc, hd, he, h90, w0, w00, k9, w6, w5, w4, w3, w2])
                  cases w1 : brO f with
                  | false =>
                    simp only [w1] at hR
                    (try simp -implicitDefEqProofs (maxSteps := 10000000) (disch := omega) only [go_sem, Int.reduceAdd, Int.reduceSub, Int.reduceMul, dec_t, dec_f, Nat.reduceBEq, Nat.reduceBNe, Nat.reduceShiftRight, Nat.reduceAnd, Nat.reduceAdd, Nat.reduceSub, Nat.reduceEqDiff, Nat.reduceLT, Nat.reduceLeDiff, Int.reduceToNat, Int.reduceLT, Int.reduceLE, Int.reduceEq, reduceIte, reduceCtorEq, e1, e0, e4, e5, e6, e7, e9, e10, e11, ha, hb, hc, hd, he, h90, w0, w00, k9, w6, w5, w4, w3, w2, w1])
                    try simp only [Bool.not_true, Bool.not_false, Bool.and_true, Bool.and_false, Bool.true_and, Bool.false_and, Bool.or_true, Bool.or_false, Bool.true_or, Bool.false_or] at hR
                    subst hR
                    (first | done | rfl)
                  | true =>
                    simp only [w1] at hR
                    (try simp -implicitDefEqProofs (maxSteps := 10000000) (disch := omega) only [go_sem, Int.reduceAdd, Int.reduceSub, Int.reduceMul, dec_t, dec_f, Nat.reduceBEq, Nat.reduceBNe, Nat.reduceShiftRight, Nat.reduceAnd, Nat.reduceAdd, Nat.reduceSub, Nat.reduceEqDiff, Nat.reduceLT, Nat.reduceLeDiff, Int.reduceToNat, Int.reduceLT, Int.reduceLE, Int.reduceEq, reduceIte, reduceCtorEq, e1, e0, e4, e5, e6, e7, e9, e10, e11, ha, hb, hc, hd, he, h90, w0, w00, k9, w6, w5, w4, w3, w2, w1])
                    try simp only [Bool.not_true, Bool.not_false, Bool.and_true, Bool.and_false, Bool.true_and, Bool.false_and, Bool.or_true, Bool.or_false, Bool.true_or, Bool.false_or] at hR
                    subst hR
                    (first | done | rfl)
                | true =>
                  simp only [w2] at hR
                  (try simp -implicitDefEqProofs (maxSteps := 10000000) (disch := omega) only [go_sem, Int.reduceAdd, Int.reduceSub, Int.reduceMul, dec_t, dec_f, Nat.reduceBEq, Nat.reduceBNe, Nat.reduceShiftRight, Nat.reduceAnd, Nat.reduceAdd, Nat.reduceSub, Nat.reduceEqDiff, Nat.reduceLT, Nat.reduceLeDiff, Int.reduceToNat, Int.reduceLT, Int.reduceLE, Int.reduceEq, reduceIte, reduceCtorEq, e1, e0, e4, e5, e6, e7, e9, e10, e11, ha, hb, hc, hd, he, h90, w0, w00, k9, w6, w5, w4, w3, w2])
                  cases w1 : brO f with
                  | false =>
                    simp only [w1] at hR
                    (try simp -implicitDefEqProofs (maxSteps := 10000000) (disch := omega) only [go_sem, Int.reduceAdd, Int.reduceSub, Int.reduceMul, dec_t, dec_f, Nat.reduceBEq, Nat.reduceBNe, Nat.reduceShiftRight, Nat.reduceAnd, Nat.reduceAdd, Nat.reduceSub, Nat.reduceEqDiff, Nat.reduceLT, Nat.reduceLeDiff, Int.reduceToNat, Int.reduceLT, Int.reduceLE, Int.reduceEq, reduceIte, reduceCtorEq, e1, e0, e4, e5, e6, e7, e9, e10, e11, ha, hb, hc, hd, he, h90, w0, w00, k9, w6, w5, w4, w3, w2, w1])
                    try simp only [Bool.not_true, Bool.not_false, Bool.and_true, Bool.and_false, Bool.true_and, Bool.false_and, Bool.or_true, Bool.or_false, Bool.true_or, Bool.false_or] at hR
                    subst hR
                    (first | done | rfl)
                  | true =>
                    simp only [w1] at hR
                    (try simp -implicitDefEqProofs (maxSteps := 10000000) (disch := omega) only [go_sem, Int.reduceAdd, Int.reduceSub, Int.reduceMul, dec_t, dec_f, Nat.reduceBEq, Nat.reduceBNe, Nat.reduceShiftRight, Nat.reduceAnd, Nat.reduceAdd, Nat.reduceSub, Nat.reduceEqDiff, Nat.reduceLT, Nat.reduceLeDiff, Int.reduceToNat, Int.reduceLT, Int.reduceLE, Int.reduceEq, reduceIte, reduceCtorEq, e1, e0, e4, e5, e6, e7, e9, e10, e11, ha, hb, hc, hd, he, h90, w0, w00, k9, w6, w5, w4, w3, w2, w1])
                    try simp only [Bool.not_true, Bool.not_false, Bool.and_true, Bool.and_false, Bool.true_and, Bool.false_and, Bool.or_true, Bool.or_false, Bool.true_or, Bool.false_or] at hR
                    subst hR
                    (first | done | rfl)
        | true =>
          simp only [w6] at hR
          (try simp -implicitDefEqProofs (maxSteps := 10000000) (disch := omega) only [go_sem, Int.reduceAdd, Int.reduceSub, Int.reduceMul, dec_t, dec_f, Nat.reduceBEq, Nat.reduceBNe, Nat.reduceShiftRight, Nat.reduceAnd, Nat.reduceAdd, Nat.reduceSub, Nat.reduceEqDiff, Nat.reduceLT, Nat.reduceLeDiff, Int.reduceToNat, Int.reduceLT, Int.reduceLE, Int.reduceEq, reduceIte, reduceCtorEq, e1, e0, e4, e5, e6, e7, e9, e10, e11, ha, hb, hc, hd, he, h90, w0, w00, k9, w6])
          cases w5 : rdO f with
          | false =>
            simp only [w5] at hR
            (try simp -implicitDefEqProofs (maxSteps := 10000000) (disch := omega) only [go_sem, Int.reduceAdd, Int.reduceSub, Int.reduceMul, dec_t, dec_f, Nat.reduceBEq, Nat.reduceBNe, Nat.reduceShiftRight, Nat.reduceAnd, Nat.reduceAdd, Nat.reduceSub, Nat.reduceEqDiff, Nat.reduceLT, Nat.reduceLeDiff, Int.reduceToNat, Int.reduceLT, Int.reduceLE, Int.reduceEq, reduceIte, reduceCtorEq, e1, e0, e4, e5, e6, e7, e9, e10, e11, ha, hb, hc, hd, he, h90, w0, w00, k9, w6, w5])
            cases w4 : pEmptyO f with
            | false =>
              simp only [w4] at hR
              (try simp -implicitDefEqProofs (maxSteps := 10000000) (disch := omega) only [go_sem, Int.reduceAdd, Int.reduceSub, Int.reduceMul, dec_t, dec_f, Nat.reduceBEq, Nat.reduceBNe, Nat.reduceShiftRight, Nat.reduceAnd, Nat.reduceAdd, Nat.reduceSub, Nat.reduceEqDiff, Nat.reduceLT, Nat.reduceLeDiff, Int.reduceToNat, Int.reduceLT, Int.reduceLE, Int.reduceEq, reduceIte, reduceCtorEq, e1, e0, e4, e5, e6, e7, e9, e10, e11, ha, hb, hc, hd, he, h90, w0, w00, k9, w6, w5, w4])
              try simp only [Bool.not_true, Bool.not_false, Bool.and_true, Bool.and_false, Bool.true_and, Bool.false_and, Bool.or_true, Bool.or_false, Bool.true_or, Bool.false_or] at hR
              subst hR
              (first | done | rfl)
            | true =>
              simp only [w4] at hR
              (try simp -implicitDefEqProofs (maxSteps := 10000000) (disch := omega) only [go_sem, Int.reduceAdd, Int.reduceSub, Int.reduceMul, dec_t, dec_f, Nat.reduceBEq, Nat.reduceBNe, Nat.reduceShiftRight, Nat.reduceAnd, Nat.reduceAdd, Nat.reduceSub, Nat.reduceEqDiff, Nat.reduceLT, Nat.reduceLeDiff, Int.reduceToNat, Int.reduceLT, Int.reduceLE, Int.reduceEq, reduceIte, reduceCtorEq, e1, e0, e4, e5, e6, e7, e9, e10, e11, ha, hb, hc, hd, he, h90, w0, w00, k9, w6, w5, w4])
              cases w3 : wnO f with
              | false =>
                simp only [w3] at hR
                (try simp -implicitDefEqProofs (maxSteps := 10000000) (disch := omega) only [go_sem, Int.reduceAdd, Int.reduceSub, Int.reduceMul, dec_t, dec_f, Nat.reduceBEq, Nat.reduceBNe, Nat.reduceShiftRight, Nat.reduceAnd, Nat.reduceAdd, Nat.reduceSub, Nat.reduceEqDiff, Nat.reduceLT, Nat.reduceLeDiff, Int.reduceToNat, Int.reduceLT, Int.reduceLE, Int.reduceEq, reduceIte, reduceCtorEq, e1, e0, e4, e5, e6, e7, e9, e10, e11, ha, hb, hc, hd, he, h90, w0, w00, k9, w6, w5, w4, w3])
                cases w2 : neO f with
                | false =>
                  simp only [w2] at hR
                  (try simp -implicitDefEqProofs (maxSteps := 10000000) (disch := omega) only [go_sem, Int.reduceAdd, Int.reduceSub, Int.reduceMul, dec_t, dec_f, Nat.reduceBEq, Nat.reduceBNe, Nat.reduceShiftRight, Nat.reduceAnd, Nat.reduceAdd, Nat.reduceSub, Nat.reduceEqDiff, Nat.reduceLT, Nat.reduceLeDiff, Int.reduceToNat, Int.reduceLT, Int.reduceLE, Int.reduceEq, reduceIte, reduceCtorEq, e1, e0, e4, e5, e6, e7, e9, e10, e11, ha, hb, hc, hd, he, h90, w0, w00, k9, w6, w5, w4, w3, w2])
                  cases w1 : brO f with
                  | false =>
                    simp only [w1] at hR
                    (try simp -implicitDefEqProofs (maxSteps := 10000000) (disch := omega) only [go_sem, Int.reduceAdd, Int.reduceSub, Int.reduceMul, dec_t, dec_f, Nat.reduceBEq, Nat.reduceBNe, Nat.reduceShiftRight, Nat.reduceAnd, Nat.reduceAdd, Nat.reduceSub, Nat.reduceEqDiff, Nat.reduceLT, Nat.reduceLeDiff, Int.reduceToNat, Int.reduceLT, Int.reduceLE, Int.reduceEq, reduceIte, reduceCtorEq, e1, e0, e4, e5, e6, e7, e9, e10, e11, ha, hb, hc, hd, he, h90, w0, w00, k9, w6, w5, w4, w3, w2, w1])
                    try simp only [Bool.not_true, Bool.not_false, Bool.and_true, Bool.and_false, Bool.true_and, Bool.false_and, Bool.or_true, Bool.or_false, Bool.true_or, Bool.false_or] at hR
                    subst hR
                    (first | done | rfl)
                  | true =>
                    simp only [w1] at hR
                    (try simp -implicitDefEqProofs (maxSteps := 10000000) (disch := omega) only [go_sem, Int.reduceAdd, Int.reduceSub, Int.reduceMul, dec_t, dec_f, Nat.reduceBEq, Nat.reduceBNe, Nat.reduceShiftRight, Nat.reduceAnd, Nat.reduceAdd, Nat.reduceSub, Nat.reduceEqDiff, Nat.reduceLT, Nat.reduceLeDiff, Int.reduceToNat, Int.reduceLT, Int.reduceLE, Int.reduceEq, reduceIte, reduceCtorEq, e1, e0, e4, e5, e6, e7, e9, e10, e11, ha, hb, hc, hd, he, h90, w0, w00, k9, w6, w5, w4, w3, w2, w1])
                    try simp only [Bool.not_true, Bool.not_false, Bool.and_true, Bool.and_false, Bool.true_and, Bool.false_and, Bool.or_true, Bool.or_false, Bool.true_or, Bool.false_or] at hR
                    subst hR
                    (first | done | rfl)
                | true =>
                  simp only [w2] at hR
                  (try simp -implicitDefEqProofs (maxSteps := 10000000) (disch := omega) only [go_sem, Int.reduceAdd, Int.reduceSub, Int.reduceMul, dec_t, dec_f, Nat.reduceBEq, Nat.reduceBNe, Nat.reduceShiftRight, Nat.reduceAnd, Nat.reduceAdd, Nat.reduceSub, Nat.reduceEqDiff, Nat.reduceLT, Nat.reduceLeDiff, Int.reduceToNat, Int.reduceLT, Int.reduceLE, Int.reduceEq, reduceIte, reduceCtorEq, e1, e0, e4, e5, e6, e7, e9, e10, e11, ha, hb, hc, hd, he, h90, w0, w00, k9, w6, w5, w4, w3, w2])
                  cases w1 : brO f with
                  | false =>
                    simp only [w1] at hR
                    (try simp -implicitDefEqProofs (maxSteps := 10000000) (disch := omega) only [go_sem, Int.reduceAdd, Int.reduceSub, Int.reduceMul, dec_t, dec_f, Nat.reduceBEq, Nat.reduceBNe, Nat.reduceShiftRight, Nat.reduceAnd, Nat.reduceAdd, Nat.reduceSub, Nat.reduceEqDiff, Nat.reduceLT, Nat.reduceLeDiff, Int.reduceToNat, Int.reduceLT, Int.reduceLE, Int.reduceEq, reduceIte, reduceCtorEq, e1, e0, e4, e5, e6, e7, e9, e10, e11, ha, hb, hc, hd, he, h90, w0, w00, k9, w6, w5, w4, w3, w2, w1])
                    try simp only [Bool.not_true, Bool.not_false, Bool.and_true, Bool.and_false, Bool.true_and, Bool.false_and, Bool.or_true, Bool.or_false, Bool.true_or, Bool.false_or] at hR
                    subst hR
                    (first | done | rfl)
                  | true =>
                    simp only [w1] at hR
                    (try simp -implicitDefEqProofs (maxSteps := 10000000) (disch := omega) only [go_sem, Int.reduceAdd, Int.reduceSub, Int.reduceMul, dec_t, dec_f, Nat.reduceBEq, Nat.reduceBNe, Nat.reduceShiftRight, Nat.reduceAnd, Nat.reduceAdd, Nat.reduceSub, Nat.reduceEqDiff, Nat.reduceLT, Nat.reduceLeDiff, Int.reduceToNat, Int.reduceLT, Int.reduceLE, Int.reduceEq, reduceIte, reduceCtorEq, e1, e0, e4, e5, e6, e7, e9, e10, e11, ha, hb, hc, hd, he, h90, w0, w00, k9, w6, w5, w4, w3, w2, w1])
                    try simp only [Bool.not_true, Bool.not_false, Bool.and_true, Bool.and_false, Bool.true_and, Bool.false_and, Bool.or_true, Bool.or_false, Bool.true_or, Bool.false_or] at hR
                    subst hR
                    (first | done | rfl)
              | true =>
                simp only [w3] at hR
                (try simp -implicitDefEqProofs (maxSteps := 10000000) (disch := omega) only [go_sem, Int.reduceAdd, Int.reduceSub, Int.reduceMul, dec_t, dec_f, Nat.reduceBEq, Nat.reduceBNe, Nat.reduceShiftRight, Nat.reduceAnd, Nat.reduceAdd, Nat.reduceSub, Nat.reduceEqDiff, Nat.reduceLT, Nat.reduceLeDiff, Int.reduceToNat, Int.reduceLT, Int.reduceLE, Int.reduceEq, reduceIte, reduceCtorEq, e1, e0, e4, e5, e6, e7, e9, e10, e11, ha, hb, hc, hd, he, h90, w0, w00, k9, w6, w5, w4, w3])
                cases w2 : neO f with
                | false =>
                  simp only [w2] at hR
                  (try simp -implicitDefEqProofs (maxSteps := 10000000) (disch := omega) only [go_sem, Int.reduceAdd, Int.reduceSub, Int.reduceMul, dec_t, dec_f, Nat.reduceBEq, Nat.reduceBNe, Nat.reduceShiftRight, Nat.reduceAnd, Nat.reduceAdd, Nat.reduceSub, Nat.reduceEqDiff, Nat.reduceLT, Nat.reduceLeDiff, Int.reduceToNat, Int.reduceLT, Int.reduceLE, Int.reduceEq, reduceIte, reduceCtorEq, e1, e0, e4, e5, e6, e7, e9, e10, e11, ha, hb, hc, hd, he, h90, w0, w00, k9, w6, w5, w4, w3, w2])
                  cases w1 : brO f with
                  | false =>
                    simp only [w1] at hR
                    (try simp -implicitDefEqProofs (maxSteps := 10000000) (disch := omega) only [go_sem, Int.reduceAdd, Int.reduceSub, Int.reduceMul, dec_t, dec_f, Nat.reduceBEq, Nat.reduceBNe, Nat.reduceShiftRight, Nat.reduceAnd, Nat.reduceAdd, Nat.reduceSub, Nat.reduceEqDiff, Nat.reduceLT, Nat.reduceLeDiff, Int.reduceToNat, Int.reduceLT, Int.reduceLE, Int.reduceEq, reduceIte, reduceCtorEq, e1, e0, e4, e5, e6, e7, e9, e10, e11, ha, hb, hc, hd, he, h90, w0, w00, k9, w6, w5, w4, w3, w2, w1])
                    try simp only [Bool.not_true, Bool.not_false, Bool.and_true, Bool.and_false, Bool.true_and, Bool.false_and, Bool.or_true, Bool.or_false, Bool.true_or, Bool.false_or] at hR
                    subst hR
                    (first | done | rfl)
                  | true =>
                    simp only [w1] at hR
                    (try simp -implicitDefEqProofs (maxSteps := 10000000) (disch := omega) only [go_sem, Int.reduceAdd, Int.reduceSub, Int.reduceMul, dec_t, dec_f, Nat.reduceBEq, Nat.reduceBNe, Nat.reduceShiftRight, Nat.reduceAnd, Nat.reduceAdd, Nat.reduceSub, Nat.reduceEqDiff, Nat.reduceLT, Nat.reduceLeDiff, Int.reduceToNat, Int.reduceLT, Int.reduceLE, Int.reduceEq, reduceIte, reduceCtorEq, e1, e0, e4, e5, e6, e7, e9, e10, e11, ha, hb, hc, hd, he, h90, w0, w00, k9, w6, w5, w4, w3, w2, w1])
                    try simp only [Bool.not_true, Bool.not_false, Bool.and_true, Bool.and_false, Bool.true_and, Bool.false_and, Bool.or_true, Bool.or_false, Bool.true_or, Bool.false_or] at hR
                    subst hR
                    (first | done | rfl)
                | true =>
                  simp only [w2] at hR
                  (try simp -implicitDefEqProofs (maxSteps := 10000000) (disch := omega) only [go_sem, Int.reduceAdd, Int.reduceSub, Int.reduceMul, dec_t, dec_f, Nat.reduceBEq, Nat.reduceBNe, Nat.reduceShiftRight, Nat.reduceAnd, Nat.reduceAdd, Nat.reduceSub, Nat.reduceEqDiff, Nat.reduceLT, Nat.reduceLeDiff, Int.reduceToNat, Int.reduceLT, Int.reduceLE, Int.reduceEq, reduceIte, reduceCtorEq, e1, e0, e4, e5, e6, e7, e9, e10, e11, ha, hb, hc, hd, he, h90, w0, w00, k9, w6, w5, w4, w3, w2])
                  cases w1 : brO f with
                  | false =>
                    simp only [w1] at hR
                    (try simp -implicitDefEqProofs (maxSteps := 10000000) (disch := omega) only [go_sem, Int.reduceAdd, Int.reduceSub, Int.reduceMul, dec_t, dec_f, Nat.reduceBEq, Nat.reduceBNe, Nat.reduceShiftRight, Nat.reduceAnd, Nat.reduceAdd, Nat.reduceSub, Nat.reduceEqDiff, Nat.reduceLT, Nat.reduceLeDiff, Int.reduceToNat, Int.reduceLT, Int.reduceLE, Int.reduceEq, reduceIte, reduceCtorEq, e1, e0, e4, e5, e6, e7, e9, e10, e11, ha, hb, hc, hd, he, h90, w0, w00, k9, w6, w5, w4, w3, w2, w1])
                    try simp only [Bool.not_true, Bool.not_false, Bool.and_true, Bool.and_false, Bool.true_and, Bool.false_and, Bool.or_true, Bool.or_false, Bool.true_or, Bool.false_or] at hR
                    subst hR
                    (first | done | rfl)
                  | true =>
                    simp only [w1] at hR
                    (try simp -implicitDefEqProofs (maxSteps := 10000000) (disch := omega) only [go_sem, Int.reduceAdd, Int.reduceSub, Int.reduceMul, dec_t, dec_f, Nat.reduceBEq, Nat.reduceBNe, Nat.reduceShiftRight, Nat.reduceAnd, Nat.reduceAdd, Nat.reduceSub, Nat.reduceEqDiff, Nat.reduceLT, Nat.reduceLeDiff, Int.reduceToNat, Int.reduceLT, Int.reduceLE, Int.reduceEq, reduceIte, reduceCtorEq, e1, e0, e4, e5, e6, e7, e9, e10, e11, ha, hb, hc, hd, he, h90, w0, w00, k9, w6, w5, w4, w3, w2, w1])
                    try simp only [Bool.not_true, Bool.not_false, Bool.and_true, Bool.and_false, Bool.true_and, Bool.false_and, Bool.or_true, Bool.or_false, Bool.true_or, Bool.false_or] at hR
                    subst hR
                    (first | done | rfl)
          | true =>
            simp only [w5] at hR
            (try simp -implicitDefEqProofs (maxSteps := 10000000) (disch := omega) only [go_sem, Int.reduceAdd, Int.reduceSub, Int.reduceMul, dec_t, dec_f, Nat.reduceBEq, Nat.reduceBNe, Nat.reduceShiftRight, Nat.reduceAnd, Nat.reduceAdd, Nat.reduceSub, Nat.reduceEqDiff, Nat.reduceLT, Nat.reduceLeDiff, Int.reduceToNat, Int.reduceLT, Int.reduceLE, Int.reduceEq, reduceIte, reduceCtorEq, e1, e0, e4, e5, e6, e7, e9, e10, e11, ha, hb, hc, hd, he, h90, w0, w00, k9, w6, w5])
            cases w4 : pEmptyO f with
            | false =>
              simp only [w4] at hR
              (try simp -implicitDefEqProofs (maxSteps := 10000000) (disch := omega) only [go_sem, Int.reduceAdd, Int.reduceSub, Int.reduceMul, dec_t, dec_f, Nat.reduceBEq, Nat.reduceBNe, Nat.reduceShiftRight, Nat.reduceAnd, Nat.reduceAdd, Nat.reduceSub, Nat.reduceEqDiff, Nat.reduceLT, Nat.reduceLeDiff, Int.reduceToNat, Int.reduceLT, Int.reduceLE, Int.reduceEq, reduceIte, reduceCtorEq, e1, e0, e4, e5, e6, e7, e9, e10, e11, ha, hb, hc, hd, he, h90, w0, w00, k9, w6, w5, w4])
              try simp only [Bool.not_true, Bool.not_false, Bool.and_true, Bool.and_false, Bool.true_and, Bool.false_and, Bool.or_true, Bool.or_false, Bool.true_or, Bool.false_or] at hR
              subst hR
              (first | done | rfl)
            | true =>
              simp only [w4] at hR
              (try simp -implicitDefEqProofs (maxSteps := 10000000) (disch := omega) only [go_sem, Int.reduceAdd, Int.reduceSub, Int.reduceMul, dec_t, dec_f, Nat.reduceBEq, Nat.reduceBNe, Nat.reduceShiftRight, Nat.reduceAnd, Nat.reduceAdd, Nat.reduceSub, Nat.reduceEqDiff, Nat.reduceLT, Nat.reduceLeDiff, Int.reduceToNat, Int.reduceLT, Int.reduceLE, Int.reduceEq, reduceIte, reduceCtorEq, e1, e0, e4, e5, e6, e7, e9, e10, e11, ha, hb, hc, hd, he, h90, w0, w00, k9, w6, w5, w4])
              cases w3 : wnO f with
              | false =>
                simp only [w3] at hR
                (try simp -implicitDefEqProofs (maxSteps := 10000000) (disch := omega) only [go_sem, Int.reduceAdd, Int.reduceSub, Int.reduceMul, dec_t, dec_f, Nat.reduceBEq, Nat.reduceBNe, Nat.reduceShiftRight, Nat.reduceAnd, Nat.reduceAdd, Nat.reduceSub, Nat.reduceEqDiff, Nat.reduceLT, Nat.reduceLeDiff, Int.reduceToNat, Int.reduceLT, Int.reduceLE, Int.reduceEq, reduceIte, reduceCtorEq, e1, e0, e4, e5, e6, e7, e9, e10, e11, ha, hb, hc, hd, he, h90, w0, w00, k9, w6, w5, w4, w3])
                cases w2 : neO f with
                | false =>
                  simp only [w2] at hR
                  (try simp -implicitDefEqProofs (maxSteps := 10000000) (disch := omega) only [go_sem, Int.reduceAdd, Int.reduceSub, Int.reduceMul, dec_t, dec_f, Nat.reduceBEq, Nat.reduceBNe, Nat.reduceShiftRight, Nat.reduceAnd, Nat.reduceAdd, Nat.reduceSub, Nat.reduceEqDiff, Nat.reduceLT, Nat.reduceLeDiff, Int.reduceToNat, Int.reduceLT, Int.reduceLE, Int.reduceEq, reduceIte, reduceCtorEq, e1, e0, e4, e5, e6, e7, e9, e10, e11, ha, hb, hc, hd, he, h90, w0, w00, k9, w6, w5, w4, w3, w2])
                  cases w1 : brO f with
                  | false =>
                    simp only [w1] at hR
                    (try simp -implicitDefEqProofs (maxSteps := 10000000) (disch := omega) only [go_sem, Int.reduceAdd, Int.reduceSub, Int.reduceMul, dec_t, dec_f, Nat.reduceBEq, Nat.reduceBNe, Nat.reduceShiftRight, Nat.reduceAnd, Nat.reduceAdd, Nat.reduceSub, Nat.reduceEqDiff, Nat.reduceLT, Nat.reduceLeDiff, Int.reduceToNat, Int.reduceLT, Int.reduceLE, Int.reduceEq, reduceIte, reduceCtorEq, e1, e0, e4, e5, e6, e7, e9, e10, e11, ha, hb, hc, hd, he, h90, w0, w00, k9, w6, w5, w4, w3, w2, w1])
                    try simp only [Bool.not_true, Bool.not_false, Bool.and_true, Bool.and_false, Bool.true_and, Bool.false_and, Bool.or_true, Bool.or_false, Bool.true_or, Bool.false_or] at hR
                    subst hR
                    (first | done | rfl)
                  | true =>
                    simp only [w1] at hR
                    (try simp -implicitDefEqProofs (maxSteps := 10000000) (disch := omega) only [go_sem, Int.reduceAdd, Int.reduceSub, Int.reduceMul, dec_t, dec_f, Nat.reduceBEq, Nat.reduceBNe, Nat.reduceShiftRight, Nat.reduceAnd, Nat.reduceAdd, Nat.reduceSub, Nat.reduceEqDiff, Nat.reduceLT, Nat.reduceLeDiff, Int.reduceToNat, Int.reduceLT, Int.reduceLE, Int.reduceEq, reduceIte, reduceCtorEq, e1, e0, e4, e5, e6, e7, e9, e10, e11, ha, hb, hc, hd, he, h90, w0, w00, k9, w6, w5, w4, w3, w2, w1])
                    try simp only [Bool.not_true, Bool.not_false, Bool.and_true, Bool.and_false, Bool.true_and, Bool.false_and, Bool.or_true, Bool.or_false, Bool.true_or, Bool.false_or] at hR
                    subst hR
                    (first | done | rfl)
                | true =>
                  simp only [w2] at hR
                  (try simp -implicitDefEqProofs (maxSteps := 10000000) (disch := omega) only [go_sem, Int.reduceAdd, Int.reduceSub, Int.reduceMul, dec_t, dec_f, Nat.reduceBEq, Nat.reduceBNe, Nat.reduceShiftRight, Nat.reduceAnd, Nat.reduceAdd, Nat.reduceSub, Nat.reduceEqDiff, Nat.reduceLT, Nat.reduceLeDiff, Int.reduceToNat, Int.reduceLT, Int.reduceLE, Int.reduceEq, reduceIte, reduceCtorEq, e1, e0, e4, e5, e6, e7, e9, e10, e11, ha, hb, hc, hd, he, h90, w0, w00, k9, w6, w5, w4, w3, w2])
                  cases w1 : brO f with
                  | false =>
                    simp only [w1] at hR
                    (try simp -implicitDefEqProofs (maxSteps := 10000000) (disch := omega) only [go_sem, Int.reduceAdd, Int.reduceSub, Int.reduceMul, dec_t, dec_f, Nat.reduceBEq, Nat.reduceBNe, Nat.reduceShiftRight, Nat.reduceAnd, Nat.reduceAdd, Nat.reduceSub, Nat.reduceEqDiff, Nat.reduceLT, Nat.reduceLeDiff, Int.reduceToNat, Int.reduceLT, Int.reduceLE, Int.reduceEq, reduceIte, reduceCtorEq, e1, e0, e4, e5, e6, e7, e9, e10, e11, ha, hb, hc, hd, he, h90, w0, w00, k9, w6, w5, w4, w3, w2, w1])
                    try simp only [Bool.not_true, Bool.not_false, Bool.and_true, Bool.and_false, Bool.true_and, Bool.false_and, Bool.or_true, Bool.or_false, Bool.true_or, Bool.false_or] at hR
                    subst hR
                    (first | done | rfl)
                  | true =>
                    simp only [w1] at hR
                    (try simp -implicitDefEqProofs (maxSteps := 10000000) (disch := omega) only [go_sem, Int.reduceAdd, Int.reduceSub, Int.reduceMul, dec_t, dec_f, Nat.reduceBEq, Nat.reduceBNe, Nat.reduceShiftRight, Nat.reduceAnd, Nat.reduceAdd, Nat.reduceSub, Nat.reduceEqDiff, Nat.reduceLT, Nat.reduceLeDiff, Int.reduceToNat, Int.reduceLT, Int.reduceLE, Int.reduceEq, reduceIte, reduceCtorEq, e1, e0, e4, e5, e6, e7, e9, e10, e11, ha, hb, hc, hd, he, h90, w0, w00, k9, w6, w5, w4, w3, w2, w1])
                    try simp only [Bool.not_true, Bool.not_false, Bool.and_true, Bool.and_false, Bool.true_and, Bool.false_and, Bool.or_true, Bool.or_false, Bool.true_or, Bool.false_or] at hR
                    subst hR
                    (first | done | rfl)
              | true =>
                simp only [w3] at hR
                (try simp -implicitDefEqProofs (maxSteps := 10000000) (disch := omega) only [go_sem, Int.reduceAdd, Int.reduceSub, Int.reduceMul, dec_t, dec_f, Nat.reduceBEq, Nat.reduceBNe, Nat.reduceShiftRight, Nat.reduceAnd, Nat.reduceAdd, Nat.reduceSub, Nat.reduceEqDiff, Nat.reduceLT, Nat.reduceLeDiff, Int.reduceToNat, Int.reduceLT, Int.reduceLE, Int.reduceEq, reduceIte, reduceCtorEq, e1, e0, e4, e5, e6, e7, e9, e10, e11, ha, hb, hc, hd, he, h90, w0, w00, k9, w6, w5, w4, w3])
                cases w2 : neO f with
                | false =>
                  simp only [w2] at hR
                  (try simp -implicitDefEqProofs (maxSteps := 10000000) (disch := omega) only [go_sem, Int.reduceAdd, Int.reduceSub, Int.reduceMul, dec_t, dec_f, Nat.reduceBEq, Nat.reduceBNe, Nat.reduceShiftRight, Nat.reduceAnd, Nat.reduceAdd, Nat.reduceSub, Nat.reduceEqDiff, Nat.reduceLT, Nat.reduceLeDiff, Int.reduceToNat, Int.reduceLT, Int.reduceLE, Int.reduceEq, reduceIte, reduceCtorEq, e1, e0, e4, e5, e6, e7, e9, e10, e11, ha, hb, hc, hd, he, h90, w0, w00, k9, w6, w5, w4, w3, w2])
                  cases w1 : brO f with
                  | false =>
                    simp only [w1] at hR
                    (try simp -implicitDefEqProofs (maxSteps := 10000000) (disch := omega) only [go_sem, Int.reduceAdd, Int.reduceSub, Int.reduceMul, dec_t, dec_f, Nat.reduceBEq, Nat.reduceBNe, Nat.reduceShiftRight, Nat.reduceAnd, Nat.reduceAdd, Nat.reduceSub, Nat.reduceEqDiff, Nat.reduceLT, Nat.reduceLeDiff, Int.reduceToNat, Int.reduceLT, Int.reduceLE, Int.reduceEq, reduceIte, reduceCtorEq, e1, e0, e4, e5, e6, e7, e9, e10, e11, ha, hb, hc, hd, he, h90, w0, w00, k9, w6, w5, w4, w3, w2, w1])
                    try simp only [Bool.not_true, Bool.not_false, Bool.and_true, Bool.and_false, Bool.true_and, Bool.false_and, Bool.or_true, Bool.or_false, Bool.true_or, Bool.false_or] at hR
                    subst hR
                    (first | done | rfl)
                  | true =>
                    simp only [w1] at hR
                    (try simp -implicitDefEqProofs (maxSteps := 10000000) (disch := omega) only [go_sem, Int.reduceAdd, Int.reduceSub, Int.reduceMul, dec_t, dec_f, Nat.reduceBEq, Nat.reduceBNe, Nat.reduceShiftRight, Nat.reduceAnd, Nat.reduceAdd, Nat.reduceSub, Nat.reduceEqDiff, Nat.reduceLT, Nat.reduceLeDiff, Int.reduceToNat, Int.reduceLT, Int.reduceLE, Int.reduceEq, reduceIte, reduceCtorEq, e1, e0, e4, e5, e6, e7, e9, e10, e11, ha, hb, hc, hd, he, h90, w0, w00, k9, w6, w5, w4, w3, w2, w1])
                    try simp only [Bool.not_true, Bool.not_false, Bool.and_true, Bool.and_false, Bool.true_and, Bool.false_and, Bool.or_true, Bool.or_false, Bool.true_or, Bool.false_or] at hR
                    subst hR
                    (first | done | rfl)
                | true =>
                  simp only [w2] at hR
                  (try simp -implicitDefEqProofs (maxSteps := 10000000) (disch := omega) only [go_sem, Int.reduceAdd, Int.reduceSub, Int.reduceMul, dec_t, dec_f, Nat.reduceBEq, Nat.reduceBNe, Nat.reduceShiftRight, Nat.reduceAnd, Nat.reduceAdd, Nat.reduceSub, Nat.reduceEqDiff, Nat.reduceLT, Nat.reduceLeDiff, Int.reduceToNat, Int.reduceLT, Int.reduceLE, Int.reduceEq, reduceIte, reduceCtorEq, e1, e0, e4, e5, e6, e7, e9, e10, e11, ha, hb, hc, hd, he, h90, w0, w00, k9, w6, w5, w4, w3, w2])
                  cases w1 : brO f with
                  | false =>
                    simp only [w1] at hR
                    (try simp -implicitDefEqProofs (maxSteps := 10000000) (disch := omega) only [go_sem, Int.reduceAdd, Int.reduceSub, Int.reduceMul, dec_t, dec_f, Nat.reduceBEq, Nat.reduceBNe, Nat.reduceShiftRight, Nat.reduceAnd, Nat.reduceAdd, Nat.reduceSub, Nat.reduceEqDiff, Nat.reduceLT, Nat.reduceLeDiff, Int.reduceToNat, Int.reduceLT, Int.reduceLE, Int.reduceEq, reduceIte, reduceCtorEq, e1, e0, e4, e5, e6, e7, e9, e10, e11, ha, hb, hc, hd, he, h90, w0, w00, k9, w6, w5, w4, w3, w2, w1])
                    try simp only [Bool.not_true, Bool.not_false, Bool.and_true, Bool.and_false, Bool.true_and, Bool.false_and, Bool.or_true, Bool.or_false, Bool.true_or, Bool.false_or] at hR
                    subst hR
                    (first | done | rfl)
                  | true =>
                    simp only [w1] at hR
                    (try simp -implicitDefEqProofs (maxSteps := 10000000) (disch := omega) only [go_sem, Int.reduceAdd, Int.reduceSub, Int.reduceMul, dec_t, dec_f, Nat.reduceBEq, Nat.reduceBNe, Nat.reduceShiftRight, Nat.reduceAnd, Nat.reduceAdd, Nat.reduceSub, Nat.reduceEqDiff, Nat.reduceLT, Nat.reduceLeDiff, Int.reduceToNat, Int.reduceLT, Int.reduceLE, Int.reduceEq, reduceIte, reduceCtorEq, e1, e0, e4, e5, e6, e7, e9, e10, e11, ha, hb, hc, hd, he, h90, w0, w00, k9, w6, w5, w4, w3, w2, w1])
                    try simp only [Bool.not_true, Bool.not_false, Bool.and_true, Bool.and_false, Bool.true_and, Bool.false_and, Bool.or_true, Bool.or_false, Bool.true_or, Bool.false_or] at hR
                    subst hR
                    (first | done | rfl)
      rw [if_neg k9] at hR
      (try simp -implicitDefEqProofs (maxSteps := 10000000) (disch := omega) only [go_sem, Int.reduceAdd, Int.reduceSub, Int.reduceMul, dec_t, dec_f, Nat.reduceBEq, Nat.reduceBNe, Nat.reduceShiftRight, Nat.reduceAnd, Nat.reduceAdd, Nat.reduceSub, Nat.reduceEqDiff, Nat.reduceLT, Nat.reduceLeDiff, Int.reduceToNat, Int.reduceLT, Int.reduceLE, Int.reduceEq, reduceIte, reduceCtorEq, e1, e0, e4, e5, e6, e7, e9, e10, e11, ha, hb, hc, hd, he, h90, w0, w00])
      try simp only [Bool.not_true, Bool.not_false, Bool.and_true, Bool.and_false, Bool.true_and, Bool.false_and, Bool.or_true, Bool.or_false, Bool.true_or, Bool.false_or] at hR
      subst hR
      (first | done | rfl)

theorem word_nil (s : Bs) (h : word (bs s) = true) : List.beq (bs s) [] = false := by
  cases hs : bs s with
  | nil => rw [hs] at h; cases h
  | cons a r => rfl
theorem rd_nil (s : Bs) (h : List.beq (bs s) [100, 110] = true) : List.beq (bs s) [] = false := by
  cases hs : bs s with
  | nil => rw [hs] at h; cases h
  | cons a r => rfl
/-- The document's law of single filters is the program's. -/
theorem rOne_eq (f : Fo) : rOne f = pOne f := by
  have n1 : wnO f = true → neO f = false := word_nil (name f)
  have n2 : wrO f = true → brO f = false := word_nil (rule f)
  have n3 : rdO f = true → brO f = false := rd_nil (rule f)
  have n4 : bvO f = true → v4O f = true := by
    unfold bvO v4O
    cases bs (value f) with
    | nil => intro _; rfl
    | cons a r => intro h; cases h
  have d1 : wn0O f = (neO f || wnO f) := rfl
  have d2 : wr0O f = (brO f || wrO f) := rfl
  unfold rOne pOne
  rw [d1, d2, nr_eq]
  unfold A1 A2 A3 A4 fineO
  generalize wnO f = wn at *
  generalize neO f = ne at *
  generalize brO f = br at *
  generalize wrO f = wr at *
  generalize rdO f = rd at *
  generalize bvO f = bv at *
  generalize v4O f = v4 at *
  generalize leafO f = lf at *
  generalize dn f = dd at *
  generalize pEmptyO f = pe at *
  generalize nvO f = nv at *
  generalize k1O f = k1 at *
  generalize pcOkO f = pc at *
  generalize pShortO f = ps at *
  generalize kind f = k at *
  by_cases k0 : k = 0
  · simp only [k0, if_true]
  by_cases k1' : k = 1
  · simp only [k1', Int.reduceEq, if_true, if_false]
  by_cases k2 : k = 2
  · simp only [k2, Int.reduceEq, if_true, if_false]
  simp only [k0, k1', k2, if_false]
  by_cases k3 : k = 3
  · simp only [k3, Int.reduceEq, if_true, if_false]
    cases lf <;> cases v4 <;> cases br <;> cases dd <;> cases pe <;> cases wn <;> simp
  by_cases k5 : k = 5
  · simp only [k5, Int.reduceEq, if_true, if_false]
    cases lf <;> cases v4 <;> cases br <;> cases dd <;> cases pe <;> cases wn <;> simp
  by_cases k6 : k = 6
  · simp only [k6, Int.reduceEq, if_true, if_false]
    cases lf <;> cases v4 <;> cases br <;> cases dd <;> cases pe <;> cases wn <;> simp
  by_cases k8 : k = 8
  · simp only [k8, Int.reduceEq, if_true, if_false]
    cases lf <;> cases v4 <;> cases br <;> cases dd <;> cases pe <;> cases wn <;> simp
  simp only [k3, k5, k6, k8, if_false]
  by_cases k7 : k = 7
  · simp only [k7, Int.reduceEq, if_true, if_false]
    cases lf <;> cases bv <;> cases br <;> cases dd <;> cases pe <;> cases wn <;> cases v4 <;> simp at n4 ⊢
  by_cases k4 : k = 4
  · simp only [k4, Int.reduceEq, if_true, if_false]
    cases lf <;> cases bv <;> cases br <;> cases dd <;> cases pc <;> cases wn <;> cases ps <;> cases v4 <;> simp at n4 ⊢
  by_cases k9 : k = 9
  · simp only [k9, Int.reduceEq, if_true, if_false]
    cases lf <;> cases v4 <;> cases pe <;> cases wn <;> cases ne <;> cases br <;> cases wr <;> cases rd <;> simp at n1 n2 n3 ⊢
  simp only [k7, k4, k9, if_false]
  split <;> rfl
end Go.L25
