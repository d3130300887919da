/- Layer 25: which filters may be. Conditions: none. -/
import Derived.Test.YtjbaoopiffcigaaQM5
set_option linter.unusedVariables false
set_option linter.unusedSimpArgs false
namespace Go.L25
open Go Go.Eng Go.Proofs
set_option pp.deepTerms false
set_option pp.deepTerms.threshold 9
set_option maxRecDepth 10000
set_option maxHeartbeats 4000000

def pEmptyO (f : Fo) : Bool := pEmpty (ini f) (any f) (fin f) (hi f) (hf f)
def pcOkO (f : Fo) : Bool := pcOk (ini f) (any f) (fin f) (hi f) (hf f)
def pShortO (f : Fo) : Bool := pShort (ini f) (any f) (fin f)
def k1O (f : Fo) : Bool := decide ((kids f).length = 1)
def leafO (f : Fo) : Bool := decide ((kids f).length = 0)
def v4O (f : Fo) : Bool := decide ((bs (value f)).length ≤ 400)
def brO (f : Fo) : Bool := List.beq (bs (rule f)) []
def bvO (f : Fo) : Bool := List.beq (bs (value f)) []
def nvO (f : Fo) : Bool := List.beq (bs (name f) ++ bs (value f)) []
def nrO (f : Fo) : Bool := List.beq (bs (name f) ++ bs (rule f)) []
def rdO (f : Fo) : Bool := List.beq (bs (rule f)) [100, 110]
def wnO (f : Fo) : Bool := word (bs (name f))
def wn0O (f : Fo) : Bool := List.beq (bs (name f)) [] || word (bs (name f))
def wr0O (f : Fo) : Bool := List.beq (bs (rule f)) [] || word (bs (rule f))

def pOne (f : Fo) : Bool :=
  if kind f = 0 then brO f && !dn f && pEmptyO f && nvO f else
  if kind f = 1 then brO f && !dn f && pEmptyO f && nvO f else
  if kind f = 2 then brO f && !dn f && pEmptyO f && nvO f && k1O f else
  if kind f = 3 then brO f && !dn f && pEmptyO f && leafO f && wnO f && v4O f else
  if kind f = 5 then brO f && !dn f && pEmptyO f && leafO f && wnO f && v4O f else
  if kind f = 6 then brO f && !dn f && pEmptyO f && leafO f && wnO f && v4O f else
  if kind f = 8 then brO f && !dn f && pEmptyO f && leafO f && wnO f && v4O f else
  if kind f = 7 then brO f && !dn f && pEmptyO f && leafO f && wnO f && bvO f else
  if kind f = 4 then brO f && !dn f && leafO f && wnO f && bvO f && pcOkO f && pShortO f else
  if kind f = 9 then pEmptyO f && leafO f && wn0O f && wr0O f && !rdO f && !nrO f && v4O f else false

theorem t56 (f : Fo) : pureCall C 56 [(.agg [.lit (.int .i64 (kind f)), .str (bs (name f)), .str (bs (value f)), .str (bs (ini f)), .sl (List.map encS (any f)), .str (bs (fin f)), .lit (.bool (hi f)), .lit (.bool (hf f)), .str (bs (rule f)), .lit (.bool (dn f)), .sl (List.map encO (kids f))])] = some (tf (pOne f)) := by
  have h74 : pureCall C 74 [(.agg [.str (bs (ini f)), .sl (List.map encS (any f)), .str (bs (fin f)), .lit (.bool (hi f)), .lit (.bool (hf f))])] = some (tf (pEmptyO f)) := t74 (ini f) (any f) (fin f) (hi f) (hf f) (any_le f)
  have h76 : pureCall C 76 [(.agg [.str (bs (ini f)), .sl (List.map encS (any f)), .str (bs (fin f)), .lit (.bool (hi f)), .lit (.bool (hf f))])] = some (lit (if pcOkO f then 0 else 2)) := t76 (ini f) (any f) (fin f) (hi f) (hf f) (any_le f)
  have h77 : pureCall C 77 [(.agg [.str (bs (ini f)), .sl (List.map encS (any f)), .str (bs (fin f)), .lit (.bool (hi f)), .lit (.bool (hf f))])] = some (tf (pShortO f)) := t77 (ini f) (any f) (fin f) (hi f) (hf f) (any_le f)
  have h75 : pureCall C 75 [.str (bs (name f))] = some (tf (wnO f)) := t75 (name f)
  have h78n : pureCall C 78 [.str (bs (name f))] = some (tf (wn0O f)) := t78 (name f)
  have h78r : pureCall C 78 [.str (bs (rule f))] = some (tf (wr0O f)) := t78 (rule f)
  have q1 := bs_le (name f)
  have q2 := bs_le (value f)
  have q3 := bs_le (rule f)
  have e1 : decide (((kids f).length : Int) = 1) = k1O f := by unfold k1O; exact decide_eq_decide.2 (by omega)
  have e0 : decide (((kids f).length : Int) = 0) = leafO f := by unfold leafO; exact decide_eq_decide.2 (by omega)
  have e5 : List.beq (bs (rule f)) [] = brO f := rfl
  have e6 : List.beq (bs (value f)) [] = bvO f := rfl
  have e7 : List.beq (bs (name f) ++ bs (value f)) [] = nvO f := rfl
  have e8 : List.beq (bs (name f) ++ bs (rule f)) [] = nrO f := rfl
  have e9 : List.beq (bs (rule f)) [100, 110] = rdO f := rfl
  have e4 : decide (((bs (value f)).length : Int) ≤ 400) = v4O f := by unfold v4O; exact decide_eq_decide.2 (by omega)
  have e10 : word (bs (name f)) = wnO f := rfl
  generalize hR : pOne f = R
  unfold pOne at hR
  rw [p56]
  simp -implicitDefEqProofs (maxSteps := 10000000) (disch := omega) only [go_sem, Int.reduceAdd, Int.reduceSub, Int.reduceMul, dec_t, dec_f, Nat.reduceBEq, Nat.reduceBNe, Nat.reduceShiftRight, Nat.reduceAnd, Nat.reduceAdd, Nat.reduceSub, Nat.reduceEqDiff, Nat.reduceLT, Nat.reduceLeDiff, Int.reduceToNat, Int.reduceLT, Int.reduceLE, Int.reduceEq, reduceIte, reduceCtorEq]
  cases b1 : brO f with
  | false =>
    simp only [b1, Bool.false_and] at hR
    (try simp -implicitDefEqProofs (maxSteps := 10000000) (disch := omega) only [go_sem, Int.reduceAdd, Int.reduceSub, Int.reduceMul, dec_t, dec_f, Nat.reduceBEq, Nat.reduceBNe, Nat.reduceShiftRight, Nat.reduceAnd, Nat.reduceAdd, Nat.reduceSub, Nat.reduceEqDiff, Nat.reduceLT, Nat.reduceLeDiff, Int.reduceToNat, Int.reduceLT, Int.reduceLE, Int.reduceEq, reduceIte, reduceCtorEq, e0, e1, e4, e5, e6, e7, e8, e9, e10, h74, h75, h76, h77, h78n, h78r, b1])
    by_cases k0 : kind f = 0
    · simp only [k0] at hR
      simp only [reduceIte, Int.reduceEq] at hR
      (try simp -implicitDefEqProofs (maxSteps := 10000000) (disch := omega) only [go_sem, Int.reduceAdd, Int.reduceSub, Int.reduceMul, dec_t, dec_f, Nat.reduceBEq, Nat.reduceBNe, Nat.reduceShiftRight, Nat.reduceAnd, Nat.reduceAdd, Nat.reduceSub, Nat.reduceEqDiff, Nat.reduceLT, Nat.reduceLeDiff, Int.reduceToNat, Int.reduceLT, Int.reduceLE, Int.reduceEq, reduceIte, reduceCtorEq, e0, e1, e4, e5, e6, e7, e8, e9, e10, h74, h75, h76, h77, h78n, h78r, b1, k0])
      try simp only [Bool.not_true, Bool.not_false, Bool.and_true, Bool.and_false, Bool.true_and, Bool.false_and] at hR
      subst hR
      (first | done | rfl)
    rw [if_neg k0] at hR
    by_cases k1 : kind f = 1
    · simp only [k1] at hR
      simp only [reduceIte, Int.reduceEq] at hR
      (try simp -implicitDefEqProofs (maxSteps := 10000000) (disch := omega) only [go_sem, Int.reduceAdd, Int.reduceSub, Int.reduceMul, dec_t, dec_f, Nat.reduceBEq, Nat.reduceBNe, Nat.reduceShiftRight, Nat.reduceAnd, Nat.reduceAdd, Nat.reduceSub, Nat.reduceEqDiff, Nat.reduceLT, Nat.reduceLeDiff, Int.reduceToNat, Int.reduceLT, Int.reduceLE, Int.reduceEq, reduceIte, reduceCtorEq, e0, e1, e4, e5, e6, e7, e8, e9, e10, h74, h75, h76, h77, h78n, h78r, b1, k1])
      try simp only [Bool.not_true, Bool.not_false, Bool.and_true, Bool.and_false, Bool.true_and, Bool.false_and] at hR
      subst hR
      (first | done | rfl)
    rw [if_neg k1] at hR
    by_cases k2 : kind f = 2
    · simp only [k2] at hR
      simp only [reduceIte, Int.reduceEq] at hR
      (try simp -implicitDefEqProofs (maxSteps := 10000000) (disch := omega) only [go_sem, Int.reduceAdd, Int.reduceSub, Int.reduceMul, dec_t, dec_f, Nat.reduceBEq, Nat.reduceBNe, Nat.reduceShiftRight, Nat.reduceAnd, Nat.reduceAdd, Nat.reduceSub, Nat.reduceEqDiff, Nat.reduceLT, Nat.reduceLeDiff, Int.reduceToNat, Int.reduceLT, Int.reduceLE, Int.reduceEq, reduceIte, reduceCtorEq, e0, e1, e4, e5, e6, e7, e8, e9, e10, h74, h75, h76, h77, h78n, h78r, b1, k2])
      try simp only [Bool.not_true, Bool.not_false, Bool.and_true, Bool.and_false, Bool.true_and, Bool.false_and] at hR
      subst hR
      (first | done | rfl)
    rw [if_neg k2] at hR
    by_cases k3 : kind f = 3
    · simp only [k3] at hR
      simp only [reduceIte, Int.reduceEq] at hR
      (try simp -implicitDefEqProofs (maxSteps := 10000000) (disch := omega) only [go_sem, Int.reduceAdd, Int.reduceSub, Int.reduceMul, dec_t, dec_f, Nat.reduceBEq, Nat.reduceBNe, Nat.reduceShiftRight, Nat.reduceAnd, Nat.reduceAdd, Nat.reduceSub, Nat.reduceEqDiff, Nat.reduceLT, Nat.reduceLeDiff, Int.reduceToNat, Int.reduceLT, Int.reduceLE, Int.reduceEq, reduceIte, reduceCtorEq, e0, e1, e4, e5, e6, e7, e8, e9, e10, h74, h75, h76, h77, h78n, h78r, b1, k3])
      try simp only [Bool.not_true, Bool.not_false, Bool.and_true, Bool.and_false, Bool.true_and, Bool.false_and] at hR
      subst hR
      (first | done | rfl)
    rw [if_neg k3] at hR
    by_cases k5 : kind f = 5
    · simp only [k5] at hR
      simp only [reduceIte, Int.reduceEq] at hR
      (try simp -implicitDefEqProofs (maxSteps := 10000000) (disch := omega) only [go_sem, Int.reduceAdd, Int.reduceSub, Int.reduceMul, dec_t, dec_f, Nat.reduceBEq, Nat.reduceBNe, Nat.reduceShiftRight, Nat.reduceAnd, Nat.reduceAdd, Nat.reduceSub, Nat.reduceEqDiff, Nat.reduceLT, Nat.reduceLeDiff, Int.reduceToNat, Int.reduceLT, Int.reduceLE, Int.reduceEq, reduceIte, reduceCtorEq, e0, e1, e4, e5, e6, e7, e8, e9, e10, h74, h75, h76, h77, h78n, h78r, b1, k5])
      try simp only [Bool.not_true, Bool.not_false, Bool.and_true, Bool.and_false, Bool.true_and, Bool.false_and] at hR
      subst hR
      (first | done | rfl)
    rw [if_neg k5] at hR
    by_cases k6 : kind f = 6
    · simp only [k6] at hR
      simp only [reduceIte, Int.reduceEq] at hR
      (try simp -implicitDefEqProofs (maxSteps := 10000000) (disch := omega) only [go_sem, Int.reduceAdd, Int.reduceSub, Int.reduceMul, dec_t, dec_f, Nat.reduceBEq, Nat.reduceBNe, Nat.reduceShiftRight, Nat.reduceAnd, Nat.reduceAdd, Nat.reduceSub, Nat.reduceEqDiff, Nat.reduceLT, Nat.reduceLeDiff, Int.reduceToNat, Int.reduceLT, Int.reduceLE, Int.reduceEq, reduceIte, reduceCtorEq, e0, e1, e4, e5, e6, e7, e8, e9, e10, h74, h75, h76, h77, h78n, h78r, b1, k6])
      try simp only [Bool.not_true, Bool.not_false, Bool.and_true, Bool.and_false, Bool.true_and, Bool.false_and] at hR
      subst hR
      (first | done | rfl)
    rw [if_neg k6] at hR
    by_cases k8 : kind f = 8
    · simp only [k8] at hR
      simp only [reduceIte, Int.reduceEq] at hR
      (try simp -implicitDefEqProofs (maxSteps := 10000000) (disch := omega) only [go_sem, Int.reduceAdd, Int.reduceSub, Int.reduceMul, dec_t, dec_f, Nat.reduceBEq, Nat.reduceBNe, Nat.reduceShiftRight, Nat.reduceAnd, Nat.reduceAdd, Nat.reduceSub, Nat.reduceEqDiff, Nat.reduceLT, Nat.reduceLeDiff, Int.reduceToNat, Int.reduceLT, Int.reduceLE, Int.reduceEq, reduceIte, reduceCtorEq, e0, e1, e4, e5, e6, e7, e8, e9, e10, h74, h75, h76, h77, h78n, h78r, b1, k8])
      try simp only [Bool.not_true, Bool.not_false, Bool.and_true, Bool.and_false, Bool.true_and, Bool.false_and] at hR
      subst hR
      (first | done | rfl)
    rw [if_neg k8] at hR
    by_cases k7 : kind f = 7
    · simp only [k7] at hR
      simp only [reduceIte, Int.reduceEq] at hR
      (try simp -implicitDefEqProofs (maxSteps := 10000000) (disch := omega) only [go_sem, Int.reduceAdd, Int.reduceSub, Int.reduceMul, dec_t, dec_f, Nat.reduceBEq, Nat.reduceBNe, Nat.reduceShiftRight, Nat.reduceAnd, Nat.reduceAdd, Nat.reduceSub, Nat.reduceEqDiff, Nat.reduceLT, Nat.reduceLeDiff, Int.reduceToNat, Int.reduceLT, Int.reduceLE, Int.reduceEq, reduceIte, reduceCtorEq, e0, e1, e4, e5, e6, e7, e8, e9, e10, h74, h75, h76, h77, h78n, h78r, b1, k7])
      try simp only [Bool.not_true, Bool.not_false, Bool.and_true, Bool.and_false, Bool.true_and, Bool.false_and] at hR
      subst hR
      (first | done | rfl)
    rw [if_neg k7] at hR
    by_cases k4 : kind f = 4
    · simp only [k4] at hR
      simp only [reduceIte, Int.reduceEq] at hR
      (try simp -implicitDefEqProofs (maxSteps := 10000000) (disch := omega) only [go_sem, Int.reduceAdd, Int.reduceSub, Int.reduceMul, dec_t, dec_f, Nat.reduceBEq, Nat.reduceBNe, Nat.reduceShiftRight, Nat.reduceAnd, Nat.reduceAdd, Nat.reduceSub, Nat.reduceEqDiff, Nat.reduceLT, Nat.reduceLeDiff, Int.reduceToNat, Int.reduceLT, Int.reduceLE, Int.reduceEq, reduceIte, reduceCtorEq, e0, e1, e4, e5, e6, e7, e8, e9, e10, h74, h75, h76, h77, h78n, h78r, b1, k4])
      try simp only [Bool.not_true, Bool.not_false, Bool.and_true, Bool.and_false, Bool.true_and, Bool.false_and] at hR
      subst hR
      (first | done | rfl)
    rw [if_neg k4] at hR
    by_cases k9 : kind f = 9
    · simp only [k9] at hR
      simp only [reduceIte, Int.reduceEq] at hR
      (try simp -implicitDefEqProofs (maxSteps := 10000000) (disch := omega) only [go_sem, Int.reduceAdd, Int.reduceSub, Int.reduceMul, dec_t, dec_f, Nat.reduceBEq, Nat.reduceBNe, Nat.reduceShiftRight, Nat.reduceAnd, Nat.reduceAdd, Nat.reduceSub, Nat.reduceEqDiff, Nat.reduceLT, Nat.reduceLeDiff, Int.reduceToNat, Int.reduceLT, Int.reduceLE, Int.reduceEq, reduceIte, reduceCtorEq, e0, e1, e4, e5, e6, e7, e8, e9, e10, h74, h75, h76, h77, h78n, h78r, b1, k9])
      cases w7 : pEmptyO f with
      | false =>
        simp only [w7] at hR
        (try simp -implicitDefEqProofs (maxSteps := 10000000) (disch := omega) only [go_sem, Int.reduceAdd, Int.reduceSub, Int.reduceMul, dec_t, dec_f, Nat.reduceBEq, Nat.reduceBNe, Nat.reduceShiftRight, Nat.reduceAnd, Nat.reduceAdd, Nat.reduceSub, Nat.reduceEqDiff, Nat.reduceLT, Nat.reduceLeDiff, Int.reduceToNat, Int.reduceLT, Int.reduceLE, Int.reduceEq, reduceIte, reduceCtorEq, e0, e1, e4, e5, e6, e7, e8, e9, e10, h74, h75, h76, h77, h78n, h78r, b1, k9, w7])
        try simp only [Bool.not_true, Bool.not_false, Bool.and_true, Bool.and_false, Bool.true_and, Bool.false_and] at hR
        subst hR
        (first | done | rfl)
      | true =>
        simp only [w7] at hR
        (try simp -implicitDefEqProofs (maxSteps := 10000000) (disch := omega) only [go_sem, Int.reduceAdd, Int.reduceSub, Int.reduceMul, dec_t, dec_f, Nat.reduceBEq, Nat.reduceBNe, Nat.reduceShiftRight, Nat.reduceAnd, Nat.reduceAdd, Nat.reduceSub, Nat.reduceEqDiff, Nat.reduceLT, Nat.reduceLeDiff, Int.reduceToNat, Int.reduceLT, Int.reduceLE, Int.reduceEq, reduceIte, reduceCtorEq, e0, e1, e4, e5, e6, e7, e8, e9, e10, h74, h75, h76, h77, h78n, h78r, b1, k9, w7])
        cases w6 : leafO f with
        | false =>
          simp only [w6] at hR
          (try simp -implicitDefEqProofs (maxSteps := 10000000) (disch := omega) only [go_sem, Int.reduceAdd, Int.reduceSub, Int.reduceMul, dec_t, dec_f, Nat.reduceBEq, Nat.reduceBNe, Nat.reduceShiftRight, Nat.reduceAnd, Nat.reduceAdd, Nat.reduceSub, Nat.reduceEqDiff, Nat.reduceLT, Nat.reduceLeDiff, Int.reduceToNat, Int.reduceLT, Int.reduceLE, Int.reduceEq, reduceIte, reduceCtorEq, e0, e1, e4, e5, e6, e7, e8, e9, e10, h74, h75, h76, h77, h78n, h78r, b1, k9, w7, w6])
          try simp only [Bool.not_true, Bool.not_false, Bool.and_true, Bool.and_false, Bool.true_and, Bool.false_and] at hR
          subst hR
          (first | done | rfl)
        | true =>
          simp only [w6] at hR
          (try simp -implicitDefEqProofs (maxSteps := 10000000) (disch := omega) only [go_sem, Int.reduceAdd, Int.reduceSub, Int.reduceMul, dec_t, dec_f, Nat.reduceBEq, Nat.reduceBNe, Nat.reduceShiftRight, Nat.reduceAnd, Nat.reduceAdd, Nat.reduceSub, Nat.reduceEqDiff, Nat.reduceLT, Nat.reduceLeDiff, Int.reduceToNat, Int.reduceLT, Int.reduceLE, Int.reduceEq, reduceIte, reduceCtorEq, e0, e1, e4, e5, e6, e7, e8, e9, e10, h74, h75, h76, h77, h78n, h78r, b1, k9, w7, w6])
          cases w5 : wn0O f with
          | false =>
            simp only [w5] at hR
            (try simp -implicitDefEqProofs (maxSteps := 10000000) (disch := omega) only [go_sem, Int.reduceAdd, Int.reduceSub, Int.reduceMul, dec_t, dec_f, Nat.reduceBEq, Nat.reduceBNe, Nat.reduceShiftRight, Nat.reduceAnd, Nat.reduceAdd, Nat.reduceSub, Nat.reduceEqDiff, Nat.reduceLT, Nat.reduceLeDiff, Int.reduceToNat, Int.reduceLT, Int.reduceLE, Int.reduceEq, reduceIte, reduceCtorEq, e0, e1, e4, e5, e6, e7, e8, e9, e10, h74, h75, h76, h77, h78n, h78r, b1, k9, w7, w6, w5])
            try simp only [Bool.not_true, Bool.not_false, Bool.and_true, Bool.and_false, Bool.true_and, Bool.false_and] at hR
            subst hR
            (first | done | rfl)
          | true =>
            simp only [w5] at hR
            (try simp -implicitDefEqProofs (maxSteps := 10000000) (disch := omega) only [go_sem, Int.reduceAdd, Int.reduceSub, Int.reduceMul, dec_t, dec_f, Nat.reduceBEq, Nat.reduceBNe, Nat.reduceShiftRight, Nat.reduceAnd, Nat.reduceAdd, Nat.reduceSub, Nat.reduceEqDiff, Nat.reduceLT, Nat.reduceLeDiff, Int.reduceToNat, Int.reduceLT, Int.reduceLE, Int.reduceEq, reduceIte, reduceCtorEq, e0, e1, e4, e5, e6, e7, e8, e9, e10, h74, h75, h76, h77, h78n, h78r, b1, k9, w7, w6, w5])
            cases w4 : wr0O f with
            | false =>
              simp only [w4] at hR
              (try simp -implicitDefEqProofs (maxSteps := 10000000) (disch := omega) only [go_sem, Int.reduceAdd, Int.reduceSub, Int.reduceMul, dec_t, dec_f, Nat.reduceBEq, Nat.reduceBNe, Nat.reduceShiftRight, Nat.reduceAnd, Nat.reduceAdd, Nat.reduceSub, Nat.reduceEqDiff, Nat.reduceLT, Nat.reduceLeDiff, Int.reduceToNat, Int.reduceLT, Int.reduceLE, Int.reduceEq, reduceIte, reduceCtorEq, e0, e1, e4, e5, e6, e7, e8, e9, e10, h74, h75, h76, h77, h78n, h78r, b1, k9, w7, w6, w5, w4])
              try simp only [Bool.not_true, Bool.not_false, Bool.and_true, Bool.and_false, Bool.true_and, Bool.false_and] at hR
              subst hR
              (first | done | rfl)
            | true =>
              simp only [w4] at hR
              (try simp -implicitDefEqProofs (maxSteps := 10000000) (disch := omega) only [go_sem, Int.reduceAdd, Int.reduceSub, Int.reduceMul, dec_t, dec_f, Nat.reduceBEq, Nat.reduceBNe, Nat.reduceShiftRight, Nat.reduceAnd, Nat.reduceAdd, Nat.reduceSub, Nat.reduceEqDiff, Nat.reduceLT, Nat.reduceLeDiff, Int.reduceToNat, Int.reduceLT, Int.reduceLE, Int.reduceEq, reduceIte, reduceCtorEq, e0, e1, e4, e5, e6, e7, e8, e9, e10, h74, h75, h76, h77, h78n, h78r, b1, k9, w7, w6, w5, w4])
              cases w3 : rdO f with
              | true =>
                simp only [w3] at hR
                (try simp -implicitDefEqProofs (maxSteps := 10000000) (disch := omega) only [go_sem, Int.reduceAdd, Int.reduceSub, Int.reduceMul, dec_t, dec_f, Nat.reduceBEq, Nat.reduceBNe, Nat.reduceShiftRight, Nat.reduceAnd, Nat.reduceAdd, Nat.reduceSub, Nat.reduceEqDiff, Nat.reduceLT, Nat.reduceLeDiff, Int.reduceToNat, Int.reduceLT, Int.reduceLE, Int.reduceEq, reduceIte, reduceCtorEq, e0, e1, e4, e5, e6, e7, e8, e9, e10, h74, h75, h76, h77, h78n, h78r, b1, k9, w7, w6, w5, w4, w3])
                try simp only [Bool.not_true, Bool.not_false, Bool.and_true, Bool.and_false, Bool.true_and, Bool.false_and] at hR
                subst hR
                (first | done | rfl)
              | false =>
                simp only [w3] at hR
                (try simp -implicitDefEqProofs (maxSteps := 10000000) (disch := omega) only [go_sem, Int.reduceAdd, Int.reduceSub, Int.reduceMul, dec_t, dec_f, Nat.reduceBEq, Nat.reduceBNe, Nat.reduceShiftRight, Nat.reduceAnd, Nat.reduceAdd, Nat.reduceSub, Nat.reduceEqDiff, Nat.reduceLT, Nat.reduceLeDiff, Int.reduceToNat, Int.reduceLT, Int.reduceLE, Int.reduceEq, reduceIte, reduceCtorEq, e0, e1, e4, e5, e6, e7, e8, e9, e10, h74, h75, h76, h77, h78n, h78r, b1, k9, w7, w6, w5, w4, w3])
                cases w2 : nrO f with
                | true =>
                  simp only [w2] at hR
                  (try simp -implicitDefEqProofs (maxSteps := 10000000) (disch := omega) only [go_sem, Int.reduceAdd, Int.reduceSub, Int.reduceMul, dec_t, dec_f, Nat.reduceBEq, Nat.reduceBNe, Nat.reduceShiftRight, Nat.reduceAnd, Nat.reduceAdd, Nat.reduceSub, Nat.reduceEqDiff, Nat.reduceLT, Nat.reduceLeDiff, Int.reduceToNat, Int.reduceLT, Int.reduceLE, Int.reduceEq, reduceIte, reduceCtorEq, e0, e1, e4, e5, e6, e7, e8, e9, e10, h74, h75, h76, h77, h78n, h78r, b1, k9, w7, w6, w5, w4, w3, w2])
                  try simp only [Bool.not_true, Bool.not_false, Bool.and_true, Bool.and_false, Bool.true_and, Bool.false_and] at hR
                  subst hR
                  (first | done | rfl)
                | false =>
                  simp only [w2] at hR
                  (try simp -implicitDefEqProofs (maxSteps := 10000000) (disch := omega) only [go_sem, Int.reduceAdd, Int.reduceSub, Int.reduceMul, dec_t, dec_f, Nat.reduceBEq, Nat.reduceBNe, Nat.reduceShiftRight, Nat.reduceAnd, Nat.reduceAdd, Nat.reduceSub, Nat.reduceEqDiff, Nat.reduceLT, Nat.reduceLeDiff, Int.reduceToNat, Int.reduceLT, Int.reduceLE, Int.reduceEq, reduceIte, reduceCtorEq, e0, e1, e4, e5, e6, e7, e8, e9, e10, h74, h75, h76, h77, h78n, h78r, b1, k9, w7, w6, w5, w4, w3, w2])
                  cases w1 : v4O f with
                  | false =>
                    simp only [w1] at hR
                    (try simp -implicitDefEqProofs (maxSteps := 10000000) (disch := omega) only [go_sem, Int.reduceAdd, Int.reduceSub, Int.reduceMul, dec_t, dec_f, Nat.reduceBEq, Nat.reduceBNe, Nat.reduceShiftRight, Nat.reduceAnd, Nat.reduceAdd, Nat.reduceSub, Nat.reduceEqDiff, Nat.reduceLT, Nat.reduceLeDiff, Int.reduceToNat, Int.reduceLT, Int.reduceLE, Int.reduceEq, reduceIte, reduceCtorEq, e0, e1, e4, e5, e6, e7, e8, e9, e10, h74, h75, h76, h77, h78n, h78r, b1, k9, w7, w6, w5, w4, w3, w2, w1])
                    try simp only [Bool.not_true, Bool.not_false, Bool.and_true, Bool.and_false, Bool.true_and, Bool.false_and] at hR
                    subst hR
                    (first | done | rfl)
                  | true =>
                    simp only [w1] at hR
                    (try simp -implicitDefEqProofs (maxSteps := 10000000) (disch := omega) only [go_sem, Int.reduceAdd, Int.reduceSub, Int.reduceMul, dec_t, dec_f, Nat.reduceBEq, Nat.reduceBNe, Nat.reduceShiftRight, Nat.reduceAnd, Nat.reduceAdd, Nat.reduceSub, Nat.reduceEqDiff, Nat.reduceLT, Nat.reduceLeDiff, Int.reduceToNat, Int.reduceLT, Int.reduceLE, Int.reduceEq, reduceIte, reduceCtorEq, e0, e1, e4, e5, e6, e7, e8, e9, e10, h74, h75, h76, h77, h78n, h78r, b1, k9, w7, w6, w5, w4, w3, w2, w1])
                    try simp only [Bool.not_true, Bool.not_false, Bool.and_true, Bool.and_false, Bool.true_and, Bool.false_and] at hR
                    subst hR
                    (first | done | rfl)
    rw [if_neg k9] at hR
    (try simp -implicitDefEqProofs (maxSteps := 10000000) (disch := omega) only [go_sem, Int.reduceAdd, Int.reduceSub, Int.reduceMul, dec_t, dec_f, Nat.reduceBEq, Nat.reduceBNe, Nat.reduceShiftRight, Nat.reduceAnd, Nat.reduceAdd, Nat.reduceSub, Nat.reduceEqDiff, Nat.reduceLT, Nat.reduceLeDiff, Int.reduceToNat, Int.reduceLT, Int.reduceLE, Int.reduceEq, reduceIte, reduceCtorEq, e0, e1, e4, e5, e6, e7, e8, e9, e10, h74, h75, h76, h77, h78n, h78r, b1])
    subst hR
    (first | done | rfl)
  | true =>
    simp only [b1, Bool.true_and] at hR
    cases b2 : dn f with
    | true =>
      simp only [b2, Bool.not_true, Bool.false_and] at hR
      (try simp -implicitDefEqProofs (maxSteps := 10000000) (disch := omega) only [go_sem, Int.reduceAdd, Int.reduceSub, Int.reduceMul, dec_t, dec_f, Nat.reduceBEq, Nat.reduceBNe, Nat.reduceShiftRight, Nat.reduceAnd, Nat.reduceAdd, Nat.reduceSub, Nat.reduceEqDiff, Nat.reduceLT, Nat.reduceLeDiff, Int.reduceToNat, Int.reduceLT, Int.reduceLE, Int.reduceEq, reduceIte, reduceCtorEq, e0, e1, e4, e5, e6, e7, e8, e9, e10, h74, h75, h76, h77, h78n, h78r, b1, b2])
      by_cases k0 : kind f = 0
      · simp only [k0] at hR
        simp only [reduceIte, Int.reduceEq] at hR
        (try simp -implicitDefEqProofs (maxSteps := 10000000) (disch := omega) only [go_sem, Int.reduceAdd, Int.reduceSub, Int.reduceMul, dec_t, dec_f, Nat.reduceBEq, Nat.reduceBNe, Nat.reduceShiftRight, Nat.reduceAnd, Nat.reduceAdd, Nat.reduceSub, Nat.reduceEqDiff, Nat.reduceLT, Nat.reduceLeDiff, Int.reduceToNat, Int.reduceLT, Int.reduceLE, Int.reduceEq, reduceIte, reduceCtorEq, e0, e1, e4, e5, e6, e7, e8, e9, e10, h74, h75, h76, h77, h78n, h78r, b1, b2, k0])
        try simp only [Bool.not_true, Bool.not_false, Bool.and_true, Bool.and_false, Bool.true_and, Bool.false_and] at hR
        subst hR
        (first | done | rfl)
      rw [if_neg k0] at hR
      by_cases k1 : kind f = 1
      · simp only [k1] at hR
        simp only [reduceIte, Int.reduceEq] at hR
        (try simp -implicitDefEqProofs (maxSteps := 10000000) (disch := omega) only [go_sem, Int.reduceAdd, Int.reduceSub, Int.reduceMul, dec_t, dec_f, Nat.reduceBEq, Nat.reduceBNe, Nat.reduceShiftRight, Nat.reduceAnd, Nat.reduceAdd, Nat.reduceSub, Nat.reduceEqDiff, Nat.reduceLT, Nat.reduceLeDiff, Int.reduceToNat, Int.reduceLT, Int.reduceLE, Int.reduceEq, reduceIte, reduceCtorEq, e0, e1, e4, e5, e6, e7, e8, e9, e10, h74, h75, h76, h77, h78n, h78r, b1, b2, k1])
        try simp only [Bool.not_true, Bool.not_false, Bool.and_true, Bool.and_false, Bool.true_and, Bool.false_and] at hR
        subst hR
        (first | done | rfl)
      rw [if_neg k1] at hR
      by_cases k2 : kind f = 2
      · simp only [k2] at hR
        simp only [reduceIte, Int.reduceEq] at hR
        (try simp -implicitDefEqProofs (maxSteps := 10000000) (disch := omega) only [go_sem, Int.reduceAdd, Int.reduceSub, Int.reduceMul, dec_t, dec_f, Nat.reduceBEq, Nat.reduceBNe, Nat.reduceShiftRight, Nat.reduceAnd, Nat.reduceAdd, Nat.reduceSub, Nat.reduceEqDiff, Nat.reduceLT, Nat.reduceLeDiff, Int.reduceToNat, Int.reduceLT, Int.reduceLE, Int.reduceEq, reduceIte, reduceCtorEq, e0, e1, e4, e5, e6, e7, e8, e9, e10, h74, h75, h76, h77, h78n, h78r, b1, b2, k2])
        try simp only [Bool.not_true, Bool.not_false, Bool.and_true, Bool.and_false, Bool.true_and, Bool.false_and] at hR
        subst hR
        (first | done | rfl)
      rw [if_neg k2] at hR
      by_cases k3 : kind f = 3
      · simp only [k3] at hR
        simp only [reduceIte, Int.reduceEq] at hR
        (try simp -implicitDefEqProofs (maxSteps := 10000000) (disch := omega) only [go_sem, Int.reduceAdd, Int.reduceSub, Int.reduceMul, dec_t, dec_f, Nat.reduceBEq, Nat.reduceBNe, Nat.reduceShiftRight, Nat.reduceAnd, Nat.reduceAdd, Nat.reduceSub, Nat.reduceEqDiff, Nat.reduceLT, Nat.reduceLeDiff, Int.reduceToNat, Int.reduceLT, Int.reduceLE, Int.reduceEq, reduceIte, reduceCtorEq, e0, e1, e4, e5, e6, e7, e8, e9, e10, h74, h75, h76, h77, h78n, h78r, b1, b2, k3])
        try simp only [Bool.not_true, Bool.not_false, Bool.and_true, Bool.and_false, Bool.true_and, Bool.false_and] at hR
        subst hR
        (first | done | rfl)
      rw [if_neg k3] at hR
      by_cases k5 : kind f = 5
      · simp only [k5] at hR
        simp only [reduceIte, Int.reduceEq] at hR
        (try simp -implicitDefEqProofs (maxSteps := 10000000) (disch := omega) only [go_sem, Int.reduceAdd, Int.reduceSub, Int.reduceMul, dec_t, dec_f, Nat.reduceBEq, Nat.reduceBNe, Nat.reduceShiftRight, Nat.reduceAnd, Nat.reduceAdd, Nat.reduceSub, Nat.reduceEqDiff, Nat.reduceLT, Nat.reduceLeDiff, Int.reduceToNat, Int.reduceLT, Int.reduceLE, Int.reduceEq, reduceIte, reduceCtorEq, e0, e1, e4, e5, e6, e7, e8, e9, e10, h74, h75, h76, h77, h78n, h78r, b1, b2, k5])
        try simp only [Bool.not_true, Bool.not_false, Bool.and_true, Bool.and_false, Bool.true_and, Bool.false_and] at hR
        subst hR
        (first | done | rfl)
      rw [if_neg k5] at hR
      by_cases k6 : kind f = 6
      · simp only [k6] at hR
        simp only [reduceIte, Int.reduceEq] at hR
        (try simp -implicitDefEqProofs (maxSteps := 10000000) (disch := omega) only [go_sem, Int.reduceAdd, Int.reduceSub, Int.reduceMul, dec_t, dec_f, Nat.reduceBEq, Nat.reduceBNe, Nat.reduceShiftRight, Nat.reduceAnd, Nat.reduceAdd, Nat.reduceSub, Nat.reduceEqDiff, Nat.reduceLT, Nat.reduceLeDiff, Int.reduceToNat, Int.reduceLT, Int.reduceLE, Int.reduceEq, reduceIte, reduceCtorEq, e0, e1, e4, e5, e6, e7, e8, e9, e10, h74, h75, h76, h77, h78n, h78r, b1, b2, k6])
        try simp only [Bool.not_true, Bool.not_false, Bool.and_true, Bool.and_false, Bool.true_and, Bool.false_and] at hR
        subst hR
        (first | done | rfl)
      rw [if_neg k6] at hR
      by_cases k8 : kind f = 8
      · simp only [k8] at hR
        simp only [reduceIte, Int.reduceEq] at hR
        (try simp -implicitDefEqProofs (maxSteps := 10000000) (disch := omega) only [go_sem, Int.reduceAdd, Int.reduceSub, Int.reduceMul, dec_t, dec_f, Nat.reduceBEq, Nat.reduceBNe, Nat.reduceShiftRight, Nat.reduceAnd, Nat.reduceAdd, Nat.reduceSub, Nat.reduceEqDiff, Nat.reduceLT, Nat.reduceLeDiff, Int.reduceToNat, Int.reduceLT, Int.reduceLE, Int.reduceEq, reduceIte, reduceCtorEq, e0, e1, e4, e5, e6, e7, e8, e9, e10, h74, h75, h76, h77, h78n, h78r, b1, b2, k8])
        try simp only [Bool.not_true, Bool.not_false, Bool.and_true, Bool.and_false, Bool.true_and, Bool.false_and] at hR
        subst hR
        (first | done | rfl)
      rw [if_neg k8] at hR
      by_cases k7 : kind f = 7
      · simp only [k7] at hR
        simp only [reduceIte, Int.reduceEq] at hR
        (try simp -implicitDefEqProofs (maxSteps := 10000000) (disch := omega) only [go_sem, Int.reduceAdd, Int.reduceSub, Int.reduceMul, dec_t, dec_f, Nat.reduceBEq, Nat.reduceBNe, Nat.reduceShiftRight, Nat.reduceAnd, Nat.reduceAdd, Nat.reduceSub, Nat.reduceEqDiff, Nat.reduceLT, Nat.reduceLeDiff, Int.reduceToNat, Int.reduceLT, Int.reduceLE, Int.reduceEq, reduceIte, reduceCtorEq, e0, e1, e4, e5, e6, e7, e8, e9, e10, h74, h75, h76, h77, h78n, h78r, b1, b2, k7])
        try simp only [Bool.not_true, Bool.not_false, Bool.and_true, Bool.and_false, Bool.true_and, Bool.false_and] at hR
        subst hR
        (first | done | rfl)
      rw [if_neg k7] at hR
      by_cases k4 : kind f = 4
      · simp only [k4] at hR
        simp only [reduceIte, Int.reduceEq] at hR
        (try simp -implicitDefEqProofs (maxSteps := 10000000) (disch := omega) only [go_sem, Int.reduceAdd, Int.reduceSub, Int.reduceMul, dec_t, dec_f, Nat.reduceBEq, Nat.reduceBNe, Nat.reduceShiftRight, Nat.reduceAnd, Nat.reduceAdd, Nat.reduceSub, Nat.reduceEqDiff, Nat.reduceLT, Nat.reduceLeDiff, Int.reduceToNat, Int.reduceLT, Int.reduceLE, Int.reduceEq, reduceIte, reduceCtorEq, e0, e1, e4, e5, e6, e7, e8, e9, e10, h74, h75, h76, h77, h78n, h78r, b1, b2, k4])
        try simp only [Bool.not_true, Bool.not_false, Bool.and_true, Bool.and_false, Bool.true_and, Bool.false_and] at hR
        subst hR
        (first | done | rfl)
      rw [if_neg k4] at hR
      by_cases k9 : kind f = 9
      · simp only [k9] at hR
        simp only [reduceIte, Int.reduceEq] at hR
        (try simp -implicitDefEqProofs (maxSteps := 10000000) (disch := omega) only [go_sem, Int.reduceAdd, Int.reduceSub, Int.reduceMul, dec_t, dec_f, Nat.reduceBEq, Nat.reduceBNe, Nat.reduceShiftRight, Nat.reduceAnd, Nat.reduceAdd, Nat.reduceSub, Nat.reduceEqDiff, Nat.reduceLT, Nat.reduceLeDiff, Int.reduceToNat, Int.reduceLT, Int.reduceLE, Int.reduceEq, reduceIte, reduceCtorEq, e0, e1, e4, e5, e6, e7, e8, e9, e10, h74, h75, h76, h77, h78n, h78r, b1, b2, k9])
        cases w7 : pEmptyO f with
        | false =>
          simp only [w7] at hR
          (try simp -implicitDefEqProofs (maxSteps := 10000000) (disch := omega) only [go_sem, Int.reduceAdd, Int.reduceSub, Int.reduceMul, dec_t, dec_f, Nat.reduceBEq, Nat.reduceBNe, Nat.reduceShiftRight, Nat.reduceAnd, Nat.reduceAdd, Nat.reduceSub, Nat.reduceEqDiff, Nat.reduceLT, Nat.reduceLeDiff, Int.reduceToNat, Int.reduceLT, Int.reduceLE, Int.reduceEq, reduceIte, reduceCtorEq, e0, e1, e4, e5, e6, e7, e8, e9, e10, h74, h75, h76, h77, h78n, h78r, b1, b2, k9, w7])
          try simp only [Bool.not_true, Bool.not_false, Bool.and_true, Bool.and_false, Bool.true_and, Bool.false_and] at hR
          subst hR
          (first | done | rfl)
        | true =>
          simp only [w7] at hR
          (try simp -implicitDefEqProofs (maxSteps := 10000000) (disch := omega) only [go_sem, Int.reduceAdd, Int.reduceSub, Int.reduceMul, dec_t, dec_f, Nat.reduceBEq, Nat.reduceBNe, Nat.reduceShiftRight, Nat.reduceAnd, Nat.reduceAdd, Nat.reduceSub, Nat.reduceEqDiff, Nat.reduceLT, Nat.reduceLeDiff, Int.reduceToNat, Int.reduceLT, Int.reduceLE, Int.reduceEq, reduceIte, reduceCtorEq, e0, e1, e4, e5, e6, e7, e8, e9, e10, h74, h75, h76, h77, h78n, h78r, b1, b2, k9, w7])
          cases w6 : leafO f with
          | false =>
            simp only [w6] at hR
            (try simp -implicitDefEqProofs (maxSteps := 10000000) (disch := omega) only [go_sem, Int.reduceAdd, Int.reduceSub, Int.reduceMul, dec_t, dec_f, Nat.reduceBEq, Nat.reduceBNe, Nat.reduceShiftRight, Nat.reduceAnd, Nat.reduceAdd, Nat.reduceSub, Nat.reduceEqDiff, Nat.reduceLT, Nat.reduceLeDiff, Int.reduceToNat, Int.reduceLT, Int.reduceLE, Int.reduceEq, reduceIte, reduceCtorEq, e0, e1, e4, e5, e6, e7, e8, e9, e10, h74, h75, h76, h77, h78n, h78r, b1, b2, k9, w7, w6])
            try simp only [Bool.not_true, Bool.not_false, Bool.and_true, Bool.and_false, Bool.true_and, Bool.false_and] at hR
            subst hR
            (first | done | rfl)
          | true =>
            simp only [w6] at hR
            (try simp -implicitDefEqProofs (maxSteps := 10000000) (disch := omega) only [go_sem, Int.reduceAdd, Int.reduceSub, Int.reduceMul, dec_t, dec_f, Nat.reduceBEq, Nat.reduceBNe, Nat.reduceShiftRight, Nat.reduceAnd, Nat.reduceAdd, Nat.reduceSub, Nat.reduceEqDiff, Nat.reduceLT, Nat.reduceLeDiff, Int.reduceToNat, Int.reduceLT, Int.reduceLE, Int.reduceEq, reduceIte, reduceCtorEq, e0, e1, e4, e5, e6, e7, e8, e9, e10, h74, h75, h76, h77, h78n, h78r, b1, b2, k9, w7, w6])
            cases w5 : wn0O f with
            | false =>
              simp only [w5] at hR
              (try simp -implicitDefEqProofs (maxSteps := 10000000) (disch := omega) only [go_sem, Int.reduceAdd, Int.reduceSub, Int.reduceMul, dec_t, dec_f, Nat.reduceBEq, Nat.reduceBNe, Nat.reduceShiftRight, Nat.reduceAnd, Nat.reduceAdd, Nat.reduceSub, Nat.reduceEqDiff, Nat.reduceLT, Nat.reduceLeDiff, Int.reduceToNat, Int.reduceLT, Int.reduceLE, Int.reduceEq, reduceIte, reduceCtorEq, e0, e1, e4, e5, e6, e7, e8, e9, e10, h74, h75, h76, h77, h78n, h78r, b1, b2, k9, w7, w6, w5])
              try simp only [Bool.not_true, Bool.not_false, Bool.and_true, Bool.and_false, Bool.true_and, Bool.false_and] at hR
              subst hR
              (first | done | rfl)
            | true =>
              simp only [w5] at hR
              (try simp -implicitDefEqProofs (maxSteps := 10000000) (disch := omega) only [go_sem, Int.reduceAdd, Int.reduceSub, Int.reduceMul, dec_t, dec_f, Nat.reduceBEq, Nat.reduceBNe, Nat.reduceShiftRight, Nat.reduceAnd, Nat.reduceAdd, Nat.reduceSub, Nat.reduceEqDiff, Nat.reduceLT, Nat.reduceLeDiff, Int.reduceToNat, Int.reduceLT, Int.reduceLE, Int.reduceEq, reduceIte, reduceCtorEq, e0, e1, e4, e5, e6, e7, e8, e9, e10, h74, h75, h76, h77, h78n, h78r, b1, b2, k9, w7, w6, w5])
              cases w4 : wr0O f with
              | false =>
                simp only [w4] at hR
                (try simp -implicitDefEqProofs (maxSteps := 10000000) (disch := omega) only [go_sem, Int.reduceAdd, Int.reduceSub, Int.reduceMul, dec_t, dec_f, Nat.reduceBEq, Nat.reduceBNe, Nat.reduceShiftRight, Nat.reduceAnd, Nat.reduceAdd, Nat.reduceSub, Nat.reduceEqDiff, Nat.reduceLT, Nat.reduceLeDiff, Int.reduceToNat, Int.reduceLT, Int.reduceLE, Int.reduceEq, reduceIte, reduceCtorEq, e0, e1, e4, e5, e6, e7, e8, e9, e10, h74, h75, h76, h77, h78n, h78r, b1, b2, k9, w7, w6, w5, w4])
                try simp only [Bool.not_true, Bool.not_false, Bool.and_true, Bool.and_false, Bool.true_and, Bool.false_and] at hR
                subst hR
                (first | done | rfl)
              | true =>
                simp only [w4] at hR
                (try simp -implicitDefEqProofs (maxSteps := 10000000) (disch := omega) only [go_sem, Int.reduceAdd, Int.reduceSub, Int.reduceMul, dec_t, dec_f, Nat.reduceBEq, Nat.reduceBNe, Nat.reduceShiftRight, Nat.reduceAnd, Nat.reduceAdd, Nat.reduceSub, Nat.reduceEqDiff, Nat.reduceLT, Nat.reduceLeDiff, Int.reduceToNat, Int.reduceLT, Int.reduceLE, Int.reduceEq, reduceIte, reduceCtorEq, e0, e1, e4, e5, e6, e7, e8, e9, e10, h74, h75, h76, h77, h78n, h78r, b1, b2, k9, w7, w6, w5, w4])
                cases w3 : rdO f with
                | true =>
                  simp only [w3] at hR
                  (try simp -implicitDefEqProofs (maxSteps := 10000000) (disch := omega) only [go_sem, Int.reduceAdd, Int.reduceSub, Int.reduceMul, dec_t, dec_f, Nat.reduceBEq, Nat.reduceBNe, Nat.reduceShiftRight, Nat.reduceAnd, Nat.reduceAdd, Nat.reduceSub, Nat.reduceEqDiff, Nat.reduceLT, Nat.reduceLeDiff, Int.reduceToNat, Int.reduceLT, Int.reduceLE, Int.reduceEq, reduceIte, reduceCtorEq, e0, e1, e4, e5, e6, e7, e8, e9, e10, h74, h75, h76, h77, h78n, h78r, b1, b2, k9, w7, w6, w5, w4, w3])
                  try simp only [Bool.not_true, Bool.not_false, Bool.and_true, Bool.and_false, Bool.true_and, Bool.false_and] at hR
                  subst hR
                  (first | done | rfl)
                | false =>
                  simp only [w3] at hR
                  (try simp -implicitDefEqProofs (maxSteps := 10000000) (disch := omega) only [go_sem, Int.reduceAdd, Int.reduceSub, Int.reduceMul, dec_t, dec_f, Nat.reduceBEq, Nat.reduceBNe, Nat.reduceShiftRight, Nat.reduceAnd, Nat.reduceAdd, Nat.reduceSub, Nat.reduceEqDiff, Nat.reduceLT, Nat.reduceLeDiff, Int.reduceToNat, Int.reduceLT, Int.reduceLE, Int.reduceEq, reduceIte, reduceCtorEq, e0, e1, e4, e5, e6, e7, e8, e9, e10, h74, h75, h76, h77, h78n, h78r, b1, b2, k9, w7, w6, w5, w4, w3])
                  cases w2 : nrO f with
                  | true =>
                    simp only [w2] at hR
                    (try simp -implicitDefEqProofs (maxSteps := 10000000) (disch := omega) only [go_sem, Int.reduceAdd, Int.reduceSub, Int.reduceMul, dec_t, dec_f, Nat.reduceBEq, Nat.reduceBNe, Nat.reduceShiftRight, Nat.reduceAnd, Nat.reduceAdd, Nat.reduceSub, Nat.reduceEqDiff, Nat.reduceLT, Nat.reduceLeDiff, Int.reduceToNat, Int.reduceLT, Int.reduceLE, Int.reduceEq, reduceIte, reduceCtorEq, e0, e1, e4, e5, e6, e7, e8, e9, e10, h74, h75, h76, h77, h78n, h78r, b1, b2, k9, w7, w6, w5, w4, w3, w2])
                    try simp only [Bool.not_true, Bool.not_false, Bool.and_true, Bool.and_false, Bool.true_and, Bool.false_and] at hR
                    subst hR
                    (first | done | rfl)
                  | false =>
                    simp only [w2] at hR
                    (try simp -implicitDefEqProofs (maxSteps := 10000000) (disch := omega) only [go_sem, Int.reduceAdd, Int.reduceSub, Int.reduceMul, dec_t, dec_f, Nat.reduceBEq, Nat.reduceBNe, Nat.reduceShiftRight, Nat.reduceAnd, Nat.reduceAdd, Nat.reduceSub, Nat.reduceEqDiff, Nat.reduceLT, Nat.reduceLeDiff, Int.reduceToNat, Int.reduceLT, Int.reduceLE, Int.reduceEq, reduceIte, reduceCtorEq, e0, e1, e4, e5, e6, e7, e8, e9, e10, h74, h75, h76, h77, h78n, h78r, b1, b2, k9, w7, w6, w5, w4, w3, w2])
                    cases w1 : v4O f with
                    | false =>
                      simp only [w1] at hR
                      (try simp -implicitDefEqProofs (maxSteps := 10000000) (disch := omega) only [go_sem, Int.reduceAdd, Int.reduceSub, Int.reduceMul, dec_t, dec_f, Nat.reduceBEq, Nat.reduceBNe, Nat.reduceShiftRight, Nat.reduceAnd, Nat.reduceAdd, Nat.reduceSub, Nat.reduceEqDiff, Nat.reduceLT, Nat.reduceLeDiff, Int.reduceToNat, Int.reduceLT, Int.reduceLE, Int.reduceEq, reduceIte, reduceCtorEq, e0, e1, e4, e5, e6, e7, e8, e9, e10, h74, h75, h76, h77, h78n, h78r, b1, b2, k9, w7, w6, w5, w4, w3, w2, w1])
                      try simp only [Bool.not_true, Bool.not_false, Bool.and_true, Bool.and_false, Bool.true_and, Bool.false_and] at hR
                      subst hR
                      (first | done | rfl)
                    | true =>
                      simp only [w1] at hR
                      (try simp -implicitDefEqProofs (maxSteps := 10000000) (disch := omega) only [go_sem, Int.reduceAdd, Int.reduceSub, Int.reduceMul, dec_t, dec_f, Nat.reduceBEq, Nat.reduceBNe, Nat.reduceShiftRight, Nat.reduceAnd, Nat.reduceAdd, Nat.reduceSub, Nat.reduceEqDiff, Nat.reduceLT, Nat.reduceLeDiff, Int.reduceToNat, Int.reduceLT, Int.reduceLE, Int.reduceEq, reduceIte, reduceCtorEq, e0, e1, e4, e5, e6, e7, e8, e9, e10, h74, h75, h76, h77, h78n, h78r, b1, b2, k9, w7, w6, w5, w4, w3, w2, w1])
                      try simp only [Bool.not_true, Bool.not_false, Bool.and_true, Bool.and_false, Bool.true_and, Bool.false_and] at hR
                      subst hR
                      (first | done | rfl)
      rw [if_neg k9] at hR
      (try simp -implicitDefEqProofs (maxSteps := 10000000) (disch := omega) only [go_sem, Int.reduceAdd, Int.reduceSub, Int.reduceMul, dec_t, dec_f, Nat.reduceBEq, Nat.reduceBNe, Nat.reduceShiftRight, Nat.reduceAnd, Nat.reduceAdd, Nat.reduceSub, Nat.reduceEqDiff, Nat.reduceLT, Nat.reduceLeDiff, Int.reduceToNat, Int.reduceLT, Int.reduceLE, Int.reduceEq, reduceIte, reduceCtorEq, e0, e1, e4, e5, e6, e7, e8, e9, e10, h74, h75, h76, h77, h78n, h78r, b1, b2])
      subst hR
      (first | done | rfl)
    | false =>
      simp only [b2, Bool.not_false, Bool.true_and] at hR
      (try simp -implicitDefEqProofs (maxSteps := 10000000) (disch := omega) only [go_sem, Int.reduceAdd, Int.reduceSub, Int.reduceMul, dec_t, dec_f, Nat.reduceBEq, Nat.reduceBNe, Nat.reduceShiftRight, Nat.reduceAnd, Nat.reduceAdd, Nat.reduceSub, Nat.reduceEqDiff, Nat.reduceLT, Nat.reduceLeDiff, Int.reduceToNat, Int.reduceLT, Int.reduceLE, Int.reduceEq, reduceIte, reduceCtorEq, e0, e1, e4, e5, e6, e7, e8, e9, e10, h74, h75, h76, h77, h78n, h78r, b1, b2])
      by_cases k0 : kind f = 0
      · simp only [k0] at hR
        simp only [reduceIte, Int.reduceEq] at hR
        (try simp -implicitDefEqProofs (maxSteps := 10000000) (disch := omega) only [go_sem, Int.reduceAdd, Int.reduceSub, Int.reduceMul, dec_t, dec_f, Nat.reduceBEq, Nat.reduceBNe, Nat.reduceShiftRight, Nat.reduceAnd, Nat.reduceAdd, Nat.reduceSub, Nat.reduceEqDiff, Nat.reduceLT, Nat.reduceLeDiff, Int.reduceToNat, Int.reduceLT, Int.reduceLE, Int.reduceEq, reduceIte, reduceCtorEq, e0, e1, e4, e5, e6, e7, e8, e9, e10, h74, h75, h76, h77, h78n, h78r, b1, b2, k0])
        cases w2 : pEmptyO f with
        | false =>
          simp only [w2] at hR
          (try simp -implicitDefEqProofs (maxSteps := 10000000) (disch := omega) only [go_sem, Int.reduceAdd, Int.reduceSub, Int.reduceMul, dec_t, dec_f, Nat.reduceBEq, Nat.reduceBNe, Nat.reduceShiftRight, Nat.reduceAnd, Nat.reduceAdd, Nat.reduceSub, Nat.reduceEqDiff, Nat.reduceLT, Nat.reduceLeDiff, Int.reduceToNat, Int.reduceLT, Int.reduceLE, Int.reduceEq, reduceIte, reduceCtorEq, e0, e1, e4, e5, e6, e7, e8, e9, e10, h74, h75, h76, h77, h78n, h78r, b1, b2, k0, w2])
          try simp only [Bool.not_true, Bool.not_false, Bool.and_true, Bool.and_false, Bool.true_and, Bool.false_and] at hR
          subst hR
          (first | done | rfl)
        | true =>
          simp only [w2] at hR
          (try simp -implicitDefEqProofs (maxSteps := 10000000) (disch := omega) only [go_sem, Int.reduceAdd, Int.reduceSub, Int.reduceMul, dec_t, dec_f, Nat.reduceBEq, Nat.reduceBNe, Nat.reduceShiftRight, Nat.reduceAnd, Nat.reduceAdd, Nat.reduceSub, Nat.reduceEqDiff, Nat.reduceLT, Nat.reduceLeDiff, Int.reduceToNat, Int.reduceLT, Int.reduceLE, Int.reduceEq, reduceIte, reduceCtorEq, e0, e1, e4, e5, e6, e7, e8, e9, e10, h74, h75, h76, h77, h78n, h78r, b1, b2, k0, w2])
          cases w1 : nvO f with
          | false =>
            simp only [w1] at hR
            (try simp -implicitDefEqProofs (maxSteps := 10000000) (disch := omega) only [go_sem, Int.reduceAdd, Int.reduceSub, Int.reduceMul, dec_t, dec_f, Nat.reduceBEq, Nat.reduceBNe, Nat.reduceShiftRight, Nat.reduceAnd, Nat.reduceAdd, Nat.reduceSub, Nat.reduceEqDiff, Nat.reduceLT, Nat.reduceLeDiff, Int.reduceToNat, Int.reduceLT, Int.reduceLE, Int.reduceEq, reduceIte, reduceCtorEq, e0, e1, e4, e5, e6, e7, e8, e9, e10, h74, h75, h76, h77, h78n, h78r, b1, b2, k0, w2, w1])
            try simp only [Bool.not_true, Bool.not_false, Bool.and_true, Bool.and_false, Bool.true_and, Bool.false_and] at hR
            subst hR
            (first | done | rfl)
          | true =>
            simp only [w1] at hR
            (try simp -implicitDefEqProofs (maxSteps := 10000000) (disch := omega) only [go_sem, Int.reduceAdd, Int.reduceSub, Int.reduceMul, dec_t, dec_f, Nat.reduceBEq, Nat.reduceBNe, Nat.reduceShiftRight, Nat.reduceAnd, Nat.reduceAdd, Nat.reduceSub, Nat.reduceEqDiff, Nat.reduceLT, Nat.reduceLeDiff, Int.reduceToNat, Int.reduceLT, Int.reduceLE, Int.reduceEq, reduceIte, reduceCtorEq, e0, e1, e4, e5, e6, e7, e8, e9, e10, h74, h75, h76, h77, h78n, h78r, b1, b2, k0, w2, w1])
            try simp only [Bool.not_true, Bool.not_false, Bool.and_true, Bool.and_false, Bool.true_and, Bool.false_and] at hR
            subst hR
            (first | done | rfl)
      rw [if_neg k0] at hR
      by_cases k1 : kind f = 1
      · simp only [k1] at hR
        simp only [reduceIte, Int.reduceEq] at hR
        (try simp -implicitDefEqProofs (maxSteps := 10000000) (disch := omega) only [go_sem, Int.reduceAdd, Int.reduceSub, Int.reduceMul, dec_t, dec_f, Nat.reduceBEq, Nat.reduceBNe, Nat.reduceShiftRight, Nat.reduceAnd, Nat.reduceAdd, Nat.reduceSub, Nat.reduceEqDiff, Nat.reduceLT, Nat.reduceLeDiff, Int.reduceToNat, Int.reduceLT, Int.reduceLE, Int.reduceEq, reduceIte, reduceCtorEq, e0, e1, e4, e5, e6, e7, e8, e9, e10, h74, h75, h76, h77, h78n, h78r, b1, b2, k1])
        cases w2 : pEmptyO f with
        | false =>
          simp only [w2] at hR
          (try simp -implicitDefEqProofs (maxSteps := 10000000) (disch := omega) only [go_sem, Int.reduceAdd, Int.reduceSub, Int.reduceMul, dec_t, dec_f, Nat.reduceBEq, Nat.reduceBNe, Nat.reduceShiftRight, Nat.reduceAnd, Nat.reduceAdd, Nat.reduceSub, Nat.reduceEqDiff, Nat.reduceLT, Nat.reduceLeDiff, Int.reduceToNat, Int.reduceLT, Int.reduceLE, Int.reduceEq, reduceIte, reduceCtorEq, e0, e1, e4, e5, e6, e7, e8, e9, e10, h74, h75, h76, h77, h78n, h78r, b1, b2, k1, w2])
          try simp only [Bool.not_true, Bool.not_false, Bool.and_true, Bool.and_false, Bool.true_and, Bool.false_and] at hR
          subst hR
          (first | done | rfl)
        | true =>
          simp only [w2] at hR
          (try simp -implicitDefEqProofs (maxSteps := 10000000) (disch := omega) only [go_sem, Int.reduceAdd, Int.reduceSub, Int.reduceMul, dec_t, dec_f, Nat.reduceBEq, Nat.reduceBNe, Nat.reduceShiftRight, Nat.reduceAnd, Nat.reduceAdd, Nat.reduceSub, Nat.reduceEqDiff, Nat.reduceLT, Nat.reduceLeDiff, Int.reduceToNat, Int.reduceLT, Int.reduceLE, Int.reduceEq, reduceIte, reduceCtorEq, e0, e1, e4, e5, e6, e7, e8, e9, e10, h74, h75, h76, h77, h78n, h78r, b1, b2, k1, w2])
          cases w1 : nvO f with
          | false =>
            simp only [w1] at hR
            (try simp -implicitDefEqProofs (maxSteps := 10000000) (disch := omega) only [go_sem, Int.reduceAdd, Int.reduceSub, Int.reduceMul, dec_t, dec_f, Nat.reduceBEq, Nat.reduceBNe, Nat.reduceShiftRight, Nat.reduceAnd, Nat.reduceAdd, Nat.reduceSub, Nat.reduceEqDiff, Nat.reduceLT, Nat.reduceLeDiff, Int.reduceToNat, Int.reduceLT, Int.reduceLE, Int.reduceEq, reduceIte, reduceCtorEq, e0, e1, e4, e5, e6, e7, e8, e9, e10, h74, h75, h76, h77, h78n, h78r, b1, b2, k1, w2, w1])
            try simp only [Bool.not_true, Bool.not_false, Bool.and_true, Bool.and_false, Bool.true_and, Bool.false_and] at hR
            subst hR
            (first | done | rfl)
          | true =>
            simp only [w1] at hR
            (try simp -implicitDefEqProofs (maxSteps := 10000000) (disch := omega) only [go_sem, Int.reduceAdd, Int.reduceSub, Int.reduceMul, dec_t, dec_f, Nat.reduceBEq, Nat.reduceBNe, Nat.reduceShiftRight, Nat.reduceAnd, Nat.reduceAdd, Nat.reduceSub, Nat.reduceEqDiff, Nat.reduceLT, Nat.reduceLeDiff, Int.reduceToNat, Int.reduceLT, Int.reduceLE, Int.reduceEq, reduceIte, reduceCtorEq, e0, e1, e4, e5, e6, e7, e8, e9, e10, h74, h75, h76, h77, h78n, h78r, b1, b2, k1, w2, w1])
            try simp only [Bool.not_true, Bool.not_false, Bool.and_true, Bool.and_false, Bool.true_and, Bool.false_and] at hR
            subst hR
            (first | done | rfl)
      rw [if_neg k1] at hR
      by_cases k2 : kind f = 2
      · simp only [k2] at hR
        simp only [reduceIte, Int.reduceEq] at hR
        (try simp -implicitDefEqProofs (maxSteps := 10000000) (disch := omega) only [go_sem, Int.reduceAdd, Int.reduceSub, Int.reduceMul, dec_t, dec_f, Nat.reduceBEq, Nat.reduceBNe, Nat.reduceShiftRight, Nat.reduceAnd, Nat.reduceAdd, Nat.reduceSub, Nat.reduceEqDiff, Nat.reduceLT, Nat.reduceLeDiff, Int.reduceToNat, Int.reduceLT, Int.reduceLE, Int.reduceEq, reduceIte, reduceCtorEq, e0, e1, e4, e5, e6, e7, e8, e9, e10, h74, h75, h76, h77, h78n, h78r, b1, b2, k2])
        cases w3 : pEmptyO f with
        | false =>
          simp only [w3] at hR
          (try simp -implicitDefEqProofs (maxSteps := 10000000) (disch := omega) only [go_sem, Int.reduceAdd, Int.reduceSub, Int.reduceMul, dec_t, dec_f, Nat.reduceBEq, Nat.reduceBNe, Nat.reduceShiftRight, Nat.reduceAnd, Nat.reduceAdd, Nat.reduceSub, Nat.reduceEqDiff, Nat.reduceLT, Nat.reduceLeDiff, Int.reduceToNat, Int.reduceLT, Int.reduceLE, Int.reduceEq, reduceIte, reduceCtorEq, e0, e1, e4, e5, e6, e7, e8, e9, e10, h74, h75, h76, h77, h78n, h78r, b1, b2, k2, w3])
          try simp only [Bool.not_true, Bool.not_false, Bool.and_true, Bool.and_false, Bool.true_and, Bool.false_and] at hR
          subst hR
          (first | done | rfl)
        | true =>
          simp only [w3] at hR
          (try simp -implicitDefEqProofs (maxSteps := 10000000) (disch := omega) only [go_sem, Int.reduceAdd, Int.reduceSub, Int.reduceMul, dec_t, dec_f, Nat.reduceBEq, Nat.reduceBNe, Nat.reduceShiftRight, Nat.reduceAnd, Nat.reduceAdd, Nat.reduceSub, Nat.reduceEqDiff, Nat.reduceLT, Nat.reduceLeDiff, Int.reduceToNat, Int.reduceLT, Int.reduceLE, Int.reduceEq, reduceIte, reduceCtorEq, e0, e1, e4, e5, e6, e7, e8, e9, e10, h74, h75, h76, h77, h78n, h78r, b1, b2, k2, w3])
          cases w2 : nvO f with
          | false =>
            simp only [w2] at hR
            (try simp -implicitDefEqProofs (maxSteps := 10000000) (disch := omega) only [go_sem, Int.reduceAdd, Int.reduceSub, Int.reduceMul, dec_t, dec_f, Nat.reduceBEq, Nat.reduceBNe, Nat.reduceShiftRight, Nat.reduceAnd, Nat.reduceAdd, Nat.reduceSub, Nat.reduceEqDiff, Nat.reduceLT, Nat.reduceLeDiff, Int.reduceToNat, Int.reduceLT, Int.reduceLE, Int.reduceEq, reduceIte, reduceCtorEq, e0, e1, e4, e5, e6, e7, e8, e9, e10, h74, h75, h76, h77, h78n, h78r, b1, b2, k2, w3, w2])
            try simp only [Bool.not_true, Bool.not_false, Bool.and_true, Bool.and_false, Bool.true_and, Bool.false_and] at hR
            subst hR
            (first | done | rfl)
          | true =>
            simp only [w2] at hR
            (try simp -implicitDefEqProofs (maxSteps := 10000000) (disch := omega) only [go_sem, Int.reduceAdd, Int.reduceSub, Int.reduceMul, dec_t, dec_f, Nat.reduceBEq, Nat.reduceBNe, Nat.reduceShiftRight, Nat.reduceAnd, Nat.reduceAdd, Nat.reduceSub, Nat.reduceEqDiff, Nat.reduceLT, Nat.reduceLeDiff, Int.reduceToNat, Int.reduceLT, Int.reduceLE, Int.reduceEq, reduceIte, reduceCtorEq, e0, e1, e4, e5, e6, e7, e8, e9, e10, h74, h75, h76, h77, h78n, h78r, b1, b2, k2, w3, w2])
            cases w1 : k1O f with
            | false =>
              simp only [w1] at hR
              (try simp -implicitDefEqProofs (maxSteps := 10000000) (disch := omega) only [go_sem, Int.reduceAdd, Int.reduceSub, Int.reduceMul, dec_t, dec_f, Nat.reduceBEq, Nat.reduceBNe, Nat.reduceShiftRight, Nat.reduceAnd, Nat.reduceAdd, Nat.reduceSub, Nat.reduceEqDiff, Nat.reduceLT, Nat.reduceLeDiff, Int.reduceToNat, Int.reduceLT, Int.reduceLE, Int.reduceEq, reduceIte, reduceCtorEq, e0, e1, e4, e5, e6, e7, e8, e9, e10, h74, h75, h76, h77, h78n, h78r, b1, b2, k2, w3, w2, w1])
              try simp only [Bool.not_true, Bool.not_false, Bool.and_true, Bool.and_false, Bool.true_and, Bool.false_and] at hR
              subst hR
              (first | done | rfl)
            | true =>
              simp only [w1] at hR
              (try simp -implicitDefEqProofs (maxSteps := 10000000) (disch := omega) only [go_sem, Int.reduceAdd, Int.reduceSub, Int.reduceMul, dec_t, dec_f, Nat.reduceBEq, Nat.reduceBNe, Nat.reduceShiftRight, Nat.reduceAnd, Nat.reduceAdd, Nat.reduceSub, Nat.reduceEqDiff, Nat.reduceLT, Nat.reduceLeDiff, Int.reduceToNat, Int.reduceLT, Int.reduceLE, Int.reduceEq, reduceIte, reduceCtorEq, e0, e1, e4, e5, e6, e7, e8, e9, e10, h74, h75, h76, h77, h78n, h78r, b1, b2, k2, w3, w2, w1])
              try simp only [Bool.not_true, Bool.not_false, Bool.and_true, Bool.and_false, Bool.true_and, Bool.false_and] at hR
              subst hR
              (first | done | rfl)
      rw [if_neg k2] at hR
      by_cases k3 : kind f = 3
      · simp only [k3] at hR
        simp only [reduceIte, Int.reduceEq] at hR
        (try simp -implicitDefEqProofs (maxSteps := 10000000) (disch := omega) only [go_sem, Int.reduceAdd, Int.reduceSub, Int.reduceMul, dec_t, dec_f, Nat.reduceBEq, Nat.reduceBNe, Nat.reduceShiftRight, Nat.reduceAnd, Nat.reduceAdd, Nat.reduceSub, Nat.reduceEqDiff, Nat.reduceLT, Nat.reduceLeDiff, Int.reduceToNat, Int.reduceLT, Int.reduceLE, Int.reduceEq, reduceIte, reduceCtorEq, e0, e1, e4, e5, e6, e7, e8, e9, e10, h74, h75, h76, h77, h78n, h78r, b1, b2, k3])
        cases w4 : pEmptyO f with
        | false =>
          simp only [w4] at hR
          (try simp -implicitDefEqProofs (maxSteps := 10000000) (disch := omega) only [go_sem, Int.reduceAdd, Int.reduceSub, Int.reduceMul, dec_t, dec_f, Nat.reduceBEq, Nat.reduceBNe, Nat.reduceShiftRight, Nat.reduceAnd, Nat.reduceAdd, Nat.reduceSub, Nat.reduceEqDiff, Nat.reduceLT, Nat.reduceLeDiff, Int.reduceToNat, Int.reduceLT, Int.reduceLE, Int.reduceEq, reduceIte, reduceCtorEq, e0, e1, e4, e5, e6, e7, e8, e9, e10, h74, h75, h76, h77, h78n, h78r, b1, b2, k3, w4])
          try simp only [Bool.not_true, Bool.not_false, Bool.and_true, Bool.and_false, Bool.true_and, Bool.false_and] at hR
          subst hR
          (first | done | rfl)
        | true =>
          simp only [w4] at hR
          (try simp -implicitDefEqProofs (maxSteps := 10000000) (disch := omega) only [go_sem, Int.reduceAdd, Int.reduceSub, Int.reduceMul, dec_t, dec_f, Nat.reduceBEq, Nat.reduceBNe, Nat.reduceShiftRight, Nat.reduceAnd, Nat.reduceAdd, Nat.reduceSub, Nat.reduceEqDiff, Nat.reduceLT, Nat.reduceLeDiff, Int.reduceToNat, Int.reduceLT, Int.reduceLE, Int.reduceEq, reduceIte, reduceCtorEq, e0, e1, e4, e5, e6, e7, e8, e9, e10, h74, h75, h76, h77, h78n, h78r, b1, b2, k3, w4])
          cases w3 : leafO f with
          | false =>
            simp only [w3] at hR
            (try simp -implicitDefEqProofs (maxSteps := 10000000) (disch := omega) only [go_sem, Int.reduceAdd, Int.reduceSub, Int.reduceMul, dec_t, dec_f, Nat.reduceBEq, Nat.reduceBNe, Nat.reduceShiftRight, Nat.reduceAnd, Nat.reduceAdd, Nat.reduceSub, Nat.reduceEqDiff, Nat.reduceLT, Nat.reduceLeDiff, Int.reduceToNat, Int.reduceLT, Int.reduceLE, Int.reduceEq, reduceIte, reduceCtorEq, e0, e1, e4, e5, e6, e7, e8, e9, e10, h74, h75, h76, h77, h78n, h78r, b1, b2, k3, w4, w3])
            try simp only [Bool.not_true, Bool.not_false, Bool.and_true, Bool.and_false, Bool.true_and, Bool.false_and] at hR
            subst hR
            (first | done | rfl)
          | true =>
            simp only [w3] at hR
            (try simp -implicitDefEqProofs (maxSteps := 10000000) (disch := omega) only [go_sem, Int.reduceAdd, Int.reduceSub, Int.reduceMul, dec_t, dec_f, Nat.reduceBEq, Nat.reduceBNe, Nat.reduceShiftRight, Nat.reduceAnd, Nat.reduceAdd, Nat.reduceSub, Nat.reduceEqDiff, Nat.reduceLT, Nat.reduceLeDiff, Int.reduceToNat, Int.reduceLT, Int.reduceLE, Int.reduceEq, reduceIte, reduceCtorEq, e0, e1, e4, e5, e6, e7, e8, e9, e10, h74, h75, h76, h77, h78n, h78r, b1, b2, k3, w4, w3])
            cases w2 : wnO f with
            | false =>
              simp only [w2] at hR
              (try simp -implicitDefEqProofs (maxSteps := 10000000) (disch := omega) only [go_sem, Int.reduceAdd, Int.reduceSub, Int.reduceMul, dec_t, dec_f, Nat.reduceBEq, Nat.reduceBNe, Nat.reduceShiftRight, Nat.reduceAnd, Nat.reduceAdd, Nat.reduceSub, Nat.reduceEqDiff, Nat.reduceLT, Nat.reduceLeDiff, Int.reduceToNat, Int.reduceLT, Int.reduceLE, Int.reduceEq, reduceIte, reduceCtorEq, e0, e1, e4, e5, e6, e7, e8, e9, e10, h74, h75, h76, h77, h78n, h78r, b1, b2, k3, w4, w3, w2])
              try simp only [Bool.not_true, Bool.not_false, Bool.and_true, Bool.and_false, Bool.true_and, Bool.false_and] at hR
              subst hR
              (first | done | rfl)
            | true =>
              simp only [w2] at hR
              (try simp -implicitDefEqProofs (maxSteps := 10000000) (disch := omega) only [go_sem, Int.reduceAdd, Int.reduceSub, Int.reduceMul, dec_t, dec_f, Nat.reduceBEq, Nat.reduceBNe, Nat.reduceShiftRight, Nat.reduceAnd, Nat.reduceAdd, Nat.reduceSub, Nat.reduceEqDiff, Nat.reduceLT, Nat.reduceLeDiff, Int.reduceToNat, Int.reduceLT, Int.reduceLE, Int.reduceEq, reduceIte, reduceCtorEq, e0, e1, e4, e5, e6, e7, e8, e9, e10, h74, h75, h76, h77, h78n, h78r, b1, b2, k3, w4, w3, w2])
              cases w1 : v4O f with
              | false =>
                simp only [w1] at hR
                (try simp -implicitDefEqProofs (maxSteps := 10000000) (disch := omega) only [go_sem, Int.reduceAdd, Int.reduceSub, Int.reduceMul, dec_t, dec_f, Nat.reduceBEq, Nat.reduceBNe, Nat.reduceShiftRight, Nat.reduceAnd, Nat.reduceAdd, Nat.reduceSub, Nat.reduceEqDiff, Nat.reduceLT, Nat.reduceLeDiff, Int.reduceToNat, Int.reduceLT, Int.reduceLE, Int.reduceEq, reduceIte, reduceCtorEq, e0, e1, e4, e5, e6, e7, e8, e9, e10, h74, h75, h76, h77, h78n, h78r, b1, b2, k3, w4, w3, w2, w1])
                try simp only [Bool.not_true, Bool.not_false, Bool.and_true, Bool.and_false, Bool.true_and, Bool.false_and] at hR
                subst hR
                (first | done | rfl)
              | true =>
                simp only [w1] at hR
                (try simp -implicitDefEqProofs (maxSteps := 10000000) (disch := omega) only [go_sem, Int.reduceAdd, Int.reduceSub, Int.reduceMul, dec_t, dec_f, Nat.reduceBEq, Nat.reduceBNe, Nat.reduceShiftRight, Nat.reduceAnd, Nat.reduceAdd, Nat.reduceSub, Nat.reduceEqDiff, Nat.reduceLT, Nat.reduceLeDiff, Int.reduceToNat, Int.reduceLT, Int.reduceLE, Int.reduceEq, reduceIte, reduceCtorEq, e0, e1, e4, e5, e6, e7, e8, e9, e10, h74, h75, h76, h77, h78n, h78r, b1, b2, k3, w4, w3, w2, w1])
                try simp only [Bool.not_true, Bool.not_false, Bool.and_true, Bool.and_false, Bool.true_and, Bool.false_and] at hR
                subst hR
                (first | done | rfl)
      rw [if_neg k3] at hR
      by_cases k5 : kind f = 5
      · simp only [k5] at hR
        simp only [reduceIte, Int.reduceEq] at hR
        (try simp -implicitDefEqProofs (maxSteps := 10000000) (disch := omega) only [go_sem, Int.reduceAdd, Int.reduceSub, Int.reduceMul, dec_t, dec_f, Nat.reduceBEq, Nat.reduceBNe, Nat.reduceShiftRight, Nat.reduceAnd, Nat.reduceAdd, Nat.reduceSub, Nat.reduceEqDiff, Nat.reduceLT, Nat.reduceLeDiff, Int.reduceToNat, Int.reduceLT, Int.reduceLE, Int.reduceEq, reduceIte, reduceCtorEq, e0, e1, e4, e5, e6, e7, e8, e9, e10, h74, h75, h76, h77, h78n, h78r, b1, b2, k5])
        cases w4 : pEmptyO f with
        | false =>
          simp only [w4] at hR
          (try simp -implicitDefEqProofs (maxSteps := 10000000) (disch := omega) only [go_sem, Int.reduceAdd, Int.reduceSub, Int.reduceMul, dec_t, dec_f, Nat.reduceBEq, Nat.reduceBNe, Nat.reduceShiftRight, Nat.reduceAnd, Nat.reduceAdd, Nat.reduceSub, Nat.reduceEqDiff, Nat.reduceLT, Nat.reduceLeDiff, Int.reduceToNat, Int.reduceLT, Int.reduceLE, Int.reduceEq, reduceIte, reduceCtorEq, e0, e1, e4, e5, e6, e7, e8, e9, e10, h74, h75, h76, h77, h78n, h78r, b1, b2, k5, w4])
          try simp only [Bool.not_true, Bool.not_false, Bool.and_true, Bool.and_false, Bool.true_and, Bool.false_and] at hR
          subst hR
          (first | done | rfl)
        | true =>
          simp only [w4] at hR
          (try simp -implicitDefEqProofs (maxSteps := 10000000) (disch := omega) only [go_sem, Int.reduceAdd, Int.reduceSub, Int.reduceMul, dec_t, dec_f, Nat.reduceBEq, Nat.reduceBNe, Nat.reduceShiftRight, Nat.reduceAnd, Nat.reduceAdd, Nat.reduceSub, Nat.reduceEqDiff, Nat.reduceLT, Nat.reduceLeDiff, Int.reduceToNat, Int.reduceLT, Int.reduceLE, Int.reduceEq, reduceIte, reduceCtorEq, e0, e1, e4, e5, e6, e7, e8, e9, e10, h74, h75, h76, h77, h78n, h78r, b1, b2, k5, w4])
          cases w3 : leafO f with
          | false =>
            simp only [w3] at hR
            (try simp -implicitDefEqProofs (maxSteps := 10000000) (disch := omega) only [go_sem, Int.reduceAdd, Int.reduceSub, Int.reduceMul, dec_t, dec_f, Nat.reduceBEq, Nat.reduceBNe, Nat.reduceShiftRight, Nat.reduceAnd, Nat.reduceAdd, Nat.reduceSub, Nat.reduceEqDiff, Nat.reduceLT, Nat.reduceLeDiff, Int.reduceToNat, Int.reduceLT, Int.reduceLE, Int.reduceEq, reduceIte, reduceCtorEq, e0, e1, e4, e5, e6, e7, e8, e9, e10, h74, h75, h76, h77, h78n, h78r, b1, b2, k5, w4, w3])
            try simp only [Bool.not_true, Bool.not_false, Bool.and_true, Bool.and_false, Bool.true_and, Bool.false_and] at hR
            subst hR
            (first | done | rfl)
          | true =>
            simp only [w3] at hR
            (try simp -implicitDefEqProofs (maxSteps := 10000000) (disch := omega) only [go_sem, Int.reduceAdd, Int.reduceSub, Int.reduceMul, dec_t, dec_f, Nat.reduceBEq, Nat.reduceBNe, Nat.reduceShiftRight, Nat.reduceAnd, Nat.reduceAdd, Nat.reduceSub, Nat.reduceEqDiff, Nat.reduceLT, Nat.reduceLeDiff, Int.reduceToNat, Int.reduceLT, Int.reduceLE, Int.reduceEq, reduceIte, reduceCtorEq, e0, e1, e4, e5, e6, e7, e8, e9, e10, h74, h75, h76, h77, h78n, h78r, b1, b2, k5, w4, w3])
            cases w2 : wnO f with
            | false =>
              simp only [w2] at hR
              (try simp -implicitDefEqProofs (maxSteps := 10000000) (disch := omega) only [go_sem, Int.reduceAdd, Int.reduceSub, Int.reduceMul, dec_t, dec_f, Nat.reduceBEq, Nat.reduceBNe, Nat.reduceShiftRight, Nat.reduceAnd, Nat.reduceAdd, Nat.reduceSub, Nat.reduceEqDiff, Nat.reduceLT, Nat.reduceLeDiff, Int.reduceToNat, Int.reduceLT, Int.reduceLE, Int.reduceEq, reduceIte, reduceCtorEq, e0, e1, e4, e5, e6, e7, e8, e9, e10, h74, h75, h76, h77, h78n, h78r, b1, b2, k5, w4, w3, w2])
              try simp only [Bool.not_true, Bool.not_false, Bool.and_true, Bool.and_false, Bool.true_and, Bool.false_and] at hR
              subst hR
              (first | done | rfl)
            | true =>
              simp only [w2] at hR
              (try simp -implicitDefEqProofs (maxSteps := 10000000) (disch := omega) only [go_sem, Int.reduceAdd, Int.reduceSub, Int.reduceMul, dec_t, dec_f, Nat.reduceBEq, Nat.reduceBNe, Nat.reduceShiftRight, Nat.reduceAnd, Nat.reduceAdd, Nat.reduceSub, Nat.reduceEqDiff, Nat.reduceLT, Nat.reduceLeDiff, Int.reduceToNat, Int.reduceLT, Int.reduceLE, Int.reduceEq, reduceIte, reduceCtorEq, e0, e1, e4, e5, e6, e7, e8, e9, e10, h74, h75, h76, h77, h78n, h78r, b1, b2, k5, w4, w3, w2])
              cases w1 : v4O f with
              | false =>
                simp only [w1] at hR
                (try simp -implicitDefEqProofs (maxSteps := 10000000) (disch := omega) only [go_sem, Int.reduceAdd, Int.reduceSub, Int.reduceMul, dec_t, dec_f, Nat.reduceBEq, Nat.reduceBNe, Nat.reduceShiftRight, Nat.reduceAnd, Nat.reduceAdd, Nat.reduceSub, Nat.reduceEqDiff, Nat.reduceLT, Nat.reduceLeDiff, Int.reduceToNat, Int.reduceLT, Int.reduceLE, Int.reduceEq, reduceIte, reduceCtorEq, e0, e1, e4, e5, e6, e7, e8, e9, e10, h74, h75, h76, h77, h78n, h78r, b1, b2, k5, w4, w3, w2, w1])
                try simp only [Bool.not_true, Bool.not_false, Bool.and_true, Bool.and_false, Bool.true_and, Bool.false_and] at hR
                subst hR
                (first | done | rfl)
              | true =>
                simp only [w1] at hR
                (try simp -implicitDefEqProofs (maxSteps := 10000000) (disch := omega) only [go_sem, Int.reduceAdd, Int.reduceSub, Int.reduceMul, dec_t, dec_f, Nat.reduceBEq, Nat.reduceBNe, Nat.reduceShiftRight, Nat.reduceAnd, Nat.reduceAdd, Nat.reduceSub, Nat.reduceEqDiff, Nat.reduceLT, Nat.reduceLeDiff, Int.reduceToNat, Int.reduceLT, Int.reduceLE, Int.reduceEq, reduceIte, reduceCtorEq, e0, e1, e4, e5, e6, e7, e8, e9, e10, h74, h75, h76, h77, h78n, h78r, b1, b2, k5, w4, w3, w2, w1])
                try simp only [Bool.not_true, Bool.not_false, Bool.and_true, Bool.and_false, Bool.true_and, Bool.false_and] at hR
                subst hR
                (first | done | rfl)
      rw [if_neg k5] at hR
      by_cases k6 : kind f = 6
      · simp only [k6] at hR
        simp only [reduceIte, Int.reduceEq] at hR
        (try simp -implicitDefEqProofs (maxSteps := 10000000) (disch := omega) only [go_sem, Int.reduceAdd, Int.reduceSub, Int.reduceMul, dec_t, dec_f, Nat.reduceBEq, Nat.reduceBNe, Nat.reduceShiftRight, Nat.reduceAnd, Nat.reduceAdd, Nat.reduceSub, Nat.reduceEqDiff, Nat.reduceLT, Nat.reduceLeDiff, Int.reduceToNat, Int.reduceLT, Int.reduceLE, Int.reduceEq, reduceIte, reduceCtorEq, e0, e1, e4, e5, e6, e7, e8, e9, e10, h74, h75, h76, h77, h78n, h78r, b1, b2, k6])
        cases w4 : pEmptyO f with
        | false =>
          simp only [w4] at hR
          (try simp -implicitDefEqProofs (maxSteps := 10000000) (disch := omega) only [go_sem, Int.reduceAdd, Int.reduceSub, Int.reduceMul, dec_t, dec_f, Nat.reduceBEq, Nat.reduceBNe, Nat.reduceShiftRight, Nat.reduceAnd, Nat.reduceAdd, Nat.reduceSub, Nat.reduceEqDiff, Nat.reduceLT, Nat.reduceLeDiff, Int.reduceToNat, Int.reduceLT, Int.reduceLE, Int.reduceEq, reduceIte, reduceCtorEq, e0, e1, e4, e5, e6, e7, e8, e9, e10, h74, h75, h76, h77, h78n, h78r, b1, b2, k6, w4])
          try simp only [Bool.not_true, Bool.not_false, Bool.and_true, Bool.and_false, Bool.true_and, Bool.false_and] at hR
          subst hR
          (first | done | rfl)
        | true =>
          simp only [w4] at hR
          (try simp -implicitDefEqProofs (maxSteps := 10000000) (disch := omega) only [go_sem, Int.reduceAdd, Int.reduceSub, Int.reduceMul, dec_t, dec_f, Nat.reduceBEq, Nat.reduceBNe, Nat.reduceShiftRight, Nat.reduceAnd, Nat.reduceAdd, Nat.reduceSub, Nat.reduceEqDiff, Nat.reduceLT, Nat.reduceLeDiff, Int.reduceToNat, Int.reduceLT, Int.reduceLE, Int.reduceEq, reduceIte, reduceCtorEq, e0, e1, e4, e5, e6, e7, e8, e9, e10, h74, h75, h76, h77, h78n, h78r, b1, b2, k6, w4])
          cases w3 : leafO f with
          | false =>
            simp only [w3] at hR
            (try simp -implicitDefEqProofs (maxSteps := 10000000) (disch := omega) only [go_sem, Int.reduceAdd, Int.reduceSub, Int.reduceMul, dec_t, dec_f, Nat.reduceBEq, Nat.reduceBNe, Nat.reduceShiftRight, Nat.reduceAnd, Nat.reduceAdd, Nat.reduceSub, Nat.reduceEqDiff, Nat.reduceLT, Nat.reduceLeDiff, Int.reduceToNat, Int.reduceLT, Int.reduceLE, Int.reduceEq, reduceIte, reduceCtorEq, e0, e1, e4, e5, e6, e7, e8, e9, e10, h74, h75, h76, h77, h78n, h78r, b1, b2, k6, w4, w3])
            try simp only [Bool.not_true, Bool.not_false, Bool.and_true, Bool.and_false, Bool.true_and, Bool.false_and] at hR
            subst hR
            (first | done | rfl)
          | true =>
            simp only [w3] at hR
            (try simp -implicitDefEqProofs (maxSteps := 10000000) (disch := omega) only [go_sem, Int.reduceAdd, Int.reduceSub, Int.reduceMul, dec_t, dec_f, Nat.reduceBEq, Nat.reduceBNe, Nat.reduceShiftRight, Nat.reduceAnd, Nat.reduceAdd, Nat.reduceSub, Nat.reduceEqDiff, Nat.reduceLT, Nat.reduceLeDiff, Int.reduceToNat, Int.reduceLT, Int.reduceLE, Int.reduceEq, reduceIte, reduceCtorEq, e0, e1, e4, e5, e6, e7, e8, e9, e10, h74, h75, h76, h77, h78n, h78r, b1, b2, k6, w4, w3])
            cases w2 : wnO f with
            | false =>
              simp only [w2] at hR
              (try simp -implicitDefEqProofs (maxSteps := 10000000) (disch := omega) only [go_sem, Int.reduceAdd, Int.reduceSub, Int.reduceMul, dec_t, dec_f, Nat.reduceBEq, Nat.reduceBNe, Nat.reduceShiftRight, Nat.reduceAnd, Nat.reduceAdd, Nat.reduceSub, Nat.reduceEqDiff, Nat.reduceLT, Nat.reduceLeDiff, Int.reduceToNat, Int.reduceLT, Int.reduceLE, Int.reduceEq, reduceIte, reduceCtorEq, e0, e1, e4, e5, e6, e7, e8, e9, e10, h74, h75, h76, h77, h78n, h78r, b1, b2, k6, w4, w3, w2])
              try simp only [Bool.not_true, Bool.not_false, Bool.and_true, Bool.and_false, Bool.true_and, Bool.false_and] at hR
              subst hR
              (first | done | rfl)
            | true =>
              simp only [w2] at hR
              (try simp -implicitDefEqProofs (maxSteps := 10000000) (disch := omega) only [go_sem, Int.reduceAdd, Int.reduceSub, Int.reduceMul, dec_t, dec_f, Nat.reduceBEq, Nat.reduceBNe, Nat.reduceShiftRight, Nat.reduceAnd, Nat.reduceAdd, Nat.reduceSub, Nat.reduceEqDiff, Nat.reduceLT, Nat.reduceLeDiff, Int.reduceToNat, Int.reduceLT, Int.reduceLE, Int.reduceEq, reduceIte, reduceCtorEq, e0, e1, e4, e5, e6, e7, e8, e9, e10, h74, h75, h76, h77, h78n, h78r, b1, b2, k6, w4, w3, w2])
              cases w1 : v4O f with
              | false =>
                simp only [w1] at hR
                (try simp -implicitDefEqProofs (maxSteps := 10000000) (disch := omega) only [go_sem, Int.reduceAdd, Int.reduceSub, Int.reduceMul, dec_t, dec_f, Nat.reduceBEq, Nat.reduceBNe, Nat.reduceShiftRight, Nat.reduceAnd, Nat.reduceAdd, Nat.reduceSub, Nat.reduceEqDiff, Nat.reduceLT, Nat.reduceLeDiff, Int.reduceToNat, Int.reduceLT, Int.reduceLE, Int.reduceEq, reduceIte, reduceCtorEq, e0, e1, e4, e5, e6, e7, e8, e9, e10, h74, h75, h76, h77, h78n, h78r, b1, b2, k6, w4, w3, w2, w1])
                try simp only [Bool.not_true, Bool.not_false, Bool.and_true, Bool.and_false, Bool.true_and, Bool.false_and] at hR
                subst hR
                (first | done | rfl)
              | true =>
                simp only [w1] at hR
                (try simp -implicitDefEqProofs (maxSteps := 10000000) (disch := omega) only [go_sem, Int.reduceAdd, Int.reduceSub, Int.reduceMul, dec_t, dec_f, Nat.reduceBEq, Nat.reduceBNe, Nat.reduceShiftRight, Nat.reduceAnd, Nat.reduceAdd, Nat.reduceSub, Nat.reduceEqDiff, Nat.reduceLT, Nat.reduceLeDiff, Int.reduceToNat, Int.reduceLT, Int.reduceLE, Int.reduceEq, reduceIte, reduceCtorEq, e0, e1, e4, e5, e6, e7, e8, e9, e10, h74, h75, h76, h77, h78n, h78r, b1, b2, k6, w4, w3, w2, w1])
                try simp only [Bool.not_true, Bool.not_false, Bool.and_true, Bool.and_false, Bool.true_and, Bool.false_and] at hR
                subst hR
                (first | done | rfl)
      rw [if_neg k6] at hR
      by_cases k8 : kind f = 8
      · simp only [k8] at hR
        simp only [reduceIte, Int.reduceEq] at hR
        (try simp -implicitDefEqProofs (maxSteps := 10000000) (disch := omega) only [go_sem, Int.reduceAdd, Int.reduceSub, Int.reduceMul, dec_t, dec_f, Nat.reduceBEq, Nat.reduceBNe, Nat.reduceShiftRight, Nat.reduceAnd, Nat.reduceAdd, Nat.reduceSub, Nat.reduceEqDiff, Nat.reduceLT, Nat.reduceLeDiff, Int.reduceToNat, Int.reduceLT, Int.reduceLE, Int.reduceEq, reduceIte, reduceCtorEq, e0, e1, e4, e5, e6, e7, e8, e9, e10, h74, h75, h76, h77, h78n, h78r, b1, b2, k8])
        cases w4 : pEmptyO f with
        | false =>
          simp only [w4] at hR
          (try simp -implicitDefEqProofs (maxSteps := 10000000) (disch := omega) only [go_sem, Int.reduceAdd, Int.reduceSub, Int.reduceMul, dec_t, dec_f, Nat.reduceBEq, Nat.reduceBNe, Nat.reduceShiftRight, Nat.reduceAnd, Nat.reduceAdd, Nat.reduceSub, Nat.reduceEqDiff, Nat.reduceLT, Nat.reduceLeDiff, Int.reduceToNat, Int.reduceLT, Int.reduceLE, Int.reduceEq, reduceIte, reduceCtorEq, e0, e1, e4, e5, e6, e7, e8, e9, e10, h74, h75, h76, h77, h78n, h78r, b1, b2, k8, w4])
          try simp only [Bool.not_true, Bool.not_false, Bool.and_true, Bool.and_false, Bool.true_and, Bool.false_and] at hR
          subst hR
          (first | done | rfl)
        | true =>
          simp only [w4] at hR
          (try simp -implicitDefEqProofs (maxSteps := 10000000) (disch := omega) only [go_sem, Int.reduceAdd, Int.reduceSub, Int.reduceMul, dec_t, dec_f, Nat.reduceBEq, Nat.reduceBNe, Nat.reduceShiftRight, Nat.reduceAnd, Nat.reduceAdd, Nat.reduceSub, Nat.reduceEqDiff, Nat.reduceLT, Nat.reduceLeDiff, Int.reduceToNat, Int.reduceLT, Int.reduceLE, Int.reduceEq, reduceIte, reduceCtorEq, e0, e1, e4, e5, e6, e7, e8, e9, e10, h74, h75, h76, h77, h78n, h78r, b1, b2, k8, w4])
          cases w3 : leafO f with
          | false =>
            simp only [w3] at hR
            (try simp -implicitDefEqProofs (maxSteps := 10000000) (disch := omega) only [go_sem, Int.reduceAdd, Int.reduceSub, Int.reduceMul, dec_t, dec_f, Nat.reduceBEq, Nat.reduceBNe, Nat.reduceShiftRight, Nat.reduceAnd, Nat.reduceAdd, Nat.reduceSub, Nat.reduceEqDiff, Nat.reduceLT, Nat.reduceLeDiff, Int.reduceToNat, Int.reduceLT, Int.reduceLE, Int.reduceEq, reduceIte, reduceCtorEq, e0, e1, e4, e5, e6, e7, e8, e9, e10, h74, h75, h76, h77, h78n, h78r, b1, b2, k8, w4, w3])
            try simp only [Bool.not_true, Bool.not_false, Bool.and_true, Bool.and_false, Bool.true_and, Bool.false_and] at hR
            subst hR
            (first | done | rfl)
          | true =>
            simp only [w3] at hR
            (try simp -implicitDefEqProofs (maxSteps := 10000000) (disch := omega) only [go_sem, Int.reduceAdd, Int.reduceSub, Int.reduceMul, dec_t, dec_f, Nat.reduceBEq, Nat.reduceBNe, Nat.reduceShiftRight, Nat.reduceAnd, Nat.reduceAdd, Nat.reduceSub, Nat.reduceEqDiff, Nat.reduceLT, Nat.reduceLeDiff, Int.reduceToNat, Int.reduceLT, Int.reduceLE, Int.reduceEq, reduceIte, reduceCtorEq, e0, e1, e4, e5, e6, e7, e8, e9, e10, h74, h75, h76, h77, h78n, h78r, b1, b2, k8, w4, w3])
            cases w2 : wnO f with
            | false =>
              simp only [w2] at hR
              (try simp -implicitDefEqProofs (maxSteps := 10000000) (disch := omega) only [go_sem, Int.reduceAdd, Int.reduceSub, Int.reduceMul, dec_t, dec_f, Nat.reduceBEq, Nat.reduceBNe, Nat.reduceShiftRight, Nat.reduceAnd, Nat.reduceAdd, Nat.reduceSub, Nat.reduceEqDiff, Nat.reduceLT, Nat.reduceLeDiff, Int.reduceToNat, Int.reduceLT, Int.reduceLE, Int.reduceEq, reduceIte, reduceCtorEq, e0, e1, e4, e5, e6, e7, e8, e9, e10, h74, h75, h76, h77, h78n, h78r, b1, b2, k8, w4, w3, w2])
              try simp only [Bool.not_true, Bool.not_false, Bool.and_true, Bool.and_false, Bool.true_and, Bool.false_and] at hR
              subst hR
              (first | done | rfl)
            | true =>
              simp only [w2] at hR
              (try simp -implicitDefEqProofs (maxSteps := 10000000) (disch := omega) only [go_sem, Int.reduceAdd, Int.reduceSub, Int.reduceMul, dec_t, dec_f, Nat.reduceBEq, Nat.reduceBNe, Nat.reduceShiftRight, Nat.reduceAnd, Nat.reduceAdd, Nat.reduceSub, Nat.reduceEqDiff, Nat.reduceLT, Nat.reduceLeDiff, Int.reduceToNat, Int.reduceLT, Int.reduceLE, Int.reduceEq, reduceIte, reduceCtorEq, e0, e1, e4, e5, e6, e7, e8, e9, e10, h74, h75, h76, h77, h78n, h78r, b1, b2, k8, w4, w3, w2])
              cases w1 : v4O f with
              | false =>
                simp only [w1] at hR
                (try simp -implicitDefEqProofs (maxSteps := 10000000) (disch := omega) only [go_sem, Int.reduceAdd, Int.reduceSub, Int.reduceMul, dec_t, dec_f, Nat.reduceBEq, Nat.reduceBNe, Nat.reduceShiftRight, Nat.reduceAnd, Nat.reduceAdd, Nat.reduceSub, Nat.reduceEqDiff, Nat.reduceLT, Nat.reduceLeDiff, Int.reduceToNat, Int.reduceLT, Int.reduceLE, Int.reduceEq, reduceIte, reduceCtorEq, e0, e1, e4, e5, e6, e7, e8, e9, e10, h74, h75, h76, h77, h78n, h78r, b1, b2, k8, w4, w3, w2, w1])
                try simp only [Bool.not_true, Bool.not_false, Bool.and_true, Bool.and_false, Bool.true_and, Bool.false_and] at hR
                subst hR
                (first | done | rfl)
              | true =>
                simp only [w1] at hR
                (try simp -implicitDefEqProofs (maxSteps := 10000000) (disch := omega) only [go_sem, Int.reduceAdd, Int.reduceSub, Int.reduceMul, dec_t, dec_f, Nat.reduceBEq, Nat.reduceBNe, Nat.reduceShiftRight, Nat.reduceAnd, Nat.reduceAdd, Nat.reduceSub, Nat.reduceEqDiff, Nat.reduceLT, Nat.reduceLeDiff, Int.reduceToNat, Int.reduceLT, Int.reduceLE, Int.reduceEq, reduceIte, reduceCtorEq, e0, e1, e4, e5, e6, e7, e8, e9, e10, h74, h75, h76, h77, h78n, h78r, b1, b2, k8, w4, w3, w2, w1])
                try simp only [Bool.not_true, Bool.not_false, Bool.and_true, Bool.and_false, Bool.true_and, Bool.false_and] at hR
                subst hR
                (first | done | rfl)
      rw [if_neg k8] at hR
      by_cases k7 : kind f = 7
      · simp only [k7] at hR
        simp only [reduceIte, Int.reduceEq] at hR
        (try simp -implicitDefEqProofs (maxSteps := 10000000) (disch := omega) only [go_sem, Int.reduceAdd, Int.reduceSub, Int.reduceMul, dec_t, dec_f, Nat.reduceBEq, Nat.reduceBNe, Nat.reduceShiftRight, Nat.reduceAnd, Nat.reduceAdd, Nat.reduceSub, Nat.reduceEqDiff, Nat.reduceLT, Nat.reduceLeDiff, Int.reduceToNat, Int.reduceLT, Int.reduceLE, Int.reduceEq, reduceIte, reduceCtorEq, e0, e1, e4, e5, e6, e7, e8, e9, e10, h74, h75, h76, h77, h78n, h78r, b1, b2, k7])
        cases w4 : pEmptyO f with
        | false =>
          simp only [w4] at hR
          (try simp -implicitDefEqProofs (maxSteps := 10000000) (disch := omega) only [go_sem, Int.reduceAdd, Int.reduceSub, Int.reduceMul, dec_t, dec_f, Nat.reduceBEq, Nat.reduceBNe, Nat.reduceShiftRight, Nat.reduceAnd, Nat.reduceAdd, Nat.reduceSub, Nat.reduceEqDiff, Nat.reduceLT, Nat.reduceLeDiff, Int.reduceToNat, Int.reduceLT, Int.reduceLE, Int.reduceEq, reduceIte, reduceCtorEq, e0, e1, e4, e5, e6, e7, e8, e9, e10, h74, h75, h76, h77, h78n, h78r, b1, b2, k7, w4])
          try simp only [Bool.not_true, Bool.not_false, Bool.and_true, Bool.and_false, Bool.true_and, Bool.false_and] at hR
          subst hR
          (first | done | rfl)
        | true =>
          simp only [w4] at hR
          (try simp -implicitDefEqProofs (maxSteps := 10000000) (disch := omega) only [go_sem, Int.reduceAdd, Int.reduceSub, Int.reduceMul, dec_t, dec_f, Nat.reduceBEq, Nat.reduceBNe, Nat.reduceShiftRight, Nat.reduceAnd, Nat.reduceAdd, Nat.reduceSub, Nat.reduceEqDiff, Nat.reduceLT, Nat.reduceLeDiff, Int.reduceToNat, Int.reduceLT, Int.reduceLE, Int.reduceEq, reduceIte, reduceCtorEq, e0, e1, e4, e5, e6, e7, e8, e9, e10, h74, h75, h76, h77, h78n, h78r, b1, b2, k7, w4])
          cases w3 : leafO f with
          | false =>
            simp only [w3] at hR
            (try simp -implicitDefEqProofs (maxSteps := 10000000) (disch := omega) only [go_sem, Int.reduceAdd, Int.reduceSub, Int.reduceMul, dec_t, dec_f, Nat.reduceBEq, Nat.reduceBNe, Nat.reduceShiftRight, Nat.reduceAnd, Nat.reduceAdd, Nat.reduceSub, Nat.reduceEqDiff, Nat.reduceLT, Nat.reduceLeDiff, Int.reduceToNat, Int.reduceLT, Int.reduceLE, Int.reduceEq, reduceIte, reduceCtorEq, e0, e1, e4, e5, e6, e7, e8, e9, e10, h74, h75, h76, h77, h78n, h78r, b1, b2, k7, w4, w3])
            try simp only [Bool.not_true, Bool.not_false, Bool.and_true, Bool.and_false, Bool.true_and, Bool.false_and] at hR
            subst hR
            (first | done | rfl)
          | true =>
            simp only [w3] at hR
            (try simp -implicitDefEqProofs (maxSteps := 10000000) (disch := omega) only [go_sem, Int.reduceAdd, Int.reduceSub, Int.reduceMul, dec_t, dec_f, Nat.reduceBEq, Nat.reduceBNe, Nat.reduceShiftRight, Nat.reduceAnd, Nat.reduceAdd, Nat.reduceSub, Nat.reduceEqDiff, Nat.reduceLT, Nat.reduceLeDiff, Int.reduceToNat, Int.reduceLT, Int.reduceLE, Int.reduceEq, reduceIte, reduceCtorEq, e0, e1, e4, e5, e6, e7, e8, e9, e10, h74, h75, h76, h77, h78n, h78r, b1, b2, k7, w4, w3])
            cases w2 : wnO f with
            | false =>
              simp only [w2] at hR
              (try simp -implicitDefEqProofs (maxSteps := 10000000) (disch := omega) only [go_sem, Int.reduceAdd, Int.reduceSub, Int.reduceMul, dec_t, dec_f, Nat.reduceBEq, Nat.reduceBNe, Nat.reduceShiftRight, Nat.reduceAnd, Nat.reduceAdd, Nat.reduceSub, Nat.reduceEqDiff, Nat.reduceLT, Nat.reduceLeDiff, Int.reduceToNat, Int.reduceLT, Int.reduceLE, Int.reduceEq, reduceIte, reduceCtorEq, e0, e1, e4, e5, e6, e7, e8, e9, e10, h74, h75, h76, h77, h78n, h78r, b1, b2, k7, w4, w3, w2])
              try simp only [Bool.not_true, Bool.not_false, Bool.and_true, Bool.and_false, Bool.true_and, Bool.false_and] at hR
              subst hR
              (first | done | rfl)
            | true =>
              simp only [w2] at hR
              (try simp -implicitDefEqProofs (maxSteps := 10000000) (disch := omega) only [go_sem, Int.reduceAdd, Int.reduceSub, Int.reduceMul, dec_t, dec_f, Nat.reduceBEq, Nat.reduceBNe, Nat.reduceShiftRight, Nat.reduceAnd, Nat.reduceAdd, Nat.reduceSub, Nat.reduceEqDiff, Nat.reduceLT, Nat.reduceLeDiff, Int.reduceToNat, Int.reduceLT, Int.reduceLE, Int.reduceEq, reduceIte, reduceCtorEq, e0, e1, e4, e5, e6, e7, e8, e9, e10, h74, h75, h76, h77, h78n, h78r, b1, b2, k7, w4, w3, w2])
              cases w1 : bvO f with
              | false =>
                simp only [w1] at hR
                (try simp -implicitDefEqProofs (maxSteps := 10000000) (disch := omega) only [go_sem, Int.reduceAdd, Int.reduceSub, Int.reduceMul, dec_t, dec_f, Nat.reduceBEq, Nat.reduceBNe, Nat.reduceShiftRight, Nat.reduceAnd, Nat.reduceAdd, Nat.reduceSub, Nat.reduceEqDiff, Nat.reduceLT, Nat.reduceLeDiff, Int.reduceToNat, Int.reduceLT, Int.reduceLE, Int.reduceEq, reduceIte, reduceCtorEq, e0, e1, e4, e5, e6, e7, e8, e9, e10, h74, h75, h76, h77, h78n, h78r, b1, b2, k7, w4, w3, w2, w1])
                try simp only [Bool.not_true, Bool.not_false, Bool.and_true, Bool.and_false, Bool.true_and, Bool.false_and] at hR
                subst hR
                (first | done | rfl)
              | true =>
                simp only [w1] at hR
                (try simp -implicitDefEqProofs (maxSteps := 10000000) (disch := omega) only [go_sem, Int.reduceAdd, Int.reduceSub, Int.reduceMul, dec_t, dec_f, Nat.reduceBEq, Nat.reduceBNe, Nat.reduceShiftRight, Nat.reduceAnd, Nat.reduceAdd, Nat.reduceSub, Nat.reduceEqDiff, Nat.reduceLT, Nat.reduceLeDiff, Int.reduceToNat, Int.reduceLT, Int.reduceLE, Int.reduceEq, reduceIte, reduceCtorEq, e0, e1, e4, e5, e6, e7, e8, e9, e10, h74, h75, h76, h77, h78n, h78r, b1, b2, k7, w4, w3, w2, w1])
                try simp only [Bool.not_true, Bool.not_false, Bool.and_true, Bool.and_false, Bool.true_and, Bool.false_and] at hR
                subst hR
                (first | done | rfl)
      rw [if_neg k7] at hR
      by_cases k4 : kind f = 4
      · simp only [k4] at hR
        simp only [reduceIte, Int.reduceEq] at hR
        (try simp -implicitDefEqProofs (maxSteps := 10000000) (disch := omega) only [go_sem, Int.reduceAdd, Int.reduceSub, Int.reduceMul, dec_t, dec_f, Nat.reduceBEq, Nat.reduceBNe, Nat.reduceShiftRight, Nat.reduceAnd, Nat.reduceAdd, Nat.reduceSub, Nat.reduceEqDiff, Nat.reduceLT, Nat.reduceLeDiff, Int.reduceToNat, Int.reduceLT, Int.reduceLE, Int.reduceEq, reduceIte, reduceCtorEq, e0, e1, e4, e5, e6, e7, e8, e9, e10, h74, h75, h76, h77, h78n, h78r, b1, b2, k4])
        cases w5 : leafO f with
        | false =>
          simp only [w5] at hR
          (try simp -implicitDefEqProofs (maxSteps := 10000000) (disch := omega) only [go_sem, Int.reduceAdd, Int.reduceSub, Int.reduceMul, dec_t, dec_f, Nat.reduceBEq, Nat.reduceBNe, Nat.reduceShiftRight, Nat.reduceAnd, Nat.reduceAdd, Nat.reduceSub, Nat.reduceEqDiff, Nat.reduceLT, Nat.reduceLeDiff, Int.reduceToNat, Int.reduceLT, Int.reduceLE, Int.reduceEq, reduceIte, reduceCtorEq, e0, e1, e4, e5, e6, e7, e8, e9, e10, h74, h75, h76, h77, h78n, h78r, b1, b2, k4, w5])
          try simp only [Bool.not_true, Bool.not_false, Bool.and_true, Bool.and_false, Bool.true_and, Bool.false_and] at hR
          subst hR
          (first | done | rfl)
        | true =>
          simp only [w5] at hR
          (try simp -implicitDefEqProofs (maxSteps := 10000000) (disch := omega) only [go_sem, Int.reduceAdd, Int.reduceSub, Int.reduceMul, dec_t, dec_f, Nat.reduceBEq, Nat.reduceBNe, Nat.reduceShiftRight, Nat.reduceAnd, Nat.reduceAdd, Nat.reduceSub, Nat.reduceEqDiff, Nat.reduceLT, Nat.reduceLeDiff, Int.reduceToNat, Int.reduceLT, Int.reduceLE, Int.reduceEq, reduceIte, reduceCtorEq, e0, e1, e4, e5, e6, e7, e8, e9, e10, h74, h75, h76, h77, h78n, h78r, b1, b2, k4, w5])
          cases w4 : wnO f with
          | false =>
            simp only [w4] at hR
            (try simp -implicitDefEqProofs (maxSteps := 10000000) (disch := omega) only [go_sem, Int.reduceAdd, Int.reduceSub, Int.reduceMul, dec_t, dec_f, Nat.reduceBEq, Nat.reduceBNe, Nat.reduceShiftRight, Nat.reduceAnd, Nat.reduceAdd, Nat.reduceSub, Nat.reduceEqDiff, Nat.reduceLT, Nat.reduceLeDiff, Int.reduceToNat, Int.reduceLT, Int.reduceLE, Int.reduceEq, reduceIte, reduceCtorEq, e0, e1, e4, e5, e6, e7, e8, e9, e10, h74, h75, h76, h77, h78n, h78r, b1, b2, k4, w5, w4])
            try simp only [Bool.not_true, Bool.not_false, Bool.and_true, Bool.and_false, Bool.true_and, Bool.false_and] at hR
            subst hR
            (first | done | rfl)
          | true =>
            simp only [w4] at hR
            (try simp -implicitDefEqProofs (maxSteps := 10000000) (disch := omega) only [go_sem, Int.reduceAdd, Int.reduceSub, Int.reduceMul, dec_t, dec_f, Nat.reduceBEq, Nat.reduceBNe, Nat.reduceShiftRight, Nat.reduceAnd, Nat.reduceAdd, Nat.reduceSub, Nat.reduceEqDiff, Nat.reduceLT, Nat.reduceLeDiff, Int.reduceToNat, Int.reduceLT, Int.reduceLE, Int.reduceEq, reduceIte, reduceCtorEq, e0, e1, e4, e5, e6, e7, e8, e9, e10, h74, h75, h76, h77, h78n, h78r, b1, b2, k4, w5, w4])
            cases w3 : bvO f with
            | false =>
              simp only [w3] at hR
              (try simp -implicitDefEqProofs (maxSteps := 10000000) (disch := omega) only [go_sem, Int.reduceAdd, Int.reduceSub, Int.reduceMul, dec_t, dec_f, Nat.reduceBEq, Nat.reduceBNe, Nat.reduceShiftRight, Nat.reduceAnd, Nat.reduceAdd, Nat.reduceSub, Nat.reduceEqDiff, Nat.reduceLT, Nat.reduceLeDiff, Int.reduceToNat, Int.reduceLT, Int.reduceLE, Int.reduceEq, reduceIte, reduceCtorEq, e0, e1, e4, e5, e6, e7, e8, e9, e10, h74, h75, h76, h77, h78n, h78r, b1, b2, k4, w5, w4, w3])
              try simp only [Bool.not_true, Bool.not_false, Bool.and_true, Bool.and_false, Bool.true_and, Bool.false_and] at hR
              subst hR
              (first | done | rfl)
            | true =>
              simp only [w3] at hR
              (try simp -implicitDefEqProofs (maxSteps := 10000000) (disch := omega) only [go_sem, Int.reduceAdd, Int.reduceSub, Int.reduceMul, dec_t, dec_f, Nat.reduceBEq, Nat.reduceBNe, Nat.reduceShiftRight, Nat.reduceAnd, Nat.reduceAdd, Nat.reduceSub, Nat.reduceEqDiff, Nat.reduceLT, Nat.reduceLeDiff, Int.reduceToNat, Int.reduceLT, Int.reduceLE, Int.reduceEq, reduceIte, reduceCtorEq, e0, e1, e4, e5, e6, e7, e8, e9, e10, h74, h75, h76, h77, h78n, h78r, b1, b2, k4, w5, w4, w3])
              cases w2 : pcOkO f with
              | false =>
                simp only [w2] at hR
                (try simp -implicitDefEqProofs (maxSteps := 10000000) (disch := omega) only [go_sem, Int.reduceAdd, Int.reduceSub, Int.reduceMul, dec_t, dec_f, Nat.reduceBEq, Nat.reduceBNe, Nat.reduceShiftRight, Nat.reduceAnd, Nat.reduceAdd, Nat.reduceSub, Nat.reduceEqDiff, Nat.reduceLT, Nat.reduceLeDiff, Int.reduceToNat, Int.reduceLT, Int.reduceLE, Int.reduceEq, reduceIte, reduceCtorEq, e0, e1, e4, e5, e6, e7, e8, e9, e10, h74, h75, h76, h77, h78n, h78r, b1, b2, k4, w5, w4, w3, w2])
                try simp only [Bool.not_true, Bool.not_false, Bool.and_true, Bool.and_false, Bool.true_and, Bool.false_and] at hR
                subst hR
                (first | done | rfl)
              | true =>
                simp only [w2] at hR
                (try simp -implicitDefEqProofs (maxSteps := 10000000) (disch := omega) only [go_sem, Int.reduceAdd, Int.reduceSub, Int.reduceMul, dec_t, dec_f, Nat.reduceBEq, Nat.reduceBNe, Nat.reduceShiftRight, Nat.reduceAnd, Nat.reduceAdd, Nat.reduceSub, Nat.reduceEqDiff, Nat.reduceLT, Nat.reduceLeDiff, Int.reduceToNat, Int.reduceLT, Int.reduceLE, Int.reduceEq, reduceIte, reduceCtorEq, e0, e1, e4, e5, e6, e7, e8, e9, e10, h74, h75, h76, h77, h78n, h78r, b1, b2, k4, w5, w4, w3, w2])
                cases w1 : pShortO f with
                | false =>
                  simp only [w1] at hR
                  (try simp -implicitDefEqProofs (maxSteps := 10000000) (disch := omega) only [go_sem, Int.reduceAdd, Int.reduceSub, Int.reduceMul, dec_t, dec_f, Nat.reduceBEq, Nat.reduceBNe, Nat.reduceShiftRight, Nat.reduceAnd, Nat.reduceAdd, Nat.reduceSub, Nat.reduceEqDiff, Nat.reduceLT, Nat.reduceLeDiff, Int.reduceToNat, Int.reduceLT, Int.reduceLE, Int.reduceEq, reduceIte, reduceCtorEq, e0, e1, e4, e5, e6, e7, e8, e9, e10, h74, h75, h76, h77, h78n, h78r, b1, b2, k4, w5, w4, w3, w2, w1])
                  try simp only [Bool.not_true, Bool.not_false, Bool.and_true, Bool.and_false, Bool.true_and, Bool.false_and] at hR
                  subst hR
                  (first | done | rfl)
                | true =>
                  simp only [w1] at hR
                  (try simp -implicitDefEqProofs (maxSteps := 10000000) (disch := omega) only [go_sem, Int.reduceAdd, Int.reduceSub, Int.reduceMul, dec_t, dec_f, Nat.reduceBEq, Nat.reduceBNe, Nat.reduceShiftRight, Nat.reduceAnd, Nat.reduceAdd, Nat.reduceSub, Nat.reduceEqDiff, Nat.reduceLT, Nat.reduceLeDiff, Int.reduceToNat, Int.reduceLT, Int.reduceLE, Int.reduceEq, reduceIte, reduceCtorEq, e0, e1, e4, e5, e6, e7, e8, e9, e10, h74, h75, h76, h77, h78n, h78r, b1, b2, k4, w5, w4, w3, w2, w1])
                  try simp only [Bool.not_true, Bool.not_false, Bool.and_true, Bool.and_false, Bool.true_and, Bool.false_and] at hR
                  subst hR
                  (first | done | rfl)
      rw [if_neg k4] at hR
      by_cases k9 : kind f = 9
      · simp only [k9] at hR
        simp only [reduceIte, Int.reduceEq] at hR
        (try simp -implicitDefEqProofs (maxSteps := 10000000) (disch := omega) only [go_sem, Int.reduceAdd, Int.reduceSub, Int.reduceMul, dec_t, dec_f, Nat.reduceBEq, Nat.reduceBNe, Nat.reduceShiftRight, Nat.reduceAnd, Nat.reduceAdd, Nat.reduceSub, Nat.reduceEqDiff, Nat.reduceLT, Nat.reduceLeDiff, Int.reduceToNat, Int.reduceLT, Int.reduceLE, Int.reduceEq, reduceIte, reduceCtorEq, e0, e1, e4, e5, e6, e7, e8, e9, e10, h74, h75, h76, h77, h78n, h78r, b1, b2, k9])
        cases w7 : pEmptyO f with
        | false =>
          simp only [w7] at hR
          (try simp -implicitDefEqProofs (maxSteps := 10000000) (disch := omega) only [go_sem, Int.reduceAdd, Int.reduceSub, Int.reduceMul, dec_t, dec_f, Nat.reduceBEq, Nat.reduceBNe, Nat.reduceShiftRight, Nat.reduceAnd, Nat.reduceAdd, Nat.reduceSub, Nat.reduceEqDiff, Nat.reduceLT, Nat.reduceLeDiff, Int.reduceToNat, Int.reduceLT, Int.reduceLE, Int.reduceEq, reduceIte, reduceCtorEq, e0, e1, e4, e5, e6, e7, e8, e9, e10, h74, h75, h76, h77, h78n, h78r, b1, b2, k9, w7])
          try simp only [Bool.not_true, Bool.not_false, Bool.and_true, Bool.and_false, Bool.true_and, Bool.false_and] at hR
          subst hR
          (first | done | rfl)
        | true =>
          simp only [w7] at hR
          (try simp -implicitDefEqProofs (maxSteps := 10000000) (disch := omega) only [go_sem, Int.reduceAdd, Int.reduceSub, Int.reduceMul, dec_t, dec_f, Nat.reduceBEq, Nat.reduceBNe, Nat.reduceShiftRight, Nat.reduceAnd, Nat.reduceAdd, Nat.reduceSub, Nat.reduceEqDiff, Nat.reduceLT, Nat.reduceLeDiff, Int.reduceToNat, Int.reduceLT, Int.reduceLE, Int.reduceEq, reduceIte, reduceCtorEq, e0, e1, e4, e5, e6, e7, e8, e9, e10, h74, h75, h76, h77, h78n, h78r, b1, b2, k9, w7])
          cases w6 : leafO f with
          | false =>
            simp only [w6] at hR
            (try simp -implicitDefEqProofs (maxSteps := 10000000) (disch := omega) only [go_sem, Int.reduceAdd, Int.reduceSub, Int.reduceMul, dec_t, dec_f, Nat.reduceBEq, Nat.reduceBNe, Nat.reduceShiftRight, Nat.reduceAnd, Nat.reduceAdd, Nat.reduceSub, Nat.reduceEqDiff, Nat.reduceLT, Nat.reduceLeDiff, Int.reduceToNat, Int.reduceLT, Int.reduceLE, Int.reduceEq, reduceIte, reduceCtorEq, e0, e1, e4, e5, e6, e7, e8, e9, e10, h74, h75, h76, h77, h78n, h78r, b1, b2, k9, w7, w6])
            try simp only [Bool.not_true, Bool.not_false, Bool.and_true, Bool.and_false, Bool.true_and, Bool.false_and] at hR
            subst hR
            (first | done | rfl)
          | true =>
            simp only [w6] at hR
            (try simp -implicitDefEqProofs (maxSteps := 10000000) (disch := omega) only [go_sem, Int.reduceAdd, Int.reduceSub, Int.reduceMul, dec_t, dec_f, Nat.reduceBEq, Nat.reduceBNe, Nat.reduceShiftRight, Nat.reduceAnd, Nat.reduceAdd, Nat.reduceSub, Nat.reduceEqDiff, Nat.reduceLT, Nat.reduceLeDiff, Int.reduceToNat, Int.reduceLT, Int.reduceLE, Int.reduceEq, reduceIte, reduceCtorEq, e0, e1, e4, e5, e6, e7, e8, e9, e10, h74, h75, h76, h77, h78n, h78r, b1, b2, k9, w7, w6])
            cases w5 : wn0O f with
            | false =>
              simp only [w5] at hR
              (try simp -implicitDefEqProofs (maxSteps := 10000000) (disch := omega) only [go_sem, Int.reduceAdd, Int.reduceSub, Int.reduceMul, dec_t, dec_f, Nat.reduceBEq, Nat.reduceBNe, Nat.reduceShiftRight, Nat.reduceAnd, Nat.reduceAdd, Nat.reduceSub, Nat.reduceEqDiff, Nat.reduceLT, Nat.reduceLeDiff, Int.reduceToNat, Int.reduceLT, Int.reduceLE, Int.reduceEq, reduceIte, reduceCtorEq, e0, e1, e4, e5, e6, e7, e8, e9, e10, h74, h75, h76, h77, h78n, h78r, b1, b2, k9, w7, w6, w5])
              try simp only [Bool.not_true, Bool.not_false, Bool.and_true, Bool.and_false, Bool.true_and, Bool.false_and] at hR
              subst hR
              (first | done | rfl)
            | true =>
              simp only [w5] at hR
              (try simp -implicitDefEqProofs (maxSteps := 10000000) (disch := omega) only [go_sem, Int.reduceAdd, Int.reduceSub, Int.reduceMul, dec_t, dec_f, Nat.reduceBEq, Nat.reduceBNe, Nat.reduceShiftRight, Nat.reduceAnd, Nat.reduceAdd, Nat.reduceSub, Nat.reduceEqDiff, Nat.reduceLT, Nat.reduceLeDiff, Int.reduceToNat, Int.reduceLT, Int.reduceLE, Int.reduceEq, reduceIte, reduceCtorEq, e0, e1, e4, e5, e6, e7, e8, e9, e10, h74, h75, h76, h77, h78n, h78r, b1, b2, k9, w7, w6, w5])
              cases w4 : wr0O f with
              | false =>
                simp only [w4] at hR
                (try simp -implicitDefEqProofs (maxSteps := 10000000) (disch := omega) only [go_sem, Int.reduceAdd, Int.reduceSub, Int.reduceMul, dec_t, dec_f, Nat.reduceBEq, Nat.reduceBNe, Nat.reduceShiftRight, Nat.reduceAnd, Nat.reduceAdd, Nat.reduceSub, Nat.reduceEqDiff, Nat.reduceLT, Nat.reduceLeDiff, Int.reduceToNat, Int.reduceLT, Int.reduceLE, Int.reduceEq, reduceIte, reduceCtorEq, e0, e1, e4, e5, e6, e7, e8, e9, e10, h74, h75, h76, h77, h78n, h78r, b1, b2, k9, w7, w6, w5, w4])
                try simp only [Bool.not_true, Bool.not_false, Bool.and_true, Bool.and_false, Bool.true_and, Bool.false_and] at hR
                subst hR
                (first | done | rfl)
              | true =>
                simp only [w4] at hR
                (try simp -implicitDefEqProofs (maxSteps := 10000000) (disch := omega) only [go_sem, Int.reduceAdd, Int.reduceSub, Int.reduceMul, dec_t, dec_f, Nat.reduceBEq, Nat.reduceBNe, Nat.reduceShiftRight, Nat.reduceAnd, Nat.reduceAdd, Nat.reduceSub, Nat.reduceEqDiff, Nat.reduceLT, Nat.reduceLeDiff, Int.reduceToNat, Int.reduceLT, Int.reduceLE, Int.reduceEq, reduceIte, reduceCtorEq, e0, e1, e4, e5, e6, e7, e8, e9, e10, h74, h75, h76, h77, h78n, h78r, b1, b2, k9, w7, w6, w5, w4])
                cases w3 : rdO f with
                | true =>
                  simp only [w3] at hR
                  (try simp -implicitDefEqProofs (maxSteps := 10000000) (disch := omega) only [go_sem, Int.reduceAdd, Int.reduceSub, Int.reduceMul, dec_t, dec_f, Nat.reduceBEq, Nat.reduceBNe, Nat.reduceShiftRight, Nat.reduceAnd, Nat.reduceAdd, Nat.reduceSub, Nat.reduceEqDiff, Nat.reduceLT, Nat.reduceLeDiff, Int.reduceToNat, Int.reduceLT, Int.reduceLE, Int.reduceEq, reduceIte, reduceCtorEq, e0, e1, e4, e5, e6, e7, e8, e9, e10, h74, h75, h76, h77, h78n, h78r, b1, b2, k9, w7, w6, w5, w4, w3])
                  try simp only [Bool.not_true, Bool.not_false, Bool.and_true, Bool.and_false, Bool.true_and, Bool.false_and] at hR
                  subst hR
                  (first | done | rfl)
                | false =>
                  simp only [w3] at hR
                  (try simp -implicitDefEqProofs (maxSteps := 10000000) (disch := omega) only [go_sem, Int.reduceAdd, Int.reduceSub, Int.reduceMul, dec_t, dec_f, Nat.reduceBEq, Nat.reduceBNe, Nat.reduceShiftRight, Nat.reduceAnd, Nat.reduceAdd, Nat.reduceSub, Nat.reduceEqDiff, Nat.reduceLT, Nat.reduceLeDiff, Int.reduceToNat, Int.reduceLT, Int.reduceLE, Int.reduceEq, reduceIte, reduceCtorEq, e0, e1, e4, e5, e6, e7, e8, e9, e10, h74, h75, h76, h77, h78n, h78r, b1, b2, k9, w7, w6, w5, w4, w3])
                  cases w2 : nrO f with
                  | true =>
                    simp only [w2] at hR
                    (try simp -implicitDefEqProofs (maxSteps := 10000000) (disch := omega) only [go_sem, Int.reduceAdd, Int.reduceSub, Int.reduceMul, dec_t, dec_f, Nat.reduceBEq, Nat.reduceBNe, Nat.reduceShiftRight, Nat.reduceAnd, Nat.reduceAdd, Nat.reduceSub, Nat.reduceEqDiff, Nat.reduceLT, Nat.reduceLeDiff, Int.reduceToNat, Int.reduceLT, Int.reduceLE, Int.reduceEq, reduceIte, reduceCtorEq, e0, e1, e4, e5, e6, e7, e8, e9, e10, h74, h75, h76, h77, h78n, h78r, b1, b2, k9, w7, w6, w5, w4, w3, w2])
                    try simp only [Bool.not_true, Bool.not_false, Bool.and_true, Bool.and_false, Bool.true_and, Bool.false_and] at hR
                    subst hR
                    (first | done | rfl)
                  | false =>
                    simp only [w2] at hR
                    (try simp -implicitDefEqProofs (maxSteps := 10000000) (disch := omega) only [go_sem, Int.reduceAdd, Int.reduceSub, Int.reduceMul, dec_t, dec_f, Nat.reduceBEq, Nat.reduceBNe, Nat.reduceShiftRight, Nat.reduceAnd, Nat.reduceAdd, Nat.reduceSub, Nat.reduceEqDiff, Nat.reduceLT, Nat.reduceLeDiff, Int.reduceToNat, Int.reduceLT, Int.reduceLE, Int.reduceEq, reduceIte, reduceCtorEq, e0, e1, e4, e5, e6, e7, e8, e9, e10, h74, h75, h76, h77, h78n, h78r, b1, b2, k9, w7, w6, w5, w4, w3, w2])
                    cases w1 : v4O f with
                    | false =>
                      simp only [w1] at hR
                      (try simp -implicitDefEqProofs (maxSteps := 10000000) (disch := omega) only [go_sem, Int.reduceAdd, Int.reduceSub, Int.reduceMul, dec_t, dec_f, Nat.reduceBEq, Nat.reduceBNe, Nat.reduceShiftRight, Nat.reduceAnd, Nat.reduceAdd, Nat.reduceSub, Nat.reduceEqDiff, Nat.reduceLT, Nat.reduceLeDiff, Int.reduceToNat, Int.reduceLT, Int.reduceLE, Int.reduceEq, reduceIte, reduceCtorEq, e0, e1, e4, e5, e6, e7, e8, e9, e10, h74, h75, h76, h77, h78n, h78r, b1, b2, k9, w7, w6, w5, w4, w3, w2, w1])
                      try simp only [Bool.not_true, Bool.not_false, Bool.and_true, Bool.and_false, Bool.true_and, Bool.false_and] at hR
                      subst hR
                      (first | done | rfl)
                    | true =>
                      simp only [w1] at hR
                      (try simp -implicitDefEqProofs (maxSteps := 10000000) (disch := omega) only [go_sem, Int.reduceAdd, Int.reduceSub, Int.reduceMul, dec_t, dec_f, Nat.reduceBEq, Nat.reduceBNe, Nat.reduceShiftRight, Nat.reduceAnd, Nat.reduceAdd, Nat.reduceSub, Nat.reduceEqDiff, Nat.reduceLT, Nat.reduceLeDiff, Int.reduceToNat, Int.reduceLT, Int.reduceLE, Int.reduceEq, reduceIte, reduceCtorEq, e0, e1, e4, e5, e6, e7, e8, e9, e10, h74, h75, h76, h77, h78n, h78r, b1, b2, k9, w7, w6, w5, w4, w3, w2, w1])
                      try simp only [Bool.not_true, Bool.not_false, Bool.and_true, Bool.and_false, Bool.true_and, Bool.false_and] at hR
                      subst hR
                      (first | done | rfl)
      rw [if_neg k9] at hR
      (try simp -implicitDefEqProofs (maxSteps := 10000000) (disch := omega) only [go_sem, Int.reduceAdd, Int.reduceSub, Int.reduceMul, dec_t, dec_f, Nat.reduceBEq, Nat.reduceBNe, Nat.reduceShiftRight, Nat.reduceAnd, Nat.reduceAdd, Nat.reduceSub, Nat.reduceEqDiff, Nat.reduceLT, Nat.reduceLeDiff, Int.reduceToNat, Int.reduceLT, Int.reduceLE, Int.reduceEq, reduceIte, reduceCtorEq, e0, e1, e4, e5, e6, e7, e8, e9, e10, h74, h75, h76, h77, h78n, h78r, b1, b2])
      subst hR
      (first | done | rfl)
end Go.L25
