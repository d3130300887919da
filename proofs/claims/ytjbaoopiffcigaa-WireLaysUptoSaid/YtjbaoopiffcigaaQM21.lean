/- Layer 25: the law WireLays in the evaluator. Conditions: none. -/
import Derived.Test.YtjbaoopiffcigaaQM11
import Derived.Test.YtjbaoopiffcigaaQM16
import Derived.Test.YtjbaoopiffcigaaQM17
import Derived.Test.YtjbaoopiffcigaaQM19
import Derived.Test.YtjbaoopiffcigaaQM20
import Derived.Test.YtjbaoopiffcigaaQK1
set_option linter.unusedVariables false
set_option linter.unusedSimpArgs false
namespace Go.L25
open Go Go.Eng Go.Proofs
set_option pp.deepTerms false
set_option pp.deepTerms.threshold 9
set_option maxRecDepth 10000
set_option maxHeartbeats 4000000

theorem t10 (f : Fo) : pureCall C 10 [(.agg [.lit (.int .i64 (kind f)), .str (bs (name f)), .str (bs (value f)), .str (bs (ini f)), .sl (List.map encS (any f)), .str (bs (fin f)), .lit (.bool (hi f)), .lit (.bool (hf f)), .str (bs (rule f)), .lit (.bool (dn f)), .sl (List.map encO (kids f))])] = some (layR f) := by
  unfold layR
  cases b : chkF f
  · rw [p10]
    simp -implicitDefEqProofs (maxSteps := 10000000) (disch := omega) only [go_sem, Int.reduceAdd, Int.reduceSub, Int.reduceMul, dec_t, dec_f, Nat.reduceBEq, Nat.reduceBNe, Nat.reduceShiftRight, Nat.reduceAnd, Nat.reduceAdd, Nat.reduceSub, Nat.reduceEqDiff, Nat.reduceLT, Nat.reduceLeDiff, Int.reduceToNat, Int.reduceLT, Int.reduceLE, Int.reduceEq, reduceIte, reduceCtorEq, b]
    (first | done | rfl)
  · have hc := t25 f
    rw [encE_eq] at hc
    rw [p10]
    simp -implicitDefEqProofs (maxSteps := 10000000) (disch := omega) only [go_sem, Int.reduceAdd, Int.reduceSub, Int.reduceMul, dec_t, dec_f, Nat.reduceBEq, Nat.reduceBNe, Nat.reduceShiftRight, Nat.reduceAnd, Nat.reduceAdd, Nat.reduceSub, Nat.reduceEqDiff, Nat.reduceLT, Nat.reduceLeDiff, Int.reduceToNat, Int.reduceLT, Int.reduceLE, Int.reduceEq, reduceIte, reduceCtorEq, b, hc]
    (first | done | rfl)

theorem cv_8 (call : Eng.Call) (wr : Bool) (args : List AV) (st : Store) : callV X call wr 8 args st = cvP call wr 8 args st (fzAll (fz false st 6) args) := cv_pure rfl rfl call wr args st
theorem t3 (f : Fo) : pureCall C 3 [(.agg [.lit (.int .i64 (kind f)), .str (bs (name f)), .str (bs (value f)), .str (bs (ini f)), .sl (List.map encS (any f)), .str (bs (fin f)), .lit (.bool (hi f)), .lit (.bool (hf f)), .str (bs (rule f)), .lit (.bool (dn f)), .sl (List.map encO (kids f))])] = some (tf true) := by
  obtain ⟨v, hv, hv', h7⟩ := t7 f 150 (by omega) (by omega)
  have h8 := t8
  have h9 := t9 f
  have h10 := t10 f
  by_cases h0 : v < 0
  · rw [p3]
    simp -implicitDefEqProofs (maxSteps := 10000000) (disch := omega) only [go_sem, Int.reduceAdd, Int.reduceSub, Int.reduceMul, dec_t, dec_f, Nat.reduceBEq, Nat.reduceBNe, Nat.reduceShiftRight, Nat.reduceAnd, Nat.reduceAdd, Nat.reduceSub, Nat.reduceEqDiff, Nat.reduceLT, Nat.reduceLeDiff, Int.reduceToNat, Int.reduceLT, Int.reduceLE, Int.reduceEq, reduceIte, reduceCtorEq, cv_8, h7, h8]
    (first | done | rfl)
  · have hq : eqE (laidE f) (laidE f) = true := eqE_t rfl
    have hz : pureCall C 11 [.agg [.lit (.int .i64 0), .lit (.bool false), .lit (.int .i64 0), .str [], .sl []], .agg [.lit (.int .i64 0), .lit (.bool false), .lit (.int .i64 0), .str [], .sl []]] = some (tf true) := by
      have h := t11 zE zE
      rw [eqE_t rfl] at h
      exact h
    unfold layR at h9 h10
    cases b : chkF f
    · rw [b] at h9 h10
      simp only [Bool.false_eq_true, if_false] at h9 h10
      rw [p3]
      simp -implicitDefEqProofs (maxSteps := 10000000) (disch := omega) only [go_sem, Int.reduceAdd, Int.reduceSub, Int.reduceMul, dec_t, dec_f, Nat.reduceBEq, Nat.reduceBNe, Nat.reduceShiftRight, Nat.reduceAnd, Nat.reduceAdd, Nat.reduceSub, Nat.reduceEqDiff, Nat.reduceLT, Nat.reduceLeDiff, Int.reduceToNat, Int.reduceLT, Int.reduceLE, Int.reduceEq, reduceIte, reduceCtorEq, cv_8, h7, h8, h9, h10, hz, show eqE zE zE = true from eqE_t rfl]
      (first | done | rfl)
    · rw [b] at h9 h10
      simp only [if_true] at h9 h10
      rw [p3]
      simp -implicitDefEqProofs (maxSteps := 10000000) (disch := omega) only [go_sem, Int.reduceAdd, Int.reduceSub, Int.reduceMul, dec_t, dec_f, Nat.reduceBEq, Nat.reduceBNe, Nat.reduceShiftRight, Nat.reduceAnd, Nat.reduceAdd, Nat.reduceSub, Nat.reduceEqDiff, Nat.reduceLT, Nat.reduceLeDiff, Int.reduceToNat, Int.reduceLT, Int.reduceLE, Int.reduceEq, reduceIte, reduceCtorEq, cv_8, h7, h8, h9, h10, hq]
      (first | done | rfl)
end Go.L25
