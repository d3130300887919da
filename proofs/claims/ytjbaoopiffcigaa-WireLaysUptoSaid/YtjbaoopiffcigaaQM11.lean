/- Layer 25: the program's Lay. Conditions: none. -/
import Derived.Test.YtjbaoopiffcigaaQM7
import Derived.Test.YtjbaoopiffcigaaQM10
set_option linter.unusedVariables false
set_option linter.unusedSimpArgs false
namespace Go.L25
open Go Go.Eng Go.Proofs
set_option pp.deepTerms false
set_option pp.deepTerms.threshold 9
set_option maxRecDepth 10000
set_option maxHeartbeats 4000000

theorem KOk.inv {f : Fo} (h : KOk f) : 0 ≤ kind f ∧ kind f ≤ 30 ∧ ∀ g ∈ kids f, KOk g := by
  cases h with | mk _ h0 h1 hk => exact ⟨h0, h1, hk⟩
theorem t23 (f : Fo) (hk : KOk f) : pureCall C 23 [(.agg [.lit (.int .i64 (kind f)), .str (bs (name f)), .str (bs (value f)), .str (bs (ini f)), .sl (List.map encS (any f)), .str (bs (fin f)), .lit (.bool (hi f)), .lit (.bool (hf f)), .str (bs (rule f)), .lit (.bool (dn f)), .sl (List.map encO (kids f))])] = some (.one (.d (encE (laidE f)))) := by
  obtain ⟨h0, h30, hk⟩ := hk.inv
  have IH : ∀ g ∈ kids f, pureCall C 23 [(.agg [.lit (.int .i64 (kind g)), .str (bs (name g)), .str (bs (value g)), .str (bs (ini g)), .sl (List.map encS (any g)), .str (bs (fin g)), .lit (.bool (hi g)), .lit (.bool (hf g)), .str (bs (rule g)), .lit (.bool (dn g)), .sl (List.map encO (kids g))])] = some (.one (.d (.agg [.lit (.int .i64 (cls (laidE g))), .lit (.bool (made (laidE g))), .lit (.int .i64 (num (laidE g))), .str (bs (cont (laidE g))), .sl (List.map encE (els (laidE g)))]))) := fun g hg => by rw [← encE_eq]; exact t23 g (hk g hg)
  by_cases a : kind f = 0 ∨ kind f = 1 ∨ kind f = 2
  · exact t23g f a IH
  · have hR := laidE_eq f
    rw [if_neg a] at hR
    have k0 : ¬ kind f = 0 := fun e => a (.inl e)
    have k1 : ¬ kind f = 1 := fun e => a (.inr (.inl e))
    have k2 : ¬ kind f = 2 := fun e => a (.inr (.inr e))
    clear IH hk
    by_cases k7 : kind f = 7
    · rw [if_pos k7] at hR
      rw [p23, hR]
      simp -implicitDefEqProofs (maxSteps := 10000000) (disch := omega) only [go_sem, Int.reduceAdd, Int.reduceSub, Int.reduceMul, dec_t, dec_f, Nat.reduceBEq, Nat.reduceBNe, Nat.reduceShiftRight, Nat.reduceAnd, Nat.reduceAdd, Nat.reduceSub, Nat.reduceEqDiff, Nat.reduceLT, Nat.reduceLeDiff, Int.reduceToNat, Int.reduceLT, Int.reduceLE, Int.reduceEq, reduceIte, reduceCtorEq, k7]
      (first | done | rfl)
    · rw [if_neg k7] at hR
      by_cases k4 : kind f = 4
      · rw [if_pos k4] at hR
        have h43 := t43 f
        rw [k4] at h43
        rw [p23, hR]
        simp -implicitDefEqProofs (maxSteps := 10000000) (disch := omega) only [go_sem, Int.reduceAdd, Int.reduceSub, Int.reduceMul, dec_t, dec_f, Nat.reduceBEq, Nat.reduceBNe, Nat.reduceShiftRight, Nat.reduceAnd, Nat.reduceAdd, Nat.reduceSub, Nat.reduceEqDiff, Nat.reduceLT, Nat.reduceLeDiff, Int.reduceToNat, Int.reduceLT, Int.reduceLE, Int.reduceEq, reduceIte, reduceCtorEq, k4, h43]
        (first | done | rfl)
      · rw [if_neg k4] at hR
        by_cases k9 : kind f = 9
        · rw [if_pos k9] at hR
          have h44 := t44 f
          rw [k9] at h44
          rw [p23, hR]
          simp -implicitDefEqProofs (maxSteps := 10000000) (disch := omega) only [go_sem, Int.reduceAdd, Int.reduceSub, Int.reduceMul, dec_t, dec_f, Nat.reduceBEq, Nat.reduceBNe, Nat.reduceShiftRight, Nat.reduceAnd, Nat.reduceAdd, Nat.reduceSub, Nat.reduceEqDiff, Nat.reduceLT, Nat.reduceLeDiff, Int.reduceToNat, Int.reduceLT, Int.reduceLE, Int.reduceEq, reduceIte, reduceCtorEq, k9, h44]
          (first | done | rfl)
        · rw [if_neg k9] at hR
          rw [p23, hR]
          simp -implicitDefEqProofs (maxSteps := 10000000) (disch := omega) only [go_sem, Int.reduceAdd, Int.reduceSub, Int.reduceMul, dec_t, dec_f, Nat.reduceBEq, Nat.reduceBNe, Nat.reduceShiftRight, Nat.reduceAnd, Nat.reduceAdd, Nat.reduceSub, Nat.reduceEqDiff, Nat.reduceLT, Nat.reduceLeDiff, Int.reduceToNat, Int.reduceLT, Int.reduceLE, Int.reduceEq, reduceIte, reduceCtorEq]
          (first | done | rfl)
termination_by sz f
decreasing_by exact kids_lt hg

theorem pOne_kind (f : Fo) (h : pOne f = true) : 0 ≤ kind f ∧ kind f ≤ 30 := by
  unfold pOne at h
  by_cases k0 : kind f = 0
  · omega
  by_cases k1 : kind f = 1
  · omega
  by_cases k2 : kind f = 2
  · omega
  by_cases k3 : kind f = 3
  · omega
  by_cases k4 : kind f = 4
  · omega
  by_cases k5 : kind f = 5
  · omega
  by_cases k6 : kind f = 6
  · omega
  by_cases k7 : kind f = 7
  · omega
  by_cases k8 : kind f = 8
  · omega
  by_cases k9 : kind f = 9
  · omega
  simp only [k0, k1, k2, k3, k4, k5, k6, k7, k8, k9, if_false] at h
  cases h
theorem KOk_all (f : Fo) (h : allF f = true) : KOk f := by
  rw [allF_eq] at h
  simp only [Bool.and_eq_true, Bool.not_eq_true', List.any_eq_false, Bool.not_eq_true] at h
  have hp := pOne_kind f h.1
  refine .mk f hp.1 hp.2 fun g hg => KOk_all g ?_
  have := h.2 g hg
  simpa using this
termination_by sz f
decreasing_by exact kids_lt hg

def zE : Eo := mkE 0 false 0 b0 []
noncomputable def layR (f : Fo) : PR := if chkF f then .tup (.d (encE (laidE f))) [.lit (.int .i64 0)] else .tup (.d (encE zE)) [.lit (.int .i64 240)]
theorem t9 (f : Fo) : pureCall C 9 [(.agg [.lit (.int .i64 (kind f)), .str (bs (name f)), .str (bs (value f)), .str (bs (ini f)), .sl (List.map encS (any f)), .str (bs (fin f)), .lit (.bool (hi f)), .lit (.bool (hf f)), .str (bs (rule f)), .lit (.bool (dn f)), .sl (List.map encO (kids f))])] = some (layR f) := by
  unfold layR
  cases b : chkF f
  · rw [p9]
    simp -implicitDefEqProofs (maxSteps := 10000000) (disch := omega) only [go_sem, Int.reduceAdd, Int.reduceSub, Int.reduceMul, dec_t, dec_f, Nat.reduceBEq, Nat.reduceBNe, Nat.reduceShiftRight, Nat.reduceAnd, Nat.reduceAdd, Nat.reduceSub, Nat.reduceEqDiff, Nat.reduceLT, Nat.reduceLeDiff, Int.reduceToNat, Int.reduceLT, Int.reduceLE, Int.reduceEq, reduceIte, reduceCtorEq, b]
    (first | done | rfl)
  · have hb := b
    unfold chkF at hb
    simp only [Bool.and_eq_true] at hb
    have hc := t23 f (KOk_all f hb.2)
    rw [encE_eq] at hc
    rw [p9]
    simp -implicitDefEqProofs (maxSteps := 10000000) (disch := omega) only [go_sem, Int.reduceAdd, Int.reduceSub, Int.reduceMul, dec_t, dec_f, Nat.reduceBEq, Nat.reduceBNe, Nat.reduceShiftRight, Nat.reduceAnd, Nat.reduceAdd, Nat.reduceSub, Nat.reduceEqDiff, Nat.reduceLT, Nat.reduceLeDiff, Int.reduceToNat, Int.reduceLT, Int.reduceLE, Int.reduceEq, reduceIte, reduceCtorEq, b, hc]
    (first | done | rfl)
end Go.L25
