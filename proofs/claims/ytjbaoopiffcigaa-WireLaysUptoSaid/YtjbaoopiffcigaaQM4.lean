/- Layer 25: words. Conditions: none. -/
import Derived.Test.YtjbaoopiffcigaaQM3
set_option linter.unusedVariables false
set_option linter.unusedSimpArgs false
namespace Go.L25
open Go Go.Eng Go.Proofs
set_option pp.deepTerms false
set_option pp.deepTerms.threshold 9
set_option maxRecDepth 10000
set_option maxHeartbeats 4000000

def small (c : UInt8) : Bool := 97 ≤ c.toNat && c.toNat ≤ 122
theorem t92 (c : UInt8) : pureCall C 92 [.lit (.int .u8 c.toNat)] = some (tf (small c)) := by
  rw [p92]
  generalize hs : small c = s
  unfold small at hs
  by_cases h1 : 97 ≤ c.toNat
  · by_cases h2 : c.toNat ≤ 122
    · simp only [h1, h2, decide_true, Bool.and_true] at hs
      subst hs
      simp -implicitDefEqProofs (maxSteps := 10000000) (disch := omega) only [go_sem, Int.reduceAdd, Int.reduceSub, Int.reduceMul, dec_t, dec_f, Nat.reduceBEq, Nat.reduceBNe, Nat.reduceShiftRight, Nat.reduceAnd, Nat.reduceAdd, Nat.reduceSub, Nat.reduceEqDiff, Nat.reduceLT, Nat.reduceLeDiff, Int.reduceToNat, Int.reduceLT, Int.reduceLE, Int.reduceEq, reduceIte, reduceCtorEq]
    · simp only [h1, h2, decide_true, decide_false, Bool.and_false] at hs
      subst hs
      simp -implicitDefEqProofs (maxSteps := 10000000) (disch := omega) only [go_sem, Int.reduceAdd, Int.reduceSub, Int.reduceMul, dec_t, dec_f, Nat.reduceBEq, Nat.reduceBNe, Nat.reduceShiftRight, Nat.reduceAnd, Nat.reduceAdd, Nat.reduceSub, Nat.reduceEqDiff, Nat.reduceLT, Nat.reduceLeDiff, Int.reduceToNat, Int.reduceLT, Int.reduceLE, Int.reduceEq, reduceIte, reduceCtorEq]
  · simp only [h1, decide_false, Bool.false_and] at hs
    subst hs
    simp -implicitDefEqProofs (maxSteps := 10000000) (disch := omega) only [go_sem, Int.reduceAdd, Int.reduceSub, Int.reduceMul, dec_t, dec_f, Nat.reduceBEq, Nat.reduceBNe, Nat.reduceShiftRight, Nat.reduceAnd, Nat.reduceAdd, Nat.reduceSub, Nat.reduceEqDiff, Nat.reduceLT, Nat.reduceLeDiff, Int.reduceToNat, Int.reduceLT, Int.reduceLE, Int.reduceEq, reduceIte, reduceCtorEq]

theorem e_le (s : Bs) : (bs s).length ≤ 2 ^ 30 := bs_le s

/-! words -/
def wordC (c : UInt8) : Bool := small c || (48 ≤ c.toNat && c.toNat ≤ 57) || c.toNat == 45
def word (s : List UInt8) : Bool := match s with
  | [] => false
  | c :: r => decide (r.length ≤ 15) && small c && r.all wordC
theorem beq_nil : ∀ s : List UInt8, List.beq s [] = decide (s = [])
  | [] => rfl
  | c :: r => by simp [List.beq]
theorem t75 (s : Bs) : pureCall C 75 [.str (bs s)] = some (tf (word (bs s))) := by
  rw [p75]
  have hlen := bs_le s
  generalize bs s = l at hlen ⊢
  match l, hlen with
  | [], _ => (rw [show word [] = false from rfl]; simp -implicitDefEqProofs (maxSteps := 10000000) (disch := omega) only [go_sem, Int.reduceAdd, Int.reduceSub, Int.reduceMul, dec_t, dec_f, Nat.reduceBEq, Nat.reduceBNe, Nat.reduceShiftRight, Nat.reduceAnd, Nat.reduceAdd, Nat.reduceSub, Nat.reduceEqDiff, Nat.reduceLT, Nat.reduceLeDiff, Int.reduceToNat, Int.reduceLT, Int.reduceLE, Int.reduceEq, reduceIte, reduceCtorEq])
  | c :: r, hlen =>
    have hc := t92 c
    simp only [List.length_cons] at hlen
    generalize hw : word (c :: r) = w
    unfold word at hw
    by_cases h1 : r.length ≤ 15
    · cases h2 : small c with
      | false =>
        rw [h2] at hc
        simp only [h2, Bool.and_false, Bool.false_and] at hw
        subst hw
        simp -implicitDefEqProofs (maxSteps := 10000000) (disch := omega) only [go_sem, Int.reduceAdd, Int.reduceSub, Int.reduceMul, dec_t, dec_f, Nat.reduceBEq, Nat.reduceBNe, Nat.reduceShiftRight, Nat.reduceAnd, Nat.reduceAdd, Nat.reduceSub, Nat.reduceEqDiff, Nat.reduceLT, Nat.reduceLeDiff, Int.reduceToNat, Int.reduceLT, Int.reduceLE, Int.reduceEq, reduceIte, reduceCtorEq, hc]
      | true =>
        rw [h2] at hc
        simp only [h1, h2, decide_true, Bool.true_and] at hw
        have key : ∀ (r' : List UInt8) (j : Nat) (x : Int), x = j → (c :: r).drop j = r' → 1 ≤ j →
            ∃ x', n75_14 ⟨[(0, .d (.str (c :: r))), (3, .d (.lit (.int .i64 x)))], []⟩ =
              some (if r'.all wordC then (.exit 0, ⟨[(0, .d (.str (c :: r))), (3, x'), (21, .d (.lit (.bool false)))], []⟩) else (.ret, ⟨[(2, .d (.lit (.bool false)))], []⟩)) := by
          intro r'
          induction r' with
          | nil =>
            intro j x hx hd hj
            have hd := drop_nil hd
            refine ⟨.d (.lit (.int .i64 x)), ?_⟩
            rw [r_n75_14]
            simp only [List.length_cons] at hd
            simp -implicitDefEqProofs (maxSteps := 10000000) (disch := omega) only [go_sem, Int.reduceAdd, Int.reduceSub, Int.reduceMul, dec_t, dec_f, Nat.reduceBEq, Nat.reduceBNe, Nat.reduceShiftRight, Nat.reduceAnd, Nat.reduceAdd, Nat.reduceSub, Nat.reduceEqDiff, Nat.reduceLT, Nat.reduceLeDiff, Int.reduceToNat, Int.reduceLT, Int.reduceLE, Int.reduceEq, reduceIte, reduceCtorEq]
            (first | done | rfl)
          | cons c' r' ih =>
            intro j x hx hd hj
            obtain ⟨g1, g2, g3, -⟩ := drop_cons hd
            simp only [List.length_cons] at g1
            have hc' := t92 c'
            have hnat : Int.toNat x = j := by omega
            obtain ⟨x', h⟩ := ih (j + 1) (x + 1) (by omega) g3 (by omega)
            cases hs : wordC c' with
            | false =>
              rw [show (c' :: r').all wordC = false by simp [hs]]
              unfold wordC at hs
              simp only [Bool.or_eq_false_iff, Bool.and_eq_false_iff, decide_eq_false_iff_not, beq_eq_false_iff_ne] at hs
              obtain ⟨⟨q1, q2⟩, q3⟩ := hs
              rw [q1] at hc'
              refine ⟨.undef, ?_⟩
              rw [r_n75_14]
              simp -implicitDefEqProofs (maxSteps := 10000000) (disch := omega) only [go_sem, Int.reduceAdd, Int.reduceSub, Int.reduceMul, dec_t, dec_f, Nat.reduceBEq, Nat.reduceBNe, Nat.reduceShiftRight, Nat.reduceAnd, Nat.reduceAdd, Nat.reduceSub, Nat.reduceEqDiff, Nat.reduceLT, Nat.reduceLeDiff, Int.reduceToNat, Int.reduceLT, Int.reduceLE, Int.reduceEq, reduceIte, reduceCtorEq]
              rcases Nat.lt_or_ge c'.toNat 48 with p1 | p1 <;> rcases Nat.lt_or_ge 57 c'.toNat with p2 | p2 <;> first | omega | (simp -implicitDefEqProofs (maxSteps := 10000000) (disch := omega) only [go_sem, Int.reduceAdd, Int.reduceSub, Int.reduceMul, dec_t, dec_f, Nat.reduceBEq, Nat.reduceBNe, Nat.reduceShiftRight, Nat.reduceAnd, Nat.reduceAdd, Nat.reduceSub, Nat.reduceEqDiff, Nat.reduceLT, Nat.reduceLeDiff, Int.reduceToNat, Int.reduceLT, Int.reduceLE, Int.reduceEq, reduceIte, reduceCtorEq, hc', g2, hnat]); try rfl
            | true =>
              refine ⟨x', ?_⟩
              rw [r_n75_14]
              rw [show (c' :: r').all wordC = r'.all wordC by simp [hs]]
              unfold wordC at hs
              simp only [Bool.or_eq_true, Bool.and_eq_true, decide_eq_true_eq, beq_iff_eq] at hs
              simp -implicitDefEqProofs (maxSteps := 10000000) (disch := omega) only [go_sem, Int.reduceAdd, Int.reduceSub, Int.reduceMul, dec_t, dec_f, Nat.reduceBEq, Nat.reduceBNe, Nat.reduceShiftRight, Nat.reduceAnd, Nat.reduceAdd, Nat.reduceSub, Nat.reduceEqDiff, Nat.reduceLT, Nat.reduceLeDiff, Int.reduceToNat, Int.reduceLT, Int.reduceLE, Int.reduceEq, reduceIte, reduceCtorEq]
              cases q1 : small c' with
              | true =>
                rw [q1] at hc'
                simp -implicitDefEqProofs (maxSteps := 10000000) (disch := omega) only [go_sem, Int.reduceAdd, Int.reduceSub, Int.reduceMul, dec_t, dec_f, Nat.reduceBEq, Nat.reduceBNe, Nat.reduceShiftRight, Nat.reduceAnd, Nat.reduceAdd, Nat.reduceSub, Nat.reduceEqDiff, Nat.reduceLT, Nat.reduceLeDiff, Int.reduceToNat, Int.reduceLT, Int.reduceLE, Int.reduceEq, reduceIte, reduceCtorEq, hc', g2, hnat, h]
              | false =>
                rw [q1] at hc' hs
                simp only [Bool.false_eq_true, false_or] at hs
                rcases Nat.lt_or_ge c'.toNat 48 with p1 | p1 <;> rcases Nat.lt_or_ge 57 c'.toNat with p2 | p2 <;> rcases Decidable.em (c'.toNat = 45) with p3 | p3 <;> first | omega | (simp -implicitDefEqProofs (maxSteps := 10000000) (disch := omega) only [go_sem, Int.reduceAdd, Int.reduceSub, Int.reduceMul, dec_t, dec_f, Nat.reduceBEq, Nat.reduceBNe, Nat.reduceShiftRight, Nat.reduceAnd, Nat.reduceAdd, Nat.reduceSub, Nat.reduceEqDiff, Nat.reduceLT, Nat.reduceLeDiff, Int.reduceToNat, Int.reduceLT, Int.reduceLE, Int.reduceEq, reduceIte, reduceCtorEq, hc', g2, hnat]) <;> simp only [h]
        obtain ⟨x', h⟩ := key r 1 1 rfl rfl (by omega)
        simp -implicitDefEqProofs (maxSteps := 10000000) (disch := omega) only [go_sem, Int.reduceAdd, Int.reduceSub, Int.reduceMul, dec_t, dec_f, Nat.reduceBEq, Nat.reduceBNe, Nat.reduceShiftRight, Nat.reduceAnd, Nat.reduceAdd, Nat.reduceSub, Nat.reduceEqDiff, Nat.reduceLT, Nat.reduceLeDiff, Int.reduceToNat, Int.reduceLT, Int.reduceLE, Int.reduceEq, reduceIte, reduceCtorEq, hc, h]
        cases hr : r.all wordC with
        | true =>
          rw [hr] at hw
          subst hw
          simp -implicitDefEqProofs (maxSteps := 10000000) (disch := omega) only [go_sem, Int.reduceAdd, Int.reduceSub, Int.reduceMul, dec_t, dec_f, Nat.reduceBEq, Nat.reduceBNe, Nat.reduceShiftRight, Nat.reduceAnd, Nat.reduceAdd, Nat.reduceSub, Nat.reduceEqDiff, Nat.reduceLT, Nat.reduceLeDiff, Int.reduceToNat, Int.reduceLT, Int.reduceLE, Int.reduceEq, reduceIte, reduceCtorEq]
        | false =>
          rw [hr] at hw
          subst hw
          simp -implicitDefEqProofs (maxSteps := 10000000) (disch := omega) only [go_sem, Int.reduceAdd, Int.reduceSub, Int.reduceMul, dec_t, dec_f, Nat.reduceBEq, Nat.reduceBNe, Nat.reduceShiftRight, Nat.reduceAnd, Nat.reduceAdd, Nat.reduceSub, Nat.reduceEqDiff, Nat.reduceLT, Nat.reduceLeDiff, Int.reduceToNat, Int.reduceLT, Int.reduceLE, Int.reduceEq, reduceIte, reduceCtorEq]
    · simp only [h1, decide_false, Bool.false_and] at hw
      subst hw
      simp -implicitDefEqProofs (maxSteps := 10000000) (disch := omega) only [go_sem, Int.reduceAdd, Int.reduceSub, Int.reduceMul, dec_t, dec_f, Nat.reduceBEq, Nat.reduceBNe, Nat.reduceShiftRight, Nat.reduceAnd, Nat.reduceAdd, Nat.reduceSub, Nat.reduceEqDiff, Nat.reduceLT, Nat.reduceLeDiff, Int.reduceToNat, Int.reduceLT, Int.reduceLE, Int.reduceEq, reduceIte, reduceCtorEq]
end Go.L25
