/- Layer 25: the document's laying of filters. Conditions: none. -/
import Derived.Test.YtjbaoopiffcigaaQM10
import Derived.Test.YtjbaoopiffcigaaQG4
set_option linter.unusedVariables false
set_option linter.unusedSimpArgs false
namespace Go.L25
open Go Go.Eng Go.Proofs
set_option pp.deepTerms false
set_option pp.deepTerms.threshold 9
set_option maxRecDepth 10000
set_option maxHeartbeats 4000000
attribute [go_sem] p48 p49

theorem t25a (f : Fo) (IH : ∀ g ∈ kids f, pureCall C 25 [(.agg [.lit (.int .i64 (kind g)), .str (bs (name g)), .str (bs (value g)), .str (bs (ini g)), .sl (List.map encS (any g)), .str (bs (fin g)), .lit (.bool (hi g)), .lit (.bool (hf g)), .str (bs (rule g)), .lit (.bool (dn g)), .sl (List.map encO (kids g))])] = some (.one (.d (.agg [.lit (.int .i64 (cls (laidE g))), .lit (.bool (made (laidE g))), .lit (.int .i64 (num (laidE g))), .str (bs (cont (laidE g))), .sl (List.map encE (els (laidE g)))])))) : ∀ (r' : List Fo) (acc : List Eo) (j : Nat) (x : Int), x = j → acc.length + r'.length ≤ 2 ^ 30 → (kids f).drop j = r' →
      ∃ x', n25_22 ⟨[(1, .ptr 0 1 0 0), (2, .ptr 1 1 0 0), (3, .ptr 2 1 0 0), (4, .d (.lit (.int .i64 x)))], (⟨11, [.d (.agg [.lit (.int .i64 (kind f)), .str (bs (name f)), .str (bs (value f)), .str (bs (ini f)), .sl (List.map encS (any f)), .str (bs (fin f)), .lit (.bool (hi f)), .lit (.bool (hf f)), .str (bs (rule f)), .lit (.bool (dn f)), .sl (List.map encO (kids f))])], false, false, false⟩ :: ⟨5, [.agg [.d (.lit (.int .i64 0)), .d (.lit (.bool false)), .d (.lit (.int .i64 0)), .d (.str []), .snil]], false, false, false⟩ :: ⟨5, [.agg [.d (.lit (.int .i64 2)), .d (.lit (.bool true)), .d (.lit (.int .i64 (kind f))), .d (.str []), bif acc.isEmpty then .snil else .sref 3 acc.length 5 0 acc.length]], false, false, false⟩ :: (bif acc.isEmpty then [] else [⟨5, List.map AV.d (List.map encE acc), true, true, false⟩]))⟩ =
        some (.exit 1, ⟨[(1, .ptr 0 1 0 0), (2, .ptr 1 1 0 0), (3, .ptr 2 1 0 0), (4, x'), (28, .d (.lit (.bool false)))], (⟨11, [.d (.agg [.lit (.int .i64 (kind f)), .str (bs (name f)), .str (bs (value f)), .str (bs (ini f)), .sl (List.map encS (any f)), .str (bs (fin f)), .lit (.bool (hi f)), .lit (.bool (hf f)), .str (bs (rule f)), .lit (.bool (dn f)), .sl (List.map encO (kids f))])], false, false, false⟩ :: ⟨5, [.agg [.d (.lit (.int .i64 0)), .d (.lit (.bool false)), .d (.lit (.int .i64 0)), .d (.str []), .snil]], false, false, false⟩ :: ⟨5, [.agg [.d (.lit (.int .i64 2)), .d (.lit (.bool true)), .d (.lit (.int .i64 (kind f))), .d (.str []), bif ((acc ++ (r'.map laidE))).isEmpty then .snil else .sref 3 ((acc ++ (r'.map laidE))).length 5 0 ((acc ++ (r'.map laidE))).length]], false, false, false⟩ :: (bif ((acc ++ (r'.map laidE))).isEmpty then [] else [⟨5, List.map AV.d (List.map encE ((acc ++ (r'.map laidE)))), true, true, false⟩]))⟩) := by
  intro r'
  induction r' with
  | nil =>
    intro acc j x hx hl hd
    have hd := drop_nil hd
    have hl2 := kids_le f
    refine ⟨.d (.lit (.int .i64 x)), ?_⟩
    rw [r_n25_22, show (acc ++ (List.map laidE [])) = acc from List.append_nil _]
    cases he : acc.isEmpty
    · simp -implicitDefEqProofs (maxSteps := 10000000) (disch := omega) only [go_sem, Int.reduceAdd, Int.reduceSub, Int.reduceMul, dec_t, dec_f, Nat.reduceBEq, Nat.reduceBNe, Nat.reduceShiftRight, Nat.reduceAnd, Nat.reduceAdd, Nat.reduceSub, Nat.reduceEqDiff, Nat.reduceLT, Nat.reduceLeDiff, Int.reduceToNat, Int.reduceLT, Int.reduceLE, Int.reduceEq, reduceIte, reduceCtorEq, he]
      (first | done | rfl)
    · have : acc = [] := List.isEmpty_iff.1 he
      subst this
      simp -implicitDefEqProofs (maxSteps := 10000000) (disch := omega) only [go_sem, Int.reduceAdd, Int.reduceSub, Int.reduceMul, dec_t, dec_f, Nat.reduceBEq, Nat.reduceBNe, Nat.reduceShiftRight, Nat.reduceAnd, Nat.reduceAdd, Nat.reduceSub, Nat.reduceEqDiff, Nat.reduceLT, Nat.reduceLeDiff, Int.reduceToNat, Int.reduceLT, Int.reduceLE, Int.reduceEq, reduceIte, reduceCtorEq]
      (first | done | rfl)
  | cons a' r' ih =>
    intro acc j x hx hl hd
    simp only [List.length_cons] at hl
    obtain ⟨g1, g2, g3, g4⟩ := drop_cons hd
    have hl2 := kids_le f
    have hc := IH a' g4
    have hnat : Int.toNat x = j := by omega
    obtain ⟨x', h⟩ := ih (acc ++ [laidE a']) (j + 1) (x + 1) (by omega) (by show (acc ++ [laidE a']).length + _ ≤ _; rw [List.length_append]; simp only [List.length_cons, List.length_nil]; omega) g3
    refine ⟨x', ?_⟩
    rw [r_n25_22]
    rw [show ((acc ++ [laidE a']) ++ (List.map laidE r')) = (acc ++ (List.map laidE (a' :: r'))) from List.append_assoc acc [laidE a'] _] at h
    generalize (acc ++ (List.map laidE (a' :: r'))) = w at h ⊢
    cases he : acc.isEmpty
    · simp -implicitDefEqProofs (maxSteps := 10000000) (disch := omega) only [go_sem, Int.reduceAdd, Int.reduceSub, Int.reduceMul, dec_t, dec_f, Nat.reduceBEq, Nat.reduceBNe, Nat.reduceShiftRight, Nat.reduceAnd, Nat.reduceAdd, Nat.reduceSub, Nat.reduceEqDiff, Nat.reduceLT, Nat.reduceLeDiff, Int.reduceToNat, Int.reduceLT, Int.reduceLE, Int.reduceEq, reduceIte, reduceCtorEq, p1, he] at h
      simp -implicitDefEqProofs (maxSteps := 10000000) (disch := omega) only [go_sem, Int.reduceAdd, Int.reduceSub, Int.reduceMul, dec_t, dec_f, Nat.reduceBEq, Nat.reduceBNe, Nat.reduceShiftRight, Nat.reduceAnd, Nat.reduceAdd, Nat.reduceSub, Nat.reduceEqDiff, Nat.reduceLT, Nat.reduceLeDiff, Int.reduceToNat, Int.reduceLT, Int.reduceLE, Int.reduceEq, reduceIte, reduceCtorEq, he, g2, hnat, hc, h]
    · have : acc = [] := List.isEmpty_iff.1 he
      subst this
      simp -implicitDefEqProofs (maxSteps := 10000000) (disch := omega) only [go_sem, Int.reduceAdd, Int.reduceSub, Int.reduceMul, dec_t, dec_f, Nat.reduceBEq, Nat.reduceBNe, Nat.reduceShiftRight, Nat.reduceAnd, Nat.reduceAdd, Nat.reduceSub, Nat.reduceEqDiff, Nat.reduceLT, Nat.reduceLeDiff, Int.reduceToNat, Int.reduceLT, Int.reduceLE, Int.reduceEq, reduceIte, reduceCtorEq, p1] at h
      simp -implicitDefEqProofs (maxSteps := 10000000) (disch := omega) only [go_sem, Int.reduceAdd, Int.reduceSub, Int.reduceMul, dec_t, dec_f, Nat.reduceBEq, Nat.reduceBNe, Nat.reduceShiftRight, Nat.reduceAnd, Nat.reduceAdd, Nat.reduceSub, Nat.reduceEqDiff, Nat.reduceLT, Nat.reduceLeDiff, Int.reduceToNat, Int.reduceLT, Int.reduceLE, Int.reduceEq, reduceIte, reduceCtorEq, g2, hnat, hc, h]

theorem t25b (f : Fo) : ∀ (r' : List Bs) (acc : List Eo) (j : Nat) (x : Int), x = j → acc.length + r'.length ≤ 2 ^ 30 → (any f).drop j = r' →
      ∃ x', n25_54 ⟨[(1, .ptr 0 1 0 0), (2, .ptr 1 1 0 0), (3, .ptr 2 1 0 0), (5, .ptr 3 1 0 0), (6, .d (.lit (.int .i64 x)))], (⟨11, [.d (.agg [.lit (.int .i64 (kind f)), .str (bs (name f)), .str (bs (value f)), .str (bs (ini f)), .sl (List.map encS (any f)), .str (bs (fin f)), .lit (.bool (hi f)), .lit (.bool (hf f)), .str (bs (rule f)), .lit (.bool (dn f)), .sl (List.map encO (kids f))])], false, false, false⟩ :: ⟨5, [.agg [.d (.lit (.int .i64 0)), .d (.lit (.bool false)), .d (.lit (.int .i64 0)), .d (.str []), .snil]], false, false, false⟩ :: ⟨5, [.agg [.d (.lit (.int .i64 2)), .d (.lit (.bool true)), .d (.lit (.int .i64 (kind f))), .d (.str []), .snil]], false, false, false⟩ :: ⟨5, [.agg [.d (.lit (.int .i64 0)), .d (.lit (.bool true)), .d (.lit (.int .i64 16)), .d (.str []), bif acc.isEmpty then .snil else .sref 4 acc.length 5 0 acc.length]], false, false, false⟩ :: (bif acc.isEmpty then [] else [⟨5, List.map AV.d (List.map encE acc), true, true, false⟩]))⟩ =
        some (.exit 3, ⟨[(1, .ptr 0 1 0 0), (2, .ptr 1 1 0 0), (3, .ptr 2 1 0 0), (5, .ptr 3 1 0 0), (6, x'), (67, .d (.lit (.bool false)))], (⟨11, [.d (.agg [.lit (.int .i64 (kind f)), .str (bs (name f)), .str (bs (value f)), .str (bs (ini f)), .sl (List.map encS (any f)), .str (bs (fin f)), .lit (.bool (hi f)), .lit (.bool (hf f)), .str (bs (rule f)), .lit (.bool (dn f)), .sl (List.map encO (kids f))])], false, false, false⟩ :: ⟨5, [.agg [.d (.lit (.int .i64 0)), .d (.lit (.bool false)), .d (.lit (.int .i64 0)), .d (.str []), .snil]], false, false, false⟩ :: ⟨5, [.agg [.d (.lit (.int .i64 2)), .d (.lit (.bool true)), .d (.lit (.int .i64 (kind f))), .d (.str []), .snil]], false, false, false⟩ :: ⟨5, [.agg [.d (.lit (.int .i64 0)), .d (.lit (.bool true)), .d (.lit (.int .i64 16)), .d (.str []), bif ((acc ++ (r'.map p1))).isEmpty then .snil else .sref 4 ((acc ++ (r'.map p1))).length 5 0 ((acc ++ (r'.map p1))).length]], false, false, false⟩ :: (bif ((acc ++ (r'.map p1))).isEmpty then [] else [⟨5, List.map AV.d (List.map encE ((acc ++ (r'.map p1)))), true, true, false⟩]))⟩) := by
  intro r'
  induction r' with
  | nil =>
    intro acc j x hx hl hd
    have hd := drop_nil hd
    have hl2 := any_28 f
    refine ⟨.d (.lit (.int .i64 x)), ?_⟩
    rw [r_n25_54, show (acc ++ (List.map p1 [])) = acc from List.append_nil _]
    cases he : acc.isEmpty
    · simp -implicitDefEqProofs (maxSteps := 10000000) (disch := omega) only [go_sem, Int.reduceAdd, Int.reduceSub, Int.reduceMul, dec_t, dec_f, Nat.reduceBEq, Nat.reduceBNe, Nat.reduceShiftRight, Nat.reduceAnd, Nat.reduceAdd, Nat.reduceSub, Nat.reduceEqDiff, Nat.reduceLT, Nat.reduceLeDiff, Int.reduceToNat, Int.reduceLT, Int.reduceLE, Int.reduceEq, reduceIte, reduceCtorEq, he]
      (first | done | rfl)
    · have : acc = [] := List.isEmpty_iff.1 he
      subst this
      simp -implicitDefEqProofs (maxSteps := 10000000) (disch := omega) only [go_sem, Int.reduceAdd, Int.reduceSub, Int.reduceMul, dec_t, dec_f, Nat.reduceBEq, Nat.reduceBNe, Nat.reduceShiftRight, Nat.reduceAnd, Nat.reduceAdd, Nat.reduceSub, Nat.reduceEqDiff, Nat.reduceLT, Nat.reduceLeDiff, Int.reduceToNat, Int.reduceLT, Int.reduceLE, Int.reduceEq, reduceIte, reduceCtorEq]
      (first | done | rfl)
  | cons a' r' ih =>
    intro acc j x hx hl hd
    simp only [List.length_cons] at hl
    obtain ⟨g1, g2, g3, g4⟩ := drop_cons hd
    have hl2 := any_28 f
    have hc : True := trivial
    have hnat : Int.toNat x = j := by omega
    obtain ⟨x', h⟩ := ih (acc ++ [p1 a']) (j + 1) (x + 1) (by omega) (by show (acc ++ [p1 a']).length + _ ≤ _; rw [List.length_append]; simp only [List.length_cons, List.length_nil]; omega) g3
    refine ⟨x', ?_⟩
    rw [r_n25_54]
    rw [show ((acc ++ [p1 a']) ++ (List.map p1 r')) = (acc ++ (List.map p1 (a' :: r'))) from List.append_assoc acc [p1 a'] _] at h
    generalize (acc ++ (List.map p1 (a' :: r'))) = w at h ⊢
    cases he : acc.isEmpty
    · simp -implicitDefEqProofs (maxSteps := 10000000) (disch := omega) only [go_sem, Int.reduceAdd, Int.reduceSub, Int.reduceMul, dec_t, dec_f, Nat.reduceBEq, Nat.reduceBNe, Nat.reduceShiftRight, Nat.reduceAnd, Nat.reduceAdd, Nat.reduceSub, Nat.reduceEqDiff, Nat.reduceLT, Nat.reduceLeDiff, Int.reduceToNat, Int.reduceLT, Int.reduceLE, Int.reduceEq, reduceIte, reduceCtorEq, p1, he] at h
      simp -implicitDefEqProofs (maxSteps := 10000000) (disch := omega) only [go_sem, Int.reduceAdd, Int.reduceSub, Int.reduceMul, dec_t, dec_f, Nat.reduceBEq, Nat.reduceBNe, Nat.reduceShiftRight, Nat.reduceAnd, Nat.reduceAdd, Nat.reduceSub, Nat.reduceEqDiff, Nat.reduceLT, Nat.reduceLeDiff, Int.reduceToNat, Int.reduceLT, Int.reduceLE, Int.reduceEq, reduceIte, reduceCtorEq, he, g2, hnat, hc, h]
    · have : acc = [] := List.isEmpty_iff.1 he
      subst this
      simp -implicitDefEqProofs (maxSteps := 10000000) (disch := omega) only [go_sem, Int.reduceAdd, Int.reduceSub, Int.reduceMul, dec_t, dec_f, Nat.reduceBEq, Nat.reduceBNe, Nat.reduceShiftRight, Nat.reduceAnd, Nat.reduceAdd, Nat.reduceSub, Nat.reduceEqDiff, Nat.reduceLT, Nat.reduceLeDiff, Int.reduceToNat, Int.reduceLT, Int.reduceLE, Int.reduceEq, reduceIte, reduceCtorEq, p1] at h
      simp -implicitDefEqProofs (maxSteps := 10000000) (disch := omega) only [go_sem, Int.reduceAdd, Int.reduceSub, Int.reduceMul, dec_t, dec_f, Nat.reduceBEq, Nat.reduceBNe, Nat.reduceShiftRight, Nat.reduceAnd, Nat.reduceAdd, Nat.reduceSub, Nat.reduceEqDiff, Nat.reduceLT, Nat.reduceLeDiff, Int.reduceToNat, Int.reduceLT, Int.reduceLE, Int.reduceEq, reduceIte, reduceCtorEq, g2, hnat, hc, h]
end Go.L25

set_option linter.unusedVariables false
set_option linter.unusedSimpArgs false
namespace Go.L25
open Go Go.Eng Go.Proofs
set_option pp.deepTerms false
set_option pp.deepTerms.threshold 9
set_option maxRecDepth 10000
set_option maxHeartbeats 4000000

theorem t25g (f : Fo) (hk : kind f = 0 ∨ kind f = 1 ∨ kind f = 2) (IH : ∀ g ∈ kids f, pureCall C 25 [(.agg [.lit (.int .i64 (kind g)), .str (bs (name g)), .str (bs (value g)), .str (bs (ini g)), .sl (List.map encS (any g)), .str (bs (fin g)), .lit (.bool (hi g)), .lit (.bool (hf g)), .str (bs (rule g)), .lit (.bool (dn g)), .sl (List.map encO (kids g))])] = some (.one (.d (.agg [.lit (.int .i64 (cls (laidE g))), .lit (.bool (made (laidE g))), .lit (.int .i64 (num (laidE g))), .str (bs (cont (laidE g))), .sl (List.map encE (els (laidE g)))])))) : pureCall C 25 [(.agg [.lit (.int .i64 (kind f)), .str (bs (name f)), .str (bs (value f)), .str (bs (ini f)), .sl (List.map encS (any f)), .str (bs (fin f)), .lit (.bool (hi f)), .lit (.bool (hf f)), .str (bs (rule f)), .lit (.bool (dn f)), .sl (List.map encO (kids f))])] = some (.one (.d (encE (laidE f)))) := by
  have hl := kids_le f
  have hR := laidE_eq f
  rw [if_pos hk] at hR
  obtain ⟨x', h⟩ := t25a f IH (kids f) [] 0 0 rfl (by simp; omega) rfl
  rw [show ([] ++ (List.map laidE (kids f))) = List.map laidE (kids f) from rfl] at h
  have hw : (List.map laidE (kids f)).length ≤ 2 ^ 30 := by simpa using hl
  generalize List.map laidE (kids f) = w at h hR hw
  rw [p25, hR, encE_mk _ _ _ _ _ hw]
  cases he : w.isEmpty
  · simp -implicitDefEqProofs (maxSteps := 10000000) (disch := omega) only [go_sem, Int.reduceAdd, Int.reduceSub, Int.reduceMul, dec_t, dec_f, Nat.reduceBEq, Nat.reduceBNe, Nat.reduceShiftRight, Nat.reduceAnd, Nat.reduceAdd, Nat.reduceSub, Nat.reduceEqDiff, Nat.reduceLT, Nat.reduceLeDiff, Int.reduceToNat, Int.reduceLT, Int.reduceLE, Int.reduceEq, reduceIte, reduceCtorEq, he] at h
    rcases hk with hk | hk | hk <;> rw [hk] at h ⊢ <;> (simp -implicitDefEqProofs (maxSteps := 10000000) (disch := omega) only [go_sem, Int.reduceAdd, Int.reduceSub, Int.reduceMul, dec_t, dec_f, Nat.reduceBEq, Nat.reduceBNe, Nat.reduceShiftRight, Nat.reduceAnd, Nat.reduceAdd, Nat.reduceSub, Nat.reduceEqDiff, Nat.reduceLT, Nat.reduceLeDiff, Int.reduceToNat, Int.reduceLT, Int.reduceLE, Int.reduceEq, reduceIte, reduceCtorEq, hk, h, he]) <;> (first | done | rfl)
  · have : w = [] := List.isEmpty_iff.1 he
    subst this
    simp -implicitDefEqProofs (maxSteps := 10000000) (disch := omega) only [go_sem, Int.reduceAdd, Int.reduceSub, Int.reduceMul, dec_t, dec_f, Nat.reduceBEq, Nat.reduceBNe, Nat.reduceShiftRight, Nat.reduceAnd, Nat.reduceAdd, Nat.reduceSub, Nat.reduceEqDiff, Nat.reduceLT, Nat.reduceLeDiff, Int.reduceToNat, Int.reduceLT, Int.reduceLE, Int.reduceEq, reduceIte, reduceCtorEq] at h
    rcases hk with hk | hk | hk <;> rw [hk] at h ⊢ <;> (simp -implicitDefEqProofs (maxSteps := 10000000) (disch := omega) only [go_sem, Int.reduceAdd, Int.reduceSub, Int.reduceMul, dec_t, dec_f, Nat.reduceBEq, Nat.reduceBNe, Nat.reduceShiftRight, Nat.reduceAnd, Nat.reduceAdd, Nat.reduceSub, Nat.reduceEqDiff, Nat.reduceLT, Nat.reduceLeDiff, Int.reduceToNat, Int.reduceLT, Int.reduceLE, Int.reduceEq, reduceIte, reduceCtorEq, hk, h]) <;> (first | done | rfl)

theorem t25s (f : Fo) (hk : kind f = 4) : pureCall C 25 [(.agg [.lit (.int .i64 (kind f)), .str (bs (name f)), .str (bs (value f)), .str (bs (ini f)), .sl (List.map encS (any f)), .str (bs (fin f)), .lit (.bool (hi f)), .lit (.bool (hf f)), .str (bs (rule f)), .lit (.bool (dn f)), .sl (List.map encO (kids f))])] = some (.one (.d (encE (subE f)))) := by
  have hl := any_28 f
  rw [p25]
  cases b1 : hi f
  · obtain ⟨x', h⟩ := t25b f (any f) [] 0 0 rfl (by simp; omega) rfl
    have hp : pcs f = ((([] ++ (List.map p1 (any f)))) ++ (if hf f then [mkE 2 false 2 (fin f) []] else [])) := by unfold pcs; rw [b1]; rfl
    have hw : (([] ++ (List.map p1 (any f)))).length ≤ 2 ^ 28 := by show (List.map p1 (any f)).length ≤ _; simpa using hl
    rw [b1, hk] at h
    generalize ([] ++ (List.map p1 (any f))) = w at h hp hw
    cases b2 : hf f
    · have hp : pcs f = w := by rw [hp, b2]; exact List.append_nil _
      rw [b2] at h
      cases he : w.isEmpty
      · simp -implicitDefEqProofs (maxSteps := 10000000) (disch := omega) only [go_sem, Int.reduceAdd, Int.reduceSub, Int.reduceMul, dec_t, dec_f, Nat.reduceBEq, Nat.reduceBNe, Nat.reduceShiftRight, Nat.reduceAnd, Nat.reduceAdd, Nat.reduceSub, Nat.reduceEqDiff, Nat.reduceLT, Nat.reduceLeDiff, Int.reduceToNat, Int.reduceLT, Int.reduceLE, Int.reduceEq, reduceIte, reduceCtorEq, p1, he] at h
        simp -implicitDefEqProofs (maxSteps := 10000000) (disch := omega) only [go_sem, Int.reduceAdd, Int.reduceSub, Int.reduceMul, dec_t, dec_f, Nat.reduceBEq, Nat.reduceBNe, Nat.reduceShiftRight, Nat.reduceAnd, Nat.reduceAdd, Nat.reduceSub, Nat.reduceEqDiff, Nat.reduceLT, Nat.reduceLeDiff, Int.reduceToNat, Int.reduceLT, Int.reduceLE, Int.reduceEq, reduceIte, reduceCtorEq, subE, hk, b1, b2, he, h]
        simp -implicitDefEqProofs (maxSteps := 10000000) (disch := omega) only [go_sem, Int.reduceAdd, Int.reduceSub, Int.reduceMul, dec_t, dec_f, Nat.reduceBEq, Nat.reduceBNe, Nat.reduceShiftRight, Nat.reduceAnd, Nat.reduceAdd, Nat.reduceSub, Nat.reduceEqDiff, Nat.reduceLT, Nat.reduceLeDiff, Int.reduceToNat, Int.reduceLT, Int.reduceLE, Int.reduceEq, reduceIte, reduceCtorEq, hp]
      · have : w = [] := List.isEmpty_iff.1 he
        subst this
        simp -implicitDefEqProofs (maxSteps := 10000000) (disch := omega) only [go_sem, Int.reduceAdd, Int.reduceSub, Int.reduceMul, dec_t, dec_f, Nat.reduceBEq, Nat.reduceBNe, Nat.reduceShiftRight, Nat.reduceAnd, Nat.reduceAdd, Nat.reduceSub, Nat.reduceEqDiff, Nat.reduceLT, Nat.reduceLeDiff, Int.reduceToNat, Int.reduceLT, Int.reduceLE, Int.reduceEq, reduceIte, reduceCtorEq, p1] at h
        simp -implicitDefEqProofs (maxSteps := 10000000) (disch := omega) only [go_sem, Int.reduceAdd, Int.reduceSub, Int.reduceMul, dec_t, dec_f, Nat.reduceBEq, Nat.reduceBNe, Nat.reduceShiftRight, Nat.reduceAnd, Nat.reduceAdd, Nat.reduceSub, Nat.reduceEqDiff, Nat.reduceLT, Nat.reduceLeDiff, Int.reduceToNat, Int.reduceLT, Int.reduceLE, Int.reduceEq, reduceIte, reduceCtorEq, subE, hk, b1, b2, h]
        simp -implicitDefEqProofs (maxSteps := 10000000) (disch := omega) only [go_sem, Int.reduceAdd, Int.reduceSub, Int.reduceMul, dec_t, dec_f, Nat.reduceBEq, Nat.reduceBNe, Nat.reduceShiftRight, Nat.reduceAnd, Nat.reduceAdd, Nat.reduceSub, Nat.reduceEqDiff, Nat.reduceLT, Nat.reduceLeDiff, Int.reduceToNat, Int.reduceLT, Int.reduceLE, Int.reduceEq, reduceIte, reduceCtorEq, hp]
    · have hp : pcs f = (w ++ [mkE 2 false 2 (fin f) []]) := by rw [hp, b2]; rfl
      rw [b2] at h
      cases he : w.isEmpty
      · simp -implicitDefEqProofs (maxSteps := 10000000) (disch := omega) only [go_sem, Int.reduceAdd, Int.reduceSub, Int.reduceMul, dec_t, dec_f, Nat.reduceBEq, Nat.reduceBNe, Nat.reduceShiftRight, Nat.reduceAnd, Nat.reduceAdd, Nat.reduceSub, Nat.reduceEqDiff, Nat.reduceLT, Nat.reduceLeDiff, Int.reduceToNat, Int.reduceLT, Int.reduceLE, Int.reduceEq, reduceIte, reduceCtorEq, p1, he] at h
        simp -implicitDefEqProofs (maxSteps := 10000000) (disch := omega) only [go_sem, Int.reduceAdd, Int.reduceSub, Int.reduceMul, dec_t, dec_f, Nat.reduceBEq, Nat.reduceBNe, Nat.reduceShiftRight, Nat.reduceAnd, Nat.reduceAdd, Nat.reduceSub, Nat.reduceEqDiff, Nat.reduceLT, Nat.reduceLeDiff, Int.reduceToNat, Int.reduceLT, Int.reduceLE, Int.reduceEq, reduceIte, reduceCtorEq, subE, hk, b1, b2, he, h]
        simp -implicitDefEqProofs (maxSteps := 10000000) (disch := omega) only [go_sem, Int.reduceAdd, Int.reduceSub, Int.reduceMul, dec_t, dec_f, Nat.reduceBEq, Nat.reduceBNe, Nat.reduceShiftRight, Nat.reduceAnd, Nat.reduceAdd, Nat.reduceSub, Nat.reduceEqDiff, Nat.reduceLT, Nat.reduceLeDiff, Int.reduceToNat, Int.reduceLT, Int.reduceLE, Int.reduceEq, reduceIte, reduceCtorEq, hp]
      · have : w = [] := List.isEmpty_iff.1 he
        subst this
        simp -implicitDefEqProofs (maxSteps := 10000000) (disch := omega) only [go_sem, Int.reduceAdd, Int.reduceSub, Int.reduceMul, dec_t, dec_f, Nat.reduceBEq, Nat.reduceBNe, Nat.reduceShiftRight, Nat.reduceAnd, Nat.reduceAdd, Nat.reduceSub, Nat.reduceEqDiff, Nat.reduceLT, Nat.reduceLeDiff, Int.reduceToNat, Int.reduceLT, Int.reduceLE, Int.reduceEq, reduceIte, reduceCtorEq, p1] at h
        simp -implicitDefEqProofs (maxSteps := 10000000) (disch := omega) only [go_sem, Int.reduceAdd, Int.reduceSub, Int.reduceMul, dec_t, dec_f, Nat.reduceBEq, Nat.reduceBNe, Nat.reduceShiftRight, Nat.reduceAnd, Nat.reduceAdd, Nat.reduceSub, Nat.reduceEqDiff, Nat.reduceLT, Nat.reduceLeDiff, Int.reduceToNat, Int.reduceLT, Int.reduceLE, Int.reduceEq, reduceIte, reduceCtorEq, subE, hk, b1, b2, h]
        simp -implicitDefEqProofs (maxSteps := 10000000) (disch := omega) only [go_sem, Int.reduceAdd, Int.reduceSub, Int.reduceMul, dec_t, dec_f, Nat.reduceBEq, Nat.reduceBNe, Nat.reduceShiftRight, Nat.reduceAnd, Nat.reduceAdd, Nat.reduceSub, Nat.reduceEqDiff, Nat.reduceLT, Nat.reduceLeDiff, Int.reduceToNat, Int.reduceLT, Int.reduceLE, Int.reduceEq, reduceIte, reduceCtorEq, hp]
  · obtain ⟨x', h⟩ := t25b f (any f) [mkE 2 false 0 (ini f) []] 0 0 rfl (by simp; omega) rfl
    have hp : pcs f = ((([mkE 2 false 0 (ini f) []] ++ (List.map p1 (any f)))) ++ (if hf f then [mkE 2 false 2 (fin f) []] else [])) := by unfold pcs; rw [b1]; rfl
    have hw : (([mkE 2 false 0 (ini f) []] ++ (List.map p1 (any f)))).length ≤ 2 ^ 29 := by show ([_] ++ List.map p1 (any f)).length ≤ _; simp; omega
    rw [b1, hk] at h
    generalize ([mkE 2 false 0 (ini f) []] ++ (List.map p1 (any f))) = w at h hp hw
    cases b2 : hf f
    · have hp : pcs f = w := by rw [hp, b2]; exact List.append_nil _
      rw [b2] at h
      cases he : w.isEmpty
      · simp -implicitDefEqProofs (maxSteps := 10000000) (disch := omega) only [go_sem, Int.reduceAdd, Int.reduceSub, Int.reduceMul, dec_t, dec_f, Nat.reduceBEq, Nat.reduceBNe, Nat.reduceShiftRight, Nat.reduceAnd, Nat.reduceAdd, Nat.reduceSub, Nat.reduceEqDiff, Nat.reduceLT, Nat.reduceLeDiff, Int.reduceToNat, Int.reduceLT, Int.reduceLE, Int.reduceEq, reduceIte, reduceCtorEq, p1, he] at h
        simp -implicitDefEqProofs (maxSteps := 10000000) (disch := omega) only [go_sem, Int.reduceAdd, Int.reduceSub, Int.reduceMul, dec_t, dec_f, Nat.reduceBEq, Nat.reduceBNe, Nat.reduceShiftRight, Nat.reduceAnd, Nat.reduceAdd, Nat.reduceSub, Nat.reduceEqDiff, Nat.reduceLT, Nat.reduceLeDiff, Int.reduceToNat, Int.reduceLT, Int.reduceLE, Int.reduceEq, reduceIte, reduceCtorEq, subE, hk, b1, b2, he, h]
        simp -implicitDefEqProofs (maxSteps := 10000000) (disch := omega) only [go_sem, Int.reduceAdd, Int.reduceSub, Int.reduceMul, dec_t, dec_f, Nat.reduceBEq, Nat.reduceBNe, Nat.reduceShiftRight, Nat.reduceAnd, Nat.reduceAdd, Nat.reduceSub, Nat.reduceEqDiff, Nat.reduceLT, Nat.reduceLeDiff, Int.reduceToNat, Int.reduceLT, Int.reduceLE, Int.reduceEq, reduceIte, reduceCtorEq, hp]
      · have : w = [] := List.isEmpty_iff.1 he
        subst this
        simp -implicitDefEqProofs (maxSteps := 10000000) (disch := omega) only [go_sem, Int.reduceAdd, Int.reduceSub, Int.reduceMul, dec_t, dec_f, Nat.reduceBEq, Nat.reduceBNe, Nat.reduceShiftRight, Nat.reduceAnd, Nat.reduceAdd, Nat.reduceSub, Nat.reduceEqDiff, Nat.reduceLT, Nat.reduceLeDiff, Int.reduceToNat, Int.reduceLT, Int.reduceLE, Int.reduceEq, reduceIte, reduceCtorEq, p1] at h
        simp -implicitDefEqProofs (maxSteps := 10000000) (disch := omega) only [go_sem, Int.reduceAdd, Int.reduceSub, Int.reduceMul, dec_t, dec_f, Nat.reduceBEq, Nat.reduceBNe, Nat.reduceShiftRight, Nat.reduceAnd, Nat.reduceAdd, Nat.reduceSub, Nat.reduceEqDiff, Nat.reduceLT, Nat.reduceLeDiff, Int.reduceToNat, Int.reduceLT, Int.reduceLE, Int.reduceEq, reduceIte, reduceCtorEq, subE, hk, b1, b2, h]
        simp -implicitDefEqProofs (maxSteps := 10000000) (disch := omega) only [go_sem, Int.reduceAdd, Int.reduceSub, Int.reduceMul, dec_t, dec_f, Nat.reduceBEq, Nat.reduceBNe, Nat.reduceShiftRight, Nat.reduceAnd, Nat.reduceAdd, Nat.reduceSub, Nat.reduceEqDiff, Nat.reduceLT, Nat.reduceLeDiff, Int.reduceToNat, Int.reduceLT, Int.reduceLE, Int.reduceEq, reduceIte, reduceCtorEq, hp]
    · have hp : pcs f = (w ++ [mkE 2 false 2 (fin f) []]) := by rw [hp, b2]; rfl
      rw [b2] at h
      cases he : w.isEmpty
      · simp -implicitDefEqProofs (maxSteps := 10000000) (disch := omega) only [go_sem, Int.reduceAdd, Int.reduceSub, Int.reduceMul, dec_t, dec_f, Nat.reduceBEq, Nat.reduceBNe, Nat.reduceShiftRight, Nat.reduceAnd, Nat.reduceAdd, Nat.reduceSub, Nat.reduceEqDiff, Nat.reduceLT, Nat.reduceLeDiff, Int.reduceToNat, Int.reduceLT, Int.reduceLE, Int.reduceEq, reduceIte, reduceCtorEq, p1, he] at h
        simp -implicitDefEqProofs (maxSteps := 10000000) (disch := omega) only [go_sem, Int.reduceAdd, Int.reduceSub, Int.reduceMul, dec_t, dec_f, Nat.reduceBEq, Nat.reduceBNe, Nat.reduceShiftRight, Nat.reduceAnd, Nat.reduceAdd, Nat.reduceSub, Nat.reduceEqDiff, Nat.reduceLT, Nat.reduceLeDiff, Int.reduceToNat, Int.reduceLT, Int.reduceLE, Int.reduceEq, reduceIte, reduceCtorEq, subE, hk, b1, b2, he, h]
        simp -implicitDefEqProofs (maxSteps := 10000000) (disch := omega) only [go_sem, Int.reduceAdd, Int.reduceSub, Int.reduceMul, dec_t, dec_f, Nat.reduceBEq, Nat.reduceBNe, Nat.reduceShiftRight, Nat.reduceAnd, Nat.reduceAdd, Nat.reduceSub, Nat.reduceEqDiff, Nat.reduceLT, Nat.reduceLeDiff, Int.reduceToNat, Int.reduceLT, Int.reduceLE, Int.reduceEq, reduceIte, reduceCtorEq, hp]
      · have : w = [] := List.isEmpty_iff.1 he
        subst this
        simp -implicitDefEqProofs (maxSteps := 10000000) (disch := omega) only [go_sem, Int.reduceAdd, Int.reduceSub, Int.reduceMul, dec_t, dec_f, Nat.reduceBEq, Nat.reduceBNe, Nat.reduceShiftRight, Nat.reduceAnd, Nat.reduceAdd, Nat.reduceSub, Nat.reduceEqDiff, Nat.reduceLT, Nat.reduceLeDiff, Int.reduceToNat, Int.reduceLT, Int.reduceLE, Int.reduceEq, reduceIte, reduceCtorEq, p1] at h
        simp -implicitDefEqProofs (maxSteps := 10000000) (disch := omega) only [go_sem, Int.reduceAdd, Int.reduceSub, Int.reduceMul, dec_t, dec_f, Nat.reduceBEq, Nat.reduceBNe, Nat.reduceShiftRight, Nat.reduceAnd, Nat.reduceAdd, Nat.reduceSub, Nat.reduceEqDiff, Nat.reduceLT, Nat.reduceLeDiff, Int.reduceToNat, Int.reduceLT, Int.reduceLE, Int.reduceEq, reduceIte, reduceCtorEq, subE, hk, b1, b2, h]
        simp -implicitDefEqProofs (maxSteps := 10000000) (disch := omega) only [go_sem, Int.reduceAdd, Int.reduceSub, Int.reduceMul, dec_t, dec_f, Nat.reduceBEq, Nat.reduceBNe, Nat.reduceShiftRight, Nat.reduceAnd, Nat.reduceAdd, Nat.reduceSub, Nat.reduceEqDiff, Nat.reduceLT, Nat.reduceLeDiff, Int.reduceToNat, Int.reduceLT, Int.reduceLE, Int.reduceEq, reduceIte, reduceCtorEq, hp]

theorem t25x (f : Fo) (hk : kind f = 9) : pureCall C 25 [(.agg [.lit (.int .i64 (kind f)), .str (bs (name f)), .str (bs (value f)), .str (bs (ini f)), .sl (List.map encS (any f)), .str (bs (fin f)), .lit (.bool (hi f)), .lit (.bool (hf f)), .str (bs (rule f)), .lit (.bool (dn f)), .sl (List.map encO (kids f))])] = some (.one (.d (encE (extE f)))) := by
  rw [p25]
  cases b1 : List.beq (bs (rule f)) [] <;> cases b2 : List.beq (bs (name f)) [] <;> cases b3 : dn f <;> (simp -implicitDefEqProofs (maxSteps := 10000000) (disch := omega) only [go_sem, Int.reduceAdd, Int.reduceSub, Int.reduceMul, dec_t, dec_f, Nat.reduceBEq, Nat.reduceBNe, Nat.reduceShiftRight, Nat.reduceAnd, Nat.reduceAdd, Nat.reduceSub, Nat.reduceEqDiff, Nat.reduceLT, Nat.reduceLeDiff, Int.reduceToNat, Int.reduceLT, Int.reduceLE, Int.reduceEq, reduceIte, reduceCtorEq, hk, b1, b2, b3, extE, exs]) <;> (first | done | rfl)

theorem t25 (f : Fo) : pureCall C 25 [(.agg [.lit (.int .i64 (kind f)), .str (bs (name f)), .str (bs (value f)), .str (bs (ini f)), .sl (List.map encS (any f)), .str (bs (fin f)), .lit (.bool (hi f)), .lit (.bool (hf f)), .str (bs (rule f)), .lit (.bool (dn f)), .sl (List.map encO (kids f))])] = some (.one (.d (encE (laidE f)))) := by
  have IH : ∀ g ∈ kids f, pureCall C 25 [(.agg [.lit (.int .i64 (kind g)), .str (bs (name g)), .str (bs (value g)), .str (bs (ini g)), .sl (List.map encS (any g)), .str (bs (fin g)), .lit (.bool (hi g)), .lit (.bool (hf g)), .str (bs (rule g)), .lit (.bool (dn g)), .sl (List.map encO (kids g))])] = some (.one (.d (.agg [.lit (.int .i64 (cls (laidE g))), .lit (.bool (made (laidE g))), .lit (.int .i64 (num (laidE g))), .str (bs (cont (laidE g))), .sl (List.map encE (els (laidE g)))]))) := fun g hg => by rw [← encE_eq]; exact t25 g
  by_cases a : kind f = 0 ∨ kind f = 1 ∨ kind f = 2
  · exact t25g f a IH
  · have hR := laidE_eq f
    rw [if_neg a] at hR
    have k0 : ¬ kind f = 0 := fun e => a (.inl e)
    have k1 : ¬ kind f = 1 := fun e => a (.inr (.inl e))
    have k2 : ¬ kind f = 2 := fun e => a (.inr (.inr e))
    clear IH
    by_cases k7 : kind f = 7
    · rw [if_pos k7] at hR
      rw [p25, hR]
      simp -implicitDefEqProofs (maxSteps := 10000000) (disch := omega) only [go_sem, Int.reduceAdd, Int.reduceSub, Int.reduceMul, dec_t, dec_f, Nat.reduceBEq, Nat.reduceBNe, Nat.reduceShiftRight, Nat.reduceAnd, Nat.reduceAdd, Nat.reduceSub, Nat.reduceEqDiff, Nat.reduceLT, Nat.reduceLeDiff, Int.reduceToNat, Int.reduceLT, Int.reduceLE, Int.reduceEq, reduceIte, reduceCtorEq, k7]
      (first | done | rfl)
    · rw [if_neg k7] at hR
      by_cases k4 : kind f = 4
      · rw [if_pos k4] at hR
        rw [hR]
        exact t25s f k4
      · rw [if_neg k4] at hR
        by_cases k9 : kind f = 9
        · rw [if_pos k9] at hR
          rw [hR]
          exact t25x f k9
        · rw [if_neg k9] at hR
          rw [p25, hR]
          simp -implicitDefEqProofs (maxSteps := 10000000) (disch := omega) only [go_sem, Int.reduceAdd, Int.reduceSub, Int.reduceMul, dec_t, dec_f, Nat.reduceBEq, Nat.reduceBNe, Nat.reduceShiftRight, Nat.reduceAnd, Nat.reduceAdd, Nat.reduceSub, Nat.reduceEqDiff, Nat.reduceLT, Nat.reduceLeDiff, Int.reduceToNat, Int.reduceLT, Int.reduceLE, Int.reduceEq, reduceIte, reduceCtorEq]
          (first | done | rfl)
termination_by sz f
decreasing_by exact kids_lt hg
end Go.L25
