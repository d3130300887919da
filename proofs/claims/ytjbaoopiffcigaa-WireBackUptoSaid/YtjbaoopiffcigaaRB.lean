/- Layer 25: a filter that may be is laid, and read out of its element. Conditions: none. -/
import Derived.Test.YtjbaoopiffcigaaPL
import Derived.Test.YtjbaoopiffcigaaRA
set_option linter.unusedVariables false
set_option linter.unusedSimpArgs false
namespace Go.L25
open Go Go.Eng Go.Proofs
open Nat (reduceShiftRight reduceAnd reduceEqDiff reduceLeDiff)
open Int (reduceToNat)
set_option maxRecDepth 10000
set_option maxHeartbeats 4000000
attribute [go_sem] q83 q84 q85 q86 q87 q66 p67 p69 q68 q41
theorem t42 (s : Bs) : pureCall C 42 [.lit (.int .i64 0), .lit (.int .i64 4), .str (bs s)] = some (.one (.d (encE (mkE 0 false 4 s [])))) := by
  rw [p42]
  simp -implicitDefEqProofs (maxSteps := 10000000) (disch := omega) only [go_sem, Int.reduceAdd, Int.reduceSub, Int.reduceMul, dec_t, dec_f, Nat.reduceBEq, Nat.reduceBNe, reduceShiftRight, reduceAnd, Nat.reduceAdd, Nat.reduceSub, reduceEqDiff, Nat.reduceLT, reduceLeDiff, reduceToNat, Int.reduceLT, Int.reduceLE, Int.reduceEq, reduceIte, reduceCtorEq]
@[go_sem] theorem t42b (s : Bs) : pureCall C 42 [.lit (.int .i64 2), .lit (.int .i64 0), .str (bs s)] = some (.one (.d (encE (mkE 2 false 0 s [])))) := by
  rw [p42]; simp -implicitDefEqProofs (maxSteps := 10000000) (disch := omega) only [go_sem, Int.reduceAdd, Int.reduceSub, Int.reduceMul, dec_t, dec_f, Nat.reduceBEq, Nat.reduceBNe, reduceShiftRight, reduceAnd, Nat.reduceAdd, Nat.reduceSub, reduceEqDiff, Nat.reduceLT, reduceLeDiff, reduceToNat, Int.reduceLT, Int.reduceLE, Int.reduceEq, reduceIte, reduceCtorEq]
@[go_sem] theorem t42c (s : Bs) : pureCall C 42 [.lit (.int .i64 2), .lit (.int .i64 1), .str (bs s)] = some (.one (.d (encE (mkE 2 false 1 s [])))) := by
  rw [p42]; simp -implicitDefEqProofs (maxSteps := 10000000) (disch := omega) only [go_sem, Int.reduceAdd, Int.reduceSub, Int.reduceMul, dec_t, dec_f, Nat.reduceBEq, Nat.reduceBNe, reduceShiftRight, reduceAnd, Nat.reduceAdd, Nat.reduceSub, reduceEqDiff, Nat.reduceLT, reduceLeDiff, reduceToNat, Int.reduceLT, Int.reduceLE, Int.reduceEq, reduceIte, reduceCtorEq]
@[go_sem] theorem t42d (s : Bs) : pureCall C 42 [.lit (.int .i64 2), .lit (.int .i64 2), .str (bs s)] = some (.one (.d (encE (mkE 2 false 2 s [])))) := by
  rw [p42]; simp -implicitDefEqProofs (maxSteps := 10000000) (disch := omega) only [go_sem, Int.reduceAdd, Int.reduceSub, Int.reduceMul, dec_t, dec_f, Nat.reduceBEq, Nat.reduceBNe, reduceShiftRight, reduceAnd, Nat.reduceAdd, Nat.reduceSub, reduceEqDiff, Nat.reduceLT, reduceLeDiff, reduceToNat, Int.reduceLT, Int.reduceLE, Int.reduceEq, reduceIte, reduceCtorEq]
@[go_sem] theorem t42e (s : Bs) : pureCall C 42 [.lit (.int .i64 2), .lit (.int .i64 3), .str (bs s)] = some (.one (.d (encE (mkE 2 false 3 s [])))) := by
  rw [p42]; simp -implicitDefEqProofs (maxSteps := 10000000) (disch := omega) only [go_sem, Int.reduceAdd, Int.reduceSub, Int.reduceMul, dec_t, dec_f, Nat.reduceBEq, Nat.reduceBNe, reduceShiftRight, reduceAnd, Nat.reduceAdd, Nat.reduceSub, reduceEqDiff, Nat.reduceLT, reduceLeDiff, reduceToNat, Int.reduceLT, Int.reduceLE, Int.reduceEq, reduceIte, reduceCtorEq]
@[go_sem] theorem t42f (s : Bs) : pureCall C 42 [.lit (.int .i64 2), .lit (.int .i64 7), .str (bs s)] = some (.one (.d (encE (mkE 2 false 7 s [])))) := by
  rw [p42]; simp -implicitDefEqProofs (maxSteps := 10000000) (disch := omega) only [go_sem, Int.reduceAdd, Int.reduceSub, Int.reduceMul, dec_t, dec_f, Nat.reduceBEq, Nat.reduceBNe, reduceShiftRight, reduceAnd, Nat.reduceAdd, Nat.reduceSub, reduceEqDiff, Nat.reduceLT, reduceLeDiff, reduceToNat, Int.reduceLT, Int.reduceLE, Int.reduceEq, reduceIte, reduceCtorEq]
attribute [go_sem] t42
theorem t43k (f : Fo)   : ∀ (r' : List Bs) (acc : List Eo) (j : Nat) (x : Int), x = j → acc.length + r'.length ≤ 2 ^ 29 → (any f).drop j = r' →
      ∃ x', n43_12 ⟨[(1, .ptr 0 1 0 0), (2, .ptr 1 1 0 0), (3, .ptr 2 1 0 0), (4, .fn 68 [.ptr 2 1 0 0]), (20, .d (.sl (List.map encS (any f)))), (21, .d (.lit (.int .i64 ((any f).length : Nat)))), (22, .d (.lit (.int .i64 x)))],
          [⟨11, [.d (.agg [.lit (.int .i64 (kind f)), .str (bs (name f)), .str (bs (value f)), .str (bs (ini f)), .sl (List.map encS (any f)), .str (bs (fin f)), .lit (.bool (hi f)), .lit (.bool (hf f)), .str (bs (rule f)), .lit (.bool (dn f)), .sl (List.map encO (kids f))])], false, false, false⟩, ⟨5, [.agg [.d (.lit (.int .i64 0)), .d (.lit (.bool false)), .d (.lit (.int .i64 0)), .d (.str []), .snil]], false, false, false⟩,
           ⟨1, [.sref 3 acc.length (bif acc.isEmpty then 0 else 5) 0 acc.length], false, false, false⟩, ⟨bif acc.isEmpty then 0 else 5, List.map AV.d (List.map encE acc), true, false, acc.isEmpty⟩]⟩ =
        some (.exit 0, ⟨[(1, .ptr 0 1 0 0), (2, .ptr 1 1 0 0), (3, .ptr 2 1 0 0), (4, .fn 68 [.ptr 2 1 0 0]), (20, .d (.sl (List.map encS (any f)))), (21, .d (.lit (.int .i64 ((any f).length : Nat)))), (22, x'), (23, .d (.lit (.bool false)))],
          [⟨11, [.d (.agg [.lit (.int .i64 (kind f)), .str (bs (name f)), .str (bs (value f)), .str (bs (ini f)), .sl (List.map encS (any f)), .str (bs (fin f)), .lit (.bool (hi f)), .lit (.bool (hf f)), .str (bs (rule f)), .lit (.bool (dn f)), .sl (List.map encO (kids f))])], false, false, false⟩, ⟨5, [.agg [.d (.lit (.int .i64 0)), .d (.lit (.bool false)), .d (.lit (.int .i64 0)), .d (.str []), .snil]], false, false, false⟩,
           ⟨1, [.sref 3 ((acc ++ (r'.map p1))).length (bif ((acc ++ (r'.map p1))).isEmpty then 0 else 5) 0 ((acc ++ (r'.map p1))).length], false, false, false⟩, ⟨bif ((acc ++ (r'.map p1))).isEmpty then 0 else 5, List.map AV.d (List.map encE ((acc ++ (r'.map p1)))), true, false, ((acc ++ (r'.map p1))).isEmpty⟩]⟩) := by
  intro r'
  induction r' with
  | nil =>
    intro acc j x hx hl hd
    have hd := drop_nil hd
    have hl2 := any_28 f
    refine ⟨.d (.lit (.int .i64 x)), ?_⟩
    rw [r_n43_12, show (acc ++ (List.map p1 [])) = acc from List.append_nil _]
    cases he : acc.isEmpty
    · simp -implicitDefEqProofs (maxSteps := 10000000) (disch := omega) only [go_sem, Int.reduceAdd, Int.reduceSub, Int.reduceMul, dec_t, dec_f, Nat.reduceBEq, Nat.reduceBNe, reduceShiftRight, reduceAnd, Nat.reduceAdd, Nat.reduceSub, reduceEqDiff, Nat.reduceLT, reduceLeDiff, reduceToNat, Int.reduceLT, Int.reduceLE, Int.reduceEq, reduceIte, reduceCtorEq, he]
      (first | done | rfl)
    · have : acc = [] := List.isEmpty_iff.1 he
      subst this
      simp -implicitDefEqProofs (maxSteps := 10000000) (disch := omega) only [go_sem, Int.reduceAdd, Int.reduceSub, Int.reduceMul, dec_t, dec_f, Nat.reduceBEq, Nat.reduceBNe, reduceShiftRight, reduceAnd, Nat.reduceAdd, Nat.reduceSub, reduceEqDiff, Nat.reduceLT, reduceLeDiff, reduceToNat, Int.reduceLT, Int.reduceLE, Int.reduceEq, reduceIte, reduceCtorEq]
      (first | done | rfl)
  | cons a' r' ih =>
    intro acc j x hx hl hd
    simp only [List.length_cons] at hl
    obtain ⟨g1, g2, g3, -⟩ := drop_cons hd
    have hl2 := any_28 f
    have hnat : Int.toNat x = j := by omega
    obtain ⟨x', h⟩ := ih (acc ++ [p1 a']) (j + 1) (x + 1) (by omega) (by show (acc ++ [p1 a']).length + _ ≤ _; rw [List.length_append]; simp only [List.length_cons, List.length_nil]; omega) g3
    refine ⟨x', ?_⟩
    rw [r_n43_12]
    rw [show ((acc ++ [p1 a']) ++ (List.map p1 r')) = (acc ++ (List.map p1 (a' :: r'))) from List.append_assoc acc [p1 a'] _] at h
    generalize (acc ++ (List.map p1 (a' :: r'))) = w at h ⊢
    simp -implicitDefEqProofs (maxSteps := 10000000) (disch := omega) only [go_sem, Int.reduceAdd, Int.reduceSub, Int.reduceMul, dec_t, dec_f, Nat.reduceBEq, Nat.reduceBNe, reduceShiftRight, reduceAnd, Nat.reduceAdd, Nat.reduceSub, reduceEqDiff, Nat.reduceLT, reduceLeDiff, reduceToNat, Int.reduceLT, Int.reduceLE, Int.reduceEq, reduceIte, reduceCtorEq, p1] at h
    cases he : acc.isEmpty
    · simp -implicitDefEqProofs (maxSteps := 10000000) (disch := omega) only [go_sem, Int.reduceAdd, Int.reduceSub, Int.reduceMul, dec_t, dec_f, Nat.reduceBEq, Nat.reduceBNe, reduceShiftRight, reduceAnd, Nat.reduceAdd, Nat.reduceSub, reduceEqDiff, Nat.reduceLT, reduceLeDiff, reduceToNat, Int.reduceLT, Int.reduceLE, Int.reduceEq, reduceIte, reduceCtorEq, he, g2, hnat, h]
    · have : acc = [] := List.isEmpty_iff.1 he
      subst this
      simp -implicitDefEqProofs (maxSteps := 10000000) (disch := omega) only [go_sem, Int.reduceAdd, Int.reduceSub, Int.reduceMul, dec_t, dec_f, Nat.reduceBEq, Nat.reduceBNe, reduceShiftRight, reduceAnd, Nat.reduceAdd, Nat.reduceSub, reduceEqDiff, Nat.reduceLT, reduceLeDiff, reduceToNat, Int.reduceLT, Int.reduceLE, Int.reduceEq, reduceIte, reduceCtorEq, p1] at h
      simp -implicitDefEqProofs (maxSteps := 10000000) (disch := omega) only [go_sem, Int.reduceAdd, Int.reduceSub, Int.reduceMul, dec_t, dec_f, Nat.reduceBEq, Nat.reduceBNe, reduceShiftRight, reduceAnd, Nat.reduceAdd, Nat.reduceSub, reduceEqDiff, Nat.reduceLT, reduceLeDiff, reduceToNat, Int.reduceLT, Int.reduceLE, Int.reduceEq, reduceIte, reduceCtorEq, g2, hnat, h]
theorem t43 (f : Fo) : pureCall C 43 [(.agg [.lit (.int .i64 (kind f)), .str (bs (name f)), .str (bs (value f)), .str (bs (ini f)), .sl (List.map encS (any f)), .str (bs (fin f)), .lit (.bool (hi f)), .lit (.bool (hf f)), .str (bs (rule f)), .lit (.bool (dn f)), .sl (List.map encO (kids f))])] = some (.one (.d (encE (subE f)))) := by
  have hl := any_28 f
  rw [p43]
  cases b1 : hi f
  · obtain ⟨x', h⟩ := t43k f (any f) [] 0 0 rfl (by simp; omega) rfl
    have hp : pcs f = ((([] ++ (List.map p1 (any f)))) ++ (if hf f then [mkE 2 false 2 (fin f) []] else [])) := by unfold pcs; rw [b1]; rfl
    have hw : (([] ++ (List.map p1 (any f)))).length ≤ 2 ^ 28 := by show (List.map p1 (any f)).length ≤ _; simpa using hl
    rw [b1] at h
    generalize ([] ++ (List.map p1 (any f))) = w at h hp hw
    cases b2 : hf f
    · have hp : pcs f = w := by rw [hp, b2]; exact List.append_nil _
      rw [b2] at h
      cases he : w.isEmpty
      · simp -implicitDefEqProofs (maxSteps := 10000000) (disch := omega) only [go_sem, Int.reduceAdd, Int.reduceSub, Int.reduceMul, dec_t, dec_f, Nat.reduceBEq, Nat.reduceBNe, reduceShiftRight, reduceAnd, Nat.reduceAdd, Nat.reduceSub, reduceEqDiff, Nat.reduceLT, reduceLeDiff, reduceToNat, Int.reduceLT, Int.reduceLE, Int.reduceEq, reduceIte, reduceCtorEq, p1, he] at h
        simp -implicitDefEqProofs (maxSteps := 10000000) (disch := omega) only [go_sem, Int.reduceAdd, Int.reduceSub, Int.reduceMul, dec_t, dec_f, Nat.reduceBEq, Nat.reduceBNe, reduceShiftRight, reduceAnd, Nat.reduceAdd, Nat.reduceSub, reduceEqDiff, Nat.reduceLT, reduceLeDiff, reduceToNat, Int.reduceLT, Int.reduceLE, Int.reduceEq, reduceIte, reduceCtorEq, subE, b1, b2, he, h]
        simp -implicitDefEqProofs (maxSteps := 10000000) (disch := omega) only [go_sem, Int.reduceAdd, Int.reduceSub, Int.reduceMul, dec_t, dec_f, Nat.reduceBEq, Nat.reduceBNe, reduceShiftRight, reduceAnd, Nat.reduceAdd, Nat.reduceSub, reduceEqDiff, Nat.reduceLT, reduceLeDiff, reduceToNat, Int.reduceLT, Int.reduceLE, Int.reduceEq, reduceIte, reduceCtorEq, hp]
      · have : w = [] := List.isEmpty_iff.1 he
        subst this
        simp -implicitDefEqProofs (maxSteps := 10000000) (disch := omega) only [go_sem, Int.reduceAdd, Int.reduceSub, Int.reduceMul, dec_t, dec_f, Nat.reduceBEq, Nat.reduceBNe, reduceShiftRight, reduceAnd, Nat.reduceAdd, Nat.reduceSub, reduceEqDiff, Nat.reduceLT, reduceLeDiff, reduceToNat, Int.reduceLT, Int.reduceLE, Int.reduceEq, reduceIte, reduceCtorEq, p1] at h
        simp -implicitDefEqProofs (maxSteps := 10000000) (disch := omega) only [go_sem, Int.reduceAdd, Int.reduceSub, Int.reduceMul, dec_t, dec_f, Nat.reduceBEq, Nat.reduceBNe, reduceShiftRight, reduceAnd, Nat.reduceAdd, Nat.reduceSub, reduceEqDiff, Nat.reduceLT, reduceLeDiff, reduceToNat, Int.reduceLT, Int.reduceLE, Int.reduceEq, reduceIte, reduceCtorEq, subE, b1, b2, h]
        simp -implicitDefEqProofs (maxSteps := 10000000) (disch := omega) only [go_sem, Int.reduceAdd, Int.reduceSub, Int.reduceMul, dec_t, dec_f, Nat.reduceBEq, Nat.reduceBNe, reduceShiftRight, reduceAnd, Nat.reduceAdd, Nat.reduceSub, reduceEqDiff, Nat.reduceLT, reduceLeDiff, reduceToNat, Int.reduceLT, Int.reduceLE, Int.reduceEq, reduceIte, reduceCtorEq, hp]
    · have hp : pcs f = (w ++ [mkE 2 false 2 (fin f) []]) := by rw [hp, b2]; rfl
      rw [b2] at h
      cases he : w.isEmpty
      · simp -implicitDefEqProofs (maxSteps := 10000000) (disch := omega) only [go_sem, Int.reduceAdd, Int.reduceSub, Int.reduceMul, dec_t, dec_f, Nat.reduceBEq, Nat.reduceBNe, reduceShiftRight, reduceAnd, Nat.reduceAdd, Nat.reduceSub, reduceEqDiff, Nat.reduceLT, reduceLeDiff, reduceToNat, Int.reduceLT, Int.reduceLE, Int.reduceEq, reduceIte, reduceCtorEq, p1, he] at h
        simp -implicitDefEqProofs (maxSteps := 10000000) (disch := omega) only [go_sem, Int.reduceAdd, Int.reduceSub, Int.reduceMul, dec_t, dec_f, Nat.reduceBEq, Nat.reduceBNe, reduceShiftRight, reduceAnd, Nat.reduceAdd, Nat.reduceSub, reduceEqDiff, Nat.reduceLT, reduceLeDiff, reduceToNat, Int.reduceLT, Int.reduceLE, Int.reduceEq, reduceIte, reduceCtorEq, subE, b1, b2, he, h]
        simp -implicitDefEqProofs (maxSteps := 10000000) (disch := omega) only [go_sem, Int.reduceAdd, Int.reduceSub, Int.reduceMul, dec_t, dec_f, Nat.reduceBEq, Nat.reduceBNe, reduceShiftRight, reduceAnd, Nat.reduceAdd, Nat.reduceSub, reduceEqDiff, Nat.reduceLT, reduceLeDiff, reduceToNat, Int.reduceLT, Int.reduceLE, Int.reduceEq, reduceIte, reduceCtorEq, hp]
      · have : w = [] := List.isEmpty_iff.1 he
        subst this
        simp -implicitDefEqProofs (maxSteps := 10000000) (disch := omega) only [go_sem, Int.reduceAdd, Int.reduceSub, Int.reduceMul, dec_t, dec_f, Nat.reduceBEq, Nat.reduceBNe, reduceShiftRight, reduceAnd, Nat.reduceAdd, Nat.reduceSub, reduceEqDiff, Nat.reduceLT, reduceLeDiff, reduceToNat, Int.reduceLT, Int.reduceLE, Int.reduceEq, reduceIte, reduceCtorEq, p1] at h
        simp -implicitDefEqProofs (maxSteps := 10000000) (disch := omega) only [go_sem, Int.reduceAdd, Int.reduceSub, Int.reduceMul, dec_t, dec_f, Nat.reduceBEq, Nat.reduceBNe, reduceShiftRight, reduceAnd, Nat.reduceAdd, Nat.reduceSub, reduceEqDiff, Nat.reduceLT, reduceLeDiff, reduceToNat, Int.reduceLT, Int.reduceLE, Int.reduceEq, reduceIte, reduceCtorEq, subE, b1, b2, h]
        simp -implicitDefEqProofs (maxSteps := 10000000) (disch := omega) only [go_sem, Int.reduceAdd, Int.reduceSub, Int.reduceMul, dec_t, dec_f, Nat.reduceBEq, Nat.reduceBNe, reduceShiftRight, reduceAnd, Nat.reduceAdd, Nat.reduceSub, reduceEqDiff, Nat.reduceLT, reduceLeDiff, reduceToNat, Int.reduceLT, Int.reduceLE, Int.reduceEq, reduceIte, reduceCtorEq, hp]
  · obtain ⟨x', h⟩ := t43k f (any f) [mkE 2 false 0 (ini f) []] 0 0 rfl (by simp; omega) rfl
    have hp : pcs f = ((([mkE 2 false 0 (ini f) []] ++ (List.map p1 (any f)))) ++ (if hf f then [mkE 2 false 2 (fin f) []] else [])) := by unfold pcs; rw [b1]; rfl
    have hw : (([mkE 2 false 0 (ini f) []] ++ (List.map p1 (any f)))).length ≤ 2 ^ 29 := by show ([_] ++ List.map p1 (any f)).length ≤ _; simp; omega
    rw [b1] at h
    generalize ([mkE 2 false 0 (ini f) []] ++ (List.map p1 (any f))) = w at h hp hw
    cases b2 : hf f
    · have hp : pcs f = w := by rw [hp, b2]; exact List.append_nil _
      rw [b2] at h
      cases he : w.isEmpty
      · simp -implicitDefEqProofs (maxSteps := 10000000) (disch := omega) only [go_sem, Int.reduceAdd, Int.reduceSub, Int.reduceMul, dec_t, dec_f, Nat.reduceBEq, Nat.reduceBNe, reduceShiftRight, reduceAnd, Nat.reduceAdd, Nat.reduceSub, reduceEqDiff, Nat.reduceLT, reduceLeDiff, reduceToNat, Int.reduceLT, Int.reduceLE, Int.reduceEq, reduceIte, reduceCtorEq, p1, he] at h
        simp -implicitDefEqProofs (maxSteps := 10000000) (disch := omega) only [go_sem, Int.reduceAdd, Int.reduceSub, Int.reduceMul, dec_t, dec_f, Nat.reduceBEq, Nat.reduceBNe, reduceShiftRight, reduceAnd, Nat.reduceAdd, Nat.reduceSub, reduceEqDiff, Nat.reduceLT, reduceLeDiff, reduceToNat, Int.reduceLT, Int.reduceLE, Int.reduceEq, reduceIte, reduceCtorEq, subE, b1, b2, he, h]
        simp -implicitDefEqProofs (maxSteps := 10000000) (disch := omega) only [go_sem, Int.reduceAdd, Int.reduceSub, Int.reduceMul, dec_t, dec_f, Nat.reduceBEq, Nat.reduceBNe, reduceShiftRight, reduceAnd, Nat.reduceAdd, Nat.reduceSub, reduceEqDiff, Nat.reduceLT, reduceLeDiff, reduceToNat, Int.reduceLT, Int.reduceLE, Int.reduceEq, reduceIte, reduceCtorEq, hp]
      · have : w = [] := List.isEmpty_iff.1 he
        subst this
        simp -implicitDefEqProofs (maxSteps := 10000000) (disch := omega) only [go_sem, Int.reduceAdd, Int.reduceSub, Int.reduceMul, dec_t, dec_f, Nat.reduceBEq, Nat.reduceBNe, reduceShiftRight, reduceAnd, Nat.reduceAdd, Nat.reduceSub, reduceEqDiff, Nat.reduceLT, reduceLeDiff, reduceToNat, Int.reduceLT, Int.reduceLE, Int.reduceEq, reduceIte, reduceCtorEq, p1] at h
        simp -implicitDefEqProofs (maxSteps := 10000000) (disch := omega) only [go_sem, Int.reduceAdd, Int.reduceSub, Int.reduceMul, dec_t, dec_f, Nat.reduceBEq, Nat.reduceBNe, reduceShiftRight, reduceAnd, Nat.reduceAdd, Nat.reduceSub, reduceEqDiff, Nat.reduceLT, reduceLeDiff, reduceToNat, Int.reduceLT, Int.reduceLE, Int.reduceEq, reduceIte, reduceCtorEq, subE, b1, b2, h]
        simp -implicitDefEqProofs (maxSteps := 10000000) (disch := omega) only [go_sem, Int.reduceAdd, Int.reduceSub, Int.reduceMul, dec_t, dec_f, Nat.reduceBEq, Nat.reduceBNe, reduceShiftRight, reduceAnd, Nat.reduceAdd, Nat.reduceSub, reduceEqDiff, Nat.reduceLT, reduceLeDiff, reduceToNat, Int.reduceLT, Int.reduceLE, Int.reduceEq, reduceIte, reduceCtorEq, hp]
    · have hp : pcs f = (w ++ [mkE 2 false 2 (fin f) []]) := by rw [hp, b2]; rfl
      rw [b2] at h
      cases he : w.isEmpty
      · simp -implicitDefEqProofs (maxSteps := 10000000) (disch := omega) only [go_sem, Int.reduceAdd, Int.reduceSub, Int.reduceMul, dec_t, dec_f, Nat.reduceBEq, Nat.reduceBNe, reduceShiftRight, reduceAnd, Nat.reduceAdd, Nat.reduceSub, reduceEqDiff, Nat.reduceLT, reduceLeDiff, reduceToNat, Int.reduceLT, Int.reduceLE, Int.reduceEq, reduceIte, reduceCtorEq, p1, he] at h
        simp -implicitDefEqProofs (maxSteps := 10000000) (disch := omega) only [go_sem, Int.reduceAdd, Int.reduceSub, Int.reduceMul, dec_t, dec_f, Nat.reduceBEq, Nat.reduceBNe, reduceShiftRight, reduceAnd, Nat.reduceAdd, Nat.reduceSub, reduceEqDiff, Nat.reduceLT, reduceLeDiff, reduceToNat, Int.reduceLT, Int.reduceLE, Int.reduceEq, reduceIte, reduceCtorEq, subE, b1, b2, he, h]
        simp -implicitDefEqProofs (maxSteps := 10000000) (disch := omega) only [go_sem, Int.reduceAdd, Int.reduceSub, Int.reduceMul, dec_t, dec_f, Nat.reduceBEq, Nat.reduceBNe, reduceShiftRight, reduceAnd, Nat.reduceAdd, Nat.reduceSub, reduceEqDiff, Nat.reduceLT, reduceLeDiff, reduceToNat, Int.reduceLT, Int.reduceLE, Int.reduceEq, reduceIte, reduceCtorEq, hp]
      · have : w = [] := List.isEmpty_iff.1 he
        subst this
        simp -implicitDefEqProofs (maxSteps := 10000000) (disch := omega) only [go_sem, Int.reduceAdd, Int.reduceSub, Int.reduceMul, dec_t, dec_f, Nat.reduceBEq, Nat.reduceBNe, reduceShiftRight, reduceAnd, Nat.reduceAdd, Nat.reduceSub, reduceEqDiff, Nat.reduceLT, reduceLeDiff, reduceToNat, Int.reduceLT, Int.reduceLE, Int.reduceEq, reduceIte, reduceCtorEq, p1] at h
        simp -implicitDefEqProofs (maxSteps := 10000000) (disch := omega) only [go_sem, Int.reduceAdd, Int.reduceSub, Int.reduceMul, dec_t, dec_f, Nat.reduceBEq, Nat.reduceBNe, reduceShiftRight, reduceAnd, Nat.reduceAdd, Nat.reduceSub, reduceEqDiff, Nat.reduceLT, reduceLeDiff, reduceToNat, Int.reduceLT, Int.reduceLE, Int.reduceEq, reduceIte, reduceCtorEq, subE, b1, b2, h]
        simp -implicitDefEqProofs (maxSteps := 10000000) (disch := omega) only [go_sem, Int.reduceAdd, Int.reduceSub, Int.reduceMul, dec_t, dec_f, Nat.reduceBEq, Nat.reduceBNe, reduceShiftRight, reduceAnd, Nat.reduceAdd, Nat.reduceSub, reduceEqDiff, Nat.reduceLT, reduceLeDiff, reduceToNat, Int.reduceLT, Int.reduceLE, Int.reduceEq, reduceIte, reduceCtorEq, hp]
set_option maxRecDepth 10000
set_option maxHeartbeats 4000000
attribute [go_sem] t43
@[go_sem] theorem t44 (f : Fo) : pureCall C 44 [(.agg [.lit (.int .i64 (kind f)), .str (bs (name f)), .str (bs (value f)), .str (bs (ini f)), .sl (List.map encS (any f)), .str (bs (fin f)), .lit (.bool (hi f)), .lit (.bool (hf f)), .str (bs (rule f)), .lit (.bool (dn f)), .sl (List.map encO (kids f))])] = some (.one (.d (encE (extE f)))) := by
  rw [p44]
  cases b1 : List.beq (bs (rule f)) [] <;> cases b2 : List.beq (bs (name f)) [] <;> cases b3 : dn f <;> (simp -implicitDefEqProofs (maxSteps := 10000000) (disch := omega) only [go_sem, Int.reduceAdd, Int.reduceSub, Int.reduceMul, dec_t, dec_f, Nat.reduceBEq, Nat.reduceBNe, reduceShiftRight, reduceAnd, Nat.reduceAdd, Nat.reduceSub, reduceEqDiff, Nat.reduceLT, reduceLeDiff, reduceToNat, Int.reduceLT, Int.reduceLE, Int.reduceEq, reduceIte, reduceCtorEq, b1, b2, b3, extE, exs]) <;> (first | done | rfl)
inductive KOk : Fo → Prop where
  | mk (f : Fo) (h0 : 0 ≤ kind f) (h1 : kind f ≤ 30) (hk : ∀ g ∈ kids f, KOk g) : KOk f
theorem t23k (f : Fo) (J : D) (IH : ∀ g ∈ kids f, pureCall C 23 [(.agg [.lit (.int .i64 (kind g)), .str (bs (name g)), .str (bs (value g)), .str (bs (ini g)), .sl (List.map encS (any g)), .str (bs (fin g)), .lit (.bool (hi g)), .lit (.bool (hf g)), .str (bs (rule g)), .lit (.bool (dn g)), .sl (List.map encO (kids g))])] = some (.one (.d (.agg [.lit (.int .i64 (cls (laidE g))), .lit (.bool (made (laidE g))), .lit (.int .i64 (num (laidE g))), .str (bs (cont (laidE g))), .sl (List.map encE (els (laidE g)))])))) : ∀ (r' : List Fo) (acc : List Eo) (j : Nat) (x : Int), x = j → acc.length + r'.length ≤ 2 ^ 30 → (kids f).drop j = r' → acc.isEmpty = false →
      ∃ x', n23_23 ⟨[(1, .ptr 0 1 0 0), (2, .ptr 1 1 0 0), (3, .sref 3 acc.length 5 0 acc.length), (13, .d (.sl (List.map encO (kids f)))), (14, .d (.lit (.int .i64 ((kids f).length : Nat)))), (15, .d (.lit (.int .i64 x)))],
          [⟨11, [.d (.agg [.lit (.int .i64 (kind f)), .str (bs (name f)), .str (bs (value f)), .str (bs (ini f)), .sl (List.map encS (any f)), .str (bs (fin f)), .lit (.bool (hi f)), .lit (.bool (hf f)), .str (bs (rule f)), .lit (.bool (dn f)), .sl (List.map encO (kids f))])], false, false, false⟩, ⟨5, [.agg [.d (.lit (.int .i64 0)), .d (.lit (.bool false)), .d (.lit (.int .i64 0)), .d (.str []), .snil]], false, false, false⟩, ⟨11, [.d J], false, false, false⟩, ⟨5, List.map AV.d (List.map encE acc), true, true, false⟩]⟩ =
        some (.exit 1, ⟨[(1, .ptr 0 1 0 0), (2, .ptr 1 1 0 0), (3, .sref 3 ((acc ++ (r'.map laidE))).length 5 0 ((acc ++ (r'.map laidE))).length), (13, .d (.sl (List.map encO (kids f)))), (14, .d (.lit (.int .i64 ((kids f).length : Nat)))), (15, x'), (16, .d (.lit (.bool false)))],
          [⟨11, [.d (.agg [.lit (.int .i64 (kind f)), .str (bs (name f)), .str (bs (value f)), .str (bs (ini f)), .sl (List.map encS (any f)), .str (bs (fin f)), .lit (.bool (hi f)), .lit (.bool (hf f)), .str (bs (rule f)), .lit (.bool (dn f)), .sl (List.map encO (kids f))])], false, false, false⟩, ⟨5, [.agg [.d (.lit (.int .i64 0)), .d (.lit (.bool false)), .d (.lit (.int .i64 0)), .d (.str []), .snil]], false, false, false⟩, ⟨11, [.d J], false, false, false⟩, ⟨5, List.map AV.d (List.map encE ((acc ++ (r'.map laidE)))), true, true, false⟩]⟩) := by
  intro r'
  induction r' with
  | nil =>
    intro acc j x hx hl hd he
    have hd := drop_nil hd
    have hl2 := kids_le f
    refine ⟨.d (.lit (.int .i64 x)), ?_⟩
    rw [r_n23_23, show (acc ++ (List.map laidE [])) = acc from List.append_nil _]
    simp -implicitDefEqProofs (maxSteps := 10000000) (disch := omega) only [go_sem, Int.reduceAdd, Int.reduceSub, Int.reduceMul, dec_t, dec_f, Nat.reduceBEq, Nat.reduceBNe, reduceShiftRight, reduceAnd, Nat.reduceAdd, Nat.reduceSub, reduceEqDiff, Nat.reduceLT, reduceLeDiff, reduceToNat, Int.reduceLT, Int.reduceLE, Int.reduceEq, reduceIte, reduceCtorEq, he]
    (first | done | rfl)
  | cons a' r' ih =>
    intro acc j x hx hl hd he
    simp only [List.length_cons] at hl
    obtain ⟨g1, g2, g3, g4⟩ := drop_cons hd
    have hl2 := kids_le f
    have hc := IH a' g4
    have hnat : Int.toNat x = j := by omega
    obtain ⟨x', h⟩ := ih (acc ++ [laidE a']) (j + 1) (x + 1) (by omega) (by show (acc ++ [laidE a']).length + _ ≤ _; rw [List.length_append]; simp only [List.length_cons, List.length_nil]; omega) g3 (c_emp3 _ _ _)
    refine ⟨x', ?_⟩
    rw [r_n23_23]
    rw [show ((acc ++ [laidE a']) ++ (List.map laidE r')) = (acc ++ (List.map laidE (a' :: r'))) from List.append_assoc acc [laidE a'] _] at h
    generalize (acc ++ (List.map laidE (a' :: r'))) = w at h ⊢
    simp -implicitDefEqProofs (maxSteps := 10000000) (disch := omega) only [go_sem, Int.reduceAdd, Int.reduceSub, Int.reduceMul, dec_t, dec_f, Nat.reduceBEq, Nat.reduceBNe, reduceShiftRight, reduceAnd, Nat.reduceAdd, Nat.reduceSub, reduceEqDiff, Nat.reduceLT, reduceLeDiff, reduceToNat, Int.reduceLT, Int.reduceLE, Int.reduceEq, reduceIte, reduceCtorEq] at h
    simp -implicitDefEqProofs (maxSteps := 10000000) (disch := omega) only [go_sem, Int.reduceAdd, Int.reduceSub, Int.reduceMul, dec_t, dec_f, Nat.reduceBEq, Nat.reduceBNe, reduceShiftRight, reduceAnd, Nat.reduceAdd, Nat.reduceSub, reduceEqDiff, Nat.reduceLT, reduceLeDiff, reduceToNat, Int.reduceLT, Int.reduceLE, Int.reduceEq, reduceIte, reduceCtorEq, he, g2, hnat, hc, h]
theorem t23g (f : Fo) (hk : kind f = 0 ∨ kind f = 1 ∨ kind f = 2) (IH : ∀ g ∈ kids f, pureCall C 23 [(.agg [.lit (.int .i64 (kind g)), .str (bs (name g)), .str (bs (value g)), .str (bs (ini g)), .sl (List.map encS (any g)), .str (bs (fin g)), .lit (.bool (hi g)), .lit (.bool (hf g)), .str (bs (rule g)), .lit (.bool (dn g)), .sl (List.map encO (kids g))])] = some (.one (.d (.agg [.lit (.int .i64 (cls (laidE g))), .lit (.bool (made (laidE g))), .lit (.int .i64 (num (laidE g))), .str (bs (cont (laidE g))), .sl (List.map encE (els (laidE g)))])))) : pureCall C 23 [(.agg [.lit (.int .i64 (kind f)), .str (bs (name f)), .str (bs (value f)), .str (bs (ini f)), .sl (List.map encS (any f)), .str (bs (fin f)), .lit (.bool (hi f)), .lit (.bool (hf f)), .str (bs (rule f)), .lit (.bool (dn f)), .sl (List.map encO (kids f))])] = some (.one (.d (encE (laidE f)))) := by
  have hl := kids_le f
  have hR := laidE_eq f
  rw [if_pos hk] at hR
  have hks : kids f = [] ∨ ∃ a r, kids f = a :: r := by
    cases kids f with
    | nil => exact .inl rfl
    | cons a r => exact .inr ⟨a, r, rfl⟩
  rcases hks with hks | ⟨a, r, hks⟩
  · rw [hks] at hR
    rw [p23, hR]
    rcases hk with hk | hk | hk <;> (simp -implicitDefEqProofs (maxSteps := 10000000) (disch := omega) only [go_sem, Int.reduceAdd, Int.reduceSub, Int.reduceMul, dec_t, dec_f, Nat.reduceBEq, Nat.reduceBNe, reduceShiftRight, reduceAnd, Nat.reduceAdd, Nat.reduceSub, reduceEqDiff, Nat.reduceLT, reduceLeDiff, reduceToNat, Int.reduceLT, Int.reduceLE, Int.reduceEq, reduceIte, reduceCtorEq, hk, hks]) <;> rw [r_n23_23] <;> (simp -implicitDefEqProofs (maxSteps := 10000000) (disch := omega) only [go_sem, Int.reduceAdd, Int.reduceSub, Int.reduceMul, dec_t, dec_f, Nat.reduceBEq, Nat.reduceBNe, reduceShiftRight, reduceAnd, Nat.reduceAdd, Nat.reduceSub, reduceEqDiff, Nat.reduceLT, reduceLeDiff, reduceToNat, Int.reduceLT, Int.reduceLE, Int.reduceEq, reduceIte, reduceCtorEq, hk, hks]) <;> (first | done | rfl)
  · obtain ⟨g1, g2, g3, g4⟩ := drop_cons (l := kids f) (j := 0) hks
    have hc := IH a g4
    obtain ⟨x', h⟩ := t23k f (.agg [.lit (.int .i64 (kind a)), .str (bs (name a)), .str (bs (value a)), .str (bs (ini a)), .sl (List.map encS (any a)), .str (bs (fin a)), .lit (.bool (hi a)), .lit (.bool (hf a)), .str (bs (rule a)), .lit (.bool (dn a)), .sl (List.map encO (kids a))]) IH r [laidE a] 1 1 rfl (by rw [hks] at hl; simp only [List.length_cons, List.length_nil] at hl ⊢; omega) g3 rfl
    rw [show ([laidE a] ++ (List.map laidE r)) = List.map laidE (kids f) by rw [hks]; rfl] at h
    have hw : (List.map laidE (kids f)).length ≤ 2 ^ 30 := by simpa using hl
    have hwe : (List.map laidE (kids f)).isEmpty = false := by rw [hks]; rfl
    generalize List.map laidE (kids f) = w at h hR hw hwe
    simp -implicitDefEqProofs (maxSteps := 10000000) (disch := omega) only [go_sem, Int.reduceAdd, Int.reduceSub, Int.reduceMul, dec_t, dec_f, Nat.reduceBEq, Nat.reduceBNe, reduceShiftRight, reduceAnd, Nat.reduceAdd, Nat.reduceSub, reduceEqDiff, Nat.reduceLT, reduceLeDiff, reduceToNat, Int.reduceLT, Int.reduceLE, Int.reduceEq, reduceIte, reduceCtorEq, hwe] at h
    have hels := mk_els 2 true (kind f) b0 w hw
    rw [p23, hR, encE_mk _ _ _ _ _ hw]
    rcases hk with hk | hk | hk <;> rw [hk] at h ⊢ <;> (simp -implicitDefEqProofs (maxSteps := 10000000) (disch := omega) only [go_sem, Int.reduceAdd, Int.reduceSub, Int.reduceMul, dec_t, dec_f, Nat.reduceBEq, Nat.reduceBNe, reduceShiftRight, reduceAnd, Nat.reduceAdd, Nat.reduceSub, reduceEqDiff, Nat.reduceLT, reduceLeDiff, reduceToNat, Int.reduceLT, Int.reduceLE, Int.reduceEq, reduceIte, reduceCtorEq, hk]) <;> rw [r_n23_23] <;> (simp -implicitDefEqProofs (maxSteps := 10000000) (disch := omega) only [go_sem, Int.reduceAdd, Int.reduceSub, Int.reduceMul, dec_t, dec_f, Nat.reduceBEq, Nat.reduceBNe, reduceShiftRight, reduceAnd, Nat.reduceAdd, Nat.reduceSub, reduceEqDiff, Nat.reduceLT, reduceLeDiff, reduceToNat, Int.reduceLT, Int.reduceLE, Int.reduceEq, reduceIte, reduceCtorEq, hk, hc, g2, h, hwe]) <;> (first | done | rfl)
set_option maxRecDepth 10000
set_option maxHeartbeats 4000000
theorem KOk.inv {f : Fo} (h : KOk f) : 0 ≤ kind f ∧ kind f ≤ 30 ∧ ∀ g ∈ kids f, KOk g := by
  cases h with | mk _ h0 h1 hk => exact ⟨h0, h1, hk⟩
theorem t23 (f : Fo) (hk : KOk f) : pureCall C 23 [(.agg [.lit (.int .i64 (kind f)), .str (bs (name f)), .str (bs (value f)), .str (bs (ini f)), .sl (List.map encS (any f)), .str (bs (fin f)), .lit (.bool (hi f)), .lit (.bool (hf f)), .str (bs (rule f)), .lit (.bool (dn f)), .sl (List.map encO (kids f))])] = some (.one (.d (encE (laidE f)))) := by
  obtain ⟨h0, h30, hk⟩ := hk.inv
  have IH : ∀ g ∈ kids f, pureCall C 23 [(.agg [.lit (.int .i64 (kind g)), .str (bs (name g)), .str (bs (value g)), .str (bs (ini g)), .sl (List.map encS (any g)), .str (bs (fin g)), .lit (.bool (hi g)), .lit (.bool (hf g)), .str (bs (rule g)), .lit (.bool (dn g)), .sl (List.map encO (kids g))])] = some (.one (.d (.agg [.lit (.int .i64 (cls (laidE g))), .lit (.bool (made (laidE g))), .lit (.int .i64 (num (laidE g))), .str (bs (cont (laidE g))), .sl (List.map encE (els (laidE g)))]))) := fun g hg => by rw [← encE_eq]; exact t23 g (hk g hg)
  by_cases a : kind f = 0 ∨ kind f = 1 ∨ kind f = 2
  · exact t23g f a IH
  · have hR := laidE_eq f
    rw [if_neg a] at hR
    have k0 : ¬ kind f = 0 := fun e => a (.inl e)
    have k1 : ¬ kind f = 1 := fun e => a (.inr (.inl e))
    have k2 : ¬ kind f = 2 := fun e => a (.inr (.inr e))
    clear IH hk
    by_cases k7 : kind f = 7
    · rw [if_pos k7] at hR
      rw [p23, hR]
      simp -implicitDefEqProofs (disch := omega) only [go_sem, Int.reduceAdd, Int.reduceSub, Int.reduceMul, dec_t, dec_f, Nat.reduceBEq, Nat.reduceBNe, reduceShiftRight, reduceAnd, Nat.reduceAdd, Nat.reduceSub, reduceEqDiff, Nat.reduceLT, reduceLeDiff, reduceToNat, Int.reduceLT, Int.reduceLE, Int.reduceEq, reduceIte, reduceCtorEq, k7]
      (first | done | rfl)
    · rw [if_neg k7] at hR
      by_cases k4 : kind f = 4
      · rw [if_pos k4] at hR
        have h43 := t43 f
        rw [k4] at h43
        rw [p23, hR]
        simp -implicitDefEqProofs (disch := omega) only [go_sem, Int.reduceAdd, Int.reduceSub, Int.reduceMul, dec_t, dec_f, Nat.reduceBEq, Nat.reduceBNe, reduceShiftRight, reduceAnd, Nat.reduceAdd, Nat.reduceSub, reduceEqDiff, Nat.reduceLT, reduceLeDiff, reduceToNat, Int.reduceLT, Int.reduceLE, Int.reduceEq, reduceIte, reduceCtorEq, k4, h43]
        (first | done | rfl)
      · rw [if_neg k4] at hR
        by_cases k9 : kind f = 9
        · rw [if_pos k9] at hR
          have h44 := t44 f
          rw [k9] at h44
          rw [p23, hR]
          simp -implicitDefEqProofs (disch := omega) only [go_sem, Int.reduceAdd, Int.reduceSub, Int.reduceMul, dec_t, dec_f, Nat.reduceBEq, Nat.reduceBNe, reduceShiftRight, reduceAnd, Nat.reduceAdd, Nat.reduceSub, reduceEqDiff, Nat.reduceLT, reduceLeDiff, reduceToNat, Int.reduceLT, Int.reduceLE, Int.reduceEq, reduceIte, reduceCtorEq, k9, h44]
          (first | done | rfl)
        · rw [if_neg k9] at hR
          rw [p23, hR]
          simp -implicitDefEqProofs (disch := omega) only [go_sem, Int.reduceAdd, Int.reduceSub, Int.reduceMul, dec_t, dec_f, Nat.reduceBEq, Nat.reduceBNe, reduceShiftRight, reduceAnd, Nat.reduceAdd, Nat.reduceSub, reduceEqDiff, Nat.reduceLT, reduceLeDiff, reduceToNat, Int.reduceLT, Int.reduceLE, Int.reduceEq, reduceIte, reduceCtorEq]
          (first | done | rfl)
termination_by sz f
decreasing_by exact kids_lt hg
theorem pOne_kind (f : Fo) (h : pOne f = true) : 0 ≤ kind f ∧ kind f ≤ 30 := by
  unfold pOne at h
  by_cases k0 : kind f = 0
  · omega
  by_cases k1 : kind f = 1
  · omega
  by_cases k2 : kind f = 2
  · omega
  by_cases k3 : kind f = 3
  · omega
  by_cases k4 : kind f = 4
  · omega
  by_cases k5 : kind f = 5
  · omega
  by_cases k6 : kind f = 6
  · omega
  by_cases k7 : kind f = 7
  · omega
  by_cases k8 : kind f = 8
  · omega
  by_cases k9 : kind f = 9
  · omega
  simp only [k0, k1, k2, k3, k4, k5, k6, k7, k8, k9, if_false] at h
  cases h
theorem KOk_all (f : Fo) (h : allF f = true) : KOk f := by
  rw [allF_eq] at h
  simp only [Bool.and_eq_true, Bool.not_eq_true', List.any_eq_false, Bool.not_eq_true] at h
  have hp := pOne_kind f h.1
  refine .mk f hp.1 hp.2 fun g hg => KOk_all g ?_
  have := h.2 g hg
  simpa using this
termination_by sz f
decreasing_by exact kids_lt hg
def zE : Eo := mkE 0 false 0 b0 []
noncomputable def layR (f : Fo) : PR := if chkF f then .tup (.d (encE (laidE f))) [.lit (.int .i64 0)] else .tup (.d (encE zE)) [.lit (.int .i64 240)]
theorem t9 (f : Fo) : pureCall C 9 [(.agg [.lit (.int .i64 (kind f)), .str (bs (name f)), .str (bs (value f)), .str (bs (ini f)), .sl (List.map encS (any f)), .str (bs (fin f)), .lit (.bool (hi f)), .lit (.bool (hf f)), .str (bs (rule f)), .lit (.bool (dn f)), .sl (List.map encO (kids f))])] = some (layR f) := by
  unfold layR
  cases b : chkF f
  · rw [p9]
    simp -implicitDefEqProofs (disch := omega) only [go_sem, Int.reduceAdd, Int.reduceSub, Int.reduceMul, dec_t, dec_f, Nat.reduceBEq, Nat.reduceBNe, reduceShiftRight, reduceAnd, Nat.reduceAdd, Nat.reduceSub, reduceEqDiff, Nat.reduceLT, reduceLeDiff, reduceToNat, Int.reduceLT, Int.reduceLE, Int.reduceEq, reduceIte, reduceCtorEq, b]
    (first | done | rfl)
  · have hb := b
    unfold chkF at hb
    simp only [Bool.and_eq_true] at hb
    have hc := t23 f (KOk_all f hb.2)
    rw [encE_eq] at hc
    rw [p9]
    simp -implicitDefEqProofs (disch := omega) only [go_sem, Int.reduceAdd, Int.reduceSub, Int.reduceMul, dec_t, dec_f, Nat.reduceBEq, Nat.reduceBNe, reduceShiftRight, reduceAnd, Nat.reduceAdd, Nat.reduceSub, reduceEqDiff, Nat.reduceLT, reduceLeDiff, reduceToNat, Int.reduceLT, Int.reduceLE, Int.reduceEq, reduceIte, reduceCtorEq, b, hc]
    (first | done | rfl)
set_option maxRecDepth 10000
set_option maxHeartbeats 1000000
theorem low_id {l : List UInt8} (h : ∀ c ∈ l, ¬ (65 ≤ c.toNat ∧ c.toNat ≤ 90)) : lowL l = l := by
  unfold lowL
  conv => rhs; rw [← List.map_id l]
  exact List.map_congr_left fun c hc => low_no (h c hc)
theorem wordC_low {c : UInt8} (h : wordC c = true) : ¬ (65 ≤ c.toNat ∧ c.toNat ≤ 90) := by
  unfold wordC small at h
  simp only [Bool.or_eq_true, Bool.and_eq_true, decide_eq_true_eq, beq_iff_eq] at h
  omega
theorem word_low {l : List UInt8} (h : word l = true) : lowL l = l := by
  refine low_id fun c hc => ?_
  cases l with
  | nil => cases hc
  | cons a r =>
    unfold word at h
    simp only [Bool.and_eq_true, decide_eq_true_eq] at h
    rcases List.mem_cons.1 hc with rfl | hc
    · have := h.1.2
      unfold small at this
      simp only [Bool.and_eq_true, decide_eq_true_eq] at this
      omega
    · exact wordC_low (List.all_eq_true.1 h.2 c hc)
theorem lowB_id {s : Bs} (h : lowL (bs s) = bs s) : lowB s = s := Subtype.ext h
theorem low_nil : lowB b0 = b0 := rfl
theorem Fo_ext {f g : Fo} (h1 : kind f = kind g) (h2 : name f = name g) (h3 : value f = value g) (h4 : ini f = ini g) (h5 : any f = any g) (h6 : fin f = fin g) (h7 : hi f = hi g) (h8 : hf f = hf g) (h9 : rule f = rule g) (h10 : dn f = dn g) (h11 : kids f = kids g) : f = g := by
  obtain ⟨⟨k, n, v, i, a, e, x, y, r, d, ks⟩, hf⟩ := f
  obtain ⟨⟨k', n', v', i', a', e', x', y', r', d', ks'⟩, hg⟩ := g
  have hk : ∀ (k : Int) (n v i : Bs) (a : List Bs) (e : Bs) (x y : Bool) (r : Bs) (d : Bool) (ks : List F) (h : OkF (.mk k n v i a e x y r d ks)), (kids ⟨.mk k n v i a e x y r d ks, h⟩).map (fun (z : Fo) => z.1) = ks := by
    intro k n v i a e x y r d ks h
    show (ks.attach.map _).map _ = ks
    rw [List.map_map]
    exact List.attach_map_subtype_val ks
  have h12 : ks = ks' := (hk k n v i a e x y r d ks hf).symm.trans ((congrArg (fun (l : List Fo) => l.map (fun (z : Fo) => z.1)) h11).trans (hk k' n' v' i' a' e' x' y' r' d' ks' hg))
  have e1 : k = k' := h1
  have e2 : n = n' := h2
  have e3 : v = v' := h3
  have e4 : i = i' := h4
  have e5 : a = a' := h5
  have e6 : e = e' := h6
  have e7 : x = x' := h7
  have e8 : y = y' := h8
  have e9 : r = r' := h9
  have e10 : d = d' := h10
  subst e1 e2 e3 e4 e5 e6 e7 e8 e9 e10 h12
  rfl
theorem gPc_tl (f : Bs) (y : Bool) : ∀ (A : List Bs) (q : Pc), gPc (A.map p1 ++ (if y then [mkE 2 false 2 f []] else [])) q = ⟨q.i, q.a ++ A, if y then f else q.f, q.x, q.y || y⟩
  | [], q => by
    cases y
    · simp [gPc]
    · simp [gPc, mk_num, mk_cont]
  | a :: A, q => by
    have n0 : ¬ num (p1 a) = 0 := by show ¬ (1 : Int) = 0; omega
    have n1 : num (p1 a) = 1 := rfl
    rw [List.map_cons, List.cons_append, gPc]
    simp only [n1, Int.reduceEq, if_false, if_true]
    rw [gPc_tl f y A]
    simp [p1, mk_cont]
theorem gPc_pcl (p : Pc) (h1 : p.x = false → p.i = b0) (h2 : p.y = false → p.f = b0) : gPc (pcl p) pz = p := by
  obtain ⟨i, a, f, x, y⟩ := p
  unfold pcl
  simp only at h1 h2 ⊢
  cases x
  · rw [h1 rfl]
    simp only [Bool.false_eq_true, if_false, List.nil_append]
    rw [gPc_tl]
    cases y
    · rw [h2 rfl]; rfl
    · rfl
  · simp only [if_true, List.cons_append, List.nil_append]
    rw [gPc]
    simp only [mk_num, if_true, mk_cont]
    rw [gPc_tl]
    cases y
    · rw [h2 rfl]; rfl
    · rfl
theorem gMo_exl (q : Mo) (h1 : lowB q.rule = q.rule) (h2 : lowB q.name = q.name) : gMo (exl q) mz = q := by
  obtain ⟨rule, name, value, dn⟩ := q
  simp only at h1 h2
  unfold exl
  cases b1 : List.beq (bs rule) [] <;> cases b2 : List.beq (bs name) [] <;> cases dn <;> simp only [b1, b2, Bool.false_eq_true, if_false, if_true, List.nil_append, List.append_nil, List.cons_append, gMo, mk_num, mk_cont, Int.reduceEq, h1, h2, mz]
  all_goals first
    | rfl
    | (rw [show rule = b0 from bs_nil b1, show name = b0 from bs_nil b2] <;> rfl)
    | (rw [show rule = b0 from bs_nil b1] <;> rfl)
    | (rw [show name = b0 from bs_nil b2] <;> rfl)
theorem sm1_t (n : Int) (s : Bs) (h : n ≠ 4 ∨ s = bff) (h2 : n = 1 ∨ n = 2 → lowB s = s) : sm1 (mkE 2 false n s []) = mkE 2 false n s [] := by
  unfold sm1
  show mkE 2 false n (if (decide (n = 4) && decide ((bs s).length = 1) && !(List.beq (bs s) [0])) = true then bff else if n = 1 ∨ n = 2 then lowB s else s) (els (mkE 2 false n s [])) = _
  rw [mk_els0]
  congr 1
  rcases h with h | h
  · rw [if_neg (by simp [h])]
    by_cases d : n = 1 ∨ n = 2
    · rw [if_pos d]; exact h2 d
    · rw [if_neg d]
  · by_cases c : (decide (n = 4) && decide ((bs s).length = 1) && !(bs s).beq [0]) = true
    · rw [if_pos c]; exact h.symm
    · rw [if_neg c]
      by_cases d : n = 1 ∨ n = 2
      · rw [if_pos d]; exact h2 d
      · rw [if_neg d]
theorem smX_t (n : Int) (s : Bs) (r : List Eo) (h : n ≠ 4 ∨ s = bff) (h2 : n = 1 ∨ n = 2 → lowB s = s) : smX (mkE 2 false n s [] :: r) = mkE 2 false n s [] :: smX r := by
  rw [smX, if_neg, sm1_t n s h h2]
  intro q
  simp only [Bool.and_eq_true, mk_num, mk_cont] at q
  rcases h with h | h
  · exact h (of_decide_eq_true q.1.1.1.1.2)
  · have := q.1.1.1.2
    rw [h] at this
    cases this
theorem smX_exl (q : Mo) (h1 : lowB q.rule = q.rule) (h2 : lowB q.name = q.name) : smX (exl q) = exl q := by
  have e1 : ∀ r, smX (mkE 2 false 1 q.rule [] :: r) = mkE 2 false 1 q.rule [] :: smX r := fun r => smX_t 1 _ r (.inl (by decide)) (fun _ => h1)
  have e2 : ∀ r, smX (mkE 2 false 2 q.name [] :: r) = mkE 2 false 2 q.name [] :: smX r := fun r => smX_t 2 _ r (.inl (by decide)) (fun _ => h2)
  have e3 : ∀ r, smX (mkE 2 false 3 q.value [] :: r) = mkE 2 false 3 q.value [] :: smX r := fun r => smX_t 3 _ r (.inl (by decide)) (fun h => by omega)
  have e4 : ∀ r, smX (mkE 2 false 4 bff [] :: r) = mkE 2 false 4 bff [] :: smX r := fun r => smX_t 4 _ r (.inr rfl) (fun h => by omega)
  unfold exl
  cases List.beq (bs q.rule) [] <;> cases List.beq (bs q.name) [] <;> cases q.dn <;> simp only [Bool.false_eq_true, if_false, if_true, List.nil_append, List.append_nil, List.cons_append, e1, e2, e3, e4, show smX [] = [] from rfl]
set_option maxRecDepth 10000
set_option maxHeartbeats 1000000
theorem pE_inv {f : Fo} (h : pEmptyO f = true) : ini f = b0 ∧ any f = [] ∧ fin f = b0 ∧ hi f = false ∧ hf f = false := by
  unfold pEmptyO pEmpty at h
  simp only [Bool.and_eq_true, Bool.not_eq_true', List.isEmpty_iff] at h
  exact ⟨bs_nil h.1.1.1.1, h.1.1.2, bs_nil h.1.1.1.2, h.1.2, h.2⟩
theorem nv_inv {f : Fo} (h : nvO f = true) : name f = b0 ∧ value f = b0 := by
  unfold nvO at h
  rw [beq_app] at h
  simp only [Bool.and_eq_true] at h
  exact ⟨bs_nil h.1, bs_nil h.2⟩
theorem leaf_inv {f : Fo} (h : leafO f = true) : kids f = [] := by
  unfold leafO at h
  exact List.length_eq_zero_iff.1 (of_decide_eq_true h)
theorem wn_inv {f : Fo} (h : wnO f = true) : lowB (name f) = name f := lowB_id (word_low h)
theorem w0_inv {s : Bs} (h : (List.beq (bs s) [] || word (bs s)) = true) : lowB s = s := by
  rw [Bool.or_eq_true] at h
  rcases h with h | h
  · rw [bs_nil h]; rfl
  · exact lowB_id (word_low h)
theorem back_g {f : Fo} (k : kind f = 0 ∨ kind f = 1 ∨ kind f = 2) (h : pOne f = true) : mkF (kind f) b0 b0 b0 [] b0 false false b0 false (kids f) = f := by
  have h' : brO f = true ∧ dn f = false ∧ pEmptyO f = true ∧ nvO f = true := by
    unfold pOne at h
    rcases k with k | k | k <;> simp only [k, Int.reduceEq, if_false, if_true, Bool.and_eq_true, Bool.not_eq_true'] at h
    · exact ⟨h.1.1.1, h.1.1.2, h.1.2, h.2⟩
    · exact ⟨h.1.1.1, h.1.1.2, h.1.2, h.2⟩
    · exact ⟨h.1.1.1.1, h.1.1.1.2, h.1.1.2, h.1.2⟩
  obtain ⟨a1, a2, a3, a4⟩ := h'
  obtain ⟨b1, b2, b3, b4, b5⟩ := pE_inv a3
  obtain ⟨c1, c2⟩ := nv_inv a4
  refine Fo_ext rfl c1.symm c2.symm b1.symm ?_ b3.symm b4.symm b5.symm (bs_nil a1).symm a2.symm ?_
  · rw [mkf_any0, b2]
  · rw [mkf_kids _ _ _ _ _ _ _ _ _ _ _ (kids_le f)]
theorem back_7 {f : Fo} (k : kind f = 7) (h : pOne f = true) : mkF 7 (lowB (name f)) b0 b0 [] b0 false false b0 false [] = f := by
  unfold pOne at h
  simp only [k, Int.reduceEq, if_false, if_true, Bool.and_eq_true, Bool.not_eq_true'] at h
  obtain ⟨⟨⟨⟨⟨a1, a2⟩, a3⟩, a4⟩, a5⟩, a6⟩ := h
  obtain ⟨b1, b2, b3, b4, b5⟩ := pE_inv a3
  refine Fo_ext k.symm (wn_inv a5) (bs_nil a6).symm b1.symm ?_ b3.symm b4.symm b5.symm (bs_nil a1).symm a2.symm ?_
  · rw [mkf_any0, b2]
  · rw [mkf_kids0, leaf_inv a4]
theorem back_o {f : Fo} (k : kind f = 3 ∨ kind f = 5 ∨ kind f = 6 ∨ kind f = 8) (h : pOne f = true) : lowB (name f) = name f ∧ mkF (kind f) (lowB (name f)) (value f) b0 [] b0 false false b0 false [] = f := by
  have h' : brO f = true ∧ dn f = false ∧ pEmptyO f = true ∧ leafO f = true ∧ wnO f = true := by
    unfold pOne at h
    rcases k with k | k | k | k <;> simp only [k, Int.reduceEq, if_false, if_true, Bool.and_eq_true, Bool.not_eq_true'] at h <;> exact ⟨h.1.1.1.1.1, h.1.1.1.1.2, h.1.1.1.2, h.1.1.2, h.1.2⟩
  obtain ⟨a1, a2, a3, a4, a5⟩ := h'
  obtain ⟨b1, b2, b3, b4, b5⟩ := pE_inv a3
  refine ⟨wn_inv a5, Fo_ext rfl (wn_inv a5) rfl b1.symm ?_ b3.symm b4.symm b5.symm (bs_nil a1).symm a2.symm ?_⟩
  · rw [mkf_any0, b2]
  · rw [mkf_kids0, leaf_inv a4]
set_option maxRecDepth 10000
set_option maxHeartbeats 1000000
def pcO (f : Fo) : Pc := ⟨ini f, any f, fin f, hi f, hf f⟩
theorem pcs_pcl (f : Fo) : pcs f = pcl (pcO f) := rfl
theorem pcOk_inv {f : Fo} (h : pcOkO f = true) : (hi f = false → ini f = b0) ∧ (hf f = false → fin f = b0) := by
  unfold pcOkO pcOk at h
  simp only [Bool.and_eq_true, Bool.not_eq_true', beq_eq_false_iff_ne, ne_eq] at h
  obtain ⟨⟨⟨⟨_, _⟩, h3⟩, h4⟩, _⟩ := h
  constructor
  · intro q
    rw [q] at h3
    refine bs_nil ?_
    cases e : List.beq (bs (ini f)) []
    · rw [e] at h3; exact absurd rfl h3
    · rfl
  · intro q
    rw [q] at h4
    refine bs_nil ?_
    cases e : List.beq (bs (fin f)) []
    · rw [e] at h4; exact absurd rfl h4
    · rfl
theorem back_4 {f : Fo} (k : kind f = 4) (h : pOne f = true) : lowB (name f) = name f ∧ gPc (pcs f) pz = pcO f ∧ mkF 4 (name f) b0 (ini f) (any f) (fin f) (hi f) (hf f) b0 false [] = f := by
  unfold pOne at h
  simp only [k, Int.reduceEq, if_false, if_true, Bool.and_eq_true, Bool.not_eq_true'] at h
  obtain ⟨⟨⟨⟨⟨⟨a1, a2⟩, a4⟩, a5⟩, a6⟩, a7⟩, a8⟩ := h
  obtain ⟨c1, c2⟩ := pcOk_inv a7
  refine ⟨wn_inv a5, ?_, Fo_ext k.symm rfl (bs_nil a6).symm rfl ?_ rfl rfl rfl (bs_nil a1).symm a2.symm ?_⟩
  · rw [pcs_pcl, gPc_pcl _ c1 c2]
  · exact mkf_any _ _ _ _ _ _ _ _ _ _ _ (any_28 f)
  · rw [mkf_kids0, leaf_inv a4]
def moO (f : Fo) : Mo := ⟨rule f, name f, value f, dn f⟩
theorem exs_exl (f : Fo) : exs f = exl (moO f) := rfl
theorem back_9 {f : Fo} (k : kind f = 9) (h : pOne f = true) : lowB (rule f) = rule f ∧ lowB (name f) = name f ∧ mkF 9 (name f) (value f) b0 [] b0 false false (rule f) (dn f) [] = f := by
  unfold pOne at h
  simp only [k, Int.reduceEq, if_false, if_true, Bool.and_eq_true, Bool.not_eq_true'] at h
  obtain ⟨⟨⟨⟨⟨⟨a1, a2⟩, a3⟩, a4⟩, a5⟩, a6⟩, a7⟩ := h
  obtain ⟨b1, b2, b3, b4, b5⟩ := pE_inv a1
  refine ⟨w0_inv a4, w0_inv a3, Fo_ext k.symm rfl rfl b1.symm ?_ b3.symm b4.symm b5.symm rfl rfl ?_⟩
  · rw [mkf_any0, b2]
  · rw [mkf_kids0, leaf_inv a2]
theorem back : ∀ (l : Nat) (f : Fo), dep l f ≤ l → allF f = true → guessO l (laidE f) = f ∧ smallO l (laidE f) = laidE f
  | 0, f, hd, ha => by
    rw [dep] at hd
    omega
  | l + 1, f, hd, ha => by
    obtain ⟨hp, hk⟩ := allF_one ha
    have hdk := dep_kids hd
    rw [guessO, smallO]
    rcases pOne_ten hp with k | k | k | k | ⟨k, w⟩
    · have hl : laidE f = mkE 2 true (kind f) b0 ((kids f).map laidE) := by rw [laidE_eq, if_pos k]
      have he : els (laidE f) = (kids f).map laidE := by
        rw [hl]
        exact mk_els _ _ _ _ _ (by rw [List.length_map]; exact kids_le f)
      have hn : num (laidE f) = kind f := by rw [hl]; rfl
      have ih := fun g hg => back l g (hdk g hg) (hk g hg)
      have m1 : ((kids f).map laidE).map (guessO l) = kids f := by
        rw [List.map_map]
        conv => rhs; rw [← List.map_id (kids f)]
        exact List.map_congr_left fun g hg => (ih g hg).1
      have m2 : ((kids f).map laidE).map (smallO l) = (kids f).map laidE := by
        rw [List.map_map]
        exact List.map_congr_left fun g hg => (ih g hg).2
      rw [he, m1, m2]
      constructor
      · unfold guess1
        rw [hn, if_pos k]
        exact back_g k hp
      · unfold small1
        rw [hn, if_pos k]
        conv => rhs; rw [hl]
        rw [hl]
        rfl
    · have k0 : ¬ (kind f = 0 ∨ kind f = 1 ∨ kind f = 2) := by omega
      have hl : laidE f = mkE 2 false 7 (name f) [] := by rw [laidE_eq, if_neg k0, if_pos k]
      have hb := back_7 k hp
      have hn : lowB (name f) = name f := congrArg name hb
      rw [hl]
      constructor
      · unfold guess1
        rw [if_neg (by show ¬ ((7 : Int) = 0 ∨ (7 : Int) = 1 ∨ (7 : Int) = 2); omega), if_pos (by show (7 : Int) = 7; rfl)]
        exact hb
      · unfold small1
        rw [if_neg (by show ¬ ((7 : Int) = 0 ∨ (7 : Int) = 1 ∨ (7 : Int) = 2); omega), if_pos (by show (7 : Int) = 7; rfl), mk_els0]
        show mkE 2 false 7 (lowB (name f)) [] = _
        rw [hn]
    · have k0 : ¬ (kind f = 0 ∨ kind f = 1 ∨ kind f = 2) := by omega
      have hl : laidE f = mkE 2 true 4 b0 [mkE 0 false 4 (name f) [], mkE 0 true 16 b0 (pcs f)] := by rw [laidE_eq, if_neg k0, if_neg (by omega), if_pos k]; rfl
      obtain ⟨hn, hg, hb⟩ := back_4 k hp
      have he : els (laidE f) = [mkE 0 false 4 (name f) [], mkE 0 true 16 b0 (pcs f)] := by rw [hl]; exact mk_els2 _ _ _ _ _ _
      have n4 : num (laidE f) = 4 := by rw [hl]; rfl
      constructor
      · unfold guess1
        rw [if_neg (by omega), if_neg (by omega), if_pos n4, he]
        show mkF 4 (lowB (name f)) b0 (gPc (els (mkE 0 true 16 b0 (pcs f))) pz).i (gPc (els (mkE 0 true 16 b0 (pcs f))) pz).a (gPc (els (mkE 0 true 16 b0 (pcs f))) pz).f (gPc (els (mkE 0 true 16 b0 (pcs f))) pz).x (gPc (els (mkE 0 true 16 b0 (pcs f))) pz).y b0 false [] = f
        rw [mk_pcs, hg, hn]
        exact hb
      · unfold small1
        rw [if_neg (by omega), if_neg (by omega), if_neg (by omega), he, n4]
        conv => rhs; rw [hl]
        rw [hl]
        show mkE 2 true 4 b0 [mkE 0 false 4 (lowB (name f)) (els (mkE 0 false 4 (name f) [])), _] = _
        rw [mk_els0, hn]
    · have k0 : ¬ (kind f = 0 ∨ kind f = 1 ∨ kind f = 2) := by omega
      have hl : laidE f = mkE 2 true 9 b0 (exs f) := by rw [laidE_eq, if_neg k0, if_neg (by omega), if_neg (by omega), if_pos k]; rfl
      obtain ⟨h1, h2, hb⟩ := back_9 k hp
      have hlen : (exs f).length ≤ 2 ^ 30 := by
        unfold exs
        simp only [List.length_append]
        split <;> split <;> split <;> simp
      have he : els (laidE f) = exs f := by rw [hl]; exact mk_els _ _ _ _ _ hlen
      have n9 : num (laidE f) = 9 := by rw [hl]; rfl
      constructor
      · unfold guess1
        rw [if_neg (by omega), if_neg (by omega), if_neg (by omega), if_pos n9, he, exs_exl, gMo_exl _ h1 h2]
        exact hb
      · unfold small1
        rw [if_neg (by omega), if_neg (by omega), if_pos n9, he, exs_exl, smX_exl _ h1 h2, n9]
        conv => rhs; rw [hl]
        rw [hl]
        rfl
    · have k0 : ¬ (kind f = 0 ∨ kind f = 1 ∨ kind f = 2) := by omega
      have hl : laidE f = mkE 2 true (kind f) b0 [mkE 0 false 4 (name f) [], mkE 0 false 4 (value f) []] := by rw [laidE_eq, if_neg k0, if_neg (by omega), if_neg (by omega), if_neg (by omega)]
      obtain ⟨hn, hb⟩ := back_o k hp
      have he : els (laidE f) = [mkE 0 false 4 (name f) [], mkE 0 false 4 (value f) []] := by rw [hl]; exact mk_els2 _ _ _ _ _ _
      have nk : num (laidE f) = kind f := by rw [hl]; rfl
      constructor
      · unfold guess1
        rw [nk, if_neg k0, if_neg (by omega), if_neg (by omega), if_neg (by omega), he]
        exact hb
      · unfold small1
        rw [nk, if_neg k0, if_neg (by omega), if_neg (by omega), he]
        conv => rhs; rw [hl]
        rw [hl]
        show mkE 2 true (kind f) b0 [mkE 0 false 4 (lowB (name f)) (els (mkE 0 false 4 (name f) [])), _] = _
        rw [mk_els0, hn]
set_option maxRecDepth 10000
set_option maxHeartbeats 1000000
theorem pars_ge0 : ∀ (l : List Fo) (n : Nat), (∀ g ∈ l, ∀ m, m ≤ 60 → m + 1 ≤ par g m) → n ≤ pars l n
  | [], n, _ => Nat.le_refl _
  | g :: r, n, h => by
    have ih := pars_ge0 r (if n ≤ 60 then par g n else n) (fun x hx => h x (by simp [hx]))
    have e : pars (g :: r) n = pars r (if n ≤ 60 then par g n else n) := rfl
    rw [e]
    refine Nat.le_trans ?_ ih
    split
    · rename_i q
      have := h g (by simp) n q
      omega
    · exact Nat.le_refl _
theorem par_ge (g : Fo) (n : Nat) (h : n ≤ 60) : n + 1 ≤ par g n := by
  have := pars_ge0 (kids g) (n + 1) (fun x hx m hm => par_ge x m hm)
  rw [par_eq]
  omega
termination_by sz g
decreasing_by exact kids_lt hx
theorem pars_few : ∀ (l : List Fo) (n : Nat), pars l n ≤ 60 → n + l.length ≤ 60 ∧ ∀ g ∈ l, ∃ m, m ≤ 60 ∧ par g m ≤ 60
  | [], n, h => ⟨h, fun g hg => by cases hg⟩
  | g :: r, n, h => by
    have e : pars (g :: r) n = pars r (if n ≤ 60 then par g n else n) := rfl
    rw [e] at h
    by_cases q : n ≤ 60
    · rw [if_pos q] at h
      obtain ⟨h1, h2⟩ := pars_few r _ h
      have := par_ge g n q
      refine ⟨by simp only [List.length_cons]; omega, fun x hx => ?_⟩
      rcases List.mem_cons.1 hx with rfl | hx
      · exact ⟨n, q, by omega⟩
      · exact h2 x hx
    · rw [if_neg q] at h
      have := pars_ge0 r n (fun x _ m hm => par_ge x m hm)
      omega
theorem pcOk_six {f : Fo} (h : pcOkO f = true) : (any f).length ≤ 6 := by
  unfold pcOkO pcOk at h
  simp only [Bool.and_eq_true, decide_eq_true_eq] at h
  exact h.1.1.1.2
theorem Sm_0 (c : Int) (m : Bool) (n : Int) (t : Bs) : Sm (mkE c m n t []) := .mk _ (by rw [mk_els0]; simp) (fun g hg => by rw [mk_els0] at hg; cases hg)
theorem Sm_l {c : Int} {m : Bool} {n : Int} {t : Bs} {es : List Eo} (h : es.length ≤ 1000) (hk : ∀ g ∈ es, Sm g) : Sm (mkE c m n t es) :=
  .mk _ (by rw [mk_els _ _ _ _ _ (by omega)]; exact h) (fun g hg => by rw [mk_els _ _ _ _ _ (by omega)] at hg; exact hk g hg)
theorem Sm_laid (f : Fo) (ha : allF f = true) (hm : ∃ m, m ≤ 60 ∧ par f m ≤ 60) : Sm (laidE f) := by
  obtain ⟨hp, hk⟩ := allF_one ha
  obtain ⟨m, hm1, hm2⟩ := hm
  have hfew : pars (kids f) (m + 1) ≤ 60 := by
    rw [par_eq] at hm2
    omega
  obtain ⟨h1, h2⟩ := pars_few _ _ hfew
  have IH : ∀ g ∈ kids f, Sm (laidE g) := fun g hg => Sm_laid g (hk g hg) (h2 g hg)
  rw [laidE_eq]
  split
  · refine Sm_l (by rw [List.length_map]; omega) fun g hg => ?_
    obtain ⟨x, hx, rfl⟩ := List.mem_map.1 hg
    exact IH x hx
  · split
    · exact Sm_0 _ _ _ _
    · split
      · rename_i k
        have h6 : (any f).length ≤ 6 := by
          have hp := hp
          unfold pOne at hp
          simp only [k, Int.reduceEq, if_false, if_true, Bool.and_eq_true, Bool.not_eq_true'] at hp
          exact pcOk_six hp.1.2
        have hl : (pcs f).length ≤ 1000 := by
          unfold pcs
          simp only [List.length_append, List.length_map]
          split <;> split <;> simp <;> omega
        refine Sm_l (by simp) fun g hg => ?_
        simp only [List.mem_cons, List.not_mem_nil, or_false] at hg
        rcases hg with rfl | rfl
        · exact Sm_0 _ _ _ _
        · refine Sm_l hl fun x hx => ?_
          rw [pcs_pcl] at hx
          have := pcl_els _ x hx
          exact .mk _ (by rw [this]; simp) (fun g hg => by rw [this] at hg; cases hg)
      · split
        · have hx4 : (exs f).length ≤ 1000 := by
            unfold exs
            simp only [List.length_append]
            split <;> split <;> split <;> simp
          refine Sm_l hx4 fun x hx => ?_
          have : els x = [] := by
            unfold exs at hx
            simp only [List.mem_append, List.mem_singleton] at hx
            rcases hx with ((hx | hx) | hx) | hx
            · split at hx
              · cases hx
              · rw [List.mem_singleton.1 hx]; exact mk_els0 _ _ _ _
            · split at hx
              · cases hx
              · rw [List.mem_singleton.1 hx]; exact mk_els0 _ _ _ _
            · rw [hx]; exact mk_els0 _ _ _ _
            · split at hx
              · rw [List.mem_singleton.1 hx]; exact mk_els0 _ _ _ _
              · cases hx
          exact .mk _ (by rw [this]; simp) (fun g hg => by rw [this] at hg; cases hg)
        · refine Sm_l (by simp) fun g hg => ?_
          simp only [List.mem_cons, List.not_mem_nil, or_false] at hg
          rcases hg with rfl | rfl <;> exact Sm_0 _ _ _ _
termination_by sz f
decreasing_by exact kids_lt hg
theorem read_laid {f : Fo} (h : chkF f = true) : Sm (laidE f) ∧ readR (laidE f) = some f := by
  have hc := h
  unfold chkF at hc
  simp only [Bool.and_eq_true, decide_eq_true_eq] at hc
  obtain ⟨⟨hd, hn⟩, ha⟩ := hc
  have hs : Sm (laidE f) := by
    refine Sm_laid f ha ⟨0, by omega, ?_⟩
    unfold cnt8 at hn
    rw [if_neg (by omega)] at hn
    exact hn
  refine ⟨hs, ?_⟩
  obtain ⟨b1, b2⟩ := back 8 f hd ha
  rw [read_ref _ hs]
  unfold refR
  rw [b1, b2, h, eqE_t rfl]
  rfl
end Go.L25
