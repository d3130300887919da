/- Layer 25: the document's check of filters. Conditions: none. -/
import Derived.Test.YtjbaoopiffcigaaQM15
import Derived.Test.YtjbaoopiffcigaaQM12
import Derived.Test.YtjbaoopiffcigaaQM7
set_option linter.unusedVariables false
set_option linter.unusedSimpArgs false
namespace Go.L25
open Go Go.Eng Go.Proofs
set_option pp.deepTerms false
set_option pp.deepTerms.threshold 9
set_option maxRecDepth 10000
set_option maxHeartbeats 4000000

theorem t47 (f : Fo) : pureCall C 47 [(.agg [.lit (.int .i64 (kind f)), .str (bs (name f)), .str (bs (value f)), .str (bs (ini f)), .sl (List.map encS (any f)), .str (bs (fin f)), .lit (.bool (hi f)), .lit (.bool (hf f)), .str (bs (rule f)), .lit (.bool (dn f)), .sl (List.map encO (kids f))])] = some (tf (allF f)) := by
  have IH : ∀ g ∈ kids f, pureCall C 47 [(.agg [.lit (.int .i64 (kind g)), .str (bs (name g)), .str (bs (value g)), .str (bs (ini g)), .sl (List.map encS (any g)), .str (bs (fin g)), .lit (.bool (hi g)), .lit (.bool (hf g)), .str (bs (rule g)), .lit (.bool (dn g)), .sl (List.map encO (kids g))])] = some (tf (allF g)) := fun g hg => t47 g
  have hkl := kids_le f
  have key : ∀ (r : List Fo) (j : Nat) (x : Int), x = j → (kids f).drop j = r →
      ∃ x', n47_6 ⟨[(1, .ptr 0 1 0 0), (3, .d (.lit (.int .i64 x)))], [⟨11, [.d (.agg [.lit (.int .i64 (kind f)), .str (bs (name f)), .str (bs (value f)), .str (bs (ini f)), .sl (List.map encS (any f)), .str (bs (fin f)), .lit (.bool (hi f)), .lit (.bool (hf f)), .str (bs (rule f)), .lit (.bool (dn f)), .sl (List.map encO (kids f))])], false, false, false⟩]⟩ =
        br (r.any (fun k => !allF k)) (some (.ret, ⟨[(2, .d (.lit (.bool false)))], [⟨11, [.d (.agg [.lit (.int .i64 (kind f)), .str (bs (name f)), .str (bs (value f)), .str (bs (ini f)), .sl (List.map encS (any f)), .str (bs (fin f)), .lit (.bool (hi f)), .lit (.bool (hf f)), .str (bs (rule f)), .lit (.bool (dn f)), .sl (List.map encO (kids f))])], false, false, false⟩]⟩))
          (some (.exit 0, ⟨[(1, .ptr 0 1 0 0), (3, x'), (8, .d (.lit (.bool false)))], [⟨11, [.d (.agg [.lit (.int .i64 (kind f)), .str (bs (name f)), .str (bs (value f)), .str (bs (ini f)), .sl (List.map encS (any f)), .str (bs (fin f)), .lit (.bool (hi f)), .lit (.bool (hf f)), .str (bs (rule f)), .lit (.bool (dn f)), .sl (List.map encO (kids f))])], false, false, false⟩]⟩)) := by
    intro r
    induction r with
    | nil =>
      intro j x hx hd
      have hd := drop_nil hd
      refine ⟨.d (.lit (.int .i64 x)), ?_⟩
      rw [r_n47_6]
      simp -implicitDefEqProofs (maxSteps := 10000000) (disch := omega) only [go_sem, Int.reduceAdd, Int.reduceSub, Int.reduceMul, dec_t, dec_f, Nat.reduceBEq, Nat.reduceBNe, Nat.reduceShiftRight, Nat.reduceAnd, Nat.reduceAdd, Nat.reduceSub, Nat.reduceEqDiff, Nat.reduceLT, Nat.reduceLeDiff, Int.reduceToNat, Int.reduceLT, Int.reduceLE, Int.reduceEq, reduceIte, reduceCtorEq]
      try rfl
    | cons g r ih =>
      intro j x hx hd
      obtain ⟨g1, g2, g3, g4⟩ := drop_cons hd
      have hnat : Int.toNat x = j := by omega
      have hc := IH g g4
      obtain ⟨x', h⟩ := ih (j + 1) (x + 1) (by omega) g3
      cases hs : allF g with
      | false =>
        rw [hs] at hc
        refine ⟨.undef, ?_⟩
        rw [r_n47_6, show ((g :: r).any fun k => !allF k) = true by simp [hs]]
        clear ih h
        simp -implicitDefEqProofs (maxSteps := 10000000) (disch := omega) only [go_sem, Int.reduceAdd, Int.reduceSub, Int.reduceMul, dec_t, dec_f, Nat.reduceBEq, Nat.reduceBNe, Nat.reduceShiftRight, Nat.reduceAnd, Nat.reduceAdd, Nat.reduceSub, Nat.reduceEqDiff, Nat.reduceLT, Nat.reduceLeDiff, Int.reduceToNat, Int.reduceLT, Int.reduceLE, Int.reduceEq, reduceIte, reduceCtorEq, g2, hnat, hc]
        try rfl
      | true =>
        rw [hs] at hc
        refine ⟨x', ?_⟩
        rw [r_n47_6, show ((g :: r).any fun k => !allF k) = r.any (fun k => !allF k) by simp [hs]]
        clear ih
        generalize (r.any fun k => !allF k) = w at h ⊢
        simp -implicitDefEqProofs (maxSteps := 10000000) (disch := omega) only [go_sem, Int.reduceAdd, Int.reduceSub, Int.reduceMul, dec_t, dec_f, Nat.reduceBEq, Nat.reduceBNe, Nat.reduceShiftRight, Nat.reduceAnd, Nat.reduceAdd, Nat.reduceSub, Nat.reduceEqDiff, Nat.reduceLT, Nat.reduceLeDiff, Int.reduceToNat, Int.reduceLT, Int.reduceLE, Int.reduceEq, reduceIte, reduceCtorEq, g2, hnat, hc, h]
  obtain ⟨x', h⟩ := key (kids f) 0 0 rfl rfl
  have h72 := t72 f
  rw [rOne_eq] at h72
  rw [p47, allF_eq]
  generalize ((kids f).any fun k => !allF k) = w at h ⊢
  generalize pOne f = w2 at h72 ⊢
  cases w
  · cases w2 <;> (simp -implicitDefEqProofs (maxSteps := 10000000) (disch := omega) only [go_sem, Int.reduceAdd, Int.reduceSub, Int.reduceMul, dec_t, dec_f, Nat.reduceBEq, Nat.reduceBNe, Nat.reduceShiftRight, Nat.reduceAnd, Nat.reduceAdd, Nat.reduceSub, Nat.reduceEqDiff, Nat.reduceLT, Nat.reduceLeDiff, Int.reduceToNat, Int.reduceLT, Int.reduceLE, Int.reduceEq, reduceIte, reduceCtorEq, h, h72]) <;> (first | done | rfl)
  · cases w2 <;> (simp -implicitDefEqProofs (maxSteps := 10000000) (disch := omega) only [go_sem, Int.reduceAdd, Int.reduceSub, Int.reduceMul, dec_t, dec_f, Nat.reduceBEq, Nat.reduceBNe, Nat.reduceShiftRight, Nat.reduceAnd, Nat.reduceAdd, Nat.reduceSub, Nat.reduceEqDiff, Nat.reduceLT, Nat.reduceLeDiff, Int.reduceToNat, Int.reduceLT, Int.reduceLE, Int.reduceEq, reduceIte, reduceCtorEq, h, h72]) <;> (first | done | rfl)
termination_by sz f
decreasing_by exact kids_lt hg

@[go_sem] theorem t24 (f : Fo) : pureCall C 24 [(.agg [.lit (.int .i64 (kind f)), .str (bs (name f)), .str (bs (value f)), .str (bs (ini f)), .sl (List.map encS (any f)), .str (bs (fin f)), .lit (.bool (hi f)), .lit (.bool (hf f)), .str (bs (rule f)), .lit (.bool (dn f)), .sl (List.map encO (kids f))])] = some (lit (if chkF f then 0 else 240)) := by
  have h45 := t45 f
  have h46 := t46 f
  have h47 := t47 f
  unfold chkF
  rw [p24]
  by_cases q1 : dep 8 f ≤ 8 <;> by_cases q2 : cnt8 f ≤ 60 <;> simp only [q1, q2, decide_true, decide_false] <;> cases b3 : allF f <;> rw [b3] at h47 <;> (simp -implicitDefEqProofs (maxSteps := 10000000) (disch := omega) only [go_sem, Int.reduceAdd, Int.reduceSub, Int.reduceMul, dec_t, dec_f, Nat.reduceBEq, Nat.reduceBNe, Nat.reduceShiftRight, Nat.reduceAnd, Nat.reduceAdd, Nat.reduceSub, Nat.reduceEqDiff, Nat.reduceLT, Nat.reduceLeDiff, Int.reduceToNat, Int.reduceLT, Int.reduceLE, Int.reduceEq, reduceIte, reduceCtorEq, h45, h46, h47]) <;> (first | done | rfl)
end Go.L25
