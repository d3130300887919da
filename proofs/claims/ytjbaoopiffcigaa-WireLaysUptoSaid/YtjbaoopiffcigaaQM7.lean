/- Layer 25: a filter's check. Conditions: none. -/
import Derived.Test.YtjbaoopiffcigaaQM6
set_option linter.unusedVariables false
set_option linter.unusedSimpArgs false
namespace Go.L25
open Go Go.Eng Go.Proofs
set_option pp.deepTerms false
set_option pp.deepTerms.threshold 9
set_option maxRecDepth 10000
set_option maxHeartbeats 4000000

noncomputable def allF (f : Fo) : Bool := pOne f && !((kids f).attach.any fun k => !allF k.1)
termination_by sz f
decreasing_by exact kids_lt k.2
theorem allF_eq (f : Fo) : allF f = (pOne f && !((kids f).any fun k => !allF k)) := by
  rw [allF]
  congr 2
  conv => rhs; rw [← List.attach_map_subtype_val (kids f), List.any_map]
  rfl

theorem t79 (l : List Fo) (hl : l.length ≤ 2 ^ 30) (hp : ∀ c ∈ l, pureCall C 58 [(.agg [.lit (.int .i64 (kind c)), .str (bs (name c)), .str (bs (value c)), .str (bs (ini c)), .sl (List.map encS (any c)), .str (bs (fin c)), .lit (.bool (hi c)), .lit (.bool (hf c)), .str (bs (rule c)), .lit (.bool (dn c)), .sl (List.map encO (kids c))])] = some (tf (!allF c))) : pureCall C 79 [.sl (l.map encO), .lit (.func (.func 58) #[] #[])] = some (lit (fnd (fun k => !allF k) l 0)) := by
  have key : ∀ (r' : List Fo) (j : Nat) (x : Int), x = j → l.drop j = r' →
      ∃ x', n79_6 ⟨[(0, .d (.sl (l.map encO))), (1, .d (.lit (.func (.func 58) #[] #[]))), (7, .d (.lit (.int .i64 l.length))), (8, .d (.lit (.int .i64 x)))], []⟩ =
        some (match fndO (fun k => !allF k) r' j with
          | none => (.exit 0, ⟨[(0, .d (.sl (l.map encO))), (1, .d (.lit (.func (.func 58) #[] #[]))), (7, .d (.lit (.int .i64 l.length))), (8, x'), (9, .d (.lit (.bool false)))], []⟩)
          | some q => (.ret, ⟨[(4, .d (.lit (.int .i64 q)))], []⟩)) := by
    intro r'
    induction r' with
    | nil =>
      intro j x hx hd
      have hd := drop_nil hd
      refine ⟨.d (.lit (.int .i64 x)), ?_⟩
      rw [r_n79_6, show fndO (fun k => !allF k) [] j = none from rfl]
      simp -implicitDefEqProofs (maxSteps := 10000000) (disch := omega) only [go_sem, Int.reduceAdd, Int.reduceSub, Int.reduceMul, dec_t, dec_f, Nat.reduceBEq, Nat.reduceBNe, Nat.reduceShiftRight, Nat.reduceAnd, Nat.reduceAdd, Nat.reduceSub, Nat.reduceEqDiff, Nat.reduceLT, Nat.reduceLeDiff, Int.reduceToNat, Int.reduceLT, Int.reduceLE, Int.reduceEq, reduceIte, reduceCtorEq]
    | cons c' r' ih =>
      intro j x hx hd
      obtain ⟨g1, g2, g3, g4⟩ := drop_cons hd
      have hnat : Int.toNat x = j := by omega
      obtain ⟨x', h⟩ := ih (j + 1) (x + 1) (by omega) g3
      have hc := hp c' g4
      cases hs : (fun k => !allF k) c' with
      | true =>
        simp only at hs
        rw [hs] at hc
        refine ⟨.undef, ?_⟩
        rw [r_n79_6, show fndO (fun k => !allF k) (c' :: r') j = some j by simp only [fndO]; rw [if_pos hs]]
        clear ih h
        
        simp -implicitDefEqProofs (maxSteps := 10000000) (disch := omega) only [go_sem, Int.reduceAdd, Int.reduceSub, Int.reduceMul, dec_t, dec_f, Nat.reduceBEq, Nat.reduceBNe, Nat.reduceShiftRight, Nat.reduceAnd, Nat.reduceAdd, Nat.reduceSub, Nat.reduceEqDiff, Nat.reduceLT, Nat.reduceLeDiff, Int.reduceToNat, Int.reduceLT, Int.reduceLE, Int.reduceEq, reduceIte, reduceCtorEq, g2, hnat, hc]
        rw [hx]
      | false =>
        simp only at hs
        rw [hs] at hc
        refine ⟨x', ?_⟩
        rw [r_n79_6, show fndO (fun k => !allF k) (c' :: r') j = fndO (fun k => !allF k) r' (j + 1) by simp only [fndO]; rw [if_neg (by rw [hs]; exact Bool.false_ne_true)]]
        clear ih
        
        generalize fndO (fun k => !allF k) r' (j + 1) = w at h ⊢
        simp -implicitDefEqProofs (maxSteps := 10000000) (disch := omega) only [go_sem, Int.reduceAdd, Int.reduceSub, Int.reduceMul, dec_t, dec_f, Nat.reduceBEq, Nat.reduceBNe, Nat.reduceShiftRight, Nat.reduceAnd, Nat.reduceAdd, Nat.reduceSub, Nat.reduceEqDiff, Nat.reduceLT, Nat.reduceLeDiff, Int.reduceToNat, Int.reduceLT, Int.reduceLE, Int.reduceEq, reduceIte, reduceCtorEq, g2, hnat, hc, h]
  obtain ⟨x', h⟩ := key l 0 0 rfl (by simp)
  rw [p79, fnd_O]
  generalize fndO (fun k => !allF k) l 0 = w at h ⊢
  simp -implicitDefEqProofs (maxSteps := 10000000) (disch := omega) only [go_sem, Int.reduceAdd, Int.reduceSub, Int.reduceMul, dec_t, dec_f, Nat.reduceBEq, Nat.reduceBNe, Nat.reduceShiftRight, Nat.reduceAnd, Nat.reduceAdd, Nat.reduceSub, Nat.reduceEqDiff, Nat.reduceLT, Nat.reduceLeDiff, Int.reduceToNat, Int.reduceLT, Int.reduceLE, Int.reduceEq, reduceIte, reduceCtorEq]
  simp only [h]
  cases w with
  | none =>
    simp -implicitDefEqProofs (maxSteps := 10000000) (disch := omega) only [go_sem, Int.reduceAdd, Int.reduceSub, Int.reduceMul, dec_t, dec_f, Nat.reduceBEq, Nat.reduceBNe, Nat.reduceShiftRight, Nat.reduceAnd, Nat.reduceAdd, Nat.reduceSub, Nat.reduceEqDiff, Nat.reduceLT, Nat.reduceLeDiff, Int.reduceToNat, Int.reduceLT, Int.reduceLE, Int.reduceEq, reduceIte, reduceCtorEq]
    (first | done | rfl)
  | some q =>
    simp -implicitDefEqProofs (maxSteps := 10000000) (disch := omega) only [go_sem, Int.reduceAdd, Int.reduceSub, Int.reduceMul, dec_t, dec_f, Nat.reduceBEq, Nat.reduceBNe, Nat.reduceShiftRight, Nat.reduceAnd, Nat.reduceAdd, Nat.reduceSub, Nat.reduceEqDiff, Nat.reduceLT, Nat.reduceLeDiff, Int.reduceToNat, Int.reduceLT, Int.reduceLE, Int.reduceEq, reduceIte, reduceCtorEq]
    (first | done | rfl)

theorem t57 (l : List Fo) (hl : l.length ≤ 2 ^ 30) (hp : ∀ c ∈ l, pureCall C 58 [(.agg [.lit (.int .i64 (kind c)), .str (bs (name c)), .str (bs (value c)), .str (bs (ini c)), .sl (List.map encS (any c)), .str (bs (fin c)), .lit (.bool (hi c)), .lit (.bool (hf c)), .str (bs (rule c)), .lit (.bool (dn c)), .sl (List.map encO (kids c))])] = some (tf (!allF c))) : pureCall C 57 [.sl (l.map encO), .lit (.func (.func 58) #[] #[])] = some (tf (l.any (fun k => !allF k))) := by
  have h := t79  l hl hp
  rw [fnd_any (fun k => !allF k) l 0, p57]
  generalize fnd (fun k => !allF k) l 0 = w at h ⊢
  by_cases hw : 0 ≤ w
  · rw [show decide (0 ≤ w) = true by simpa using hw]
    simp -implicitDefEqProofs (maxSteps := 10000000) (disch := omega) only [go_sem, Int.reduceAdd, Int.reduceSub, Int.reduceMul, dec_t, dec_f, Nat.reduceBEq, Nat.reduceBNe, Nat.reduceShiftRight, Nat.reduceAnd, Nat.reduceAdd, Nat.reduceSub, Nat.reduceEqDiff, Nat.reduceLT, Nat.reduceLeDiff, Int.reduceToNat, Int.reduceLT, Int.reduceLE, Int.reduceEq, reduceIte, reduceCtorEq, h]
    (first | done | rfl)
  · rw [show decide (0 ≤ w) = false by simpa using hw]
    simp -implicitDefEqProofs (maxSteps := 10000000) (disch := omega) only [go_sem, Int.reduceAdd, Int.reduceSub, Int.reduceMul, dec_t, dec_f, Nat.reduceBEq, Nat.reduceBNe, Nat.reduceShiftRight, Nat.reduceAnd, Nat.reduceAdd, Nat.reduceSub, Nat.reduceEqDiff, Nat.reduceLT, Nat.reduceLeDiff, Int.reduceToNat, Int.reduceLT, Int.reduceLE, Int.reduceEq, reduceIte, reduceCtorEq, h]
    (first | done | rfl)

theorem t58 (f : Fo) (h : pureCall C 36 [(.agg [.lit (.int .i64 (kind f)), .str (bs (name f)), .str (bs (value f)), .str (bs (ini f)), .sl (List.map encS (any f)), .str (bs (fin f)), .lit (.bool (hi f)), .lit (.bool (hf f)), .str (bs (rule f)), .lit (.bool (dn f)), .sl (List.map encO (kids f))])] = some (tf (allF f))) : pureCall C 58 [(.agg [.lit (.int .i64 (kind f)), .str (bs (name f)), .str (bs (value f)), .str (bs (ini f)), .sl (List.map encS (any f)), .str (bs (fin f)), .lit (.bool (hi f)), .lit (.bool (hf f)), .str (bs (rule f)), .lit (.bool (dn f)), .sl (List.map encO (kids f))])] = some (tf (!allF f)) := by
  generalize allF f = w at h ⊢
  rw [p58]
  cases w <;> (simp -implicitDefEqProofs (maxSteps := 10000000) (disch := omega) only [go_sem, Int.reduceAdd, Int.reduceSub, Int.reduceMul, dec_t, dec_f, Nat.reduceBEq, Nat.reduceBNe, Nat.reduceShiftRight, Nat.reduceAnd, Nat.reduceAdd, Nat.reduceSub, Nat.reduceEqDiff, Nat.reduceLT, Nat.reduceLeDiff, Int.reduceToNat, Int.reduceLT, Int.reduceLE, Int.reduceEq, reduceIte, reduceCtorEq, h]) <;> (first | done | rfl)

@[go_sem] theorem t36 (f : Fo) : pureCall C 36 [(.agg [.lit (.int .i64 (kind f)), .str (bs (name f)), .str (bs (value f)), .str (bs (ini f)), .sl (List.map encS (any f)), .str (bs (fin f)), .lit (.bool (hi f)), .lit (.bool (hf f)), .str (bs (rule f)), .lit (.bool (dn f)), .sl (List.map encO (kids f))])] = some (tf (allF f)) := by
  have IH : ∀ c ∈ kids f, pureCall C 58 [(.agg [.lit (.int .i64 (kind c)), .str (bs (name c)), .str (bs (value c)), .str (bs (ini c)), .sl (List.map encS (any c)), .str (bs (fin c)), .lit (.bool (hi c)), .lit (.bool (hf c)), .str (bs (rule c)), .lit (.bool (dn c)), .sl (List.map encO (kids c))])] = some (tf (!allF c)) := fun c hc => t58 c (t36 c)
  have h57 := t57 (kids f) (kids_le f) IH
  have h56 := t56 f
  rw [allF_eq, p36]
  generalize pOne f = w1 at h56 ⊢
  generalize ((kids f).any fun k => !allF k) = w2 at h57 ⊢
  cases w1 <;> cases w2 <;> (simp -implicitDefEqProofs (maxSteps := 10000000) (disch := omega) only [go_sem, Int.reduceAdd, Int.reduceSub, Int.reduceMul, dec_t, dec_f, Nat.reduceBEq, Nat.reduceBNe, Nat.reduceShiftRight, Nat.reduceAnd, Nat.reduceAdd, Nat.reduceSub, Nat.reduceEqDiff, Nat.reduceLT, Nat.reduceLeDiff, Int.reduceToNat, Int.reduceLT, Int.reduceLE, Int.reduceEq, reduceIte, reduceCtorEq, h56, h57]) <;> (first | done | rfl)
termination_by sz f
decreasing_by exact kids_lt hc

noncomputable def chkF (f : Fo) : Bool := decide (dep 8 f ≤ 8) && decide (cnt8 f ≤ 60) && allF f
@[go_sem] theorem t20 (f : Fo) : pureCall C 20 [(.agg [.lit (.int .i64 (kind f)), .str (bs (name f)), .str (bs (value f)), .str (bs (ini f)), .sl (List.map encS (any f)), .str (bs (fin f)), .lit (.bool (hi f)), .lit (.bool (hf f)), .str (bs (rule f)), .lit (.bool (dn f)), .sl (List.map encO (kids f))])] = some (lit (if chkF f then 0 else 240)) := by
  have h34 := t34 f
  have h35 := t35 f
  have h36 := t36 f
  unfold chkF
  rw [p20]
  by_cases q1 : dep 8 f ≤ 8 <;> by_cases q2 : cnt8 f ≤ 60 <;> simp only [q1, q2, decide_true, decide_false] <;> cases b3 : allF f <;> (simp -implicitDefEqProofs (maxSteps := 10000000) (disch := omega) only [go_sem, Int.reduceAdd, Int.reduceSub, Int.reduceMul, dec_t, dec_f, Nat.reduceBEq, Nat.reduceBNe, Nat.reduceShiftRight, Nat.reduceAnd, Nat.reduceAdd, Nat.reduceSub, Nat.reduceEqDiff, Nat.reduceLT, Nat.reduceLeDiff, Int.reduceToNat, Int.reduceLT, Int.reduceLE, Int.reduceEq, reduceIte, reduceCtorEq, h34, h35, h36, b3]) <;> (first | done | rfl)
end Go.L25
