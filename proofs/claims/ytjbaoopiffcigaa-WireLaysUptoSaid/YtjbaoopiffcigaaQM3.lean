/- Layer 25: the counting of filters, and words. Conditions: none. -/
import Derived.Test.YtjbaoopiffcigaaQM2
set_option linter.unusedVariables false
set_option linter.unusedSimpArgs false
namespace Go.L25
open Go Go.Eng Go.Proofs
set_option pp.deepTerms false
set_option pp.deepTerms.threshold 9
set_option maxRecDepth 10000

theorem t54 : ∀ (l : Nat) (f : Fo), l ≤ 100 → pureCall C 54 [(.agg [.lit (.int .i64 (kind f)), .str (bs (name f)), .str (bs (value f)), .str (bs (ini f)), .sl (List.map encS (any f)), .str (bs (fin f)), .lit (.bool (hi f)), .lit (.bool (hf f)), .str (bs (rule f)), .lit (.bool (dn f)), .sl (List.map encO (kids f))]), .lit (.int .i64 l)] = some (lit (dep l f))
  | 0, f, hl => by
    have e : dep 0 f = 1 := rfl
    have hkl := kids_le f
    rw [p54, e]
    simp -implicitDefEqProofs (maxSteps := 10000000) (disch := omega) only [go_sem, Int.reduceAdd, Int.reduceSub, Int.reduceMul, dec_t, dec_f, Nat.reduceBEq, Nat.reduceBNe, Nat.reduceShiftRight, Nat.reduceAnd, Nat.reduceAdd, Nat.reduceSub, Nat.reduceEqDiff, Nat.reduceLT, Nat.reduceLeDiff, Int.reduceToNat, Int.reduceLT, Int.reduceLE, Int.reduceEq, reduceIte, reduceCtorEq]
    rw [r_n54_8]
    by_cases h : 0 < (kids f).length
    · simp -implicitDefEqProofs (maxSteps := 10000000) (disch := omega) only [go_sem, Int.reduceAdd, Int.reduceSub, Int.reduceMul, dec_t, dec_f, Nat.reduceBEq, Nat.reduceBNe, Nat.reduceShiftRight, Nat.reduceAnd, Nat.reduceAdd, Nat.reduceSub, Nat.reduceEqDiff, Nat.reduceLT, Nat.reduceLeDiff, Int.reduceToNat, Int.reduceLT, Int.reduceLE, Int.reduceEq, reduceIte, reduceCtorEq]
      rfl
    · simp -implicitDefEqProofs (maxSteps := 10000000) (disch := omega) only [go_sem, Int.reduceAdd, Int.reduceSub, Int.reduceMul, dec_t, dec_f, Nat.reduceBEq, Nat.reduceBNe, Nat.reduceShiftRight, Nat.reduceAnd, Nat.reduceAdd, Nat.reduceSub, Nat.reduceEqDiff, Nat.reduceLT, Nat.reduceLeDiff, Int.reduceToNat, Int.reduceLT, Int.reduceLE, Int.reduceEq, reduceIte, reduceCtorEq]
      rfl
  | l + 1, f, hl => by
    have hkl := kids_le f
    have key : ∀ (r : List Fo) (j b : Nat) (x y : Int), x = j → y = b → b ≤ l + 1 → (kids f).drop j = r →
        ∃ x', n54_8 ⟨[(1, .d (.lit (.int .i64 (l + 1 : Nat)))), (2, .ptr 0 1 0 0), (5, .d (.lit (.int .i64 y))), (6, .d (.lit (.int .i64 x)))], [⟨11, [.d (.agg [.lit (.int .i64 (kind f)), .str (bs (name f)), .str (bs (value f)), .str (bs (ini f)), .sl (List.map encS (any f)), .str (bs (fin f)), .lit (.bool (hi f)), .lit (.bool (hf f)), .str (bs (rule f)), .lit (.bool (dn f)), .sl (List.map encO (kids f))])], false, false, false⟩]⟩ =
          some (.exit 0, ⟨[(1, .d (.lit (.int .i64 (l + 1 : Nat)))), (2, .ptr 0 1 0 0), (5, .d (.lit (.int .i64 ((r.map (dep l)).foldl (fun a b => if a < b then b else a) b : Nat)))), (6, x'), (15, .d (.lit (.bool false)))], [⟨11, [.d (.agg [.lit (.int .i64 (kind f)), .str (bs (name f)), .str (bs (value f)), .str (bs (ini f)), .sl (List.map encS (any f)), .str (bs (fin f)), .lit (.bool (hi f)), .lit (.bool (hf f)), .str (bs (rule f)), .lit (.bool (dn f)), .sl (List.map encO (kids f))])], false, false, false⟩]⟩) := by
      intro r
      induction r with
      | nil =>
        intro j b x y hx hy hb hd
        have hd := drop_nil hd
        refine ⟨.d (.lit (.int .i64 x)), ?_⟩
        simp only [List.map_nil, List.foldl_nil]
        subst hy
        rw [r_n54_8]
        simp -implicitDefEqProofs (maxSteps := 10000000) (disch := omega) only [go_sem, Int.reduceAdd, Int.reduceSub, Int.reduceMul, dec_t, dec_f, Nat.reduceBEq, Nat.reduceBNe, Nat.reduceShiftRight, Nat.reduceAnd, Nat.reduceAdd, Nat.reduceSub, Nat.reduceEqDiff, Nat.reduceLT, Nat.reduceLeDiff, Int.reduceToNat, Int.reduceLT, Int.reduceLE, Int.reduceEq, reduceIte, reduceCtorEq]
      | cons g r ih =>
        intro j b x y hx hy hb hd
        obtain ⟨g1, g2, g3, g4⟩ := drop_cons hd
        have hnat : Int.toNat x = j := by omega
        have hc := t54 l g (by omega)
        have hd' := dep_le l g
        have hw : ((l + 1 : Nat) : Int) - 1 = l := by omega
        rw [List.map_cons, List.foldl_cons]
        by_cases hq : b < dep l g
        · rw [if_pos hq]
          obtain ⟨x', h⟩ := ih (j + 1) (dep l g) (x + 1) (dep l g : Nat) (by omega) rfl (by omega) g3
          refine ⟨x', ?_⟩
          rw [r_n54_8]
          generalize List.foldl _ (dep l g) _ = w at h ⊢
          simp -implicitDefEqProofs (maxSteps := 10000000) (disch := omega) only [go_sem, Int.reduceAdd, Int.reduceSub, Int.reduceMul, dec_t, dec_f, Nat.reduceBEq, Nat.reduceBNe, Nat.reduceShiftRight, Nat.reduceAnd, Nat.reduceAdd, Nat.reduceSub, Nat.reduceEqDiff, Nat.reduceLT, Nat.reduceLeDiff, Int.reduceToNat, Int.reduceLT, Int.reduceLE, Int.reduceEq, reduceIte, reduceCtorEq, g2, hnat, hw, hc, lit, h]
        · rw [if_neg hq]
          obtain ⟨x', h⟩ := ih (j + 1) b (x + 1) y (by omega) hy (by omega) g3
          refine ⟨x', ?_⟩
          rw [r_n54_8]
          generalize List.foldl _ b _ = w at h ⊢
          simp -implicitDefEqProofs (maxSteps := 10000000) (disch := omega) only [go_sem, Int.reduceAdd, Int.reduceSub, Int.reduceMul, dec_t, dec_f, Nat.reduceBEq, Nat.reduceBNe, Nat.reduceShiftRight, Nat.reduceAnd, Nat.reduceAdd, Nat.reduceSub, Nat.reduceEqDiff, Nat.reduceLT, Nat.reduceLeDiff, Int.reduceToNat, Int.reduceLT, Int.reduceLE, Int.reduceEq, reduceIte, reduceCtorEq, g2, hnat, hw, hc, lit, h]
    obtain ⟨x', h⟩ := key (kids f) 0 0 0 0 rfl rfl (by omega) rfl
    have hle := dep_le (l + 1) f
    rw [p54]
    simp only [dep] at hle ⊢
    generalize List.foldl _ 0 _ = w at h hle ⊢
    simp -implicitDefEqProofs (maxSteps := 10000000) (disch := omega) only [go_sem, Int.reduceAdd, Int.reduceSub, Int.reduceMul, dec_t, dec_f, Nat.reduceBEq, Nat.reduceBNe, Nat.reduceShiftRight, Nat.reduceAnd, Nat.reduceAdd, Nat.reduceSub, Nat.reduceEqDiff, Nat.reduceLT, Nat.reduceLeDiff, Int.reduceToNat, Int.reduceLT, Int.reduceLE, Int.reduceEq, reduceIte, reduceCtorEq, h]
    (first | done | rfl)

theorem t34 (f : Fo) : pureCall C 34 [(.agg [.lit (.int .i64 (kind f)), .str (bs (name f)), .str (bs (value f)), .str (bs (ini f)), .sl (List.map encS (any f)), .str (bs (fin f)), .lit (.bool (hi f)), .lit (.bool (hf f)), .str (bs (rule f)), .lit (.bool (dn f)), .sl (List.map encO (kids f))])] = some (lit (dep 8 f)) := by
  have h : pureCall C 54 [(.agg [.lit (.int .i64 (kind f)), .str (bs (name f)), .str (bs (value f)), .str (bs (ini f)), .sl (List.map encS (any f)), .str (bs (fin f)), .lit (.bool (hi f)), .lit (.bool (hf f)), .str (bs (rule f)), .lit (.bool (dn f)), .sl (List.map encO (kids f))]), .lit (.int .i64 8)] = some (lit (dep 8 f)) := t54 8 f (by omega)
  rw [p34]
  simp -implicitDefEqProofs (maxSteps := 10000000) (disch := omega) only [go_sem, Int.reduceAdd, Int.reduceSub, Int.reduceMul, dec_t, dec_f, Nat.reduceBEq, Nat.reduceBNe, Nat.reduceShiftRight, Nat.reduceAnd, Nat.reduceAdd, Nat.reduceSub, Nat.reduceEqDiff, Nat.reduceLT, Nat.reduceLeDiff, Int.reduceToNat, Int.reduceLT, Int.reduceLE, Int.reduceEq, reduceIte, reduceCtorEq, h, lit]

theorem t55 (f : Fo) (q : Nat) (hq : q ≤ 61) : pureCall C 55 [(.agg [.lit (.int .i64 (kind f)), .str (bs (name f)), .str (bs (value f)), .str (bs (ini f)), .sl (List.map encS (any f)), .str (bs (fin f)), .lit (.bool (hi f)), .lit (.bool (hf f)), .str (bs (rule f)), .lit (.bool (dn f)), .sl (List.map encO (kids f))]), .lit (.int .i64 q)] = some (lit (par f q)) := by
  have IH : ∀ g ∈ kids f, ∀ q : Nat, q ≤ 61 → pureCall C 55 [(.agg [.lit (.int .i64 (kind g)), .str (bs (name g)), .str (bs (value g)), .str (bs (ini g)), .sl (List.map encS (any g)), .str (bs (fin g)), .lit (.bool (hi g)), .lit (.bool (hf g)), .str (bs (rule g)), .lit (.bool (dn g)), .sl (List.map encO (kids g))]), .lit (.int .i64 q)] = some (lit (par g q)) := fun g hg q hq => t55 g q hq
  have hkl := kids_le f
  have key : ∀ (r : List Fo) (j m : Nat) (x y : Int), x = j → y = m → (kids f).drop j = r → m ≤ 62 →
      ∃ x', n55_8 ⟨[(1, .d (.lit (.int .i64 y))), (2, .ptr 0 1 0 0), (5, .d (.lit (.int .i64 x)))], [⟨11, [.d (.agg [.lit (.int .i64 (kind f)), .str (bs (name f)), .str (bs (value f)), .str (bs (ini f)), .sl (List.map encS (any f)), .str (bs (fin f)), .lit (.bool (hi f)), .lit (.bool (hf f)), .str (bs (rule f)), .lit (.bool (dn f)), .sl (List.map encO (kids f))])], false, false, false⟩]⟩ =
        some (.exit 0, ⟨[(1, .d (.lit (.int .i64 (pars r m)))), (2, .ptr 0 1 0 0), (5, x'), (16, .d (.lit (.bool false)))], [⟨11, [.d (.agg [.lit (.int .i64 (kind f)), .str (bs (name f)), .str (bs (value f)), .str (bs (ini f)), .sl (List.map encS (any f)), .str (bs (fin f)), .lit (.bool (hi f)), .lit (.bool (hf f)), .str (bs (rule f)), .lit (.bool (dn f)), .sl (List.map encO (kids f))])], false, false, false⟩]⟩) := by
    intro r
    induction r with
    | nil =>
      intro j m x y hx hy hd hm
      have hd := drop_nil hd
      refine ⟨.d (.lit (.int .i64 x)), ?_⟩
      rw [show pars [] m = m from rfl]
      subst hy
      rw [r_n55_8]
      simp -implicitDefEqProofs (maxSteps := 10000000) (disch := omega) only [go_sem, Int.reduceAdd, Int.reduceSub, Int.reduceMul, dec_t, dec_f, Nat.reduceBEq, Nat.reduceBNe, Nat.reduceShiftRight, Nat.reduceAnd, Nat.reduceAdd, Nat.reduceSub, Nat.reduceEqDiff, Nat.reduceLT, Nat.reduceLeDiff, Int.reduceToNat, Int.reduceLT, Int.reduceLE, Int.reduceEq, reduceIte, reduceCtorEq]
    | cons g r ih =>
      intro j m x y hx hy hd hm
      obtain ⟨g1, g2, g3, g4⟩ := drop_cons hd
      have hnat : Int.toNat x = j := by omega
      by_cases h2 : m ≤ 60
      · have hc := IH g g4 m (by omega)
        rw [← hy] at hc
        rw [show pars (g :: r) m = pars r (par g m) by simp only [pars, List.foldl_cons, if_pos h2]]
        obtain ⟨x', h⟩ := ih (j + 1) (par g m) (x + 1) (par g m) (by omega) rfl g3 (by have := par_le g m; omega)
        refine ⟨x', ?_⟩
        rw [r_n55_8]
        simp -implicitDefEqProofs (maxSteps := 10000000) (disch := omega) only [go_sem, Int.reduceAdd, Int.reduceSub, Int.reduceMul, dec_t, dec_f, Nat.reduceBEq, Nat.reduceBNe, Nat.reduceShiftRight, Nat.reduceAnd, Nat.reduceAdd, Nat.reduceSub, Nat.reduceEqDiff, Nat.reduceLT, Nat.reduceLeDiff, Int.reduceToNat, Int.reduceLT, Int.reduceLE, Int.reduceEq, reduceIte, reduceCtorEq, g2, hnat, hc, lit, h]
      · have e : ∀ l : List Fo, pars l m = m := by
          intro l
          induction l with
          | nil => rfl
          | cons a l ihl => simp only [pars, List.foldl_cons, if_neg h2] at ihl ⊢; exact ihl
        refine ⟨.d (.lit (.int .i64 x)), ?_⟩
        rw [e]
        subst hy
        rw [r_n55_8]
        simp -implicitDefEqProofs (maxSteps := 10000000) (disch := omega) only [go_sem, Int.reduceAdd, Int.reduceSub, Int.reduceMul, dec_t, dec_f, Nat.reduceBEq, Nat.reduceBNe, Nat.reduceShiftRight, Nat.reduceAnd, Nat.reduceAdd, Nat.reduceSub, Nat.reduceEqDiff, Nat.reduceLT, Nat.reduceLeDiff, Int.reduceToNat, Int.reduceLT, Int.reduceLE, Int.reduceEq, reduceIte, reduceCtorEq]
        (try (simp (disch := omega) only [dec_t, dec_f, if_true, if_false]))
  obtain ⟨x', h⟩ := key (kids f) 0 (q + 1) 0 ((q : Int) + 1) rfl rfl rfl (by omega)
  rw [p55, par_eq]
  generalize pars (kids f) (q + 1) = w at h ⊢
  by_cases hb : 61 < w
  · rw [show min w 61 = 61 by omega]
    simp -implicitDefEqProofs (maxSteps := 10000000) (disch := omega) only [go_sem, Int.reduceAdd, Int.reduceSub, Int.reduceMul, dec_t, dec_f, Nat.reduceBEq, Nat.reduceBNe, Nat.reduceShiftRight, Nat.reduceAnd, Nat.reduceAdd, Nat.reduceSub, Nat.reduceEqDiff, Nat.reduceLT, Nat.reduceLeDiff, Int.reduceToNat, Int.reduceLT, Int.reduceLE, Int.reduceEq, reduceIte, reduceCtorEq, h]
    (first | done | rfl)
  · rw [show min w 61 = w by omega]
    simp -implicitDefEqProofs (maxSteps := 10000000) (disch := omega) only [go_sem, Int.reduceAdd, Int.reduceSub, Int.reduceMul, dec_t, dec_f, Nat.reduceBEq, Nat.reduceBNe, Nat.reduceShiftRight, Nat.reduceAnd, Nat.reduceAdd, Nat.reduceSub, Nat.reduceEqDiff, Nat.reduceLT, Nat.reduceLeDiff, Int.reduceToNat, Int.reduceLT, Int.reduceLE, Int.reduceEq, reduceIte, reduceCtorEq, h]
    (first | done | rfl)
termination_by sz f
decreasing_by exact kids_lt hg

noncomputable def cnt8 (f : Fo) : Nat := if 8 < dep 8 f then 61 else par f 0
theorem t35 (f : Fo) : pureCall C 35 [(.agg [.lit (.int .i64 (kind f)), .str (bs (name f)), .str (bs (value f)), .str (bs (ini f)), .sl (List.map encS (any f)), .str (bs (fin f)), .lit (.bool (hi f)), .lit (.bool (hf f)), .str (bs (rule f)), .lit (.bool (dn f)), .sl (List.map encO (kids f))])] = some (lit (cnt8 f)) := by
  have h1 := t34 f
  have h2 : pureCall C 55 [(.agg [.lit (.int .i64 (kind f)), .str (bs (name f)), .str (bs (value f)), .str (bs (ini f)), .sl (List.map encS (any f)), .str (bs (fin f)), .lit (.bool (hi f)), .lit (.bool (hf f)), .str (bs (rule f)), .lit (.bool (dn f)), .sl (List.map encO (kids f))]), .lit (.int .i64 0)] = some (.one (.d (.lit (.int .i64 (par f 0))))) := t55 f 0 (by omega)
  rw [p35]
  by_cases hd : 8 < dep 8 f
  · rw [show cnt8 f = 61 from if_pos hd]
    simp -implicitDefEqProofs (maxSteps := 10000000) (disch := omega) only [go_sem, Int.reduceAdd, Int.reduceSub, Int.reduceMul, dec_t, dec_f, Nat.reduceBEq, Nat.reduceBNe, Nat.reduceShiftRight, Nat.reduceAnd, Nat.reduceAdd, Nat.reduceSub, Nat.reduceEqDiff, Nat.reduceLT, Nat.reduceLeDiff, Int.reduceToNat, Int.reduceLT, Int.reduceLE, Int.reduceEq, reduceIte, reduceCtorEq, h1, lit]
    (first | done | rfl)
  · rw [show cnt8 f = par f 0 from if_neg hd]
    simp -implicitDefEqProofs (maxSteps := 10000000) (disch := omega) only [go_sem, Int.reduceAdd, Int.reduceSub, Int.reduceMul, dec_t, dec_f, Nat.reduceBEq, Nat.reduceBNe, Nat.reduceShiftRight, Nat.reduceAnd, Nat.reduceAdd, Nat.reduceSub, Nat.reduceEqDiff, Nat.reduceLT, Nat.reduceLeDiff, Int.reduceToNat, Int.reduceLT, Int.reduceLE, Int.reduceEq, reduceIte, reduceCtorEq, h1, lit, h2]
end Go.L25
