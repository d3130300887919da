/- Layer 25: the laying of filters. Conditions: none. -/
import Derived.Test.YtjbaoopiffcigaaQM9
set_option linter.unusedVariables false
set_option linter.unusedSimpArgs false
namespace Go.L25
open Go Go.Eng Go.Proofs
set_option pp.deepTerms false
set_option pp.deepTerms.threshold 9
set_option maxRecDepth 10000
set_option maxHeartbeats 4000000

@[go_sem] theorem mk_els3 (c : Int) (m : Bool) (n : Int) (t : Bs) (a b d : Eo) : els (mkE c m n t [a, b, d]) = [a, b, d] := mk_els c m n t _ (by simp)
@[go_sem] theorem mk_els4 (c : Int) (m : Bool) (n : Int) (t : Bs) (a b d e : Eo) : els (mkE c m n t [a, b, d, e]) = [a, b, d, e] := mk_els c m n t _ (by simp)
def exs (f : Fo) : List Eo := (if List.beq (bs (rule f)) [] then [] else [mkE 2 false 1 (rule f) []]) ++ (if List.beq (bs (name f)) [] then [] else [mkE 2 false 2 (name f) []]) ++ [mkE 2 false 3 (value f) []] ++ (if dn f then [mkE 2 false 4 bff []] else [])
def extE (f : Fo) : Eo := mkE 2 true 9 b0 (exs f)
attribute [go_sem] t43
@[go_sem] theorem t44 (f : Fo) : pureCall C 44 [(.agg [.lit (.int .i64 (kind f)), .str (bs (name f)), .str (bs (value f)), .str (bs (ini f)), .sl (List.map encS (any f)), .str (bs (fin f)), .lit (.bool (hi f)), .lit (.bool (hf f)), .str (bs (rule f)), .lit (.bool (dn f)), .sl (List.map encO (kids f))])] = some (.one (.d (encE (extE f)))) := by
  rw [p44]
  cases b1 : List.beq (bs (rule f)) [] <;> cases b2 : List.beq (bs (name f)) [] <;> cases b3 : dn f <;> (simp -implicitDefEqProofs (maxSteps := 10000000) (disch := omega) only [go_sem, Int.reduceAdd, Int.reduceSub, Int.reduceMul, dec_t, dec_f, Nat.reduceBEq, Nat.reduceBNe, Nat.reduceShiftRight, Nat.reduceAnd, Nat.reduceAdd, Nat.reduceSub, Nat.reduceEqDiff, Nat.reduceLT, Nat.reduceLeDiff, Int.reduceToNat, Int.reduceLT, Int.reduceLE, Int.reduceEq, reduceIte, reduceCtorEq, b1, b2, b3, extE, exs]) <;> (first | done | rfl)

noncomputable def laidE (f : Fo) : Eo :=
  if kind f = 0 ∨ kind f = 1 ∨ kind f = 2 then mkE 2 true (kind f) b0 ((kids f).attach.map fun k => laidE k.1) else
  if kind f = 7 then mkE 2 false 7 (name f) [] else
  if kind f = 4 then subE f else
  if kind f = 9 then extE f else mkE 2 true (kind f) b0 [mkE 0 false 4 (name f) [], mkE 0 false 4 (value f) []]
termination_by sz f
decreasing_by exact kids_lt k.2
theorem laidE_eq (f : Fo) : laidE f = if kind f = 0 ∨ kind f = 1 ∨ kind f = 2 then mkE 2 true (kind f) b0 ((kids f).map laidE) else
  if kind f = 7 then mkE 2 false 7 (name f) [] else
  if kind f = 4 then subE f else
  if kind f = 9 then extE f else mkE 2 true (kind f) b0 [mkE 0 false 4 (name f) [], mkE 0 false 4 (value f) []] := by
  rw [laidE]
  congr 2
  conv => rhs; rw [← List.attach_map_subtype_val (kids f), List.map_map]
  rfl

/-- Kinds that a group can have. -/
inductive KOk : Fo → Prop where
  | mk (f : Fo) (h0 : 0 ≤ kind f) (h1 : kind f ≤ 30) (hk : ∀ g ∈ kids f, KOk g) : KOk f

theorem t23k (f : Fo) (J : D) (IH : ∀ g ∈ kids f, pureCall C 23 [(.agg [.lit (.int .i64 (kind g)), .str (bs (name g)), .str (bs (value g)), .str (bs (ini g)), .sl (List.map encS (any g)), .str (bs (fin g)), .lit (.bool (hi g)), .lit (.bool (hf g)), .str (bs (rule g)), .lit (.bool (dn g)), .sl (List.map encO (kids g))])] = some (.one (.d (.agg [.lit (.int .i64 (cls (laidE g))), .lit (.bool (made (laidE g))), .lit (.int .i64 (num (laidE g))), .str (bs (cont (laidE g))), .sl (List.map encE (els (laidE g)))])))) : ∀ (r' : List Fo) (acc : List Eo) (j : Nat) (x : Int), x = j → acc.length + r'.length ≤ 2 ^ 30 → (kids f).drop j = r' → acc.isEmpty = false →
      ∃ x', n23_23 ⟨[(1, .ptr 0 1 0 0), (2, .ptr 1 1 0 0), (3, .sref 3 acc.length 5 0 acc.length), (13, .d (.sl (List.map encO (kids f)))), (14, .d (.lit (.int .i64 ((kids f).length : Nat)))), (15, .d (.lit (.int .i64 x)))],
          [⟨11, [.d (.agg [.lit (.int .i64 (kind f)), .str (bs (name f)), .str (bs (value f)), .str (bs (ini f)), .sl (List.map encS (any f)), .str (bs (fin f)), .lit (.bool (hi f)), .lit (.bool (hf f)), .str (bs (rule f)), .lit (.bool (dn f)), .sl (List.map encO (kids f))])], false, false, false⟩, ⟨5, [.agg [.d (.lit (.int .i64 0)), .d (.lit (.bool false)), .d (.lit (.int .i64 0)), .d (.str []), .snil]], false, false, false⟩, ⟨11, [.d J], false, false, false⟩, ⟨5, List.map AV.d (List.map encE acc), true, true, false⟩]⟩ =
        some (.exit 1, ⟨[(1, .ptr 0 1 0 0), (2, .ptr 1 1 0 0), (3, .sref 3 ((acc ++ (r'.map laidE))).length 5 0 ((acc ++ (r'.map laidE))).length), (13, .d (.sl (List.map encO (kids f)))), (14, .d (.lit (.int .i64 ((kids f).length : Nat)))), (15, x'), (16, .d (.lit (.bool false)))],
          [⟨11, [.d (.agg [.lit (.int .i64 (kind f)), .str (bs (name f)), .str (bs (value f)), .str (bs (ini f)), .sl (List.map encS (any f)), .str (bs (fin f)), .lit (.bool (hi f)), .lit (.bool (hf f)), .str (bs (rule f)), .lit (.bool (dn f)), .sl (List.map encO (kids f))])], false, false, false⟩, ⟨5, [.agg [.d (.lit (.int .i64 0)), .d (.lit (.bool false)), .d (.lit (.int .i64 0)), .d (.str []), .snil]], false, false, false⟩, ⟨11, [.d J], false, false, false⟩, ⟨5, List.map AV.d (List.map encE ((acc ++ (r'.map laidE)))), true, true, false⟩]⟩) := by
  intro r'
  induction r' with
  | nil =>
    intro acc j x hx hl hd he
    have hd := drop_nil hd
    have hl2 := kids_le f
    refine ⟨.d (.lit (.int .i64 x)), ?_⟩
    rw [r_n23_23, show (acc ++ (List.map laidE [])) = acc from List.append_nil _]
    simp -implicitDefEqProofs (maxSteps := 10000000) (disch := omega) only [go_sem, Int.reduceAdd, Int.reduceSub, Int.reduceMul, dec_t, dec_f, Nat.reduceBEq, Nat.reduceBNe, Nat.reduceShiftRight, Nat.reduceAnd, Nat.reduceAdd, Nat.reduceSub, Nat.reduceEqDiff, Nat.reduceLT, Nat.reduceLeDiff, Int.reduceToNat, Int.reduceLT, Int.reduceLE, Int.reduceEq, reduceIte, reduceCtorEq, he]
    (first | done | rfl)
  | cons a' r' ih =>
    intro acc j x hx hl hd he
    simp only [List.length_cons] at hl
    obtain ⟨g1, g2, g3, g4⟩ := drop_cons hd
    have hl2 := kids_le f
    have hc := IH a' g4
    have hnat : Int.toNat x = j := by omega
    obtain ⟨x', h⟩ := ih (acc ++ [laidE a']) (j + 1) (x + 1) (by omega) (by show (acc ++ [laidE a']).length + _ ≤ _; rw [List.length_append]; simp only [List.length_cons, List.length_nil]; omega) g3 (c_emp3 _ _ _)
    refine ⟨x', ?_⟩
    rw [r_n23_23]
    rw [show ((acc ++ [laidE a']) ++ (List.map laidE r')) = (acc ++ (List.map laidE (a' :: r'))) from List.append_assoc acc [laidE a'] _] at h
    generalize (acc ++ (List.map laidE (a' :: r'))) = w at h ⊢
    simp -implicitDefEqProofs (maxSteps := 10000000) (disch := omega) only [go_sem, Int.reduceAdd, Int.reduceSub, Int.reduceMul, dec_t, dec_f, Nat.reduceBEq, Nat.reduceBNe, Nat.reduceShiftRight, Nat.reduceAnd, Nat.reduceAdd, Nat.reduceSub, Nat.reduceEqDiff, Nat.reduceLT, Nat.reduceLeDiff, Int.reduceToNat, Int.reduceLT, Int.reduceLE, Int.reduceEq, reduceIte, reduceCtorEq] at h
    simp -implicitDefEqProofs (maxSteps := 10000000) (disch := omega) only [go_sem, Int.reduceAdd, Int.reduceSub, Int.reduceMul, dec_t, dec_f, Nat.reduceBEq, Nat.reduceBNe, Nat.reduceShiftRight, Nat.reduceAnd, Nat.reduceAdd, Nat.reduceSub, Nat.reduceEqDiff, Nat.reduceLT, Nat.reduceLeDiff, Int.reduceToNat, Int.reduceLT, Int.reduceLE, Int.reduceEq, reduceIte, reduceCtorEq, he, g2, hnat, hc, h]

theorem t23g (f : Fo) (hk : kind f = 0 ∨ kind f = 1 ∨ kind f = 2) (IH : ∀ g ∈ kids f, pureCall C 23 [(.agg [.lit (.int .i64 (kind g)), .str (bs (name g)), .str (bs (value g)), .str (bs (ini g)), .sl (List.map encS (any g)), .str (bs (fin g)), .lit (.bool (hi g)), .lit (.bool (hf g)), .str (bs (rule g)), .lit (.bool (dn g)), .sl (List.map encO (kids g))])] = some (.one (.d (.agg [.lit (.int .i64 (cls (laidE g))), .lit (.bool (made (laidE g))), .lit (.int .i64 (num (laidE g))), .str (bs (cont (laidE g))), .sl (List.map encE (els (laidE g)))])))) : pureCall C 23 [(.agg [.lit (.int .i64 (kind f)), .str (bs (name f)), .str (bs (value f)), .str (bs (ini f)), .sl (List.map encS (any f)), .str (bs (fin f)), .lit (.bool (hi f)), .lit (.bool (hf f)), .str (bs (rule f)), .lit (.bool (dn f)), .sl (List.map encO (kids f))])] = some (.one (.d (encE (laidE f)))) := by
  have hl := kids_le f
  have hR := laidE_eq f
  rw [if_pos hk] at hR
  have hks : kids f = [] ∨ ∃ a r, kids f = a :: r := by
    cases kids f with
    | nil => exact .inl rfl
    | cons a r => exact .inr ⟨a, r, rfl⟩
  rcases hks with hks | ⟨a, r, hks⟩
  · rw [hks] at hR
    rw [p23, hR]
    rcases hk with hk | hk | hk <;> (simp -implicitDefEqProofs (maxSteps := 10000000) (disch := omega) only [go_sem, Int.reduceAdd, Int.reduceSub, Int.reduceMul, dec_t, dec_f, Nat.reduceBEq, Nat.reduceBNe, Nat.reduceShiftRight, Nat.reduceAnd, Nat.reduceAdd, Nat.reduceSub, Nat.reduceEqDiff, Nat.reduceLT, Nat.reduceLeDiff, Int.reduceToNat, Int.reduceLT, Int.reduceLE, Int.reduceEq, reduceIte, reduceCtorEq, hk, hks]) <;> rw [r_n23_23] <;> (simp -implicitDefEqProofs (maxSteps := 10000000) (disch := omega) only [go_sem, Int.reduceAdd, Int.reduceSub, Int.reduceMul, dec_t, dec_f, Nat.reduceBEq, Nat.reduceBNe, Nat.reduceShiftRight, Nat.reduceAnd, Nat.reduceAdd, Nat.reduceSub, Nat.reduceEqDiff, Nat.reduceLT, Nat.reduceLeDiff, Int.reduceToNat, Int.reduceLT, Int.reduceLE, Int.reduceEq, reduceIte, reduceCtorEq, hk, hks]) <;> (first | done | rfl)
  · obtain ⟨g1, g2, g3, g4⟩ := drop_cons (l := kids f) (j := 0) hks
    have hc := IH a g4
    obtain ⟨x', h⟩ := t23k f (.agg [.lit (.int .i64 (kind a)), .str (bs (name a)), .str (bs (value a)), .str (bs (ini a)), .sl (List.map encS (any a)), .str (bs (fin a)), .lit (.bool (hi a)), .lit (.bool (hf a)), .str (bs (rule a)), .lit (.bool (dn a)), .sl (List.map encO (kids a))]) IH r [laidE a] 1 1 rfl (by rw [hks] at hl; simp only [List.length_cons, List.length_nil] at hl ⊢; omega) g3 rfl
    rw [show ([laidE a] ++ (List.map laidE r)) = List.map laidE (kids f) by rw [hks]; rfl] at h
    have hw : (List.map laidE (kids f)).length ≤ 2 ^ 30 := by simpa using hl
    have hwe : (List.map laidE (kids f)).isEmpty = false := by rw [hks]; rfl
    generalize List.map laidE (kids f) = w at h hR hw hwe
    simp -implicitDefEqProofs (maxSteps := 10000000) (disch := omega) only [go_sem, Int.reduceAdd, Int.reduceSub, Int.reduceMul, dec_t, dec_f, Nat.reduceBEq, Nat.reduceBNe, Nat.reduceShiftRight, Nat.reduceAnd, Nat.reduceAdd, Nat.reduceSub, Nat.reduceEqDiff, Nat.reduceLT, Nat.reduceLeDiff, Int.reduceToNat, Int.reduceLT, Int.reduceLE, Int.reduceEq, reduceIte, reduceCtorEq, hwe] at h
    have hels := mk_els 2 true (kind f) b0 w hw
    rw [p23, hR, encE_mk _ _ _ _ _ hw]
    rcases hk with hk | hk | hk <;> rw [hk] at h ⊢ <;> (simp -implicitDefEqProofs (maxSteps := 10000000) (disch := omega) only [go_sem, Int.reduceAdd, Int.reduceSub, Int.reduceMul, dec_t, dec_f, Nat.reduceBEq, Nat.reduceBNe, Nat.reduceShiftRight, Nat.reduceAnd, Nat.reduceAdd, Nat.reduceSub, Nat.reduceEqDiff, Nat.reduceLT, Nat.reduceLeDiff, Int.reduceToNat, Int.reduceLT, Int.reduceLE, Int.reduceEq, reduceIte, reduceCtorEq, hk]) <;> rw [r_n23_23] <;> (simp -implicitDefEqProofs (maxSteps := 10000000) (disch := omega) only [go_sem, Int.reduceAdd, Int.reduceSub, Int.reduceMul, dec_t, dec_f, Nat.reduceBEq, Nat.reduceBNe, Nat.reduceShiftRight, Nat.reduceAnd, Nat.reduceAdd, Nat.reduceSub, Nat.reduceEqDiff, Nat.reduceLT, Nat.reduceLeDiff, Int.reduceToNat, Int.reduceLT, Int.reduceLE, Int.reduceEq, reduceIte, reduceCtorEq, hk, hc, g2, h, hwe]) <;> (first | done | rfl)
end Go.L25
