/- Layer 25: the document on filters and pieces. Conditions: none. -/
import Derived.Test.YtjbaoopiffcigaaPF
import Derived.Test.YtjbaoopiffcigaaPE
import Derived.Test.YtjbaoopiffcigaaPD
set_option linter.unusedVariables false
set_option linter.unusedSimpArgs false
namespace Go.L25
open Go Go.Eng Go.Proofs
open Nat (reduceShiftRight reduceAnd reduceEqDiff reduceLeDiff)
open Int (reduceToNat)
set_option maxRecDepth 10000
set_option maxHeartbeats 4000000
theorem t70 : ∀ (l : Nat) (f : Fo), l ≤ 100 → pureCall C 70 [(.agg [.lit (.int .i64 (kind f)), .str (bs (name f)), .str (bs (value f)), .str (bs (ini f)), .sl (List.map encS (any f)), .str (bs (fin f)), .lit (.bool (hi f)), .lit (.bool (hf f)), .str (bs (rule f)), .lit (.bool (dn f)), .sl (List.map encO (kids f))]), .lit (.int .i64 (l + 1 : Nat))] = some (lit (dep l f))
  | 0, f, hl => by
    have e : dep 0 f = 1 := rfl
    have hk := kids_le f
    rw [p70, e]
    simp -implicitDefEqProofs (disch := omega) only [go_sem, Int.reduceAdd, Int.reduceSub, Int.reduceMul, dec_t, dec_f, Nat.reduceBEq, Nat.reduceBNe, reduceShiftRight, reduceAnd, Nat.reduceAdd, Nat.reduceSub, reduceEqDiff, Nat.reduceLT, reduceLeDiff, reduceToNat, Int.reduceLT, Int.reduceLE, Int.reduceEq, reduceIte, reduceCtorEq]
    rw [r_n70_8]
    simp -implicitDefEqProofs (disch := omega) only [go_sem, Int.reduceAdd, Int.reduceSub, Int.reduceMul, dec_t, dec_f, Nat.reduceBEq, Nat.reduceBNe, reduceShiftRight, reduceAnd, Nat.reduceAdd, Nat.reduceSub, reduceEqDiff, Nat.reduceLT, reduceLeDiff, reduceToNat, Int.reduceLT, Int.reduceLE, Int.reduceEq, reduceIte, reduceCtorEq]
    by_cases h : Int.lt 0 ((kids f).length : Nat)
    · simp -implicitDefEqProofs (disch := omega) only [go_sem, Int.reduceAdd, Int.reduceSub, Int.reduceMul, dec_t, dec_f, Nat.reduceBEq, Nat.reduceBNe, reduceShiftRight, reduceAnd, Nat.reduceAdd, Nat.reduceSub, reduceEqDiff, Nat.reduceLT, reduceLeDiff, reduceToNat, Int.reduceLT, Int.reduceLE, Int.reduceEq, reduceIte, reduceCtorEq, h]
      (first | done | rfl)
    · simp -implicitDefEqProofs (disch := omega) only [go_sem, Int.reduceAdd, Int.reduceSub, Int.reduceMul, dec_t, dec_f, Nat.reduceBEq, Nat.reduceBNe, reduceShiftRight, reduceAnd, Nat.reduceAdd, Nat.reduceSub, reduceEqDiff, Nat.reduceLT, reduceLeDiff, reduceToNat, Int.reduceLT, Int.reduceLE, Int.reduceEq, reduceIte, reduceCtorEq, h]
      (first | done | rfl)
  | l + 1, f, hl => by
    have hkl := kids_le f
    have key : ∀ (r : List Fo) (j b : Nat) (x y : Int), x = j → y = b → b ≤ l + 1 → (kids f).drop j = r →
        ∃ x', n70_8 ⟨[(1, .d (.lit (.int .i64 (l + 1 + 1 : Nat)))), (2, .ptr 0 1 0 0), (5, .d (.lit (.int .i64 y))), (6, .d (.lit (.int .i64 x)))], [⟨11, [.d (.agg [.lit (.int .i64 (kind f)), .str (bs (name f)), .str (bs (value f)), .str (bs (ini f)), .sl (List.map encS (any f)), .str (bs (fin f)), .lit (.bool (hi f)), .lit (.bool (hf f)), .str (bs (rule f)), .lit (.bool (dn f)), .sl (List.map encO (kids f))])], false, false, false⟩]⟩ =
          some (.exit 0, ⟨[(1, .d (.lit (.int .i64 (l + 1 + 1 : Nat)))), (2, .ptr 0 1 0 0), (5, .d (.lit (.int .i64 ((r.map (dep l)).foldl (fun a b => if a < b then b else a) b : Nat)))), (6, x'), (16, .d (.lit (.bool false)))], [⟨11, [.d (.agg [.lit (.int .i64 (kind f)), .str (bs (name f)), .str (bs (value f)), .str (bs (ini f)), .sl (List.map encS (any f)), .str (bs (fin f)), .lit (.bool (hi f)), .lit (.bool (hf f)), .str (bs (rule f)), .lit (.bool (dn f)), .sl (List.map encO (kids f))])], false, false, false⟩]⟩) := by
      intro r
      induction r with
      | nil =>
        intro j b x y hx hy hb hd
        have hd := drop_nil hd
        refine ⟨.d (.lit (.int .i64 x)), ?_⟩
        simp only [List.map_nil, List.foldl_nil]
        subst hy
        rw [r_n70_8]
        simp -implicitDefEqProofs (disch := omega) only [go_sem, Int.reduceAdd, Int.reduceSub, Int.reduceMul, dec_t, dec_f, Nat.reduceBEq, Nat.reduceBNe, reduceShiftRight, reduceAnd, Nat.reduceAdd, Nat.reduceSub, reduceEqDiff, Nat.reduceLT, reduceLeDiff, reduceToNat, Int.reduceLT, Int.reduceLE, Int.reduceEq, reduceIte, reduceCtorEq]
        (first | done | rfl)
      | cons g r ih =>
        intro j b x y hx hy hb hd
        obtain ⟨g1, g2, g3, g4⟩ := drop_cons hd
        have hnat : Int.toNat x = j := by omega
        have hc := t70 l g (by omega)
        have hd' := dep_le l g
        have hw : ((l + 1 + 1 : Nat) : Int) - 1 = ((l + 1 : Nat) : Int) := by omega
        rw [List.map_cons, List.foldl_cons]
        by_cases hq : b < dep l g
        · rw [if_pos hq]
          obtain ⟨x', h⟩ := ih (j + 1) (dep l g) (x + 1) (dep l g : Nat) (by omega) rfl (by omega) g3
          refine ⟨x', ?_⟩
          rw [r_n70_8]
          generalize List.foldl _ (dep l g) _ = w at h ⊢
          simp -implicitDefEqProofs (disch := omega) only [go_sem, Int.reduceAdd, Int.reduceSub, Int.reduceMul, dec_t, dec_f, Nat.reduceBEq, Nat.reduceBNe, reduceShiftRight, reduceAnd, Nat.reduceAdd, Nat.reduceSub, reduceEqDiff, Nat.reduceLT, reduceLeDiff, reduceToNat, Int.reduceLT, Int.reduceLE, Int.reduceEq, reduceIte, reduceCtorEq, g2, hnat, hc, hw, h]
        · rw [if_neg hq]
          obtain ⟨x', h⟩ := ih (j + 1) b (x + 1) y (by omega) hy (by omega) g3
          refine ⟨x', ?_⟩
          rw [r_n70_8]
          generalize List.foldl _ b _ = w at h ⊢
          simp -implicitDefEqProofs (disch := omega) only [go_sem, Int.reduceAdd, Int.reduceSub, Int.reduceMul, dec_t, dec_f, Nat.reduceBEq, Nat.reduceBNe, reduceShiftRight, reduceAnd, Nat.reduceAdd, Nat.reduceSub, reduceEqDiff, Nat.reduceLT, reduceLeDiff, reduceToNat, Int.reduceLT, Int.reduceLE, Int.reduceEq, reduceIte, reduceCtorEq, g2, hnat, hc, hw, h]
    obtain ⟨x', h⟩ := key (kids f) 0 0 0 0 rfl rfl (by omega) rfl
    have hle := dep_le (l + 1) f
    rw [p70]
    simp only [dep] at hle ⊢
    generalize List.foldl _ 0 _ = w at h hle ⊢
    simp -implicitDefEqProofs (disch := omega) only [go_sem, Int.reduceAdd, Int.reduceSub, Int.reduceMul, dec_t, dec_f, Nat.reduceBEq, Nat.reduceBNe, reduceShiftRight, reduceAnd, Nat.reduceAdd, Nat.reduceSub, reduceEqDiff, Nat.reduceLT, reduceLeDiff, reduceToNat, Int.reduceLT, Int.reduceLE, Int.reduceEq, reduceIte, reduceCtorEq, h]
    (first | done | rfl)
@[go_sem] theorem t45 (f : Fo) : pureCall C 45 [(.agg [.lit (.int .i64 (kind f)), .str (bs (name f)), .str (bs (value f)), .str (bs (ini f)), .sl (List.map encS (any f)), .str (bs (fin f)), .lit (.bool (hi f)), .lit (.bool (hf f)), .str (bs (rule f)), .lit (.bool (dn f)), .sl (List.map encO (kids f))])] = some (lit (dep 8 f)) := by
  have h : pureCall C 70 [(.agg [.lit (.int .i64 (kind f)), .str (bs (name f)), .str (bs (value f)), .str (bs (ini f)), .sl (List.map encS (any f)), .str (bs (fin f)), .lit (.bool (hi f)), .lit (.bool (hf f)), .str (bs (rule f)), .lit (.bool (dn f)), .sl (List.map encO (kids f))]), .lit (.int .i64 9)] = some (lit (dep 8 f)) := t70 8 f (by omega)
  rw [p45]
  simp -implicitDefEqProofs (disch := omega) only [go_sem, Int.reduceAdd, Int.reduceSub, Int.reduceMul, dec_t, dec_f, Nat.reduceBEq, Nat.reduceBNe, reduceShiftRight, reduceAnd, Nat.reduceAdd, Nat.reduceSub, reduceEqDiff, Nat.reduceLT, reduceLeDiff, reduceToNat, Int.reduceLT, Int.reduceLE, Int.reduceEq, reduceIte, reduceCtorEq, h]
  (first | done | rfl)
noncomputable def cnt (f : Fo) : Nat := min ((kids f).attach.foldl (fun n k => if n < 61 then n + cnt k.1 else n) 1) 61
termination_by sz f
decreasing_by exact kids_lt k.2
noncomputable def cnts (l : List Fo) (n : Nat) : Nat := l.foldl (fun n k => if n < 61 then n + cnt k else n) n
theorem cnt_eq (f : Fo) : cnt f = min (cnts (kids f) 1) 61 := by
  rw [cnt, cnts]
  congr 1
  exact List.foldl_attach (l := kids f) (f := fun n k => if n < 61 then n + cnt k else n) (b := 1)
theorem cnt_le (f : Fo) : cnt f ≤ 61 := by rw [cnt_eq]; omega
theorem cnts_hi : ∀ (l : List Fo) (n : Nat), 61 ≤ n → cnts l n = n
  | [], n, _ => rfl
  | k :: r, n, h => by
    show cnts r (if n < 61 then n + cnt k else n) = n
    rw [if_neg (by omega)]
    exact cnts_hi r n h
theorem pars_hi : ∀ (l : List Fo) (n : Nat), 61 ≤ n → pars l n = n
  | [], n, _ => rfl
  | k :: r, n, h => by
    show pars r (if n ≤ 60 then par k n else n) = n
    rw [if_neg (by omega)]
    exact pars_hi r n h
theorem par_cnt (f : Fo) (n : Nat) (hn : n ≤ 61) : par f n = min (n + cnt f) 61 := by
  have hs : ∀ (l : List Fo), (∀ g ∈ l, g ∈ kids f) → ∀ m c : Nat, 1 ≤ c → m = n + c → min (pars l m) 61 = min (n + min (cnts l c) 61) 61 := by
    intro l
    induction l with
    | nil => intro _ m c hc hm; show min m 61 = min (n + min c 61) 61; omega
    | cons k r ih =>
      intro hk m c hc hm
      have hr := ih fun g hg => hk g (by simp [hg])
      show min (pars r (if m ≤ 60 then par k m else m)) 61 = min (n + min (cnts r (if c < 61 then c + cnt k else c)) 61) 61
      have mono : ∀ (l : List Fo) (a : Nat), a ≤ cnts l a := by
        intro l
        induction l with
        | nil => intro a; exact Nat.le_refl _
        | cons k l ih =>
          intro a
          show a ≤ cnts l (if a < 61 then a + cnt k else a)
          refine Nat.le_trans ?_ (ih _)
          split <;> omega
      by_cases h1 : m ≤ 60
      · rw [if_pos h1, if_pos (show c < 61 by omega), par_cnt k m (by omega)]
        by_cases h2 : m + cnt k ≤ 61
        · rw [show min (m + cnt k) 61 = m + cnt k by omega]
          exact hr (m + cnt k) (c + cnt k) (by omega) (by omega)
        · rw [show min (m + cnt k) 61 = 61 by omega, pars_hi r 61 (by omega)]
          have := mono r (c + cnt k)
          omega
      · rw [if_neg h1]
        rw [pars_hi r m (by omega)]
        have h3 : c ≤ (if c < 61 then c + cnt k else c) := by split <;> omega
        have := mono r (if c < 61 then c + cnt k else c)
        omega
  rw [par_eq, cnt_eq]
  exact hs (kids f) (fun g hg => hg) (n + 1) 1 (by omega) rfl
termination_by sz f
decreasing_by exact kids_lt (hk k (by simp))
theorem t71 (f : Fo) : pureCall C 71 [(.agg [.lit (.int .i64 (kind f)), .str (bs (name f)), .str (bs (value f)), .str (bs (ini f)), .sl (List.map encS (any f)), .str (bs (fin f)), .lit (.bool (hi f)), .lit (.bool (hf f)), .str (bs (rule f)), .lit (.bool (dn f)), .sl (List.map encO (kids f))])] = some (lit (cnt f)) := by
  have IH : ∀ g ∈ kids f, pureCall C 71 [(.agg [.lit (.int .i64 (kind g)), .str (bs (name g)), .str (bs (value g)), .str (bs (ini g)), .sl (List.map encS (any g)), .str (bs (fin g)), .lit (.bool (hi g)), .lit (.bool (hf g)), .str (bs (rule g)), .lit (.bool (dn g)), .sl (List.map encO (kids g))])] = some (lit (cnt g)) := fun g hg => t71 g
  have hkl := kids_le f
  have key : ∀ (r : List Fo) (j m : Nat) (x y : Int), x = j → y = m → (kids f).drop j = r → m ≤ 130 →
      ∃ x', n71_8 ⟨[(1, .ptr 0 1 0 0), (3, .d (.lit (.int .i64 y))), (4, .d (.lit (.int .i64 x)))], [⟨11, [.d (.agg [.lit (.int .i64 (kind f)), .str (bs (name f)), .str (bs (value f)), .str (bs (ini f)), .sl (List.map encS (any f)), .str (bs (fin f)), .lit (.bool (hi f)), .lit (.bool (hf f)), .str (bs (rule f)), .lit (.bool (dn f)), .sl (List.map encO (kids f))])], false, false, false⟩]⟩ =
        some (.exit 0, ⟨[(1, .ptr 0 1 0 0), (3, .d (.lit (.int .i64 (cnts r m)))), (4, x'), (13, .d (.lit (.bool false)))], [⟨11, [.d (.agg [.lit (.int .i64 (kind f)), .str (bs (name f)), .str (bs (value f)), .str (bs (ini f)), .sl (List.map encS (any f)), .str (bs (fin f)), .lit (.bool (hi f)), .lit (.bool (hf f)), .str (bs (rule f)), .lit (.bool (dn f)), .sl (List.map encO (kids f))])], false, false, false⟩]⟩) := by
    intro r
    induction r with
    | nil =>
      intro j m x y hx hy hd hm
      have hd := drop_nil hd
      refine ⟨.d (.lit (.int .i64 x)), ?_⟩
      rw [show cnts [] m = m from rfl]
      subst hy
      rw [r_n71_8]
      simp -implicitDefEqProofs (disch := omega) only [go_sem, Int.reduceAdd, Int.reduceSub, Int.reduceMul, dec_t, dec_f, Nat.reduceBEq, Nat.reduceBNe, reduceShiftRight, reduceAnd, Nat.reduceAdd, Nat.reduceSub, reduceEqDiff, Nat.reduceLT, reduceLeDiff, reduceToNat, Int.reduceLT, Int.reduceLE, Int.reduceEq, reduceIte, reduceCtorEq]
      (first | done | rfl)
    | cons g r ih =>
      intro j m x y hx hy hd hm
      obtain ⟨g1, g2, g3, g4⟩ := drop_cons hd
      have hnat : Int.toNat x = j := by omega
      by_cases h2 : m < 61
      · have hc := IH g g4
        have hcl := cnt_le g
        rw [show cnts (g :: r) m = cnts r (m + cnt g) by simp only [cnts, List.foldl_cons, if_pos h2]]
        obtain ⟨x', h⟩ := ih (j + 1) (m + cnt g) (x + 1) (y + (cnt g : Nat)) (by omega) (by omega) g3 (by omega)
        refine ⟨x', ?_⟩
        rw [r_n71_8]
        generalize cnts r (m + cnt g) = w at h ⊢
        simp -implicitDefEqProofs (disch := omega) only [go_sem, Int.reduceAdd, Int.reduceSub, Int.reduceMul, dec_t, dec_f, Nat.reduceBEq, Nat.reduceBNe, reduceShiftRight, reduceAnd, Nat.reduceAdd, Nat.reduceSub, reduceEqDiff, Nat.reduceLT, reduceLeDiff, reduceToNat, Int.reduceLT, Int.reduceLE, Int.reduceEq, reduceIte, reduceCtorEq, g2, hnat, hc, h]
      · refine ⟨.d (.lit (.int .i64 x)), ?_⟩
        rw [cnts_hi _ _ (by omega)]
        subst hy
        rw [r_n71_8]
        simp -implicitDefEqProofs (disch := omega) only [go_sem, Int.reduceAdd, Int.reduceSub, Int.reduceMul, dec_t, dec_f, Nat.reduceBEq, Nat.reduceBNe, reduceShiftRight, reduceAnd, Nat.reduceAdd, Nat.reduceSub, reduceEqDiff, Nat.reduceLT, reduceLeDiff, reduceToNat, Int.reduceLT, Int.reduceLE, Int.reduceEq, reduceIte, reduceCtorEq]
        (first | done | rfl)
  obtain ⟨x', h⟩ := key (kids f) 0 1 0 1 rfl rfl rfl (by omega)
  rw [p71, cnt_eq]
  generalize cnts (kids f) 1 = w at h ⊢
  by_cases hb : 61 < w
  · rw [show min w 61 = 61 by omega]
    simp -implicitDefEqProofs (disch := omega) only [go_sem, Int.reduceAdd, Int.reduceSub, Int.reduceMul, dec_t, dec_f, Nat.reduceBEq, Nat.reduceBNe, reduceShiftRight, reduceAnd, Nat.reduceAdd, Nat.reduceSub, reduceEqDiff, Nat.reduceLT, reduceLeDiff, reduceToNat, Int.reduceLT, Int.reduceLE, Int.reduceEq, reduceIte, reduceCtorEq, h]
    (first | done | rfl)
  · rw [show min w 61 = w by omega]
    simp -implicitDefEqProofs (disch := omega) only [go_sem, Int.reduceAdd, Int.reduceSub, Int.reduceMul, dec_t, dec_f, Nat.reduceBEq, Nat.reduceBNe, reduceShiftRight, reduceAnd, Nat.reduceAdd, Nat.reduceSub, reduceEqDiff, Nat.reduceLT, reduceLeDiff, reduceToNat, Int.reduceLT, Int.reduceLE, Int.reduceEq, reduceIte, reduceCtorEq, h]
    (first | done | rfl)
termination_by sz f
decreasing_by exact kids_lt hg
@[go_sem] theorem t46 (f : Fo) : pureCall C 46 [(.agg [.lit (.int .i64 (kind f)), .str (bs (name f)), .str (bs (value f)), .str (bs (ini f)), .sl (List.map encS (any f)), .str (bs (fin f)), .lit (.bool (hi f)), .lit (.bool (hf f)), .str (bs (rule f)), .lit (.bool (dn f)), .sl (List.map encO (kids f))])] = some (lit (cnt8 f)) := by
  have h2 : pureCall C 71 [(.agg [.lit (.int .i64 (kind f)), .str (bs (name f)), .str (bs (value f)), .str (bs (ini f)), .sl (List.map encS (any f)), .str (bs (fin f)), .lit (.bool (hi f)), .lit (.bool (hf f)), .str (bs (rule f)), .lit (.bool (dn f)), .sl (List.map encO (kids f))])] = some (.one (.d (.lit (.int .i64 (par f 0))))) := by
    rw [par_cnt f 0 (by omega), t71 f, show min (0 + cnt f) 61 = cnt f by have := cnt_le f; omega]
    rfl
  rw [p46]
  by_cases hd : 8 < dep 8 f
  · rw [show cnt8 f = 61 from if_pos hd]
    simp -implicitDefEqProofs (disch := omega) only [go_sem, Int.reduceAdd, Int.reduceSub, Int.reduceMul, dec_t, dec_f, Nat.reduceBEq, Nat.reduceBNe, reduceShiftRight, reduceAnd, Nat.reduceAdd, Nat.reduceSub, reduceEqDiff, Nat.reduceLT, reduceLeDiff, reduceToNat, Int.reduceLT, Int.reduceLE, Int.reduceEq, reduceIte, reduceCtorEq]
    (first | done | rfl)
  · rw [show cnt8 f = par f 0 from if_neg hd]
    simp -implicitDefEqProofs (disch := omega) only [go_sem, Int.reduceAdd, Int.reduceSub, Int.reduceMul, dec_t, dec_f, Nat.reduceBEq, Nat.reduceBNe, reduceShiftRight, reduceAnd, Nat.reduceAdd, Nat.reduceSub, reduceEqDiff, Nat.reduceLT, reduceLeDiff, reduceToNat, Int.reduceLT, Int.reduceLE, Int.reduceEq, reduceIte, reduceCtorEq, h2]
    (first | done | rfl)
set_option maxRecDepth 10000
set_option maxHeartbeats 4000000
theorem t88k (l : List UInt8) (hlen : l.length ≤ 2 ^ 30) : ∀ (r' : List UInt8) (j : Nat) (x : Int), x = j → l.drop j = r' → 1 ≤ j →
    ∃ x', n88_14 ⟨[(0, .d (.str l)), (3, .d (.lit (.int .i64 x)))], []⟩ =
      some (if r'.all wordC then (.exit 0, ⟨[(0, .d (.str l)), (3, x'), (17, .d (.lit (.bool false)))], []⟩) else (.ret, ⟨[(2, .d (.lit (.bool false)))], []⟩)) := by
  intro r'
  induction r' with
  | nil =>
    intro j x hx hd hj
    have hd := drop_nil hd
    refine ⟨.d (.lit (.int .i64 x)), ?_⟩
    rw [r_n88_14]
    simp -implicitDefEqProofs (disch := omega) only [go_sem, Int.reduceAdd, Int.reduceSub, Int.reduceMul, dec_t, dec_f, Nat.reduceBEq, Nat.reduceBNe, reduceShiftRight, reduceAnd, Nat.reduceAdd, Nat.reduceSub, reduceEqDiff, Nat.reduceLT, reduceLeDiff, reduceToNat, Int.reduceLT, Int.reduceLE, Int.reduceEq, reduceIte, reduceCtorEq]
    try rfl
  | cons c' r' ih =>
    intro j x hx hd hj
    obtain ⟨g1, g2, g3, -⟩ := drop_cons hd
    have hnat : Int.toNat x = j := by omega
    obtain ⟨x', h⟩ := ih (j + 1) (x + 1) (by omega) g3 (by omega)
    have hb : c'.toNat < 256 := c'.toNat_lt
    cases hs : wordC c' with
    | false =>
      rw [show (c' :: r').all wordC = false by simp [hs]]
      clear ih h
      unfold wordC small at hs
      simp only [Bool.or_eq_false_iff, Bool.and_eq_false_iff, decide_eq_false_iff_not, beq_eq_false_iff_ne] at hs
      obtain ⟨⟨q1, q2⟩, q3⟩ := hs
      refine ⟨.undef, ?_⟩
      rw [r_n88_14]
      simp -implicitDefEqProofs (disch := omega) only [go_sem, Int.reduceAdd, Int.reduceSub, Int.reduceMul, dec_t, dec_f, Nat.reduceBEq, Nat.reduceBNe, reduceShiftRight, reduceAnd, Nat.reduceAdd, Nat.reduceSub, reduceEqDiff, Nat.reduceLT, reduceLeDiff, reduceToNat, Int.reduceLT, Int.reduceLE, Int.reduceEq, reduceIte, reduceCtorEq]
      rcases Nat.lt_or_ge 122 c'.toNat with p1 | p1
      · simp -implicitDefEqProofs (disch := omega) only [go_sem, Int.reduceAdd, Int.reduceSub, Int.reduceMul, dec_t, dec_f, Nat.reduceBEq, Nat.reduceBNe, reduceShiftRight, reduceAnd, Nat.reduceAdd, Nat.reduceSub, reduceEqDiff, Nat.reduceLT, reduceLeDiff, reduceToNat, Int.reduceLT, Int.reduceLE, Int.reduceEq, reduceIte, reduceCtorEq, g2, hnat]
        try rfl
      · have p2 : c'.toNat < 97 := by omega
        rcases Nat.lt_or_ge c'.toNat 48 with p3 | p3
        · simp -implicitDefEqProofs (disch := omega) only [go_sem, Int.reduceAdd, Int.reduceSub, Int.reduceMul, dec_t, dec_f, Nat.reduceBEq, Nat.reduceBNe, reduceShiftRight, reduceAnd, Nat.reduceAdd, Nat.reduceSub, reduceEqDiff, Nat.reduceLT, reduceLeDiff, reduceToNat, Int.reduceLT, Int.reduceLE, Int.reduceEq, reduceIte, reduceCtorEq, g2, hnat]
          try rfl
        · have p4 : 57 < c'.toNat := by omega
          simp -implicitDefEqProofs (disch := omega) only [go_sem, Int.reduceAdd, Int.reduceSub, Int.reduceMul, dec_t, dec_f, Nat.reduceBEq, Nat.reduceBNe, reduceShiftRight, reduceAnd, Nat.reduceAdd, Nat.reduceSub, reduceEqDiff, Nat.reduceLT, reduceLeDiff, reduceToNat, Int.reduceLT, Int.reduceLE, Int.reduceEq, reduceIte, reduceCtorEq, g2, hnat]
          try rfl
    | true =>
      refine ⟨x', ?_⟩
      rw [r_n88_14]
      rw [show (c' :: r').all wordC = r'.all wordC by simp [hs]]
      clear ih
      generalize r'.all wordC = w at h ⊢
      unfold wordC small at hs
      simp only [Bool.or_eq_true, Bool.and_eq_true, decide_eq_true_eq, beq_iff_eq] at hs
      simp -implicitDefEqProofs (disch := omega) only [go_sem, Int.reduceAdd, Int.reduceSub, Int.reduceMul, dec_t, dec_f, Nat.reduceBEq, Nat.reduceBNe, reduceShiftRight, reduceAnd, Nat.reduceAdd, Nat.reduceSub, reduceEqDiff, Nat.reduceLT, reduceLeDiff, reduceToNat, Int.reduceLT, Int.reduceLE, Int.reduceEq, reduceIte, reduceCtorEq]
      rcases Nat.lt_or_ge c'.toNat 97 with p1 | p1
      · rcases Nat.lt_or_ge c'.toNat 48 with p3 | p3
        · have p4 : c'.toNat = 45 := by omega
          simp -implicitDefEqProofs (disch := omega) only [go_sem, Int.reduceAdd, Int.reduceSub, Int.reduceMul, dec_t, dec_f, Nat.reduceBEq, Nat.reduceBNe, reduceShiftRight, reduceAnd, Nat.reduceAdd, Nat.reduceSub, reduceEqDiff, Nat.reduceLT, reduceLeDiff, reduceToNat, Int.reduceLT, Int.reduceLE, Int.reduceEq, reduceIte, reduceCtorEq, g2, hnat, h]
        · have p4 : c'.toNat ≤ 57 := by omega
          simp -implicitDefEqProofs (disch := omega) only [go_sem, Int.reduceAdd, Int.reduceSub, Int.reduceMul, dec_t, dec_f, Nat.reduceBEq, Nat.reduceBNe, reduceShiftRight, reduceAnd, Nat.reduceAdd, Nat.reduceSub, reduceEqDiff, Nat.reduceLT, reduceLeDiff, reduceToNat, Int.reduceLT, Int.reduceLE, Int.reduceEq, reduceIte, reduceCtorEq, g2, hnat, h]
      · have p4 : c'.toNat ≤ 122 := by omega
        simp -implicitDefEqProofs (disch := omega) only [go_sem, Int.reduceAdd, Int.reduceSub, Int.reduceMul, dec_t, dec_f, Nat.reduceBEq, Nat.reduceBNe, reduceShiftRight, reduceAnd, Nat.reduceAdd, Nat.reduceSub, reduceEqDiff, Nat.reduceLT, reduceLeDiff, reduceToNat, Int.reduceLT, Int.reduceLE, Int.reduceEq, reduceIte, reduceCtorEq, g2, hnat, h]
@[go_sem] theorem t88 (s : Bs) : pureCall C 88 [.str (bs s)] = some (tf (word (bs s))) := by
  rw [p88]
  have hlen := bs_le s
  generalize bs s = l at hlen ⊢
  match l, hlen with
  | [], _ =>
    rw [show word [] = false from rfl]
    simp -implicitDefEqProofs (disch := omega) only [go_sem, Int.reduceAdd, Int.reduceSub, Int.reduceMul, dec_t, dec_f, Nat.reduceBEq, Nat.reduceBNe, reduceShiftRight, reduceAnd, Nat.reduceAdd, Nat.reduceSub, reduceEqDiff, Nat.reduceLT, reduceLeDiff, reduceToNat, Int.reduceLT, Int.reduceLE, Int.reduceEq, reduceIte, reduceCtorEq]
  | c :: r, hlen =>
    obtain ⟨x', h⟩ := t88k (c :: r) hlen r 1 1 rfl rfl (by omega)
    simp only [List.length_cons] at hlen
    have hb : c.toNat < 256 := c.toNat_lt
    generalize hw : word (c :: r) = w
    unfold word at hw
    by_cases h1 : r.length ≤ 15
    · cases h2 : small c with
      | false =>
        simp only [h2, Bool.and_false, Bool.false_and] at hw
        subst hw
        unfold small at h2
        simp only [Bool.and_eq_false_iff, decide_eq_false_iff_not] at h2
        clear h
        simp -implicitDefEqProofs (disch := omega) only [go_sem, Int.reduceAdd, Int.reduceSub, Int.reduceMul, dec_t, dec_f, Nat.reduceBEq, Nat.reduceBNe, reduceShiftRight, reduceAnd, Nat.reduceAdd, Nat.reduceSub, reduceEqDiff, Nat.reduceLT, reduceLeDiff, reduceToNat, Int.reduceLT, Int.reduceLE, Int.reduceEq, reduceIte, reduceCtorEq]
        rw [r_n88_14]
        simp -implicitDefEqProofs (disch := omega) only [go_sem, Int.reduceAdd, Int.reduceSub, Int.reduceMul, dec_t, dec_f, Nat.reduceBEq, Nat.reduceBNe, reduceShiftRight, reduceAnd, Nat.reduceAdd, Nat.reduceSub, reduceEqDiff, Nat.reduceLT, reduceLeDiff, reduceToNat, Int.reduceLT, Int.reduceLE, Int.reduceEq, reduceIte, reduceCtorEq]
        rcases Nat.lt_or_ge 122 c.toNat with p1 | p1
        · simp -implicitDefEqProofs (disch := omega) only [go_sem, Int.reduceAdd, Int.reduceSub, Int.reduceMul, dec_t, dec_f, Nat.reduceBEq, Nat.reduceBNe, reduceShiftRight, reduceAnd, Nat.reduceAdd, Nat.reduceSub, reduceEqDiff, Nat.reduceLT, reduceLeDiff, reduceToNat, Int.reduceLT, Int.reduceLE, Int.reduceEq, reduceIte, reduceCtorEq]
          try rfl
        · have p2 : c.toNat < 97 := by omega
          rcases Nat.lt_or_ge c.toNat 48 with p3 | p3
          · rcases Decidable.em (c.toNat = 45) with p4 | p4
            · simp -implicitDefEqProofs (disch := omega) only [go_sem, Int.reduceAdd, Int.reduceSub, Int.reduceMul, dec_t, dec_f, Nat.reduceBEq, Nat.reduceBNe, reduceShiftRight, reduceAnd, Nat.reduceAdd, Nat.reduceSub, reduceEqDiff, Nat.reduceLT, reduceLeDiff, reduceToNat, Int.reduceLT, Int.reduceLE, Int.reduceEq, reduceIte, reduceCtorEq]
              try rfl
            · simp -implicitDefEqProofs (disch := omega) only [go_sem, Int.reduceAdd, Int.reduceSub, Int.reduceMul, dec_t, dec_f, Nat.reduceBEq, Nat.reduceBNe, reduceShiftRight, reduceAnd, Nat.reduceAdd, Nat.reduceSub, reduceEqDiff, Nat.reduceLT, reduceLeDiff, reduceToNat, Int.reduceLT, Int.reduceLE, Int.reduceEq, reduceIte, reduceCtorEq]
              try rfl
          · rcases Nat.lt_or_ge 57 c.toNat with p4 | p4
            · simp -implicitDefEqProofs (disch := omega) only [go_sem, Int.reduceAdd, Int.reduceSub, Int.reduceMul, dec_t, dec_f, Nat.reduceBEq, Nat.reduceBNe, reduceShiftRight, reduceAnd, Nat.reduceAdd, Nat.reduceSub, reduceEqDiff, Nat.reduceLT, reduceLeDiff, reduceToNat, Int.reduceLT, Int.reduceLE, Int.reduceEq, reduceIte, reduceCtorEq]
              try rfl
            · simp -implicitDefEqProofs (disch := omega) only [go_sem, Int.reduceAdd, Int.reduceSub, Int.reduceMul, dec_t, dec_f, Nat.reduceBEq, Nat.reduceBNe, reduceShiftRight, reduceAnd, Nat.reduceAdd, Nat.reduceSub, reduceEqDiff, Nat.reduceLT, reduceLeDiff, reduceToNat, Int.reduceLT, Int.reduceLE, Int.reduceEq, reduceIte, reduceCtorEq]
              try rfl
      | true =>
        simp only [h1, h2, decide_true, Bool.true_and] at hw
        unfold small at h2
        simp only [Bool.and_eq_true, decide_eq_true_eq] at h2
        rw [hw] at h
        simp -implicitDefEqProofs (disch := omega) only [go_sem, Int.reduceAdd, Int.reduceSub, Int.reduceMul, dec_t, dec_f, Nat.reduceBEq, Nat.reduceBNe, reduceShiftRight, reduceAnd, Nat.reduceAdd, Nat.reduceSub, reduceEqDiff, Nat.reduceLT, reduceLeDiff, reduceToNat, Int.reduceLT, Int.reduceLE, Int.reduceEq, reduceIte, reduceCtorEq]
        rw [r_n88_14]
        simp -implicitDefEqProofs (disch := omega) only [go_sem, Int.reduceAdd, Int.reduceSub, Int.reduceMul, dec_t, dec_f, Nat.reduceBEq, Nat.reduceBNe, reduceShiftRight, reduceAnd, Nat.reduceAdd, Nat.reduceSub, reduceEqDiff, Nat.reduceLT, reduceLeDiff, reduceToNat, Int.reduceLT, Int.reduceLE, Int.reduceEq, reduceIte, reduceCtorEq, h]
        cases w <;> first | rfl | (simp -implicitDefEqProofs (disch := omega) only [go_sem, Int.reduceAdd, Int.reduceSub, Int.reduceMul, dec_t, dec_f, Nat.reduceBEq, Nat.reduceBNe, reduceShiftRight, reduceAnd, Nat.reduceAdd, Nat.reduceSub, reduceEqDiff, Nat.reduceLT, reduceLeDiff, reduceToNat, Int.reduceLT, Int.reduceLE, Int.reduceEq, reduceIte, reduceCtorEq])
    · simp only [h1, decide_false, Bool.false_and] at hw
      subst hw
      simp -implicitDefEqProofs (disch := omega) only [go_sem, Int.reduceAdd, Int.reduceSub, Int.reduceMul, dec_t, dec_f, Nat.reduceBEq, Nat.reduceBNe, reduceShiftRight, reduceAnd, Nat.reduceAdd, Nat.reduceSub, reduceEqDiff, Nat.reduceLT, reduceLeDiff, reduceToNat, Int.reduceLT, Int.reduceLE, Int.reduceEq, reduceIte, reduceCtorEq]
theorem t33 (i : Bs) (a : List Bs) (e : Bs) (hi hf : Bool) (ha : a.length ≤ 2 ^ 30) : pureCall C 33 [.agg [.str (bs i), .sl (a.map encS), .str (bs e), .lit (.bool hi), .lit (.bool hf)], .agg [.str [], .sl [], .str [], .lit (.bool false), .lit (.bool false)]] = some (tf (pEmpty i a e hi hf)) := by
  have h1 := bs_le i
  have h2 := bs_le e
  unfold pEmpty
  rw [p33]
  generalize bs i = i at h1 ⊢
  generalize bs e = e at h2 ⊢
  cases i <;> cases e <;> cases hi <;> cases hf <;> cases a <;> (try simp only [List.length_cons] at h1 h2 ha) <;> (simp -implicitDefEqProofs (disch := omega) only [go_sem, Int.reduceAdd, Int.reduceSub, Int.reduceMul, dec_t, dec_f, Nat.reduceBEq, Nat.reduceBNe, reduceShiftRight, reduceAnd, Nat.reduceAdd, Nat.reduceSub, reduceEqDiff, Nat.reduceLT, reduceLeDiff, reduceToNat, Int.reduceLT, Int.reduceLE, Int.reduceEq, reduceIte, reduceCtorEq]) <;> (try (rw [r_n33_14]; (simp -implicitDefEqProofs (disch := omega) only [go_sem, Int.reduceAdd, Int.reduceSub, Int.reduceMul, dec_t, dec_f, Nat.reduceBEq, Nat.reduceBNe, reduceShiftRight, reduceAnd, Nat.reduceAdd, Nat.reduceSub, reduceEqDiff, Nat.reduceLT, reduceLeDiff, reduceToNat, Int.reduceLT, Int.reduceLE, Int.reduceEq, reduceIte, reduceCtorEq]))) <;> (first | done | rfl)
set_option maxRecDepth 10000
set_option maxHeartbeats 8000000
theorem beq_b0 (l : List UInt8) : decide ((l.length : Int) = 0) = List.beq [] l := by
  cases l with
  | nil => rfl
  | cons a r => exact decide_eq_false (by simp only [List.length_cons]; omega)
theorem lenp (l : List UInt8) : decide ((0 : Int) < l.length) = !List.beq l [] := by
  cases l with
  | nil => rfl
  | cons a r => exact decide_eq_true (by simp only [List.length_cons]; omega)
theorem t97k (i : Bs) (a : List Bs) (e : Bs) (hi hf : Bool) (ha : a.length ≤ 2 ^ 30) : ∀ (r' : List Bs) (j : Nat) (x : Int), x = j → a.drop j = r' →
    ∃ x', n97_28 ⟨[(1, .ptr 0 1 0 0), (4, .d (.lit (.int .i64 x)))], [⟨5, [.d (.agg [.str (bs i), .sl (a.map encS), .str (bs e), .lit (.bool hi), .lit (.bool hf)])], false, false, false⟩]⟩ =
      br (r'.any (fun s => List.beq [] (bs s))) (some (.ret, ⟨[(2, .d (.lit (.int .i64 2)))], [⟨5, [.d (.agg [.str (bs i), .sl (a.map encS), .str (bs e), .lit (.bool hi), .lit (.bool hf)])], false, false, false⟩]⟩))
        (some (.exit 0, ⟨[(1, .ptr 0 1 0 0), (4, x'), (46, .d (.lit (.bool false)))], [⟨5, [.d (.agg [.str (bs i), .sl (a.map encS), .str (bs e), .lit (.bool hi), .lit (.bool hf)])], false, false, false⟩]⟩)) := by
  intro r'
  induction r' with
  | nil =>
    intro j x hx hd
    have hd := drop_nil hd
    refine ⟨.d (.lit (.int .i64 x)), ?_⟩
    rw [r_n97_28]
    simp -implicitDefEqProofs (disch := omega) only [go_sem, Int.reduceAdd, Int.reduceSub, Int.reduceMul, dec_t, dec_f, Nat.reduceBEq, Nat.reduceBNe, reduceShiftRight, reduceAnd, Nat.reduceAdd, Nat.reduceSub, reduceEqDiff, Nat.reduceLT, reduceLeDiff, reduceToNat, Int.reduceLT, Int.reduceLE, Int.reduceEq, reduceIte, reduceCtorEq]
    try rfl
  | cons c' r' ih =>
    intro j x hx hd
    obtain ⟨g1, g2, g3, g4⟩ := drop_cons hd
    have hnat : Int.toNat x = j := by omega
    obtain ⟨x', h⟩ := ih (j + 1) (x + 1) (by omega) g3
    have hl := bs_le c'
    have he := beq_b0 (bs c')
    cases hs : List.beq [] (bs c') with
    | true =>
      rw [hs] at he
      refine ⟨.undef, ?_⟩
      rw [r_n97_28, show ((c' :: r').any fun s => List.beq [] (bs s)) = true by simp [hs]]
      clear ih h
      simp -implicitDefEqProofs (disch := omega) only [go_sem, Int.reduceAdd, Int.reduceSub, Int.reduceMul, dec_t, dec_f, Nat.reduceBEq, Nat.reduceBNe, reduceShiftRight, reduceAnd, Nat.reduceAdd, Nat.reduceSub, reduceEqDiff, Nat.reduceLT, reduceLeDiff, reduceToNat, Int.reduceLT, Int.reduceLE, Int.reduceEq, reduceIte, reduceCtorEq, g2, hnat, he]
      try rfl
    | false =>
      rw [hs] at he
      refine ⟨x', ?_⟩
      rw [r_n97_28, show ((c' :: r').any fun s => List.beq [] (bs s)) = r'.any (fun s => List.beq [] (bs s)) by simp [hs]]
      clear ih
      generalize (r'.any fun s => List.beq [] (bs s)) = w at h ⊢
      simp -implicitDefEqProofs (disch := omega) only [go_sem, Int.reduceAdd, Int.reduceSub, Int.reduceMul, dec_t, dec_f, Nat.reduceBEq, Nat.reduceBNe, reduceShiftRight, reduceAnd, Nat.reduceAdd, Nat.reduceSub, reduceEqDiff, Nat.reduceLT, reduceLeDiff, reduceToNat, Int.reduceLT, Int.reduceLE, Int.reduceEq, reduceIte, reduceCtorEq, g2, hnat, he, h]
theorem t97 (i : Bs) (a : List Bs) (e : Bs) (hi hf : Bool) (ha : a.length ≤ 2 ^ 30) : pureCall C 97 [.agg [.str (bs i), .sl (a.map encS), .str (bs e), .lit (.bool hi), .lit (.bool hf)]] = some (lit (if pcOk i a e hi hf then 0 else 2)) := by
  obtain ⟨x', h⟩ := t97k i a e hi hf ha a 0 0 rfl rfl
  have h1 := bs_le i
  have h2 := bs_le e
  unfold pcOk
  rw [p97]
  generalize (a.any fun s => List.beq [] (bs s)) = w at h ⊢
  have hzz : (a.length = 0 ∧ a.isEmpty = true) ∨ (0 < a.length ∧ a.isEmpty = false) := by
    cases a with
    | nil => exact .inl ⟨rfl, rfl⟩
    | cons x r => exact .inr ⟨Nat.succ_pos _, rfl⟩
  rcases hzz with ⟨z, hz⟩ | ⟨z, hz⟩ <;> by_cases h6 : a.length ≤ 6 <;> first | omega | (
    cases hb1 : List.beq (bs i) [] <;> cases hb2 : List.beq (bs e) [] <;> cases hi <;> cases hf <;> (simp -implicitDefEqProofs (disch := omega) only [go_sem, Int.reduceAdd, Int.reduceSub, Int.reduceMul, dec_t, dec_f, Nat.reduceBEq, Nat.reduceBNe, reduceShiftRight, reduceAnd, Nat.reduceAdd, Nat.reduceSub, reduceEqDiff, Nat.reduceLT, reduceLeDiff, reduceToNat, Int.reduceLT, Int.reduceLE, Int.reduceEq, reduceIte, reduceCtorEq, lenp, hz, hb1, hb2, h]) <;> (try (cases w <;> (simp -implicitDefEqProofs (disch := omega) only [go_sem, Int.reduceAdd, Int.reduceSub, Int.reduceMul, dec_t, dec_f, Nat.reduceBEq, Nat.reduceBNe, reduceShiftRight, reduceAnd, Nat.reduceAdd, Nat.reduceSub, reduceEqDiff, Nat.reduceLT, reduceLeDiff, reduceToNat, Int.reduceLT, Int.reduceLE, Int.reduceEq, reduceIte, reduceCtorEq]))))
theorem t90k (i : Bs) (a : List Bs) (e : Bs) (hi hf : Bool) (ha : a.length ≤ 2 ^ 30) : ∀ (r' : List Bs) (j : Nat) (x : Int), x = j → a.drop j = r' →
    ∃ x', n90_14 ⟨[(1, .ptr 0 1 0 0), (3, .d (.lit (.int .i64 x)))], [⟨5, [.d (.agg [.str (bs i), .sl (a.map encS), .str (bs e), .lit (.bool hi), .lit (.bool hf)])], false, false, false⟩]⟩ =
      br (r'.any (fun s => decide (400 < (bs s).length))) (some (.ret, ⟨[(2, .d (.lit (.bool false)))], [⟨5, [.d (.agg [.str (bs i), .sl (a.map encS), .str (bs e), .lit (.bool hi), .lit (.bool hf)])], false, false, false⟩]⟩))
        (some (.exit 0, ⟨[(1, .ptr 0 1 0 0), (3, x'), (23, .d (.lit (.bool false)))], [⟨5, [.d (.agg [.str (bs i), .sl (a.map encS), .str (bs e), .lit (.bool hi), .lit (.bool hf)])], false, false, false⟩]⟩)) := by
  intro r'
  induction r' with
  | nil =>
    intro j x hx hd
    have hd := drop_nil hd
    refine ⟨.d (.lit (.int .i64 x)), ?_⟩
    rw [r_n90_14]
    simp -implicitDefEqProofs (disch := omega) only [go_sem, Int.reduceAdd, Int.reduceSub, Int.reduceMul, dec_t, dec_f, Nat.reduceBEq, Nat.reduceBNe, reduceShiftRight, reduceAnd, Nat.reduceAdd, Nat.reduceSub, reduceEqDiff, Nat.reduceLT, reduceLeDiff, reduceToNat, Int.reduceLT, Int.reduceLE, Int.reduceEq, reduceIte, reduceCtorEq]
    try rfl
  | cons c' r' ih =>
    intro j x hx hd
    obtain ⟨g1, g2, g3, g4⟩ := drop_cons hd
    have hnat : Int.toNat x = j := by omega
    obtain ⟨x', h⟩ := ih (j + 1) (x + 1) (by omega) g3
    have hl := bs_le c'
    by_cases hs : 400 < (bs c').length
    · refine ⟨.undef, ?_⟩
      rw [r_n90_14, show ((c' :: r').any fun s => decide (400 < (bs s).length)) = true by simp [hs]]
      clear ih h
      simp -implicitDefEqProofs (disch := omega) only [go_sem, Int.reduceAdd, Int.reduceSub, Int.reduceMul, dec_t, dec_f, Nat.reduceBEq, Nat.reduceBNe, reduceShiftRight, reduceAnd, Nat.reduceAdd, Nat.reduceSub, reduceEqDiff, Nat.reduceLT, reduceLeDiff, reduceToNat, Int.reduceLT, Int.reduceLE, Int.reduceEq, reduceIte, reduceCtorEq, g2, hnat]
      try rfl
    · refine ⟨x', ?_⟩
      rw [r_n90_14, show ((c' :: r').any fun s => decide (400 < (bs s).length)) = r'.any (fun s => decide (400 < (bs s).length)) by simp [hs]]
      clear ih
      generalize (r'.any fun s => decide (400 < (bs s).length)) = w at h ⊢
      simp -implicitDefEqProofs (disch := omega) only [go_sem, Int.reduceAdd, Int.reduceSub, Int.reduceMul, dec_t, dec_f, Nat.reduceBEq, Nat.reduceBNe, reduceShiftRight, reduceAnd, Nat.reduceAdd, Nat.reduceSub, reduceEqDiff, Nat.reduceLT, reduceLeDiff, reduceToNat, Int.reduceLT, Int.reduceLE, Int.reduceEq, reduceIte, reduceCtorEq, g2, hnat, h]
theorem t90 (i : Bs) (a : List Bs) (e : Bs) (hi hf : Bool) (ha : a.length ≤ 2 ^ 30) : pureCall C 90 [.agg [.str (bs i), .sl (a.map encS), .str (bs e), .lit (.bool hi), .lit (.bool hf)]] = some (tf (pcOk i a e hi hf && pShort i a e)) := by
  obtain ⟨x', h⟩ := t90k i a e hi hf ha a 0 0 rfl rfl
  have h1 := bs_le i
  have h2 := bs_le e
  have h97 := t97 i a e hi hf ha
  unfold pShort
  rw [p90]
  generalize (a.any fun s => decide (400 < (bs s).length)) = w at h ⊢
  cases hp : pcOk i a e hi hf
  · rw [hp] at h97
    simp -implicitDefEqProofs (disch := omega) only [go_sem, Int.reduceAdd, Int.reduceSub, Int.reduceMul, dec_t, dec_f, Nat.reduceBEq, Nat.reduceBNe, reduceShiftRight, reduceAnd, Nat.reduceAdd, Nat.reduceSub, reduceEqDiff, Nat.reduceLT, reduceLeDiff, reduceToNat, Int.reduceLT, Int.reduceLE, Int.reduceEq, reduceIte, reduceCtorEq, h97, h]
  · rw [hp] at h97
    by_cases q1 : 400 < (bs i).length
    · simp -implicitDefEqProofs (disch := omega) only [go_sem, Int.reduceAdd, Int.reduceSub, Int.reduceMul, dec_t, dec_f, Nat.reduceBEq, Nat.reduceBNe, reduceShiftRight, reduceAnd, Nat.reduceAdd, Nat.reduceSub, reduceEqDiff, Nat.reduceLT, reduceLeDiff, reduceToNat, Int.reduceLT, Int.reduceLE, Int.reduceEq, reduceIte, reduceCtorEq, h97, h]
    · by_cases q2 : 400 < (bs e).length
      · simp -implicitDefEqProofs (disch := omega) only [go_sem, Int.reduceAdd, Int.reduceSub, Int.reduceMul, dec_t, dec_f, Nat.reduceBEq, Nat.reduceBNe, reduceShiftRight, reduceAnd, Nat.reduceAdd, Nat.reduceSub, reduceEqDiff, Nat.reduceLT, reduceLeDiff, reduceToNat, Int.reduceLT, Int.reduceLE, Int.reduceEq, reduceIte, reduceCtorEq, h97, h]
      · simp -implicitDefEqProofs (disch := omega) only [go_sem, Int.reduceAdd, Int.reduceSub, Int.reduceMul, dec_t, dec_f, Nat.reduceBEq, Nat.reduceBNe, reduceShiftRight, reduceAnd, Nat.reduceAdd, Nat.reduceSub, reduceEqDiff, Nat.reduceLT, reduceLeDiff, reduceToNat, Int.reduceLT, Int.reduceLE, Int.reduceEq, reduceIte, reduceCtorEq, h97, h]
        cases w <;> (simp -implicitDefEqProofs (disch := omega) only [go_sem, Int.reduceAdd, Int.reduceSub, Int.reduceMul, dec_t, dec_f, Nat.reduceBEq, Nat.reduceBNe, reduceShiftRight, reduceAnd, Nat.reduceAdd, Nat.reduceSub, reduceEqDiff, Nat.reduceLT, reduceLeDiff, reduceToNat, Int.reduceLT, Int.reduceLE, Int.reduceEq, reduceIte, reduceCtorEq])
end Go.L25
