/- Layer 25: the document on which filters may be; elements held against each other. Conditions: none. -/
import Derived.Test.YtjbaoopiffcigaaPH
import Derived.Test.YtjbaoopiffcigaaPG
import Derived.Test.YtjbaoopiffcigaaPJ
set_option linter.unusedVariables false
set_option linter.unusedSimpArgs false
namespace Go.L25
open Go Go.Eng Go.Proofs
open Nat (reduceShiftRight reduceAnd reduceEqDiff reduceLeDiff)
open Int (reduceToNat)
set_option maxRecDepth 10000
set_option maxHeartbeats 4000000
def neO (f : Fo) : Bool := List.beq (bs (name f)) []
def wrO (f : Fo) : Bool := word (bs (rule f))
def fineO (f : Fo) : Bool := pcOkO f && pShortO f
def Aw1 (f : Fo) : Bool := brO f && !dn f && pEmptyO f && nvO f
def Aw2 (f : Fo) : Bool := brO f && !dn f && pEmptyO f
def Aw3 (f : Fo) : Bool := brO f && !dn f && pEmptyO f && bvO f
def Aw4 (f : Fo) : Bool := brO f && !dn f && bvO f
theorem nv_eq (f : Fo) : nvO f = (neO f && bvO f) := by
  unfold nvO neO bvO
  cases bs (name f) <;> cases bs (value f) <;> rfl
theorem nr_eq (f : Fo) : nrO f = (neO f && brO f) := by
  unfold nrO neO brO
  cases bs (name f) <;> cases bs (rule f) <;> rfl
theorem ch2 : ∀ a b : Bool, a = false ∨ (a = true ∧ b = false) ∨ (a = true ∧ b = true) := by decide
theorem ch3 : ∀ a b c : Bool, a = false ∨ (a = true ∧ b = false) ∨ (a = true ∧ b = true ∧ c = false) ∨ (a = true ∧ b = true ∧ c = true) := by decide
theorem t89_a (f : Fo) : pureCall C 89 [(.agg [.lit (.int .i64 (kind f)), .str (bs (name f)), .str (bs (value f)), .str (bs (ini f)), .sl (List.map encS (any f)), .str (bs (fin f)), .lit (.bool (hi f)), .lit (.bool (hf f)), .str (bs (rule f)), .lit (.bool (dn f)), .sl (List.map encO (kids f))]), .lit (.bool true), .lit (.bool true), .lit (.bool true), .lit (.bool true)] = some (tf (Aw1 f)) := by
  have h33 : pureCall C 33 [(.agg [.str (bs (ini f)), .sl (List.map encS (any f)), .str (bs (fin f)), .lit (.bool (hi f)), .lit (.bool (hf f))]), .agg [.str [], .sl [], .str [], .lit (.bool false), .lit (.bool false)]] = some (tf (pEmptyO f)) := t33 (ini f) (any f) (fin f) (hi f) (hf f) (any_le f)
  have e5 : List.beq (bs (rule f)) [] = brO f := rfl
  have e6 : List.beq (bs (value f)) [] = bvO f := rfl
  have e7 : List.beq (bs (name f)) [] = neO f := rfl
  unfold Aw1
  rw [nv_eq]
  rw [p89]
  rcases ch5 (neO f) (bvO f) (brO f) (!dn f) (pEmptyO f) with w0 | ⟨w0, w1⟩ | ⟨w0, w1, w2⟩ | ⟨w0, w1, w2, w3⟩ | ⟨w0, w1, w2, w3, w4⟩ | ⟨w0, w1, w2, w3, w4⟩ <;> (try simp only [Bool.not_eq_true', Bool.not_eq_false'] at *) <;> (simp -implicitDefEqProofs (disch := omega) only [go_sem, Int.reduceAdd, Int.reduceSub, Int.reduceMul, dec_t, dec_f, Nat.reduceBEq, Nat.reduceBNe, reduceShiftRight, reduceAnd, Nat.reduceAdd, Nat.reduceSub, reduceEqDiff, Nat.reduceLT, reduceLeDiff, reduceToNat, Int.reduceLT, Int.reduceLE, Int.reduceEq, reduceIte, reduceCtorEq, *])
theorem t89_b (f : Fo) : pureCall C 89 [(.agg [.lit (.int .i64 (kind f)), .str (bs (name f)), .str (bs (value f)), .str (bs (ini f)), .sl (List.map encS (any f)), .str (bs (fin f)), .lit (.bool (hi f)), .lit (.bool (hf f)), .str (bs (rule f)), .lit (.bool (dn f)), .sl (List.map encO (kids f))]), .lit (.bool false), .lit (.bool false), .lit (.bool true), .lit (.bool true)] = some (tf (Aw2 f)) := by
  have h33 : pureCall C 33 [(.agg [.str (bs (ini f)), .sl (List.map encS (any f)), .str (bs (fin f)), .lit (.bool (hi f)), .lit (.bool (hf f))]), .agg [.str [], .sl [], .str [], .lit (.bool false), .lit (.bool false)]] = some (tf (pEmptyO f)) := t33 (ini f) (any f) (fin f) (hi f) (hf f) (any_le f)
  have e5 : List.beq (bs (rule f)) [] = brO f := rfl
  have e6 : List.beq (bs (value f)) [] = bvO f := rfl
  have e7 : List.beq (bs (name f)) [] = neO f := rfl
  unfold Aw2
  skip
  rw [p89]
  rcases ch3 (brO f) (!dn f) (pEmptyO f) with w0 | ⟨w0, w1⟩ | ⟨w0, w1, w2⟩ | ⟨w0, w1, w2⟩ <;> (try simp only [Bool.not_eq_true', Bool.not_eq_false'] at *) <;> (simp -implicitDefEqProofs (disch := omega) only [go_sem, Int.reduceAdd, Int.reduceSub, Int.reduceMul, dec_t, dec_f, Nat.reduceBEq, Nat.reduceBNe, reduceShiftRight, reduceAnd, Nat.reduceAdd, Nat.reduceSub, reduceEqDiff, Nat.reduceLT, reduceLeDiff, reduceToNat, Int.reduceLT, Int.reduceLE, Int.reduceEq, reduceIte, reduceCtorEq, *])
theorem t89_c (f : Fo) : pureCall C 89 [(.agg [.lit (.int .i64 (kind f)), .str (bs (name f)), .str (bs (value f)), .str (bs (ini f)), .sl (List.map encS (any f)), .str (bs (fin f)), .lit (.bool (hi f)), .lit (.bool (hf f)), .str (bs (rule f)), .lit (.bool (dn f)), .sl (List.map encO (kids f))]), .lit (.bool false), .lit (.bool true), .lit (.bool true), .lit (.bool true)] = some (tf (Aw3 f)) := by
  have h33 : pureCall C 33 [(.agg [.str (bs (ini f)), .sl (List.map encS (any f)), .str (bs (fin f)), .lit (.bool (hi f)), .lit (.bool (hf f))]), .agg [.str [], .sl [], .str [], .lit (.bool false), .lit (.bool false)]] = some (tf (pEmptyO f)) := t33 (ini f) (any f) (fin f) (hi f) (hf f) (any_le f)
  have e5 : List.beq (bs (rule f)) [] = brO f := rfl
  have e6 : List.beq (bs (value f)) [] = bvO f := rfl
  have e7 : List.beq (bs (name f)) [] = neO f := rfl
  unfold Aw3
  skip
  rw [p89]
  rcases ch4 (bvO f) (brO f) (!dn f) (pEmptyO f) with w0 | ⟨w0, w1⟩ | ⟨w0, w1, w2⟩ | ⟨w0, w1, w2, w3⟩ | ⟨w0, w1, w2, w3⟩ <;> (try simp only [Bool.not_eq_true', Bool.not_eq_false'] at *) <;> (simp -implicitDefEqProofs (disch := omega) only [go_sem, Int.reduceAdd, Int.reduceSub, Int.reduceMul, dec_t, dec_f, Nat.reduceBEq, Nat.reduceBNe, reduceShiftRight, reduceAnd, Nat.reduceAdd, Nat.reduceSub, reduceEqDiff, Nat.reduceLT, reduceLeDiff, reduceToNat, Int.reduceLT, Int.reduceLE, Int.reduceEq, reduceIte, reduceCtorEq, *])
theorem t89_d (f : Fo) : pureCall C 89 [(.agg [.lit (.int .i64 (kind f)), .str (bs (name f)), .str (bs (value f)), .str (bs (ini f)), .sl (List.map encS (any f)), .str (bs (fin f)), .lit (.bool (hi f)), .lit (.bool (hf f)), .str (bs (rule f)), .lit (.bool (dn f)), .sl (List.map encO (kids f))]), .lit (.bool false), .lit (.bool true), .lit (.bool false), .lit (.bool true)] = some (tf (Aw4 f)) := by
  have h33 : pureCall C 33 [(.agg [.str (bs (ini f)), .sl (List.map encS (any f)), .str (bs (fin f)), .lit (.bool (hi f)), .lit (.bool (hf f))]), .agg [.str [], .sl [], .str [], .lit (.bool false), .lit (.bool false)]] = some (tf (pEmptyO f)) := t33 (ini f) (any f) (fin f) (hi f) (hf f) (any_le f)
  have e5 : List.beq (bs (rule f)) [] = brO f := rfl
  have e6 : List.beq (bs (value f)) [] = bvO f := rfl
  have e7 : List.beq (bs (name f)) [] = neO f := rfl
  unfold Aw4
  skip
  rw [p89]
  rcases ch3 (bvO f) (brO f) (!dn f) with w0 | ⟨w0, w1⟩ | ⟨w0, w1, w2⟩ | ⟨w0, w1, w2⟩ <;> (try simp only [Bool.not_eq_true', Bool.not_eq_false'] at *) <;> (simp -implicitDefEqProofs (disch := omega) only [go_sem, Int.reduceAdd, Int.reduceSub, Int.reduceMul, dec_t, dec_f, Nat.reduceBEq, Nat.reduceBNe, reduceShiftRight, reduceAnd, Nat.reduceAdd, Nat.reduceSub, reduceEqDiff, Nat.reduceLT, reduceLeDiff, reduceToNat, Int.reduceLT, Int.reduceLE, Int.reduceEq, reduceIte, reduceCtorEq, *])
theorem t89_e (f : Fo) : pureCall C 89 [(.agg [.lit (.int .i64 (kind f)), .str (bs (name f)), .str (bs (value f)), .str (bs (ini f)), .sl (List.map encS (any f)), .str (bs (fin f)), .lit (.bool (hi f)), .lit (.bool (hf f)), .str (bs (rule f)), .lit (.bool (dn f)), .sl (List.map encO (kids f))]), .lit (.bool false), .lit (.bool false), .lit (.bool true), .lit (.bool false)] = some (tf (pEmptyO f)) := by
  have h33 : pureCall C 33 [(.agg [.str (bs (ini f)), .sl (List.map encS (any f)), .str (bs (fin f)), .lit (.bool (hi f)), .lit (.bool (hf f))]), .agg [.str [], .sl [], .str [], .lit (.bool false), .lit (.bool false)]] = some (tf (pEmptyO f)) := t33 (ini f) (any f) (fin f) (hi f) (hf f) (any_le f)
  have e5 : List.beq (bs (rule f)) [] = brO f := rfl
  have e6 : List.beq (bs (value f)) [] = bvO f := rfl
  have e7 : List.beq (bs (name f)) [] = neO f := rfl
  generalize hR : pEmptyO f = R
  skip
  try rw [nv_eq] at hR
  rw [p89]
  (try simp -implicitDefEqProofs (disch := omega) only [go_sem, Int.reduceAdd, Int.reduceSub, Int.reduceMul, dec_t, dec_f, Nat.reduceBEq, Nat.reduceBNe, reduceShiftRight, reduceAnd, Nat.reduceAdd, Nat.reduceSub, reduceEqDiff, Nat.reduceLT, reduceLeDiff, reduceToNat, Int.reduceLT, Int.reduceLE, Int.reduceEq, reduceIte, reduceCtorEq, e5, e6, e7, h33])
  cases w1 : pEmptyO f with
  | false =>
    simp only [w1] at hR
    (try simp -implicitDefEqProofs (disch := omega) only [go_sem, Int.reduceAdd, Int.reduceSub, Int.reduceMul, dec_t, dec_f, Nat.reduceBEq, Nat.reduceBNe, reduceShiftRight, reduceAnd, Nat.reduceAdd, Nat.reduceSub, reduceEqDiff, Nat.reduceLT, reduceLeDiff, reduceToNat, Int.reduceLT, Int.reduceLE, Int.reduceEq, reduceIte, reduceCtorEq, e5, e6, e7, h33, w1])
    try simp only [Bool.not_true, Bool.not_false, Bool.and_true, Bool.and_false, Bool.true_and, Bool.false_and] at hR
    subst hR
    (first | done | rfl)
  | true =>
    simp only [w1] at hR
    (try simp -implicitDefEqProofs (disch := omega) only [go_sem, Int.reduceAdd, Int.reduceSub, Int.reduceMul, dec_t, dec_f, Nat.reduceBEq, Nat.reduceBNe, reduceShiftRight, reduceAnd, Nat.reduceAdd, Nat.reduceSub, reduceEqDiff, Nat.reduceLT, reduceLeDiff, reduceToNat, Int.reduceLT, Int.reduceLE, Int.reduceEq, reduceIte, reduceCtorEq, e5, e6, e7, h33, w1])
    try simp only [Bool.not_true, Bool.not_false, Bool.and_true, Bool.and_false, Bool.true_and, Bool.false_and] at hR
    subst hR
    (first | done | rfl)
def rOne (f : Fo) : Bool :=
  if kind f = 0 then Aw1 f else
  if kind f = 1 then Aw1 f else
  if kind f = 2 then Aw1 f && k1O f else
  if leafO f && v4O f then
    if kind f = 3 then Aw2 f && wnO f else
    if kind f = 5 then Aw2 f && wnO f else
    if kind f = 6 then Aw2 f && wnO f else
    if kind f = 8 then Aw2 f && wnO f else
    if kind f = 7 then Aw3 f && wnO f else
    if kind f = 4 then Aw4 f && wnO f && fineO f else
    if kind f = 9 then pEmptyO f && (wnO f || neO f) && (wrO f && !rdO f || brO f) && (wnO f || wrO f && !rdO f) else false
  else false
theorem t72 (f : Fo) : pureCall C 72 [(.agg [.lit (.int .i64 (kind f)), .str (bs (name f)), .str (bs (value f)), .str (bs (ini f)), .sl (List.map encS (any f)), .str (bs (fin f)), .lit (.bool (hi f)), .lit (.bool (hf f)), .str (bs (rule f)), .lit (.bool (dn f)), .sl (List.map encO (kids f))])] = some (tf (rOne f)) := by
  have ha := t89_a f
  have hb := t89_b f
  have hc := t89_c f
  have hd := t89_d f
  have he := t89_e f
  have h90 : pureCall C 90 [(.agg [.str (bs (ini f)), .sl (List.map encS (any f)), .str (bs (fin f)), .lit (.bool (hi f)), .lit (.bool (hf f))])] = some (tf (fineO f)) := t90 (ini f) (any f) (fin f) (hi f) (hf f) (any_le f)
  have q1 := bs_le (name f)
  have q2 := bs_le (value f)
  have q3 := bs_le (rule f)
  have q4 := kids_le f
  have e1 : decide (((kids f).length : Int) = 1) = k1O f := by unfold k1O; exact decide_eq_decide.2 (by omega)
  have e0 : decide ((0 : Int) < (kids f).length) = !leafO f := by unfold leafO; rw [← decide_not]; exact decide_eq_decide.2 (by omega)
  have e4 : decide ((400 : Int) < (bs (value f)).length) = !v4O f := by unfold v4O; rw [← decide_not]; exact decide_eq_decide.2 (by omega)
  have e5 : List.beq (bs (rule f)) [] = brO f := rfl
  have e6 : List.beq (bs (value f)) [] = bvO f := rfl
  have e7 : List.beq (bs (name f)) [] = neO f := rfl
  have e9 : List.beq (bs (rule f)) [100, 110] = rdO f := rfl
  have e10 : word (bs (name f)) = wnO f := rfl
  have e11 : word (bs (rule f)) = wrO f := rfl
  have hk : (kind f = 0 ∨ kind f = 1) ∨ kind f = 2 ∨ (kind f = 3 ∨ kind f = 5 ∨ kind f = 6 ∨ kind f = 8) ∨ kind f = 7 ∨ kind f = 4 ∨ kind f = 9 ∨ (¬ kind f = 0 ∧ ¬ kind f = 1 ∧ ¬ kind f = 2 ∧ ¬ kind f = 3 ∧ ¬ kind f = 5 ∧ ¬ kind f = 6 ∧ ¬ kind f = 8 ∧ ¬ kind f = 7 ∧ ¬ kind f = 4 ∧ ¬ kind f = 9) := by omega
  rw [p72]
  unfold rOne
  rcases hk with k | k | k | k | k | k | k
  · rcases k with k | k <;> rw [k] at ha <;> (simp -implicitDefEqProofs (disch := omega) only [go_sem, Int.reduceAdd, Int.reduceSub, Int.reduceMul, dec_t, dec_f, Nat.reduceBEq, Nat.reduceBNe, reduceShiftRight, reduceAnd, Nat.reduceAdd, Nat.reduceSub, reduceEqDiff, Nat.reduceLT, reduceLeDiff, reduceToNat, Int.reduceLT, Int.reduceLE, Int.reduceEq, reduceIte, reduceCtorEq, *])
  · rw [k] at ha
    cases w1 : Aw1 f <;> (simp -implicitDefEqProofs (disch := omega) only [go_sem, Int.reduceAdd, Int.reduceSub, Int.reduceMul, dec_t, dec_f, Nat.reduceBEq, Nat.reduceBNe, reduceShiftRight, reduceAnd, Nat.reduceAdd, Nat.reduceSub, reduceEqDiff, Nat.reduceLT, reduceLeDiff, reduceToNat, Int.reduceLT, Int.reduceLE, Int.reduceEq, reduceIte, reduceCtorEq, *])
  · rcases k with k | k | k | k <;> rw [k] at hb <;> rcases ch3 (leafO f) (v4O f) (Aw2 f) with w0 | ⟨w0, w1⟩ | ⟨w0, w1, w2⟩ | ⟨w0, w1, w2⟩ <;> (simp -implicitDefEqProofs (disch := omega) only [go_sem, Int.reduceAdd, Int.reduceSub, Int.reduceMul, dec_t, dec_f, Nat.reduceBEq, Nat.reduceBNe, reduceShiftRight, reduceAnd, Nat.reduceAdd, Nat.reduceSub, reduceEqDiff, Nat.reduceLT, reduceLeDiff, reduceToNat, Int.reduceLT, Int.reduceLE, Int.reduceEq, reduceIte, reduceCtorEq, *])
  · rw [k] at hc
    rcases ch3 (leafO f) (v4O f) (Aw3 f) with w0 | ⟨w0, w1⟩ | ⟨w0, w1, w2⟩ | ⟨w0, w1, w2⟩ <;> (simp -implicitDefEqProofs (disch := omega) only [go_sem, Int.reduceAdd, Int.reduceSub, Int.reduceMul, dec_t, dec_f, Nat.reduceBEq, Nat.reduceBNe, reduceShiftRight, reduceAnd, Nat.reduceAdd, Nat.reduceSub, reduceEqDiff, Nat.reduceLT, reduceLeDiff, reduceToNat, Int.reduceLT, Int.reduceLE, Int.reduceEq, reduceIte, reduceCtorEq, *])
  · rw [k] at hd
    rcases ch4 (leafO f) (v4O f) (Aw4 f) (wnO f) with w0 | ⟨w0, w1⟩ | ⟨w0, w1, w2⟩ | ⟨w0, w1, w2, w3⟩ | ⟨w0, w1, w2, w3⟩ <;> (simp -implicitDefEqProofs (disch := omega) only [go_sem, Int.reduceAdd, Int.reduceSub, Int.reduceMul, dec_t, dec_f, Nat.reduceBEq, Nat.reduceBNe, reduceShiftRight, reduceAnd, Nat.reduceAdd, Nat.reduceSub, reduceEqDiff, Nat.reduceLT, reduceLeDiff, reduceToNat, Int.reduceLT, Int.reduceLE, Int.reduceEq, reduceIte, reduceCtorEq, *])
  · rw [k] at he
    rcases ch3 (leafO f) (v4O f) (pEmptyO f) with w0 | ⟨w0, w1⟩ | ⟨w0, w1, w2⟩ | ⟨w0, w1, w2⟩
    · (simp -implicitDefEqProofs (disch := omega) only [go_sem, Int.reduceAdd, Int.reduceSub, Int.reduceMul, dec_t, dec_f, Nat.reduceBEq, Nat.reduceBNe, reduceShiftRight, reduceAnd, Nat.reduceAdd, Nat.reduceSub, reduceEqDiff, Nat.reduceLT, reduceLeDiff, reduceToNat, Int.reduceLT, Int.reduceLE, Int.reduceEq, reduceIte, reduceCtorEq, *])
    · (simp -implicitDefEqProofs (disch := omega) only [go_sem, Int.reduceAdd, Int.reduceSub, Int.reduceMul, dec_t, dec_f, Nat.reduceBEq, Nat.reduceBNe, reduceShiftRight, reduceAnd, Nat.reduceAdd, Nat.reduceSub, reduceEqDiff, Nat.reduceLT, reduceLeDiff, reduceToNat, Int.reduceLT, Int.reduceLE, Int.reduceEq, reduceIte, reduceCtorEq, *])
    · cases w3 : wrO f <;> cases w4 : rdO f <;> (simp -implicitDefEqProofs (disch := omega) only [go_sem, Int.reduceAdd, Int.reduceSub, Int.reduceMul, dec_t, dec_f, Nat.reduceBEq, Nat.reduceBNe, reduceShiftRight, reduceAnd, Nat.reduceAdd, Nat.reduceSub, reduceEqDiff, Nat.reduceLT, reduceLeDiff, reduceToNat, Int.reduceLT, Int.reduceLE, Int.reduceEq, reduceIte, reduceCtorEq, *])
    · cases w3 : wrO f <;> cases w4 : rdO f <;> cases w5 : wnO f <;> cases w6 : neO f <;> cases w7 : brO f <;> (simp -implicitDefEqProofs (disch := omega) only [go_sem, Int.reduceAdd, Int.reduceSub, Int.reduceMul, dec_t, dec_f, Nat.reduceBEq, Nat.reduceBNe, reduceShiftRight, reduceAnd, Nat.reduceAdd, Nat.reduceSub, reduceEqDiff, Nat.reduceLT, reduceLeDiff, reduceToNat, Int.reduceLT, Int.reduceLE, Int.reduceEq, reduceIte, reduceCtorEq, *])
  · obtain ⟨k0, k1, k2, k3, k5, k6, k8, k7, k4, k9⟩ := k
    rcases ch2 (leafO f) (v4O f) with w0 | ⟨w0, w1⟩ | ⟨w0, w1⟩ <;> (simp -implicitDefEqProofs (disch := omega) only [go_sem, Int.reduceAdd, Int.reduceSub, Int.reduceMul, dec_t, dec_f, Nat.reduceBEq, Nat.reduceBNe, reduceShiftRight, reduceAnd, Nat.reduceAdd, Nat.reduceSub, reduceEqDiff, Nat.reduceLT, reduceLeDiff, reduceToNat, Int.reduceLT, Int.reduceLE, Int.reduceEq, reduceIte, reduceCtorEq, *])
theorem word_nil (s : Bs) (h : word (bs s) = true) : List.beq (bs s) [] = false := by
  cases hs : bs s with
  | nil => rw [hs] at h; cases h
  | cons a r => rfl
theorem rd_nil (s : Bs) (h : List.beq (bs s) [100, 110] = true) : List.beq (bs s) [] = false := by
  cases hs : bs s with
  | nil => rw [hs] at h; cases h
  | cons a r => rfl
theorem rOne_eq (f : Fo) : rOne f = pOne f := by
  have n1 : wnO f = true → neO f = false := word_nil (name f)
  have n2 : wrO f = true → brO f = false := word_nil (rule f)
  have n3 : rdO f = true → brO f = false := rd_nil (rule f)
  have n4 : bvO f = true → v4O f = true := by
    unfold bvO v4O
    cases bs (value f) with
    | nil => intro _; rfl
    | cons a r => intro h; cases h
  have d1 : wn0O f = (neO f || wnO f) := rfl
  have d2 : wr0O f = (brO f || wrO f) := rfl
  unfold rOne pOne
  rw [d1, d2, nr_eq]
  unfold Aw1 Aw2 Aw3 Aw4 fineO
  generalize wnO f = wn at *
  generalize neO f = ne at *
  generalize brO f = br at *
  generalize wrO f = wr at *
  generalize rdO f = rd at *
  generalize bvO f = bv at *
  generalize v4O f = v4 at *
  generalize leafO f = lf at *
  generalize dn f = dd at *
  generalize pEmptyO f = pe at *
  generalize nvO f = nv at *
  generalize k1O f = k1 at *
  generalize pcOkO f = pc at *
  generalize pShortO f = ps at *
  generalize kind f = k at *
  by_cases k0 : k = 0
  · simp only [k0, if_true]
  by_cases k1' : k = 1
  · simp only [k1', Int.reduceEq, if_true, if_false]
  by_cases k2 : k = 2
  · simp only [k2, Int.reduceEq, if_true, if_false]
  simp only [k0, k1', k2, if_false]
  by_cases k3 : k = 3
  · simp only [k3, Int.reduceEq, if_true, if_false]
    cases lf <;> cases v4 <;> cases br <;> cases dd <;> cases pe <;> cases wn <;> simp
  by_cases k5 : k = 5
  · simp only [k5, Int.reduceEq, if_true, if_false]
    cases lf <;> cases v4 <;> cases br <;> cases dd <;> cases pe <;> cases wn <;> simp
  by_cases k6 : k = 6
  · simp only [k6, Int.reduceEq, if_true, if_false]
    cases lf <;> cases v4 <;> cases br <;> cases dd <;> cases pe <;> cases wn <;> simp
  by_cases k8 : k = 8
  · simp only [k8, Int.reduceEq, if_true, if_false]
    cases lf <;> cases v4 <;> cases br <;> cases dd <;> cases pe <;> cases wn <;> simp
  simp only [k3, k5, k6, k8, if_false]
  by_cases k7 : k = 7
  · simp only [k7, Int.reduceEq, if_true, if_false]
    cases lf <;> cases bv <;> cases br <;> cases dd <;> cases pe <;> cases wn <;> cases v4 <;> simp at n4 ⊢
  by_cases k4 : k = 4
  · simp only [k4, Int.reduceEq, if_true, if_false]
    cases lf <;> cases bv <;> cases br <;> cases dd <;> cases pc <;> cases wn <;> cases ps <;> cases v4 <;> simp at n4 ⊢
  by_cases k9 : k = 9
  · simp only [k9, Int.reduceEq, if_true, if_false]
    cases lf <;> cases v4 <;> cases pe <;> cases wn <;> cases ne <;> cases br <;> cases wr <;> cases rd <;> simp at n1 n2 n3 ⊢
  simp only [k7, k4, k9, if_false]
  split <;> rfl
set_option maxRecDepth 10000
set_option maxHeartbeats 4000000
theorem t47 (f : Fo) : pureCall C 47 [(.agg [.lit (.int .i64 (kind f)), .str (bs (name f)), .str (bs (value f)), .str (bs (ini f)), .sl (List.map encS (any f)), .str (bs (fin f)), .lit (.bool (hi f)), .lit (.bool (hf f)), .str (bs (rule f)), .lit (.bool (dn f)), .sl (List.map encO (kids f))])] = some (tf (allF f)) := by
  have IH : ∀ g ∈ kids f, pureCall C 47 [(.agg [.lit (.int .i64 (kind g)), .str (bs (name g)), .str (bs (value g)), .str (bs (ini g)), .sl (List.map encS (any g)), .str (bs (fin g)), .lit (.bool (hi g)), .lit (.bool (hf g)), .str (bs (rule g)), .lit (.bool (dn g)), .sl (List.map encO (kids g))])] = some (tf (allF g)) := fun g hg => t47 g
  have hkl := kids_le f
  have key : ∀ (r : List Fo) (j : Nat) (x : Int), x = j → (kids f).drop j = r →
      ∃ x', n47_6 ⟨[(1, .ptr 0 1 0 0), (3, .d (.lit (.int .i64 x)))], [⟨11, [.d (.agg [.lit (.int .i64 (kind f)), .str (bs (name f)), .str (bs (value f)), .str (bs (ini f)), .sl (List.map encS (any f)), .str (bs (fin f)), .lit (.bool (hi f)), .lit (.bool (hf f)), .str (bs (rule f)), .lit (.bool (dn f)), .sl (List.map encO (kids f))])], false, false, false⟩]⟩ =
        br (r.any (fun k => !allF k)) (some (.ret, ⟨[(2, .d (.lit (.bool false)))], [⟨11, [.d (.agg [.lit (.int .i64 (kind f)), .str (bs (name f)), .str (bs (value f)), .str (bs (ini f)), .sl (List.map encS (any f)), .str (bs (fin f)), .lit (.bool (hi f)), .lit (.bool (hf f)), .str (bs (rule f)), .lit (.bool (dn f)), .sl (List.map encO (kids f))])], false, false, false⟩]⟩))
          (some (.exit 0, ⟨[(1, .ptr 0 1 0 0), (3, x'), (8, .d (.lit (.bool false)))], [⟨11, [.d (.agg [.lit (.int .i64 (kind f)), .str (bs (name f)), .str (bs (value f)), .str (bs (ini f)), .sl (List.map encS (any f)), .str (bs (fin f)), .lit (.bool (hi f)), .lit (.bool (hf f)), .str (bs (rule f)), .lit (.bool (dn f)), .sl (List.map encO (kids f))])], false, false, false⟩]⟩)) := by
    intro r
    induction r with
    | nil =>
      intro j x hx hd
      have hd := drop_nil hd
      refine ⟨.d (.lit (.int .i64 x)), ?_⟩
      rw [r_n47_6]
      simp -implicitDefEqProofs (disch := omega) only [go_sem, Int.reduceAdd, Int.reduceSub, Int.reduceMul, dec_t, dec_f, Nat.reduceBEq, Nat.reduceBNe, reduceShiftRight, reduceAnd, Nat.reduceAdd, Nat.reduceSub, reduceEqDiff, Nat.reduceLT, reduceLeDiff, reduceToNat, Int.reduceLT, Int.reduceLE, Int.reduceEq, reduceIte, reduceCtorEq]
      try rfl
    | cons g r ih =>
      intro j x hx hd
      obtain ⟨g1, g2, g3, g4⟩ := drop_cons hd
      have hnat : Int.toNat x = j := by omega
      have hc := IH g g4
      obtain ⟨x', h⟩ := ih (j + 1) (x + 1) (by omega) g3
      cases hs : allF g with
      | false =>
        rw [hs] at hc
        refine ⟨.undef, ?_⟩
        rw [r_n47_6, show ((g :: r).any fun k => !allF k) = true by simp [hs]]
        clear ih h
        simp -implicitDefEqProofs (disch := omega) only [go_sem, Int.reduceAdd, Int.reduceSub, Int.reduceMul, dec_t, dec_f, Nat.reduceBEq, Nat.reduceBNe, reduceShiftRight, reduceAnd, Nat.reduceAdd, Nat.reduceSub, reduceEqDiff, Nat.reduceLT, reduceLeDiff, reduceToNat, Int.reduceLT, Int.reduceLE, Int.reduceEq, reduceIte, reduceCtorEq, g2, hnat, hc]
        try rfl
      | true =>
        rw [hs] at hc
        refine ⟨x', ?_⟩
        rw [r_n47_6, show ((g :: r).any fun k => !allF k) = r.any (fun k => !allF k) by simp [hs]]
        clear ih
        generalize (r.any fun k => !allF k) = w at h ⊢
        simp -implicitDefEqProofs (disch := omega) only [go_sem, Int.reduceAdd, Int.reduceSub, Int.reduceMul, dec_t, dec_f, Nat.reduceBEq, Nat.reduceBNe, reduceShiftRight, reduceAnd, Nat.reduceAdd, Nat.reduceSub, reduceEqDiff, Nat.reduceLT, reduceLeDiff, reduceToNat, Int.reduceLT, Int.reduceLE, Int.reduceEq, reduceIte, reduceCtorEq, g2, hnat, hc, h]
  obtain ⟨x', h⟩ := key (kids f) 0 0 rfl rfl
  have h72 := t72 f
  rw [rOne_eq] at h72
  rw [p47, allF_eq]
  generalize ((kids f).any fun k => !allF k) = w at h ⊢
  generalize pOne f = w2 at h72 ⊢
  cases w
  · cases w2 <;> (simp -implicitDefEqProofs (disch := omega) only [go_sem, Int.reduceAdd, Int.reduceSub, Int.reduceMul, dec_t, dec_f, Nat.reduceBEq, Nat.reduceBNe, reduceShiftRight, reduceAnd, Nat.reduceAdd, Nat.reduceSub, reduceEqDiff, Nat.reduceLT, reduceLeDiff, reduceToNat, Int.reduceLT, Int.reduceLE, Int.reduceEq, reduceIte, reduceCtorEq, h, h72]) <;> (first | done | rfl)
  · cases w2 <;> (simp -implicitDefEqProofs (disch := omega) only [go_sem, Int.reduceAdd, Int.reduceSub, Int.reduceMul, dec_t, dec_f, Nat.reduceBEq, Nat.reduceBNe, reduceShiftRight, reduceAnd, Nat.reduceAdd, Nat.reduceSub, reduceEqDiff, Nat.reduceLT, reduceLeDiff, reduceToNat, Int.reduceLT, Int.reduceLE, Int.reduceEq, reduceIte, reduceCtorEq, h, h72]) <;> (first | done | rfl)
termination_by sz f
decreasing_by exact kids_lt hg
@[go_sem] theorem t24 (f : Fo) : pureCall C 24 [(.agg [.lit (.int .i64 (kind f)), .str (bs (name f)), .str (bs (value f)), .str (bs (ini f)), .sl (List.map encS (any f)), .str (bs (fin f)), .lit (.bool (hi f)), .lit (.bool (hf f)), .str (bs (rule f)), .lit (.bool (dn f)), .sl (List.map encO (kids f))])] = some (lit (if chkF f then 0 else 240)) := by
  have h45 := t45 f
  have h46 := t46 f
  have h47 := t47 f
  unfold chkF
  rw [p24]
  by_cases q1 : dep 8 f ≤ 8 <;> by_cases q2 : cnt8 f ≤ 60 <;> simp only [q1, q2, decide_true, decide_false] <;> cases b3 : allF f <;> rw [b3] at h47 <;> (simp -implicitDefEqProofs (disch := omega) only [go_sem, Int.reduceAdd, Int.reduceSub, Int.reduceMul, dec_t, dec_f, Nat.reduceBEq, Nat.reduceBNe, reduceShiftRight, reduceAnd, Nat.reduceAdd, Nat.reduceSub, reduceEqDiff, Nat.reduceLT, reduceLeDiff, reduceToNat, Int.reduceLT, Int.reduceLE, Int.reduceEq, reduceIte, reduceCtorEq, h45, h46, h47]) <;> (first | done | rfl)
set_option maxRecDepth 10000
set_option maxHeartbeats 4000000
attribute [go_sem] p48 p49
theorem t25a (f : Fo) (IH : ∀ g ∈ kids f, pureCall C 25 [(.agg [.lit (.int .i64 (kind g)), .str (bs (name g)), .str (bs (value g)), .str (bs (ini g)), .sl (List.map encS (any g)), .str (bs (fin g)), .lit (.bool (hi g)), .lit (.bool (hf g)), .str (bs (rule g)), .lit (.bool (dn g)), .sl (List.map encO (kids g))])] = some (.one (.d (.agg [.lit (.int .i64 (cls (laidE g))), .lit (.bool (made (laidE g))), .lit (.int .i64 (num (laidE g))), .str (bs (cont (laidE g))), .sl (List.map encE (els (laidE g)))])))) : ∀ (r' : List Fo) (acc : List Eo) (j : Nat) (x : Int), x = j → acc.length + r'.length ≤ 2 ^ 30 → (kids f).drop j = r' →
      ∃ x', n25_22 ⟨[(1, .ptr 0 1 0 0), (2, .ptr 1 1 0 0), (3, .ptr 2 1 0 0), (4, .d (.lit (.int .i64 x)))], (⟨11, [.d (.agg [.lit (.int .i64 (kind f)), .str (bs (name f)), .str (bs (value f)), .str (bs (ini f)), .sl (List.map encS (any f)), .str (bs (fin f)), .lit (.bool (hi f)), .lit (.bool (hf f)), .str (bs (rule f)), .lit (.bool (dn f)), .sl (List.map encO (kids f))])], false, false, false⟩ :: ⟨5, [.agg [.d (.lit (.int .i64 0)), .d (.lit (.bool false)), .d (.lit (.int .i64 0)), .d (.str []), .snil]], false, false, false⟩ :: ⟨5, [.agg [.d (.lit (.int .i64 2)), .d (.lit (.bool true)), .d (.lit (.int .i64 (kind f))), .d (.str []), bif acc.isEmpty then .snil else .sref 3 acc.length 5 0 acc.length]], false, false, false⟩ :: (bif acc.isEmpty then [] else [⟨5, List.map AV.d (List.map encE acc), true, true, false⟩]))⟩ =
        some (.exit 1, ⟨[(1, .ptr 0 1 0 0), (2, .ptr 1 1 0 0), (3, .ptr 2 1 0 0), (4, x'), (28, .d (.lit (.bool false)))], (⟨11, [.d (.agg [.lit (.int .i64 (kind f)), .str (bs (name f)), .str (bs (value f)), .str (bs (ini f)), .sl (List.map encS (any f)), .str (bs (fin f)), .lit (.bool (hi f)), .lit (.bool (hf f)), .str (bs (rule f)), .lit (.bool (dn f)), .sl (List.map encO (kids f))])], false, false, false⟩ :: ⟨5, [.agg [.d (.lit (.int .i64 0)), .d (.lit (.bool false)), .d (.lit (.int .i64 0)), .d (.str []), .snil]], false, false, false⟩ :: ⟨5, [.agg [.d (.lit (.int .i64 2)), .d (.lit (.bool true)), .d (.lit (.int .i64 (kind f))), .d (.str []), bif ((acc ++ (r'.map laidE))).isEmpty then .snil else .sref 3 ((acc ++ (r'.map laidE))).length 5 0 ((acc ++ (r'.map laidE))).length]], false, false, false⟩ :: (bif ((acc ++ (r'.map laidE))).isEmpty then [] else [⟨5, List.map AV.d (List.map encE ((acc ++ (r'.map laidE)))), true, true, false⟩]))⟩) := by
  intro r'
  induction r' with
  | nil =>
    intro acc j x hx hl hd
    have hd := drop_nil hd
    have hl2 := kids_le f
    refine ⟨.d (.lit (.int .i64 x)), ?_⟩
    rw [r_n25_22, show (acc ++ (List.map laidE [])) = acc from List.append_nil _]
    cases he : acc.isEmpty
    · simp -implicitDefEqProofs (disch := omega) only [go_sem, Int.reduceAdd, Int.reduceSub, Int.reduceMul, dec_t, dec_f, Nat.reduceBEq, Nat.reduceBNe, reduceShiftRight, reduceAnd, Nat.reduceAdd, Nat.reduceSub, reduceEqDiff, Nat.reduceLT, reduceLeDiff, reduceToNat, Int.reduceLT, Int.reduceLE, Int.reduceEq, reduceIte, reduceCtorEq, he]
      (first | done | rfl)
    · have : acc = [] := List.isEmpty_iff.1 he
      subst this
      simp -implicitDefEqProofs (disch := omega) only [go_sem, Int.reduceAdd, Int.reduceSub, Int.reduceMul, dec_t, dec_f, Nat.reduceBEq, Nat.reduceBNe, reduceShiftRight, reduceAnd, Nat.reduceAdd, Nat.reduceSub, reduceEqDiff, Nat.reduceLT, reduceLeDiff, reduceToNat, Int.reduceLT, Int.reduceLE, Int.reduceEq, reduceIte, reduceCtorEq]
      (first | done | rfl)
  | cons a' r' ih =>
    intro acc j x hx hl hd
    simp only [List.length_cons] at hl
    obtain ⟨g1, g2, g3, g4⟩ := drop_cons hd
    have hl2 := kids_le f
    have hc := IH a' g4
    have hnat : Int.toNat x = j := by omega
    obtain ⟨x', h⟩ := ih (acc ++ [laidE a']) (j + 1) (x + 1) (by omega) (by show (acc ++ [laidE a']).length + _ ≤ _; rw [List.length_append]; simp only [List.length_cons, List.length_nil]; omega) g3
    refine ⟨x', ?_⟩
    rw [r_n25_22]
    rw [show ((acc ++ [laidE a']) ++ (List.map laidE r')) = (acc ++ (List.map laidE (a' :: r'))) from List.append_assoc acc [laidE a'] _] at h
    generalize (acc ++ (List.map laidE (a' :: r'))) = w at h ⊢
    cases he : acc.isEmpty
    · simp -implicitDefEqProofs (disch := omega) only [go_sem, Int.reduceAdd, Int.reduceSub, Int.reduceMul, dec_t, dec_f, Nat.reduceBEq, Nat.reduceBNe, reduceShiftRight, reduceAnd, Nat.reduceAdd, Nat.reduceSub, reduceEqDiff, Nat.reduceLT, reduceLeDiff, reduceToNat, Int.reduceLT, Int.reduceLE, Int.reduceEq, reduceIte, reduceCtorEq, p1, he] at h
      simp -implicitDefEqProofs (disch := omega) only [go_sem, Int.reduceAdd, Int.reduceSub, Int.reduceMul, dec_t, dec_f, Nat.reduceBEq, Nat.reduceBNe, reduceShiftRight, reduceAnd, Nat.reduceAdd, Nat.reduceSub, reduceEqDiff, Nat.reduceLT, reduceLeDiff, reduceToNat, Int.reduceLT, Int.reduceLE, Int.reduceEq, reduceIte, reduceCtorEq, he, g2, hnat, hc, h]
    · have : acc = [] := List.isEmpty_iff.1 he
      subst this
      simp -implicitDefEqProofs (disch := omega) only [go_sem, Int.reduceAdd, Int.reduceSub, Int.reduceMul, dec_t, dec_f, Nat.reduceBEq, Nat.reduceBNe, reduceShiftRight, reduceAnd, Nat.reduceAdd, Nat.reduceSub, reduceEqDiff, Nat.reduceLT, reduceLeDiff, reduceToNat, Int.reduceLT, Int.reduceLE, Int.reduceEq, reduceIte, reduceCtorEq, p1] at h
      simp -implicitDefEqProofs (disch := omega) only [go_sem, Int.reduceAdd, Int.reduceSub, Int.reduceMul, dec_t, dec_f, Nat.reduceBEq, Nat.reduceBNe, reduceShiftRight, reduceAnd, Nat.reduceAdd, Nat.reduceSub, reduceEqDiff, Nat.reduceLT, reduceLeDiff, reduceToNat, Int.reduceLT, Int.reduceLE, Int.reduceEq, reduceIte, reduceCtorEq, g2, hnat, hc, h]
theorem t25b (f : Fo) : ∀ (r' : List Bs) (acc : List Eo) (j : Nat) (x : Int), x = j → acc.length + r'.length ≤ 2 ^ 30 → (any f).drop j = r' →
      ∃ x', n25_54 ⟨[(1, .ptr 0 1 0 0), (2, .ptr 1 1 0 0), (3, .ptr 2 1 0 0), (5, .ptr 3 1 0 0), (6, .d (.lit (.int .i64 x)))], (⟨11, [.d (.agg [.lit (.int .i64 (kind f)), .str (bs (name f)), .str (bs (value f)), .str (bs (ini f)), .sl (List.map encS (any f)), .str (bs (fin f)), .lit (.bool (hi f)), .lit (.bool (hf f)), .str (bs (rule f)), .lit (.bool (dn f)), .sl (List.map encO (kids f))])], false, false, false⟩ :: ⟨5, [.agg [.d (.lit (.int .i64 0)), .d (.lit (.bool false)), .d (.lit (.int .i64 0)), .d (.str []), .snil]], false, false, false⟩ :: ⟨5, [.agg [.d (.lit (.int .i64 2)), .d (.lit (.bool true)), .d (.lit (.int .i64 (kind f))), .d (.str []), .snil]], false, false, false⟩ :: ⟨5, [.agg [.d (.lit (.int .i64 0)), .d (.lit (.bool true)), .d (.lit (.int .i64 16)), .d (.str []), bif acc.isEmpty then .snil else .sref 4 acc.length 5 0 acc.length]], false, false, false⟩ :: (bif acc.isEmpty then [] else [⟨5, List.map AV.d (List.map encE acc), true, true, false⟩]))⟩ =
        some (.exit 3, ⟨[(1, .ptr 0 1 0 0), (2, .ptr 1 1 0 0), (3, .ptr 2 1 0 0), (5, .ptr 3 1 0 0), (6, x'), (67, .d (.lit (.bool false)))], (⟨11, [.d (.agg [.lit (.int .i64 (kind f)), .str (bs (name f)), .str (bs (value f)), .str (bs (ini f)), .sl (List.map encS (any f)), .str (bs (fin f)), .lit (.bool (hi f)), .lit (.bool (hf f)), .str (bs (rule f)), .lit (.bool (dn f)), .sl (List.map encO (kids f))])], false, false, false⟩ :: ⟨5, [.agg [.d (.lit (.int .i64 0)), .d (.lit (.bool false)), .d (.lit (.int .i64 0)), .d (.str []), .snil]], false, false, false⟩ :: ⟨5, [.agg [.d (.lit (.int .i64 2)), .d (.lit (.bool true)), .d (.lit (.int .i64 (kind f))), .d (.str []), .snil]], false, false, false⟩ :: ⟨5, [.agg [.d (.lit (.int .i64 0)), .d (.lit (.bool true)), .d (.lit (.int .i64 16)), .d (.str []), bif ((acc ++ (r'.map p1))).isEmpty then .snil else .sref 4 ((acc ++ (r'.map p1))).length 5 0 ((acc ++ (r'.map p1))).length]], false, false, false⟩ :: (bif ((acc ++ (r'.map p1))).isEmpty then [] else [⟨5, List.map AV.d (List.map encE ((acc ++ (r'.map p1)))), true, true, false⟩]))⟩) := by
  intro r'
  induction r' with
  | nil =>
    intro acc j x hx hl hd
    have hd := drop_nil hd
    have hl2 := any_28 f
    refine ⟨.d (.lit (.int .i64 x)), ?_⟩
    rw [r_n25_54, show (acc ++ (List.map p1 [])) = acc from List.append_nil _]
    cases he : acc.isEmpty
    · simp -implicitDefEqProofs (disch := omega) only [go_sem, Int.reduceAdd, Int.reduceSub, Int.reduceMul, dec_t, dec_f, Nat.reduceBEq, Nat.reduceBNe, reduceShiftRight, reduceAnd, Nat.reduceAdd, Nat.reduceSub, reduceEqDiff, Nat.reduceLT, reduceLeDiff, reduceToNat, Int.reduceLT, Int.reduceLE, Int.reduceEq, reduceIte, reduceCtorEq, he]
      (first | done | rfl)
    · have : acc = [] := List.isEmpty_iff.1 he
      subst this
      simp -implicitDefEqProofs (disch := omega) only [go_sem, Int.reduceAdd, Int.reduceSub, Int.reduceMul, dec_t, dec_f, Nat.reduceBEq, Nat.reduceBNe, reduceShiftRight, reduceAnd, Nat.reduceAdd, Nat.reduceSub, reduceEqDiff, Nat.reduceLT, reduceLeDiff, reduceToNat, Int.reduceLT, Int.reduceLE, Int.reduceEq, reduceIte, reduceCtorEq]
      (first | done | rfl)
  | cons a' r' ih =>
    intro acc j x hx hl hd
    simp only [List.length_cons] at hl
    obtain ⟨g1, g2, g3, g4⟩ := drop_cons hd
    have hl2 := any_28 f
    have hc : True := trivial
    have hnat : Int.toNat x = j := by omega
    obtain ⟨x', h⟩ := ih (acc ++ [p1 a']) (j + 1) (x + 1) (by omega) (by show (acc ++ [p1 a']).length + _ ≤ _; rw [List.length_append]; simp only [List.length_cons, List.length_nil]; omega) g3
    refine ⟨x', ?_⟩
    rw [r_n25_54]
    rw [show ((acc ++ [p1 a']) ++ (List.map p1 r')) = (acc ++ (List.map p1 (a' :: r'))) from List.append_assoc acc [p1 a'] _] at h
    generalize (acc ++ (List.map p1 (a' :: r'))) = w at h ⊢
    cases he : acc.isEmpty
    · simp -implicitDefEqProofs (disch := omega) only [go_sem, Int.reduceAdd, Int.reduceSub, Int.reduceMul, dec_t, dec_f, Nat.reduceBEq, Nat.reduceBNe, reduceShiftRight, reduceAnd, Nat.reduceAdd, Nat.reduceSub, reduceEqDiff, Nat.reduceLT, reduceLeDiff, reduceToNat, Int.reduceLT, Int.reduceLE, Int.reduceEq, reduceIte, reduceCtorEq, p1, he] at h
      simp -implicitDefEqProofs (disch := omega) only [go_sem, Int.reduceAdd, Int.reduceSub, Int.reduceMul, dec_t, dec_f, Nat.reduceBEq, Nat.reduceBNe, reduceShiftRight, reduceAnd, Nat.reduceAdd, Nat.reduceSub, reduceEqDiff, Nat.reduceLT, reduceLeDiff, reduceToNat, Int.reduceLT, Int.reduceLE, Int.reduceEq, reduceIte, reduceCtorEq, he, g2, hnat, hc, h]
    · have : acc = [] := List.isEmpty_iff.1 he
      subst this
      simp -implicitDefEqProofs (disch := omega) only [go_sem, Int.reduceAdd, Int.reduceSub, Int.reduceMul, dec_t, dec_f, Nat.reduceBEq, Nat.reduceBNe, reduceShiftRight, reduceAnd, Nat.reduceAdd, Nat.reduceSub, reduceEqDiff, Nat.reduceLT, reduceLeDiff, reduceToNat, Int.reduceLT, Int.reduceLE, Int.reduceEq, reduceIte, reduceCtorEq, p1] at h
      simp -implicitDefEqProofs (disch := omega) only [go_sem, Int.reduceAdd, Int.reduceSub, Int.reduceMul, dec_t, dec_f, Nat.reduceBEq, Nat.reduceBNe, reduceShiftRight, reduceAnd, Nat.reduceAdd, Nat.reduceSub, reduceEqDiff, Nat.reduceLT, reduceLeDiff, reduceToNat, Int.reduceLT, Int.reduceLE, Int.reduceEq, reduceIte, reduceCtorEq, g2, hnat, hc, h]
set_option maxRecDepth 10000
set_option maxHeartbeats 4000000
theorem t25g (f : Fo) (hk : kind f = 0 ∨ kind f = 1 ∨ kind f = 2) (IH : ∀ g ∈ kids f, pureCall C 25 [(.agg [.lit (.int .i64 (kind g)), .str (bs (name g)), .str (bs (value g)), .str (bs (ini g)), .sl (List.map encS (any g)), .str (bs (fin g)), .lit (.bool (hi g)), .lit (.bool (hf g)), .str (bs (rule g)), .lit (.bool (dn g)), .sl (List.map encO (kids g))])] = some (.one (.d (.agg [.lit (.int .i64 (cls (laidE g))), .lit (.bool (made (laidE g))), .lit (.int .i64 (num (laidE g))), .str (bs (cont (laidE g))), .sl (List.map encE (els (laidE g)))])))) : pureCall C 25 [(.agg [.lit (.int .i64 (kind f)), .str (bs (name f)), .str (bs (value f)), .str (bs (ini f)), .sl (List.map encS (any f)), .str (bs (fin f)), .lit (.bool (hi f)), .lit (.bool (hf f)), .str (bs (rule f)), .lit (.bool (dn f)), .sl (List.map encO (kids f))])] = some (.one (.d (encE (laidE f)))) := by
  have hl := kids_le f
  have hR := laidE_eq f
  rw [if_pos hk] at hR
  obtain ⟨x', h⟩ := t25a f IH (kids f) [] 0 0 rfl (by simp; omega) rfl
  rw [show ([] ++ (List.map laidE (kids f))) = List.map laidE (kids f) from rfl] at h
  have hw : (List.map laidE (kids f)).length ≤ 2 ^ 30 := by simpa using hl
  generalize List.map laidE (kids f) = w at h hR hw
  rw [p25, hR, encE_mk _ _ _ _ _ hw]
  cases he : w.isEmpty
  · simp -implicitDefEqProofs (disch := omega) only [go_sem, Int.reduceAdd, Int.reduceSub, Int.reduceMul, dec_t, dec_f, Nat.reduceBEq, Nat.reduceBNe, reduceShiftRight, reduceAnd, Nat.reduceAdd, Nat.reduceSub, reduceEqDiff, Nat.reduceLT, reduceLeDiff, reduceToNat, Int.reduceLT, Int.reduceLE, Int.reduceEq, reduceIte, reduceCtorEq, he] at h
    rcases hk with hk | hk | hk <;> rw [hk] at h ⊢ <;> (simp -implicitDefEqProofs (disch := omega) only [go_sem, Int.reduceAdd, Int.reduceSub, Int.reduceMul, dec_t, dec_f, Nat.reduceBEq, Nat.reduceBNe, reduceShiftRight, reduceAnd, Nat.reduceAdd, Nat.reduceSub, reduceEqDiff, Nat.reduceLT, reduceLeDiff, reduceToNat, Int.reduceLT, Int.reduceLE, Int.reduceEq, reduceIte, reduceCtorEq, hk, h, he]) <;> (first | done | rfl)
  · have : w = [] := List.isEmpty_iff.1 he
    subst this
    simp -implicitDefEqProofs (disch := omega) only [go_sem, Int.reduceAdd, Int.reduceSub, Int.reduceMul, dec_t, dec_f, Nat.reduceBEq, Nat.reduceBNe, reduceShiftRight, reduceAnd, Nat.reduceAdd, Nat.reduceSub, reduceEqDiff, Nat.reduceLT, reduceLeDiff, reduceToNat, Int.reduceLT, Int.reduceLE, Int.reduceEq, reduceIte, reduceCtorEq] at h
    rcases hk with hk | hk | hk <;> rw [hk] at h ⊢ <;> (simp -implicitDefEqProofs (disch := omega) only [go_sem, Int.reduceAdd, Int.reduceSub, Int.reduceMul, dec_t, dec_f, Nat.reduceBEq, Nat.reduceBNe, reduceShiftRight, reduceAnd, Nat.reduceAdd, Nat.reduceSub, reduceEqDiff, Nat.reduceLT, reduceLeDiff, reduceToNat, Int.reduceLT, Int.reduceLE, Int.reduceEq, reduceIte, reduceCtorEq, hk, h]) <;> (first | done | rfl)
theorem t25s (f : Fo) (hk : kind f = 4) : pureCall C 25 [(.agg [.lit (.int .i64 (kind f)), .str (bs (name f)), .str (bs (value f)), .str (bs (ini f)), .sl (List.map encS (any f)), .str (bs (fin f)), .lit (.bool (hi f)), .lit (.bool (hf f)), .str (bs (rule f)), .lit (.bool (dn f)), .sl (List.map encO (kids f))])] = some (.one (.d (encE (subE f)))) := by
  have hl := any_28 f
  rw [p25]
  cases b1 : hi f
  · obtain ⟨x', h⟩ := t25b f (any f) [] 0 0 rfl (by simp; omega) rfl
    have hp : pcs f = ((([] ++ (List.map p1 (any f)))) ++ (if hf f then [mkE 2 false 2 (fin f) []] else [])) := by unfold pcs; rw [b1]; rfl
    have hw : (([] ++ (List.map p1 (any f)))).length ≤ 2 ^ 28 := by show (List.map p1 (any f)).length ≤ _; simpa using hl
    rw [b1, hk] at h
    generalize ([] ++ (List.map p1 (any f))) = w at h hp hw
    cases b2 : hf f
    · have hp : pcs f = w := by rw [hp, b2]; exact List.append_nil _
      rw [b2] at h
      cases he : w.isEmpty
      · simp -implicitDefEqProofs (disch := omega) only [go_sem, Int.reduceAdd, Int.reduceSub, Int.reduceMul, dec_t, dec_f, Nat.reduceBEq, Nat.reduceBNe, reduceShiftRight, reduceAnd, Nat.reduceAdd, Nat.reduceSub, reduceEqDiff, Nat.reduceLT, reduceLeDiff, reduceToNat, Int.reduceLT, Int.reduceLE, Int.reduceEq, reduceIte, reduceCtorEq, p1, he] at h
        simp -implicitDefEqProofs (disch := omega) only [go_sem, Int.reduceAdd, Int.reduceSub, Int.reduceMul, dec_t, dec_f, Nat.reduceBEq, Nat.reduceBNe, reduceShiftRight, reduceAnd, Nat.reduceAdd, Nat.reduceSub, reduceEqDiff, Nat.reduceLT, reduceLeDiff, reduceToNat, Int.reduceLT, Int.reduceLE, Int.reduceEq, reduceIte, reduceCtorEq, subE, hk, b1, b2, he, h]
        simp -implicitDefEqProofs (disch := omega) only [go_sem, Int.reduceAdd, Int.reduceSub, Int.reduceMul, dec_t, dec_f, Nat.reduceBEq, Nat.reduceBNe, reduceShiftRight, reduceAnd, Nat.reduceAdd, Nat.reduceSub, reduceEqDiff, Nat.reduceLT, reduceLeDiff, reduceToNat, Int.reduceLT, Int.reduceLE, Int.reduceEq, reduceIte, reduceCtorEq, hp]
      · have : w = [] := List.isEmpty_iff.1 he
        subst this
        simp -implicitDefEqProofs (disch := omega) only [go_sem, Int.reduceAdd, Int.reduceSub, Int.reduceMul, dec_t, dec_f, Nat.reduceBEq, Nat.reduceBNe, reduceShiftRight, reduceAnd, Nat.reduceAdd, Nat.reduceSub, reduceEqDiff, Nat.reduceLT, reduceLeDiff, reduceToNat, Int.reduceLT, Int.reduceLE, Int.reduceEq, reduceIte, reduceCtorEq, p1] at h
        simp -implicitDefEqProofs (disch := omega) only [go_sem, Int.reduceAdd, Int.reduceSub, Int.reduceMul, dec_t, dec_f, Nat.reduceBEq, Nat.reduceBNe, reduceShiftRight, reduceAnd, Nat.reduceAdd, Nat.reduceSub, reduceEqDiff, Nat.reduceLT, reduceLeDiff, reduceToNat, Int.reduceLT, Int.reduceLE, Int.reduceEq, reduceIte, reduceCtorEq, subE, hk, b1, b2, h]
        simp -implicitDefEqProofs (disch := omega) only [go_sem, Int.reduceAdd, Int.reduceSub, Int.reduceMul, dec_t, dec_f, Nat.reduceBEq, Nat.reduceBNe, reduceShiftRight, reduceAnd, Nat.reduceAdd, Nat.reduceSub, reduceEqDiff, Nat.reduceLT, reduceLeDiff, reduceToNat, Int.reduceLT, Int.reduceLE, Int.reduceEq, reduceIte, reduceCtorEq, hp]
    · have hp : pcs f = (w ++ [mkE 2 false 2 (fin f) []]) := by rw [hp, b2]; rfl
      rw [b2] at h
      cases he : w.isEmpty
      · simp -implicitDefEqProofs (disch := omega) only [go_sem, Int.reduceAdd, Int.reduceSub, Int.reduceMul, dec_t, dec_f, Nat.reduceBEq, Nat.reduceBNe, reduceShiftRight, reduceAnd, Nat.reduceAdd, Nat.reduceSub, reduceEqDiff, Nat.reduceLT, reduceLeDiff, reduceToNat, Int.reduceLT, Int.reduceLE, Int.reduceEq, reduceIte, reduceCtorEq, p1, he] at h
        simp -implicitDefEqProofs (disch := omega) only [go_sem, Int.reduceAdd, Int.reduceSub, Int.reduceMul, dec_t, dec_f, Nat.reduceBEq, Nat.reduceBNe, reduceShiftRight, reduceAnd, Nat.reduceAdd, Nat.reduceSub, reduceEqDiff, Nat.reduceLT, reduceLeDiff, reduceToNat, Int.reduceLT, Int.reduceLE, Int.reduceEq, reduceIte, reduceCtorEq, subE, hk, b1, b2, he, h]
        simp -implicitDefEqProofs (disch := omega) only [go_sem, Int.reduceAdd, Int.reduceSub, Int.reduceMul, dec_t, dec_f, Nat.reduceBEq, Nat.reduceBNe, reduceShiftRight, reduceAnd, Nat.reduceAdd, Nat.reduceSub, reduceEqDiff, Nat.reduceLT, reduceLeDiff, reduceToNat, Int.reduceLT, Int.reduceLE, Int.reduceEq, reduceIte, reduceCtorEq, hp]
      · have : w = [] := List.isEmpty_iff.1 he
        subst this
        simp -implicitDefEqProofs (disch := omega) only [go_sem, Int.reduceAdd, Int.reduceSub, Int.reduceMul, dec_t, dec_f, Nat.reduceBEq, Nat.reduceBNe, reduceShiftRight, reduceAnd, Nat.reduceAdd, Nat.reduceSub, reduceEqDiff, Nat.reduceLT, reduceLeDiff, reduceToNat, Int.reduceLT, Int.reduceLE, Int.reduceEq, reduceIte, reduceCtorEq, p1] at h
        simp -implicitDefEqProofs (disch := omega) only [go_sem, Int.reduceAdd, Int.reduceSub, Int.reduceMul, dec_t, dec_f, Nat.reduceBEq, Nat.reduceBNe, reduceShiftRight, reduceAnd, Nat.reduceAdd, Nat.reduceSub, reduceEqDiff, Nat.reduceLT, reduceLeDiff, reduceToNat, Int.reduceLT, Int.reduceLE, Int.reduceEq, reduceIte, reduceCtorEq, subE, hk, b1, b2, h]
        simp -implicitDefEqProofs (disch := omega) only [go_sem, Int.reduceAdd, Int.reduceSub, Int.reduceMul, dec_t, dec_f, Nat.reduceBEq, Nat.reduceBNe, reduceShiftRight, reduceAnd, Nat.reduceAdd, Nat.reduceSub, reduceEqDiff, Nat.reduceLT, reduceLeDiff, reduceToNat, Int.reduceLT, Int.reduceLE, Int.reduceEq, reduceIte, reduceCtorEq, hp]
  · obtain ⟨x', h⟩ := t25b f (any f) [mkE 2 false 0 (ini f) []] 0 0 rfl (by simp; omega) rfl
    have hp : pcs f = ((([mkE 2 false 0 (ini f) []] ++ (List.map p1 (any f)))) ++ (if hf f then [mkE 2 false 2 (fin f) []] else [])) := by unfold pcs; rw [b1]; rfl
    have hw : (([mkE 2 false 0 (ini f) []] ++ (List.map p1 (any f)))).length ≤ 2 ^ 29 := by show ([_] ++ List.map p1 (any f)).length ≤ _; simp; omega
    rw [b1, hk] at h
    generalize ([mkE 2 false 0 (ini f) []] ++ (List.map p1 (any f))) = w at h hp hw
    cases b2 : hf f
    · have hp : pcs f = w := by rw [hp, b2]; exact List.append_nil _
      rw [b2] at h
      cases he : w.isEmpty
      · simp -implicitDefEqProofs (disch := omega) only [go_sem, Int.reduceAdd, Int.reduceSub, Int.reduceMul, dec_t, dec_f, Nat.reduceBEq, Nat.reduceBNe, reduceShiftRight, reduceAnd, Nat.reduceAdd, Nat.reduceSub, reduceEqDiff, Nat.reduceLT, reduceLeDiff, reduceToNat, Int.reduceLT, Int.reduceLE, Int.reduceEq, reduceIte, reduceCtorEq, p1, he] at h
        simp -implicitDefEqProofs (disch := omega) only [go_sem, Int.reduceAdd, Int.reduceSub, Int.reduceMul, dec_t, dec_f, Nat.reduceBEq, Nat.reduceBNe, reduceShiftRight, reduceAnd, Nat.reduceAdd, Nat.reduceSub, reduceEqDiff, Nat.reduceLT, reduceLeDiff, reduceToNat, Int.reduceLT, Int.reduceLE, Int.reduceEq, reduceIte, reduceCtorEq, subE, hk, b1, b2, he, h]
        simp -implicitDefEqProofs (disch := omega) only [go_sem, Int.reduceAdd, Int.reduceSub, Int.reduceMul, dec_t, dec_f, Nat.reduceBEq, Nat.reduceBNe, reduceShiftRight, reduceAnd, Nat.reduceAdd, Nat.reduceSub, reduceEqDiff, Nat.reduceLT, reduceLeDiff, reduceToNat, Int.reduceLT, Int.reduceLE, Int.reduceEq, reduceIte, reduceCtorEq, hp]
      · have : w = [] := List.isEmpty_iff.1 he
        subst this
        simp -implicitDefEqProofs (disch := omega) only [go_sem, Int.reduceAdd, Int.reduceSub, Int.reduceMul, dec_t, dec_f, Nat.reduceBEq, Nat.reduceBNe, reduceShiftRight, reduceAnd, Nat.reduceAdd, Nat.reduceSub, reduceEqDiff, Nat.reduceLT, reduceLeDiff, reduceToNat, Int.reduceLT, Int.reduceLE, Int.reduceEq, reduceIte, reduceCtorEq, p1] at h
        simp -implicitDefEqProofs (disch := omega) only [go_sem, Int.reduceAdd, Int.reduceSub, Int.reduceMul, dec_t, dec_f, Nat.reduceBEq, Nat.reduceBNe, reduceShiftRight, reduceAnd, Nat.reduceAdd, Nat.reduceSub, reduceEqDiff, Nat.reduceLT, reduceLeDiff, reduceToNat, Int.reduceLT, Int.reduceLE, Int.reduceEq, reduceIte, reduceCtorEq, subE, hk, b1, b2, h]
        simp -implicitDefEqProofs (disch := omega) only [go_sem, Int.reduceAdd, Int.reduceSub, Int.reduceMul, dec_t, dec_f, Nat.reduceBEq, Nat.reduceBNe, reduceShiftRight, reduceAnd, Nat.reduceAdd, Nat.reduceSub, reduceEqDiff, Nat.reduceLT, reduceLeDiff, reduceToNat, Int.reduceLT, Int.reduceLE, Int.reduceEq, reduceIte, reduceCtorEq, hp]
    · have hp : pcs f = (w ++ [mkE 2 false 2 (fin f) []]) := by rw [hp, b2]; rfl
      rw [b2] at h
      cases he : w.isEmpty
      · simp -implicitDefEqProofs (disch := omega) only [go_sem, Int.reduceAdd, Int.reduceSub, Int.reduceMul, dec_t, dec_f, Nat.reduceBEq, Nat.reduceBNe, reduceShiftRight, reduceAnd, Nat.reduceAdd, Nat.reduceSub, reduceEqDiff, Nat.reduceLT, reduceLeDiff, reduceToNat, Int.reduceLT, Int.reduceLE, Int.reduceEq, reduceIte, reduceCtorEq, p1, he] at h
        simp -implicitDefEqProofs (disch := omega) only [go_sem, Int.reduceAdd, Int.reduceSub, Int.reduceMul, dec_t, dec_f, Nat.reduceBEq, Nat.reduceBNe, reduceShiftRight, reduceAnd, Nat.reduceAdd, Nat.reduceSub, reduceEqDiff, Nat.reduceLT, reduceLeDiff, reduceToNat, Int.reduceLT, Int.reduceLE, Int.reduceEq, reduceIte, reduceCtorEq, subE, hk, b1, b2, he, h]
        simp -implicitDefEqProofs (disch := omega) only [go_sem, Int.reduceAdd, Int.reduceSub, Int.reduceMul, dec_t, dec_f, Nat.reduceBEq, Nat.reduceBNe, reduceShiftRight, reduceAnd, Nat.reduceAdd, Nat.reduceSub, reduceEqDiff, Nat.reduceLT, reduceLeDiff, reduceToNat, Int.reduceLT, Int.reduceLE, Int.reduceEq, reduceIte, reduceCtorEq, hp]
      · have : w = [] := List.isEmpty_iff.1 he
        subst this
        simp -implicitDefEqProofs (disch := omega) only [go_sem, Int.reduceAdd, Int.reduceSub, Int.reduceMul, dec_t, dec_f, Nat.reduceBEq, Nat.reduceBNe, reduceShiftRight, reduceAnd, Nat.reduceAdd, Nat.reduceSub, reduceEqDiff, Nat.reduceLT, reduceLeDiff, reduceToNat, Int.reduceLT, Int.reduceLE, Int.reduceEq, reduceIte, reduceCtorEq, p1] at h
        simp -implicitDefEqProofs (disch := omega) only [go_sem, Int.reduceAdd, Int.reduceSub, Int.reduceMul, dec_t, dec_f, Nat.reduceBEq, Nat.reduceBNe, reduceShiftRight, reduceAnd, Nat.reduceAdd, Nat.reduceSub, reduceEqDiff, Nat.reduceLT, reduceLeDiff, reduceToNat, Int.reduceLT, Int.reduceLE, Int.reduceEq, reduceIte, reduceCtorEq, subE, hk, b1, b2, h]
        simp -implicitDefEqProofs (disch := omega) only [go_sem, Int.reduceAdd, Int.reduceSub, Int.reduceMul, dec_t, dec_f, Nat.reduceBEq, Nat.reduceBNe, reduceShiftRight, reduceAnd, Nat.reduceAdd, Nat.reduceSub, reduceEqDiff, Nat.reduceLT, reduceLeDiff, reduceToNat, Int.reduceLT, Int.reduceLE, Int.reduceEq, reduceIte, reduceCtorEq, hp]
theorem t25x (f : Fo) (hk : kind f = 9) : pureCall C 25 [(.agg [.lit (.int .i64 (kind f)), .str (bs (name f)), .str (bs (value f)), .str (bs (ini f)), .sl (List.map encS (any f)), .str (bs (fin f)), .lit (.bool (hi f)), .lit (.bool (hf f)), .str (bs (rule f)), .lit (.bool (dn f)), .sl (List.map encO (kids f))])] = some (.one (.d (encE (extE f)))) := by
  rw [p25]
  cases b1 : List.beq (bs (rule f)) [] <;> cases b2 : List.beq (bs (name f)) [] <;> cases b3 : dn f <;> (simp -implicitDefEqProofs (disch := omega) only [go_sem, Int.reduceAdd, Int.reduceSub, Int.reduceMul, dec_t, dec_f, Nat.reduceBEq, Nat.reduceBNe, reduceShiftRight, reduceAnd, Nat.reduceAdd, Nat.reduceSub, reduceEqDiff, Nat.reduceLT, reduceLeDiff, reduceToNat, Int.reduceLT, Int.reduceLE, Int.reduceEq, reduceIte, reduceCtorEq, hk, b1, b2, b3, extE, exs]) <;> (first | done | rfl)
theorem t25 (f : Fo) : pureCall C 25 [(.agg [.lit (.int .i64 (kind f)), .str (bs (name f)), .str (bs (value f)), .str (bs (ini f)), .sl (List.map encS (any f)), .str (bs (fin f)), .lit (.bool (hi f)), .lit (.bool (hf f)), .str (bs (rule f)), .lit (.bool (dn f)), .sl (List.map encO (kids f))])] = some (.one (.d (encE (laidE f)))) := by
  have IH : ∀ g ∈ kids f, pureCall C 25 [(.agg [.lit (.int .i64 (kind g)), .str (bs (name g)), .str (bs (value g)), .str (bs (ini g)), .sl (List.map encS (any g)), .str (bs (fin g)), .lit (.bool (hi g)), .lit (.bool (hf g)), .str (bs (rule g)), .lit (.bool (dn g)), .sl (List.map encO (kids g))])] = some (.one (.d (.agg [.lit (.int .i64 (cls (laidE g))), .lit (.bool (made (laidE g))), .lit (.int .i64 (num (laidE g))), .str (bs (cont (laidE g))), .sl (List.map encE (els (laidE g)))]))) := fun g hg => by rw [← encE_eq]; exact t25 g
  by_cases a : kind f = 0 ∨ kind f = 1 ∨ kind f = 2
  · exact t25g f a IH
  · have hR := laidE_eq f
    rw [if_neg a] at hR
    have k0 : ¬ kind f = 0 := fun e => a (.inl e)
    have k1 : ¬ kind f = 1 := fun e => a (.inr (.inl e))
    have k2 : ¬ kind f = 2 := fun e => a (.inr (.inr e))
    clear IH
    by_cases k7 : kind f = 7
    · rw [if_pos k7] at hR
      rw [p25, hR]
      simp -implicitDefEqProofs (disch := omega) only [go_sem, Int.reduceAdd, Int.reduceSub, Int.reduceMul, dec_t, dec_f, Nat.reduceBEq, Nat.reduceBNe, reduceShiftRight, reduceAnd, Nat.reduceAdd, Nat.reduceSub, reduceEqDiff, Nat.reduceLT, reduceLeDiff, reduceToNat, Int.reduceLT, Int.reduceLE, Int.reduceEq, reduceIte, reduceCtorEq, k7]
      (first | done | rfl)
    · rw [if_neg k7] at hR
      by_cases k4 : kind f = 4
      · rw [if_pos k4] at hR
        rw [hR]
        exact t25s f k4
      · rw [if_neg k4] at hR
        by_cases k9 : kind f = 9
        · rw [if_pos k9] at hR
          rw [hR]
          exact t25x f k9
        · rw [if_neg k9] at hR
          rw [p25, hR]
          simp -implicitDefEqProofs (disch := omega) only [go_sem, Int.reduceAdd, Int.reduceSub, Int.reduceMul, dec_t, dec_f, Nat.reduceBEq, Nat.reduceBNe, reduceShiftRight, reduceAnd, Nat.reduceAdd, Nat.reduceSub, reduceEqDiff, Nat.reduceLT, reduceLeDiff, reduceToNat, Int.reduceLT, Int.reduceLE, Int.reduceEq, reduceIte, reduceCtorEq]
          (first | done | rfl)
termination_by sz f
decreasing_by exact kids_lt hg
set_option maxRecDepth 10000
set_option maxHeartbeats 4000000
theorem t26 (l m : List Eo) (hl : l.length ≤ 2 ^ 30) (hm : m.length ≤ 2 ^ 30) (IH : ∀ a ∈ l, ∀ b, pureCall C 11 [(.agg [.lit (.int .i64 (cls a)), .lit (.bool (made a)), .lit (.int .i64 (num a)), .str (bs (cont a)), .sl (List.map encE (els a))]), (.agg [.lit (.int .i64 (cls b)), .lit (.bool (made b)), .lit (.int .i64 (num b)), .str (bs (cont b)), .sl (List.map encE (els b))])] = some (tf (eqE a b))) : pureCall C 26 [.sl (List.map encE l), .sl (List.map encE m)] = some (tf (eqL l m)) := by
  by_cases hlen : l.length = m.length
  · have key : ∀ (r s : List Eo) (j : Nat) (x : Int), x = j → l.drop j = r → m.drop j = s →
        ∃ x', n26_14 ⟨[(0, .d (.sl (List.map encE l))), (1, .d (.sl (List.map encE m))), (5, .d (.lit (.int .i64 x)))], []⟩ =
          some (if eqL r s then (.exit 0, ⟨[(0, .d (.sl (List.map encE l))), (1, .d (.sl (List.map encE m))), (5, x'), (14, .d (.lit (.bool false)))], []⟩) else (.ret, ⟨[(4, .d (.lit (.bool false)))], []⟩)) := by
      intro r
      induction r with
      | nil =>
        intro s j x hx hd hd2
        have hd := drop_nil hd
        have hs : s = [] := by rw [← hd2]; exact List.drop_eq_nil_of_le (by omega)
        refine ⟨.d (.lit (.int .i64 x)), ?_⟩
        rw [r_n26_14, eqL_t hs.symm]
        simp -implicitDefEqProofs (disch := omega) only [go_sem, Int.reduceAdd, Int.reduceSub, Int.reduceMul, dec_t, dec_f, Nat.reduceBEq, Nat.reduceBNe, reduceShiftRight, reduceAnd, Nat.reduceAdd, Nat.reduceSub, reduceEqDiff, Nat.reduceLT, reduceLeDiff, reduceToNat, Int.reduceLT, Int.reduceLE, Int.reduceEq, reduceIte, reduceCtorEq]
        try rfl
      | cons c r ih =>
        intro s j x hx hd hd2
        obtain ⟨g1, g2, g3, g4⟩ := drop_cons hd
        cases s with
        | nil => have := drop_nil hd2; omega
        | cons d s =>
          obtain ⟨f1, f2, f3, f4⟩ := drop_cons hd2
          have hnat : Int.toNat x = j := by omega
          have hc := IH c g4 d
          obtain ⟨x', h⟩ := ih s (j + 1) (x + 1) (by omega) g3 f3
          by_cases hcd : c = d
          · subst hcd
            rw [eqE_t rfl] at hc
            refine ⟨x', ?_⟩
            have : eqL (c :: r) (c :: s) = eqL r s := by
              by_cases q : r = s
              · rw [eqL_t q, eqL_t (by rw [q])]
              · rw [eqL_f q, eqL_f (fun e => q (List.cons.inj e).2)]
            rw [this]
            generalize eqL r s = w at h ⊢
            clear ih
            rw [r_n26_14]
            simp -implicitDefEqProofs (disch := omega) only [go_sem, Int.reduceAdd, Int.reduceSub, Int.reduceMul, dec_t, dec_f, Nat.reduceBEq, Nat.reduceBNe, reduceShiftRight, reduceAnd, Nat.reduceAdd, Nat.reduceSub, reduceEqDiff, Nat.reduceLT, reduceLeDiff, reduceToNat, Int.reduceLT, Int.reduceLE, Int.reduceEq, reduceIte, reduceCtorEq, g2, f2, hnat, hc, h]
          · rw [eqE_f hcd] at hc
            refine ⟨.undef, ?_⟩
            rw [eqL_f (fun e => hcd (List.cons.inj e).1)]
            clear ih h
            rw [r_n26_14]
            simp -implicitDefEqProofs (disch := omega) only [go_sem, Int.reduceAdd, Int.reduceSub, Int.reduceMul, dec_t, dec_f, Nat.reduceBEq, Nat.reduceBNe, reduceShiftRight, reduceAnd, Nat.reduceAdd, Nat.reduceSub, reduceEqDiff, Nat.reduceLT, reduceLeDiff, reduceToNat, Int.reduceLT, Int.reduceLE, Int.reduceEq, reduceIte, reduceCtorEq, g2, f2, hnat, hc]
            try rfl
    obtain ⟨x', h⟩ := key l m 0 0 rfl rfl rfl
    generalize eqL l m = w at h ⊢
    rw [p26]
    cases w
    · simp -implicitDefEqProofs (disch := omega) only [go_sem, Int.reduceAdd, Int.reduceSub, Int.reduceMul, dec_t, dec_f, Nat.reduceBEq, Nat.reduceBNe, reduceShiftRight, reduceAnd, Nat.reduceAdd, Nat.reduceSub, reduceEqDiff, Nat.reduceLT, reduceLeDiff, reduceToNat, Int.reduceLT, Int.reduceLE, Int.reduceEq, reduceIte, reduceCtorEq]
      simp -implicitDefEqProofs (disch := omega) only [go_sem, Int.reduceAdd, Int.reduceSub, Int.reduceMul, dec_t, dec_f, Nat.reduceBEq, Nat.reduceBNe, reduceShiftRight, reduceAnd, Nat.reduceAdd, Nat.reduceSub, reduceEqDiff, Nat.reduceLT, reduceLeDiff, reduceToNat, Int.reduceLT, Int.reduceLE, Int.reduceEq, reduceIte, reduceCtorEq, h]
      (first | done | rfl)
    · simp -implicitDefEqProofs (disch := omega) only [go_sem, Int.reduceAdd, Int.reduceSub, Int.reduceMul, dec_t, dec_f, Nat.reduceBEq, Nat.reduceBNe, reduceShiftRight, reduceAnd, Nat.reduceAdd, Nat.reduceSub, reduceEqDiff, Nat.reduceLT, reduceLeDiff, reduceToNat, Int.reduceLT, Int.reduceLE, Int.reduceEq, reduceIte, reduceCtorEq]
      simp -implicitDefEqProofs (disch := omega) only [go_sem, Int.reduceAdd, Int.reduceSub, Int.reduceMul, dec_t, dec_f, Nat.reduceBEq, Nat.reduceBNe, reduceShiftRight, reduceAnd, Nat.reduceAdd, Nat.reduceSub, reduceEqDiff, Nat.reduceLT, reduceLeDiff, reduceToNat, Int.reduceLT, Int.reduceLE, Int.reduceEq, reduceIte, reduceCtorEq, h]
      (first | done | rfl)
  · rw [eqL_f (fun e => hlen (by rw [e])), p26]
    simp -implicitDefEqProofs (disch := omega) only [go_sem, Int.reduceAdd, Int.reduceSub, Int.reduceMul, dec_t, dec_f, Nat.reduceBEq, Nat.reduceBNe, reduceShiftRight, reduceAnd, Nat.reduceAdd, Nat.reduceSub, reduceEqDiff, Nat.reduceLT, reduceLeDiff, reduceToNat, Int.reduceLT, Int.reduceLE, Int.reduceEq, reduceIte, reduceCtorEq]
    (first | done | rfl)
@[go_sem] theorem t11 (a b : Eo) : pureCall C 11 [(.agg [.lit (.int .i64 (cls a)), .lit (.bool (made a)), .lit (.int .i64 (num a)), .str (bs (cont a)), .sl (List.map encE (els a))]), (.agg [.lit (.int .i64 (cls b)), .lit (.bool (made b)), .lit (.int .i64 (num b)), .str (bs (cont b)), .sl (List.map encE (els b))])] = some (tf (eqE a b)) := by
  have IH : ∀ c ∈ els a, ∀ d, pureCall C 11 [(.agg [.lit (.int .i64 (cls c)), .lit (.bool (made c)), .lit (.int .i64 (num c)), .str (bs (cont c)), .sl (List.map encE (els c))]), (.agg [.lit (.int .i64 (cls d)), .lit (.bool (made d)), .lit (.int .i64 (num d)), .str (bs (cont d)), .sl (List.map encE (els d))])] = some (tf (eqE c d)) := fun c hc d => t11 c d
  have h26 := t26 (els a) (els b) (els_le a) (els_le b) IH
  rw [p11]
  simp -implicitDefEqProofs (disch := omega) only [go_sem, Int.reduceAdd, Int.reduceSub, Int.reduceMul, dec_t, dec_f, Nat.reduceBEq, Nat.reduceBNe, reduceShiftRight, reduceAnd, Nat.reduceAdd, Nat.reduceSub, reduceEqDiff, Nat.reduceLT, reduceLeDiff, reduceToNat, Int.reduceLT, Int.reduceLE, Int.reduceEq, reduceIte, reduceCtorEq]
  by_cases q1 : cls a = cls b
  · by_cases q2 : made a = made b
    · by_cases q3 : num a = num b
      · cases b4 : List.beq (bs (cont a)) (bs (cont b)) with
        | true =>
          have q4 : bs (cont a) = bs (cont b) := eq_of_beq b4
          have : eqE a b = eqL (els a) (els b) := by
            by_cases q5 : els a = els b
            · rw [eqL_t q5, eqE_t (Eo_ext q1 q2 q3 q4 q5)]
            · rw [eqL_f q5, eqE_f (fun e => q5 (by rw [e]))]
          rw [this]
          generalize eqL (els a) (els b) = w at h26 ⊢
          rw [q1, q2, q3]
          cases made b <;> (simp -implicitDefEqProofs (disch := omega) only [go_sem, Int.reduceAdd, Int.reduceSub, Int.reduceMul, dec_t, dec_f, Nat.reduceBEq, Nat.reduceBNe, reduceShiftRight, reduceAnd, Nat.reduceAdd, Nat.reduceSub, reduceEqDiff, Nat.reduceLT, reduceLeDiff, reduceToNat, Int.reduceLT, Int.reduceLE, Int.reduceEq, reduceIte, reduceCtorEq, b4, h26]) <;> (first | done | rfl)
        | false =>
          rw [eqE_f (fun e => by rw [e, show List.beq (bs (cont b)) (bs (cont b)) = true from (beq_self_eq_true (bs (cont b)) : (bs (cont b) == bs (cont b)) = true)] at b4; cases b4)]
          rw [q1, q2, q3]
          cases made b <;> (simp -implicitDefEqProofs (disch := omega) only [go_sem, Int.reduceAdd, Int.reduceSub, Int.reduceMul, dec_t, dec_f, Nat.reduceBEq, Nat.reduceBNe, reduceShiftRight, reduceAnd, Nat.reduceAdd, Nat.reduceSub, reduceEqDiff, Nat.reduceLT, reduceLeDiff, reduceToNat, Int.reduceLT, Int.reduceLE, Int.reduceEq, reduceIte, reduceCtorEq, b4]) <;> (first | done | rfl)
      · rw [eqE_f (fun e => q3 (by rw [e]))]
        rw [q1, q2]
        cases made b <;> (simp -implicitDefEqProofs (disch := omega) only [go_sem, Int.reduceAdd, Int.reduceSub, Int.reduceMul, dec_t, dec_f, Nat.reduceBEq, Nat.reduceBNe, reduceShiftRight, reduceAnd, Nat.reduceAdd, Nat.reduceSub, reduceEqDiff, Nat.reduceLT, reduceLeDiff, reduceToNat, Int.reduceLT, Int.reduceLE, Int.reduceEq, reduceIte, reduceCtorEq, q3]) <;> (first | done | rfl)
    · rw [eqE_f (fun e => q2 (by rw [e]))]
      rw [q1]
      cases b1 : made a <;> cases b2 : made b <;> simp only [b1, b2, not_true_eq_false] at q2 <;> (simp -implicitDefEqProofs (disch := omega) only [go_sem, Int.reduceAdd, Int.reduceSub, Int.reduceMul, dec_t, dec_f, Nat.reduceBEq, Nat.reduceBNe, reduceShiftRight, reduceAnd, Nat.reduceAdd, Nat.reduceSub, reduceEqDiff, Nat.reduceLT, reduceLeDiff, reduceToNat, Int.reduceLT, Int.reduceLE, Int.reduceEq, reduceIte, reduceCtorEq, b1, b2]) <;> (first | done | rfl)
  · rw [eqE_f (fun e => q1 (by rw [e]))]
    simp -implicitDefEqProofs (disch := omega) only [go_sem, Int.reduceAdd, Int.reduceSub, Int.reduceMul, dec_t, dec_f, Nat.reduceBEq, Nat.reduceBNe, reduceShiftRight, reduceAnd, Nat.reduceAdd, Nat.reduceSub, reduceEqDiff, Nat.reduceLT, reduceLeDiff, reduceToNat, Int.reduceLT, Int.reduceLE, Int.reduceEq, reduceIte, reduceCtorEq, q1]
    (first | done | rfl)
termination_by szE a
decreasing_by exact els_lt hc
end Go.L25
