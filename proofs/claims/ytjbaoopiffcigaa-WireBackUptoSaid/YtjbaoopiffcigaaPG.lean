/- Layer 25: which filters may be. Conditions: none. -/
import Derived.Test.YtjbaoopiffcigaaPF
set_option linter.unusedVariables false
set_option linter.unusedSimpArgs false
namespace Go.L25
open Go Go.Eng Go.Proofs
open Nat (reduceShiftRight reduceAnd reduceEqDiff reduceLeDiff)
open Int (reduceToNat)
set_option maxRecDepth 10000
set_option maxHeartbeats 4000000
def pEmptyO (f : Fo) : Bool := pEmpty (ini f) (any f) (fin f) (hi f) (hf f)
def pcOkO (f : Fo) : Bool := pcOk (ini f) (any f) (fin f) (hi f) (hf f)
def pShortO (f : Fo) : Bool := pShort (ini f) (any f) (fin f)
def k1O (f : Fo) : Bool := decide ((kids f).length = 1)
def leafO (f : Fo) : Bool := decide ((kids f).length = 0)
def v4O (f : Fo) : Bool := decide ((bs (value f)).length ≤ 400)
def brO (f : Fo) : Bool := List.beq (bs (rule f)) []
def bvO (f : Fo) : Bool := List.beq (bs (value f)) []
def nvO (f : Fo) : Bool := List.beq (bs (name f) ++ bs (value f)) []
def nrO (f : Fo) : Bool := List.beq (bs (name f) ++ bs (rule f)) []
def rdO (f : Fo) : Bool := List.beq (bs (rule f)) [100, 110]
def wnO (f : Fo) : Bool := word (bs (name f))
def wn0O (f : Fo) : Bool := List.beq (bs (name f)) [] || word (bs (name f))
def wr0O (f : Fo) : Bool := List.beq (bs (rule f)) [] || word (bs (rule f))
def pOne (f : Fo) : Bool :=
  if kind f = 0 then brO f && !dn f && pEmptyO f && nvO f else
  if kind f = 1 then brO f && !dn f && pEmptyO f && nvO f else
  if kind f = 2 then brO f && !dn f && pEmptyO f && nvO f && k1O f else
  if kind f = 3 then brO f && !dn f && pEmptyO f && leafO f && wnO f && v4O f else
  if kind f = 5 then brO f && !dn f && pEmptyO f && leafO f && wnO f && v4O f else
  if kind f = 6 then brO f && !dn f && pEmptyO f && leafO f && wnO f && v4O f else
  if kind f = 8 then brO f && !dn f && pEmptyO f && leafO f && wnO f && v4O f else
  if kind f = 7 then brO f && !dn f && pEmptyO f && leafO f && wnO f && bvO f else
  if kind f = 4 then brO f && !dn f && leafO f && wnO f && bvO f && pcOkO f && pShortO f else
  if kind f = 9 then pEmptyO f && leafO f && wn0O f && wr0O f && !rdO f && !nrO f && v4O f else false
theorem ch4 : ∀ a b c d : Bool, a = false ∨ (a = true ∧ b = false) ∨ (a = true ∧ b = true ∧ c = false) ∨ (a = true ∧ b = true ∧ c = true ∧ d = false) ∨ (a = true ∧ b = true ∧ c = true ∧ d = true) := by decide
theorem ch5 : ∀ a b c d e : Bool, a = false ∨ (a = true ∧ b = false) ∨ (a = true ∧ b = true ∧ c = false) ∨ (a = true ∧ b = true ∧ c = true ∧ d = false) ∨ (a = true ∧ b = true ∧ c = true ∧ d = true ∧ e = false) ∨ (a = true ∧ b = true ∧ c = true ∧ d = true ∧ e = true) := by decide
theorem ch6 : ∀ a b c d e f : Bool, a = false ∨ (a = true ∧ b = false) ∨ (a = true ∧ b = true ∧ c = false) ∨ (a = true ∧ b = true ∧ c = true ∧ d = false) ∨ (a = true ∧ b = true ∧ c = true ∧ d = true ∧ e = false) ∨ (a = true ∧ b = true ∧ c = true ∧ d = true ∧ e = true ∧ f = false) ∨ (a = true ∧ b = true ∧ c = true ∧ d = true ∧ e = true ∧ f = true) := fun a b c d e f => by cases a <;> cases b <;> cases c <;> cases d <;> cases e <;> cases f <;> simp
theorem ch7 : ∀ a b c d e f g : Bool, a = false ∨ (a = true ∧ b = false) ∨ (a = true ∧ b = true ∧ c = false) ∨ (a = true ∧ b = true ∧ c = true ∧ d = false) ∨ (a = true ∧ b = true ∧ c = true ∧ d = true ∧ e = false) ∨ (a = true ∧ b = true ∧ c = true ∧ d = true ∧ e = true ∧ f = false) ∨ (a = true ∧ b = true ∧ c = true ∧ d = true ∧ e = true ∧ f = true ∧ g = false) ∨ (a = true ∧ b = true ∧ c = true ∧ d = true ∧ e = true ∧ f = true ∧ g = true) := fun a b c d e f g => by cases a <;> cases b <;> cases c <;> cases d <;> cases e <;> cases f <;> cases g <;> simp
theorem t56 (f : Fo) : pureCall C 56 [(.agg [.lit (.int .i64 (kind f)), .str (bs (name f)), .str (bs (value f)), .str (bs (ini f)), .sl (List.map encS (any f)), .str (bs (fin f)), .lit (.bool (hi f)), .lit (.bool (hf f)), .str (bs (rule f)), .lit (.bool (dn f)), .sl (List.map encO (kids f))])] = some (tf (pOne f)) := by
  have h74 : pureCall C 74 [(.agg [.str (bs (ini f)), .sl (List.map encS (any f)), .str (bs (fin f)), .lit (.bool (hi f)), .lit (.bool (hf f))])] = some (tf (pEmptyO f)) := t74 (ini f) (any f) (fin f) (hi f) (hf f) (any_le f)
  have h76 : pureCall C 76 [(.agg [.str (bs (ini f)), .sl (List.map encS (any f)), .str (bs (fin f)), .lit (.bool (hi f)), .lit (.bool (hf f))])] = some (lit (if pcOkO f then 0 else 2)) := t76 (ini f) (any f) (fin f) (hi f) (hf f) (any_le f)
  have h77 : pureCall C 77 [(.agg [.str (bs (ini f)), .sl (List.map encS (any f)), .str (bs (fin f)), .lit (.bool (hi f)), .lit (.bool (hf f))])] = some (tf (pShortO f)) := t77 (ini f) (any f) (fin f) (hi f) (hf f) (any_le f)
  have h75 : pureCall C 75 [.str (bs (name f))] = some (tf (wnO f)) := t75 (name f)
  have h78n : pureCall C 78 [.str (bs (name f))] = some (tf (wn0O f)) := t78 (name f)
  have h78r : pureCall C 78 [.str (bs (rule f))] = some (tf (wr0O f)) := t78 (rule f)
  have q1 := bs_le (name f)
  have q2 := bs_le (value f)
  have q3 := bs_le (rule f)
  have e1 : decide (((kids f).length : Int) = 1) = k1O f := by unfold k1O; exact decide_eq_decide.2 (by omega)
  have e0 : decide (((kids f).length : Int) = 0) = leafO f := by unfold leafO; exact decide_eq_decide.2 (by omega)
  have e5 : List.beq (bs (rule f)) [] = brO f := rfl
  have e6 : List.beq (bs (value f)) [] = bvO f := rfl
  have e7 : List.beq (bs (name f) ++ bs (value f)) [] = nvO f := rfl
  have e8 : List.beq (bs (name f) ++ bs (rule f)) [] = nrO f := rfl
  have e9 : List.beq (bs (rule f)) [100, 110] = rdO f := rfl
  have e4 : decide (((bs (value f)).length : Int) ≤ 400) = v4O f := by unfold v4O; exact decide_eq_decide.2 (by omega)
  have e10 : word (bs (name f)) = wnO f := rfl
  have hk : (kind f = 0 ∨ kind f = 1) ∨ kind f = 2 ∨ (kind f = 3 ∨ kind f = 5 ∨ kind f = 6 ∨ kind f = 8) ∨ kind f = 7 ∨ kind f = 4 ∨ kind f = 9 ∨ (¬ kind f = 0 ∧ ¬ kind f = 1 ∧ ¬ kind f = 2 ∧ ¬ kind f = 3 ∧ ¬ kind f = 5 ∧ ¬ kind f = 6 ∧ ¬ kind f = 8 ∧ ¬ kind f = 7 ∧ ¬ kind f = 4 ∧ ¬ kind f = 9) := by omega
  rw [p56]
  unfold pOne
  rcases hk with k | k | k | k | k | k | k
  · rcases ch4 (brO f) (!dn f) (pEmptyO f) (nvO f) with w0 | ⟨w0, w1⟩ | ⟨w0, w1, w2⟩ | ⟨w0, w1, w2, w3⟩ | ⟨w0, w1, w2, w3⟩ <;> rcases k with k | k <;> (simp -implicitDefEqProofs (disch := omega) only [go_sem, Int.reduceAdd, Int.reduceSub, Int.reduceMul, dec_t, dec_f, Nat.reduceBEq, Nat.reduceBNe, reduceShiftRight, reduceAnd, Nat.reduceAdd, Nat.reduceSub, reduceEqDiff, Nat.reduceLT, reduceLeDiff, reduceToNat, Int.reduceLT, Int.reduceLE, Int.reduceEq, reduceIte, reduceCtorEq, e0, e1, e4, e5, e6, e7, e8, e9, e10, h74, h75, h76, h77, h78n, h78r, *])
  · rcases ch5 (brO f) (!dn f) (pEmptyO f) (nvO f) (k1O f) with w0 | ⟨w0, w1⟩ | ⟨w0, w1, w2⟩ | ⟨w0, w1, w2, w3⟩ | ⟨w0, w1, w2, w3, w4⟩ | ⟨w0, w1, w2, w3, w4⟩ <;> (simp -implicitDefEqProofs (disch := omega) only [go_sem, Int.reduceAdd, Int.reduceSub, Int.reduceMul, dec_t, dec_f, Nat.reduceBEq, Nat.reduceBNe, reduceShiftRight, reduceAnd, Nat.reduceAdd, Nat.reduceSub, reduceEqDiff, Nat.reduceLT, reduceLeDiff, reduceToNat, Int.reduceLT, Int.reduceLE, Int.reduceEq, reduceIte, reduceCtorEq, e0, e1, e4, e5, e6, e7, e8, e9, e10, h74, h75, h76, h77, h78n, h78r, *])
  · rcases ch6 (brO f) (!dn f) (pEmptyO f) (leafO f) (wnO f) (v4O f) with w0 | ⟨w0, w1⟩ | ⟨w0, w1, w2⟩ | ⟨w0, w1, w2, w3⟩ | ⟨w0, w1, w2, w3, w4⟩ | ⟨w0, w1, w2, w3, w4, w5⟩ | ⟨w0, w1, w2, w3, w4, w5⟩ <;> rcases k with k | k | k | k <;> (simp -implicitDefEqProofs (disch := omega) only [go_sem, Int.reduceAdd, Int.reduceSub, Int.reduceMul, dec_t, dec_f, Nat.reduceBEq, Nat.reduceBNe, reduceShiftRight, reduceAnd, Nat.reduceAdd, Nat.reduceSub, reduceEqDiff, Nat.reduceLT, reduceLeDiff, reduceToNat, Int.reduceLT, Int.reduceLE, Int.reduceEq, reduceIte, reduceCtorEq, e0, e1, e4, e5, e6, e7, e8, e9, e10, h74, h75, h76, h77, h78n, h78r, *])
  · rcases ch6 (brO f) (!dn f) (pEmptyO f) (leafO f) (wnO f) (bvO f) with w0 | ⟨w0, w1⟩ | ⟨w0, w1, w2⟩ | ⟨w0, w1, w2, w3⟩ | ⟨w0, w1, w2, w3, w4⟩ | ⟨w0, w1, w2, w3, w4, w5⟩ | ⟨w0, w1, w2, w3, w4, w5⟩ <;> (simp -implicitDefEqProofs (disch := omega) only [go_sem, Int.reduceAdd, Int.reduceSub, Int.reduceMul, dec_t, dec_f, Nat.reduceBEq, Nat.reduceBNe, reduceShiftRight, reduceAnd, Nat.reduceAdd, Nat.reduceSub, reduceEqDiff, Nat.reduceLT, reduceLeDiff, reduceToNat, Int.reduceLT, Int.reduceLE, Int.reduceEq, reduceIte, reduceCtorEq, e0, e1, e4, e5, e6, e7, e8, e9, e10, h74, h75, h76, h77, h78n, h78r, *])
  · rcases ch7 (brO f) (!dn f) (leafO f) (wnO f) (bvO f) (pcOkO f) (pShortO f) with w0 | ⟨w0, w1⟩ | ⟨w0, w1, w2⟩ | ⟨w0, w1, w2, w3⟩ | ⟨w0, w1, w2, w3, w4⟩ | ⟨w0, w1, w2, w3, w4, w5⟩ | ⟨w0, w1, w2, w3, w4, w5, w6⟩ | ⟨w0, w1, w2, w3, w4, w5, w6⟩ <;> (simp -implicitDefEqProofs (disch := omega) only [go_sem, Int.reduceAdd, Int.reduceSub, Int.reduceMul, dec_t, dec_f, Nat.reduceBEq, Nat.reduceBNe, reduceShiftRight, reduceAnd, Nat.reduceAdd, Nat.reduceSub, reduceEqDiff, Nat.reduceLT, reduceLeDiff, reduceToNat, Int.reduceLT, Int.reduceLE, Int.reduceEq, reduceIte, reduceCtorEq, e0, e1, e4, e5, e6, e7, e8, e9, e10, h74, h75, h76, h77, h78n, h78r, *])
  · cases b1 : brO f <;> rcases ch7 (pEmptyO f) (leafO f) (wn0O f) (wr0O f) (!rdO f) (!nrO f) (v4O f) with w0 | ⟨w0, w1⟩ | ⟨w0, w1, w2⟩ | ⟨w0, w1, w2, w3⟩ | ⟨w0, w1, w2, w3, w4⟩ | ⟨w0, w1, w2, w3, w4, w5⟩ | ⟨w0, w1, w2, w3, w4, w5, w6⟩ | ⟨w0, w1, w2, w3, w4, w5, w6⟩ <;> (simp -implicitDefEqProofs (disch := omega) only [go_sem, Int.reduceAdd, Int.reduceSub, Int.reduceMul, dec_t, dec_f, Nat.reduceBEq, Nat.reduceBNe, reduceShiftRight, reduceAnd, Nat.reduceAdd, Nat.reduceSub, reduceEqDiff, Nat.reduceLT, reduceLeDiff, reduceToNat, Int.reduceLT, Int.reduceLE, Int.reduceEq, reduceIte, reduceCtorEq, e0, e1, e4, e5, e6, e7, e8, e9, e10, h74, h75, h76, h77, h78n, h78r, *])
  · obtain ⟨k0, k1, k2, k3, k5, k6, k8, k7, k4, k9⟩ := k
    cases b1 : brO f <;> (simp -implicitDefEqProofs (disch := omega) only [go_sem, Int.reduceAdd, Int.reduceSub, Int.reduceMul, dec_t, dec_f, Nat.reduceBEq, Nat.reduceBNe, reduceShiftRight, reduceAnd, Nat.reduceAdd, Nat.reduceSub, reduceEqDiff, Nat.reduceLT, reduceLeDiff, reduceToNat, Int.reduceLT, Int.reduceLE, Int.reduceEq, reduceIte, reduceCtorEq, e0, e1, e4, e5, e6, e7, e8, e9, e10, h74, h75, h76, h77, h78n, h78r, *])
set_option maxRecDepth 10000
set_option maxHeartbeats 4000000
noncomputable def allF (f : Fo) : Bool := pOne f && !((kids f).attach.any fun k => !allF k.1)
termination_by sz f
decreasing_by exact kids_lt k.2
theorem allF_eq (f : Fo) : allF f = (pOne f && !((kids f).any fun k => !allF k)) := by
  rw [allF]
  congr 2
  conv => rhs; rw [← List.attach_map_subtype_val (kids f), List.any_map]
  rfl
theorem t79 (l : List Fo) (hl : l.length ≤ 2 ^ 30) (hp : ∀ c ∈ l, pureCall C 58 [(.agg [.lit (.int .i64 (kind c)), .str (bs (name c)), .str (bs (value c)), .str (bs (ini c)), .sl (List.map encS (any c)), .str (bs (fin c)), .lit (.bool (hi c)), .lit (.bool (hf c)), .str (bs (rule c)), .lit (.bool (dn c)), .sl (List.map encO (kids c))])] = some (tf (!allF c))) : pureCall C 79 [.sl (l.map encO), .lit (.func (.func 58) #[] #[])] = some (lit (fnd (fun k => !allF k) l 0)) := by
  have key : ∀ (r' : List Fo) (j : Nat) (x : Int), x = j → l.drop j = r' →
      ∃ x', n79_6 ⟨[(0, .d (.sl (l.map encO))), (1, .d (.lit (.func (.func 58) #[] #[]))), (7, .d (.lit (.int .i64 l.length))), (8, .d (.lit (.int .i64 x)))], []⟩ =
        some (match fndO (fun k => !allF k) r' j with
          | none => (.exit 0, ⟨[(0, .d (.sl (l.map encO))), (1, .d (.lit (.func (.func 58) #[] #[]))), (7, .d (.lit (.int .i64 l.length))), (8, x'), (9, .d (.lit (.bool false)))], []⟩)
          | some q => (.ret, ⟨[(4, .d (.lit (.int .i64 q)))], []⟩)) := by
    intro r'
    induction r' with
    | nil =>
      intro j x hx hd
      have hd := drop_nil hd
      refine ⟨.d (.lit (.int .i64 x)), ?_⟩
      rw [r_n79_6, show fndO (fun k => !allF k) [] j = none from rfl]
      simp -implicitDefEqProofs (disch := omega) only [go_sem, Int.reduceAdd, Int.reduceSub, Int.reduceMul, dec_t, dec_f, Nat.reduceBEq, Nat.reduceBNe, reduceShiftRight, reduceAnd, Nat.reduceAdd, Nat.reduceSub, reduceEqDiff, Nat.reduceLT, reduceLeDiff, reduceToNat, Int.reduceLT, Int.reduceLE, Int.reduceEq, reduceIte, reduceCtorEq]
    | cons c' r' ih =>
      intro j x hx hd
      obtain ⟨g1, g2, g3, g4⟩ := drop_cons hd
      have hnat : Int.toNat x = j := by omega
      obtain ⟨x', h⟩ := ih (j + 1) (x + 1) (by omega) g3
      have hc := hp c' g4
      cases hs : (fun k => !allF k) c' with
      | true =>
        simp only at hs
        rw [hs] at hc
        refine ⟨.undef, ?_⟩
        rw [r_n79_6, show fndO (fun k => !allF k) (c' :: r') j = some j by simp only [fndO]; rw [if_pos hs]]
        clear ih h
        
        simp -implicitDefEqProofs (disch := omega) only [go_sem, Int.reduceAdd, Int.reduceSub, Int.reduceMul, dec_t, dec_f, Nat.reduceBEq, Nat.reduceBNe, reduceShiftRight, reduceAnd, Nat.reduceAdd, Nat.reduceSub, reduceEqDiff, Nat.reduceLT, reduceLeDiff, reduceToNat, Int.reduceLT, Int.reduceLE, Int.reduceEq, reduceIte, reduceCtorEq, g2, hnat, hc]
        rw [hx]
      | false =>
        simp only at hs
        rw [hs] at hc
        refine ⟨x', ?_⟩
        rw [r_n79_6, show fndO (fun k => !allF k) (c' :: r') j = fndO (fun k => !allF k) r' (j + 1) by simp only [fndO]; rw [if_neg (by rw [hs]; exact Bool.false_ne_true)]]
        clear ih
        
        generalize fndO (fun k => !allF k) r' (j + 1) = w at h ⊢
        simp -implicitDefEqProofs (disch := omega) only [go_sem, Int.reduceAdd, Int.reduceSub, Int.reduceMul, dec_t, dec_f, Nat.reduceBEq, Nat.reduceBNe, reduceShiftRight, reduceAnd, Nat.reduceAdd, Nat.reduceSub, reduceEqDiff, Nat.reduceLT, reduceLeDiff, reduceToNat, Int.reduceLT, Int.reduceLE, Int.reduceEq, reduceIte, reduceCtorEq, g2, hnat, hc, h]
  obtain ⟨x', h⟩ := key l 0 0 rfl (by simp)
  rw [p79, fnd_O]
  generalize fndO (fun k => !allF k) l 0 = w at h ⊢
  simp -implicitDefEqProofs (disch := omega) only [go_sem, Int.reduceAdd, Int.reduceSub, Int.reduceMul, dec_t, dec_f, Nat.reduceBEq, Nat.reduceBNe, reduceShiftRight, reduceAnd, Nat.reduceAdd, Nat.reduceSub, reduceEqDiff, Nat.reduceLT, reduceLeDiff, reduceToNat, Int.reduceLT, Int.reduceLE, Int.reduceEq, reduceIte, reduceCtorEq]
  simp only [h]
  cases w with
  | none =>
    simp -implicitDefEqProofs (disch := omega) only [go_sem, Int.reduceAdd, Int.reduceSub, Int.reduceMul, dec_t, dec_f, Nat.reduceBEq, Nat.reduceBNe, reduceShiftRight, reduceAnd, Nat.reduceAdd, Nat.reduceSub, reduceEqDiff, Nat.reduceLT, reduceLeDiff, reduceToNat, Int.reduceLT, Int.reduceLE, Int.reduceEq, reduceIte, reduceCtorEq]
    (first | done | rfl)
  | some q =>
    simp -implicitDefEqProofs (disch := omega) only [go_sem, Int.reduceAdd, Int.reduceSub, Int.reduceMul, dec_t, dec_f, Nat.reduceBEq, Nat.reduceBNe, reduceShiftRight, reduceAnd, Nat.reduceAdd, Nat.reduceSub, reduceEqDiff, Nat.reduceLT, reduceLeDiff, reduceToNat, Int.reduceLT, Int.reduceLE, Int.reduceEq, reduceIte, reduceCtorEq]
    (first | done | rfl)
theorem t57 (l : List Fo) (hl : l.length ≤ 2 ^ 30) (hp : ∀ c ∈ l, pureCall C 58 [(.agg [.lit (.int .i64 (kind c)), .str (bs (name c)), .str (bs (value c)), .str (bs (ini c)), .sl (List.map encS (any c)), .str (bs (fin c)), .lit (.bool (hi c)), .lit (.bool (hf c)), .str (bs (rule c)), .lit (.bool (dn c)), .sl (List.map encO (kids c))])] = some (tf (!allF c))) : pureCall C 57 [.sl (l.map encO), .lit (.func (.func 58) #[] #[])] = some (tf (l.any (fun k => !allF k))) := by
  have h := t79  l hl hp
  rw [fnd_any (fun k => !allF k) l 0, p57]
  generalize fnd (fun k => !allF k) l 0 = w at h ⊢
  by_cases hw : 0 ≤ w
  · rw [show decide (0 ≤ w) = true by simpa using hw]
    simp -implicitDefEqProofs (disch := omega) only [go_sem, Int.reduceAdd, Int.reduceSub, Int.reduceMul, dec_t, dec_f, Nat.reduceBEq, Nat.reduceBNe, reduceShiftRight, reduceAnd, Nat.reduceAdd, Nat.reduceSub, reduceEqDiff, Nat.reduceLT, reduceLeDiff, reduceToNat, Int.reduceLT, Int.reduceLE, Int.reduceEq, reduceIte, reduceCtorEq, h]
    (first | done | rfl)
  · rw [show decide (0 ≤ w) = false by simpa using hw]
    simp -implicitDefEqProofs (disch := omega) only [go_sem, Int.reduceAdd, Int.reduceSub, Int.reduceMul, dec_t, dec_f, Nat.reduceBEq, Nat.reduceBNe, reduceShiftRight, reduceAnd, Nat.reduceAdd, Nat.reduceSub, reduceEqDiff, Nat.reduceLT, reduceLeDiff, reduceToNat, Int.reduceLT, Int.reduceLE, Int.reduceEq, reduceIte, reduceCtorEq, h]
    (first | done | rfl)
theorem t58 (f : Fo) (h : pureCall C 36 [(.agg [.lit (.int .i64 (kind f)), .str (bs (name f)), .str (bs (value f)), .str (bs (ini f)), .sl (List.map encS (any f)), .str (bs (fin f)), .lit (.bool (hi f)), .lit (.bool (hf f)), .str (bs (rule f)), .lit (.bool (dn f)), .sl (List.map encO (kids f))])] = some (tf (allF f))) : pureCall C 58 [(.agg [.lit (.int .i64 (kind f)), .str (bs (name f)), .str (bs (value f)), .str (bs (ini f)), .sl (List.map encS (any f)), .str (bs (fin f)), .lit (.bool (hi f)), .lit (.bool (hf f)), .str (bs (rule f)), .lit (.bool (dn f)), .sl (List.map encO (kids f))])] = some (tf (!allF f)) := by
  generalize allF f = w at h ⊢
  rw [p58]
  cases w <;> (simp -implicitDefEqProofs (disch := omega) only [go_sem, Int.reduceAdd, Int.reduceSub, Int.reduceMul, dec_t, dec_f, Nat.reduceBEq, Nat.reduceBNe, reduceShiftRight, reduceAnd, Nat.reduceAdd, Nat.reduceSub, reduceEqDiff, Nat.reduceLT, reduceLeDiff, reduceToNat, Int.reduceLT, Int.reduceLE, Int.reduceEq, reduceIte, reduceCtorEq, h]) <;> (first | done | rfl)
@[go_sem] theorem t36 (f : Fo) : pureCall C 36 [(.agg [.lit (.int .i64 (kind f)), .str (bs (name f)), .str (bs (value f)), .str (bs (ini f)), .sl (List.map encS (any f)), .str (bs (fin f)), .lit (.bool (hi f)), .lit (.bool (hf f)), .str (bs (rule f)), .lit (.bool (dn f)), .sl (List.map encO (kids f))])] = some (tf (allF f)) := by
  have IH : ∀ c ∈ kids f, pureCall C 58 [(.agg [.lit (.int .i64 (kind c)), .str (bs (name c)), .str (bs (value c)), .str (bs (ini c)), .sl (List.map encS (any c)), .str (bs (fin c)), .lit (.bool (hi c)), .lit (.bool (hf c)), .str (bs (rule c)), .lit (.bool (dn c)), .sl (List.map encO (kids c))])] = some (tf (!allF c)) := fun c hc => t58 c (t36 c)
  have h57 := t57 (kids f) (kids_le f) IH
  have h56 := t56 f
  rw [allF_eq, p36]
  generalize pOne f = w1 at h56 ⊢
  generalize ((kids f).any fun k => !allF k) = w2 at h57 ⊢
  cases w1 <;> cases w2 <;> (simp -implicitDefEqProofs (disch := omega) only [go_sem, Int.reduceAdd, Int.reduceSub, Int.reduceMul, dec_t, dec_f, Nat.reduceBEq, Nat.reduceBNe, reduceShiftRight, reduceAnd, Nat.reduceAdd, Nat.reduceSub, reduceEqDiff, Nat.reduceLT, reduceLeDiff, reduceToNat, Int.reduceLT, Int.reduceLE, Int.reduceEq, reduceIte, reduceCtorEq, h56, h57]) <;> (first | done | rfl)
termination_by sz f
decreasing_by exact kids_lt hc
noncomputable def chkF (f : Fo) : Bool := decide (dep 8 f ≤ 8) && decide (cnt8 f ≤ 60) && allF f
@[go_sem] theorem t20 (f : Fo) : pureCall C 20 [(.agg [.lit (.int .i64 (kind f)), .str (bs (name f)), .str (bs (value f)), .str (bs (ini f)), .sl (List.map encS (any f)), .str (bs (fin f)), .lit (.bool (hi f)), .lit (.bool (hf f)), .str (bs (rule f)), .lit (.bool (dn f)), .sl (List.map encO (kids f))])] = some (lit (if chkF f then 0 else 240)) := by
  have h34 := t34 f
  have h35 := t35 f
  have h36 := t36 f
  unfold chkF
  rw [p20]
  by_cases q1 : dep 8 f ≤ 8 <;> by_cases q2 : cnt8 f ≤ 60 <;> simp only [q1, q2, decide_true, decide_false] <;> cases b3 : allF f <;> (simp -implicitDefEqProofs (disch := omega) only [go_sem, Int.reduceAdd, Int.reduceSub, Int.reduceMul, dec_t, dec_f, Nat.reduceBEq, Nat.reduceBNe, reduceShiftRight, reduceAnd, Nat.reduceAdd, Nat.reduceSub, reduceEqDiff, Nat.reduceLT, reduceLeDiff, reduceToNat, Int.reduceLT, Int.reduceLE, Int.reduceEq, reduceIte, reduceCtorEq, h34, h35, h36, b3]) <;> (first | done | rfl)
end Go.L25
