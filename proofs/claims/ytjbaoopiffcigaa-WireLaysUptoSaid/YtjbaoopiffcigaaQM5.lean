/- Layer 25: searches in rows, and pieces. Conditions: none. -/
import Derived.Test.YtjbaoopiffcigaaQM4
set_option linter.unusedVariables false
set_option linter.unusedSimpArgs false
namespace Go.L25
open Go Go.Eng Go.Proofs
set_option pp.deepTerms false
set_option pp.deepTerms.threshold 9
set_option maxRecDepth 10000
set_option maxHeartbeats 4000000

def fnd {α : Type} (p : α → Bool) : List α → Nat → Int
  | [], _ => -1
  | a :: r, j => if p a then (j : Int) else fnd p r (j + 1)
def fndO {α : Type} (p : α → Bool) : List α → Nat → Option Nat
  | [], _ => none
  | a :: r, j => if p a then some j else fndO p r (j + 1)
def ofO : Option Nat → Int
  | none => -1
  | some q => q
theorem fnd_O {α : Type} (p : α → Bool) : ∀ (l : List α) (j : Nat), fnd p l j = ofO (fndO p l j)
  | [], _ => rfl
  | a :: r, j => by
    simp only [fnd, fndO]
    split
    · rfl
    · exact fnd_O p r (j + 1)
theorem fnd_any {α : Type} (p : α → Bool) : ∀ (l : List α) (j : Nat), l.any p = decide (0 ≤ fnd p l j)
  | [], _ => rfl
  | a :: r, j => by
    by_cases h : p a = true
    · have e : fnd p (a :: r) j = (j : Int) := by simp only [fnd]; rw [if_pos h]
      simp only [e, List.any_cons, h]; simp
    · have e : fnd p (a :: r) j = fnd p r (j + 1) := by simp only [fnd]; rw [if_neg h]
      simp only [e, List.any_cons, h, ← fnd_any p r (j + 1)]; simp

theorem t94 (s : Bs) : pureCall C 94 [.str (bs s)] = some (tf (decide (400 < (bs s).length))) := by
  have := bs_le s
  rw [p94]
  by_cases h : 400 < (bs s).length
  · rw [show decide (400 < (bs s).length) = true by simpa using h]
    simp -implicitDefEqProofs (maxSteps := 10000000) (disch := omega) only [go_sem, Int.reduceAdd, Int.reduceSub, Int.reduceMul, dec_t, dec_f, Nat.reduceBEq, Nat.reduceBNe, Nat.reduceShiftRight, Nat.reduceAnd, Nat.reduceAdd, Nat.reduceSub, Nat.reduceEqDiff, Nat.reduceLT, Nat.reduceLeDiff, Int.reduceToNat, Int.reduceLT, Int.reduceLE, Int.reduceEq, reduceIte, reduceCtorEq]
  · rw [show decide (400 < (bs s).length) = false by simpa using h]
    simp -implicitDefEqProofs (maxSteps := 10000000) (disch := omega) only [go_sem, Int.reduceAdd, Int.reduceSub, Int.reduceMul, dec_t, dec_f, Nat.reduceBEq, Nat.reduceBNe, Nat.reduceShiftRight, Nat.reduceAnd, Nat.reduceAdd, Nat.reduceSub, Nat.reduceEqDiff, Nat.reduceLT, Nat.reduceLeDiff, Int.reduceToNat, Int.reduceLT, Int.reduceLE, Int.reduceEq, reduceIte, reduceCtorEq]

theorem t98 (t : List UInt8) (l : List Bs) (hl : l.length ≤ 2 ^ 30) : pureCall C 98 [.sl (l.map encS), .str t] = some (lit (fnd (fun s => List.beq t (bs s)) l 0)) := by
  have key : ∀ (r' : List Bs) (j : Nat) (x : Int), x = j → l.drop j = r' →
      ∃ x', n98_6 ⟨[(0, .d (.sl (l.map encS))), (1, .d (.str t)), (7, .d (.lit (.int .i64 l.length))), (8, .d (.lit (.int .i64 x)))], []⟩ =
        some (match fndO (fun s => List.beq t (bs s)) r' j with
          | none => (.exit 0, ⟨[(0, .d (.sl (l.map encS))), (1, .d (.str t)), (7, .d (.lit (.int .i64 l.length))), (8, x'), (9, .d (.lit (.bool false)))], []⟩)
          | some q => (.ret, ⟨[(4, .d (.lit (.int .i64 q)))], []⟩)) := by
    intro r'
    induction r' with
    | nil =>
      intro j x hx hd
      have hd := drop_nil hd
      refine ⟨.d (.lit (.int .i64 x)), ?_⟩
      rw [r_n98_6, show fndO (fun s => List.beq t (bs s)) [] j = none from rfl]
      simp -implicitDefEqProofs (maxSteps := 10000000) (disch := omega) only [go_sem, Int.reduceAdd, Int.reduceSub, Int.reduceMul, dec_t, dec_f, Nat.reduceBEq, Nat.reduceBNe, Nat.reduceShiftRight, Nat.reduceAnd, Nat.reduceAdd, Nat.reduceSub, Nat.reduceEqDiff, Nat.reduceLT, Nat.reduceLeDiff, Int.reduceToNat, Int.reduceLT, Int.reduceLE, Int.reduceEq, reduceIte, reduceCtorEq]
    | cons c' r' ih =>
      intro j x hx hd
      obtain ⟨g1, g2, g3, g4⟩ := drop_cons hd
      have hnat : Int.toNat x = j := by omega
      obtain ⟨x', h⟩ := ih (j + 1) (x + 1) (by omega) g3
      have he : encS c' = .str (bs c') := rfl
      cases hs : (fun s => List.beq t (bs s)) c' with
      | true =>
        simp only at hs
        have hs := hs
        refine ⟨.undef, ?_⟩
        rw [r_n98_6, show fndO (fun s => List.beq t (bs s)) (c' :: r') j = some j by simp only [fndO]; rw [if_pos hs]]
        clear ih h
        
        simp -implicitDefEqProofs (maxSteps := 10000000) (disch := omega) only [go_sem, Int.reduceAdd, Int.reduceSub, Int.reduceMul, dec_t, dec_f, Nat.reduceBEq, Nat.reduceBNe, Nat.reduceShiftRight, Nat.reduceAnd, Nat.reduceAdd, Nat.reduceSub, Nat.reduceEqDiff, Nat.reduceLT, Nat.reduceLeDiff, Int.reduceToNat, Int.reduceLT, Int.reduceLE, Int.reduceEq, reduceIte, reduceCtorEq, g2, hnat, hs, he]
        rw [hx]
      | false =>
        simp only at hs
        have hs := hs
        refine ⟨x', ?_⟩
        rw [r_n98_6, show fndO (fun s => List.beq t (bs s)) (c' :: r') j = fndO (fun s => List.beq t (bs s)) r' (j + 1) by simp only [fndO]; rw [if_neg (by rw [hs]; exact Bool.false_ne_true)]]
        clear ih
        
        generalize fndO (fun s => List.beq t (bs s)) r' (j + 1) = w at h ⊢
        simp -implicitDefEqProofs (maxSteps := 10000000) (disch := omega) only [go_sem, Int.reduceAdd, Int.reduceSub, Int.reduceMul, dec_t, dec_f, Nat.reduceBEq, Nat.reduceBNe, Nat.reduceShiftRight, Nat.reduceAnd, Nat.reduceAdd, Nat.reduceSub, Nat.reduceEqDiff, Nat.reduceLT, Nat.reduceLeDiff, Int.reduceToNat, Int.reduceLT, Int.reduceLE, Int.reduceEq, reduceIte, reduceCtorEq, g2, hnat, hs, he, h]
  obtain ⟨x', h⟩ := key l 0 0 rfl (by simp)
  rw [p98, fnd_O]
  generalize fndO (fun s => List.beq t (bs s)) l 0 = w at h ⊢
  simp -implicitDefEqProofs (maxSteps := 10000000) (disch := omega) only [go_sem, Int.reduceAdd, Int.reduceSub, Int.reduceMul, dec_t, dec_f, Nat.reduceBEq, Nat.reduceBNe, Nat.reduceShiftRight, Nat.reduceAnd, Nat.reduceAdd, Nat.reduceSub, Nat.reduceEqDiff, Nat.reduceLT, Nat.reduceLeDiff, Int.reduceToNat, Int.reduceLT, Int.reduceLE, Int.reduceEq, reduceIte, reduceCtorEq]
  simp only [h]
  cases w with
  | none =>
    simp -implicitDefEqProofs (maxSteps := 10000000) (disch := omega) only [go_sem, Int.reduceAdd, Int.reduceSub, Int.reduceMul, dec_t, dec_f, Nat.reduceBEq, Nat.reduceBNe, Nat.reduceShiftRight, Nat.reduceAnd, Nat.reduceAdd, Nat.reduceSub, Nat.reduceEqDiff, Nat.reduceLT, Nat.reduceLeDiff, Int.reduceToNat, Int.reduceLT, Int.reduceLE, Int.reduceEq, reduceIte, reduceCtorEq]
    (first | done | rfl)
  | some q =>
    simp -implicitDefEqProofs (maxSteps := 10000000) (disch := omega) only [go_sem, Int.reduceAdd, Int.reduceSub, Int.reduceMul, dec_t, dec_f, Nat.reduceBEq, Nat.reduceBNe, Nat.reduceShiftRight, Nat.reduceAnd, Nat.reduceAdd, Nat.reduceSub, Nat.reduceEqDiff, Nat.reduceLT, Nat.reduceLeDiff, Int.reduceToNat, Int.reduceLT, Int.reduceLE, Int.reduceEq, reduceIte, reduceCtorEq]
    (first | done | rfl)

theorem t93 (t : List UInt8) (l : List Bs) (hl : l.length ≤ 2 ^ 30) : pureCall C 93 [.sl (l.map encS), .str t] = some (tf (l.any (fun s => List.beq t (bs s)))) := by
  have h := t98 t l hl 
  rw [fnd_any (fun s => List.beq t (bs s)) l 0, p93]
  generalize fnd (fun s => List.beq t (bs s)) l 0 = w at h ⊢
  by_cases hw : 0 ≤ w
  · rw [show decide (0 ≤ w) = true by simpa using hw]
    simp -implicitDefEqProofs (maxSteps := 10000000) (disch := omega) only [go_sem, Int.reduceAdd, Int.reduceSub, Int.reduceMul, dec_t, dec_f, Nat.reduceBEq, Nat.reduceBNe, Nat.reduceShiftRight, Nat.reduceAnd, Nat.reduceAdd, Nat.reduceSub, Nat.reduceEqDiff, Nat.reduceLT, Nat.reduceLeDiff, Int.reduceToNat, Int.reduceLT, Int.reduceLE, Int.reduceEq, reduceIte, reduceCtorEq, h]
    (first | done | rfl)
  · rw [show decide (0 ≤ w) = false by simpa using hw]
    simp -implicitDefEqProofs (maxSteps := 10000000) (disch := omega) only [go_sem, Int.reduceAdd, Int.reduceSub, Int.reduceMul, dec_t, dec_f, Nat.reduceBEq, Nat.reduceBNe, Nat.reduceShiftRight, Nat.reduceAnd, Nat.reduceAdd, Nat.reduceSub, Nat.reduceEqDiff, Nat.reduceLT, Nat.reduceLeDiff, Int.reduceToNat, Int.reduceLT, Int.reduceLE, Int.reduceEq, reduceIte, reduceCtorEq, h]
    (first | done | rfl)

theorem t99 (l : List Bs) (hl : l.length ≤ 2 ^ 30) : pureCall C 99 [.sl (l.map encS), .lit (.func (.func 94) #[] #[])] = some (lit (fnd (fun s => decide (400 < (bs s).length)) l 0)) := by
  have key : ∀ (r' : List Bs) (j : Nat) (x : Int), x = j → l.drop j = r' →
      ∃ x', n99_6 ⟨[(0, .d (.sl (l.map encS))), (1, .d (.lit (.func (.func 94) #[] #[]))), (7, .d (.lit (.int .i64 l.length))), (8, .d (.lit (.int .i64 x)))], []⟩ =
        some (match fndO (fun s => decide (400 < (bs s).length)) r' j with
          | none => (.exit 0, ⟨[(0, .d (.sl (l.map encS))), (1, .d (.lit (.func (.func 94) #[] #[]))), (7, .d (.lit (.int .i64 l.length))), (8, x'), (9, .d (.lit (.bool false)))], []⟩)
          | some q => (.ret, ⟨[(4, .d (.lit (.int .i64 q)))], []⟩)) := by
    intro r'
    induction r' with
    | nil =>
      intro j x hx hd
      have hd := drop_nil hd
      refine ⟨.d (.lit (.int .i64 x)), ?_⟩
      rw [r_n99_6, show fndO (fun s => decide (400 < (bs s).length)) [] j = none from rfl]
      simp -implicitDefEqProofs (maxSteps := 10000000) (disch := omega) only [go_sem, Int.reduceAdd, Int.reduceSub, Int.reduceMul, dec_t, dec_f, Nat.reduceBEq, Nat.reduceBNe, Nat.reduceShiftRight, Nat.reduceAnd, Nat.reduceAdd, Nat.reduceSub, Nat.reduceEqDiff, Nat.reduceLT, Nat.reduceLeDiff, Int.reduceToNat, Int.reduceLT, Int.reduceLE, Int.reduceEq, reduceIte, reduceCtorEq]
    | cons c' r' ih =>
      intro j x hx hd
      obtain ⟨g1, g2, g3, g4⟩ := drop_cons hd
      have hnat : Int.toNat x = j := by omega
      obtain ⟨x', h⟩ := ih (j + 1) (x + 1) (by omega) g3
      have hc := t94 c'
      have he : encS c' = .str (bs c') := rfl
      cases hs : (fun s => decide (400 < (bs s).length)) c' with
      | true =>
        simp only at hs
        rw [hs] at hc
        refine ⟨.undef, ?_⟩
        rw [r_n99_6, show fndO (fun s => decide (400 < (bs s).length)) (c' :: r') j = some j by simp only [fndO]; rw [if_pos hs]]
        clear ih h
        
        simp -implicitDefEqProofs (maxSteps := 10000000) (disch := omega) only [go_sem, Int.reduceAdd, Int.reduceSub, Int.reduceMul, dec_t, dec_f, Nat.reduceBEq, Nat.reduceBNe, Nat.reduceShiftRight, Nat.reduceAnd, Nat.reduceAdd, Nat.reduceSub, Nat.reduceEqDiff, Nat.reduceLT, Nat.reduceLeDiff, Int.reduceToNat, Int.reduceLT, Int.reduceLE, Int.reduceEq, reduceIte, reduceCtorEq, g2, hnat, hc, he]
        rw [hx]
      | false =>
        simp only at hs
        rw [hs] at hc
        refine ⟨x', ?_⟩
        rw [r_n99_6, show fndO (fun s => decide (400 < (bs s).length)) (c' :: r') j = fndO (fun s => decide (400 < (bs s).length)) r' (j + 1) by simp only [fndO]; rw [if_neg (by rw [hs]; exact Bool.false_ne_true)]]
        clear ih
        
        generalize fndO (fun s => decide (400 < (bs s).length)) r' (j + 1) = w at h ⊢
        simp -implicitDefEqProofs (maxSteps := 10000000) (disch := omega) only [go_sem, Int.reduceAdd, Int.reduceSub, Int.reduceMul, dec_t, dec_f, Nat.reduceBEq, Nat.reduceBNe, Nat.reduceShiftRight, Nat.reduceAnd, Nat.reduceAdd, Nat.reduceSub, Nat.reduceEqDiff, Nat.reduceLT, Nat.reduceLeDiff, Int.reduceToNat, Int.reduceLT, Int.reduceLE, Int.reduceEq, reduceIte, reduceCtorEq, g2, hnat, hc, he, h]
  obtain ⟨x', h⟩ := key l 0 0 rfl (by simp)
  rw [p99, fnd_O]
  generalize fndO (fun s => decide (400 < (bs s).length)) l 0 = w at h ⊢
  simp -implicitDefEqProofs (maxSteps := 10000000) (disch := omega) only [go_sem, Int.reduceAdd, Int.reduceSub, Int.reduceMul, dec_t, dec_f, Nat.reduceBEq, Nat.reduceBNe, Nat.reduceShiftRight, Nat.reduceAnd, Nat.reduceAdd, Nat.reduceSub, Nat.reduceEqDiff, Nat.reduceLT, Nat.reduceLeDiff, Int.reduceToNat, Int.reduceLT, Int.reduceLE, Int.reduceEq, reduceIte, reduceCtorEq]
  simp only [h]
  cases w with
  | none =>
    simp -implicitDefEqProofs (maxSteps := 10000000) (disch := omega) only [go_sem, Int.reduceAdd, Int.reduceSub, Int.reduceMul, dec_t, dec_f, Nat.reduceBEq, Nat.reduceBNe, Nat.reduceShiftRight, Nat.reduceAnd, Nat.reduceAdd, Nat.reduceSub, Nat.reduceEqDiff, Nat.reduceLT, Nat.reduceLeDiff, Int.reduceToNat, Int.reduceLT, Int.reduceLE, Int.reduceEq, reduceIte, reduceCtorEq]
    (first | done | rfl)
  | some q =>
    simp -implicitDefEqProofs (maxSteps := 10000000) (disch := omega) only [go_sem, Int.reduceAdd, Int.reduceSub, Int.reduceMul, dec_t, dec_f, Nat.reduceBEq, Nat.reduceBNe, Nat.reduceShiftRight, Nat.reduceAnd, Nat.reduceAdd, Nat.reduceSub, Nat.reduceEqDiff, Nat.reduceLT, Nat.reduceLeDiff, Int.reduceToNat, Int.reduceLT, Int.reduceLE, Int.reduceEq, reduceIte, reduceCtorEq]
    (first | done | rfl)

theorem t95 (l : List Bs) (hl : l.length ≤ 2 ^ 30) : pureCall C 95 [.sl (l.map encS), .lit (.func (.func 94) #[] #[])] = some (tf (l.any (fun s => decide (400 < (bs s).length)))) := by
  have h := t99  l hl 
  rw [fnd_any (fun s => decide (400 < (bs s).length)) l 0, p95]
  generalize fnd (fun s => decide (400 < (bs s).length)) l 0 = w at h ⊢
  by_cases hw : 0 ≤ w
  · rw [show decide (0 ≤ w) = true by simpa using hw]
    simp -implicitDefEqProofs (maxSteps := 10000000) (disch := omega) only [go_sem, Int.reduceAdd, Int.reduceSub, Int.reduceMul, dec_t, dec_f, Nat.reduceBEq, Nat.reduceBNe, Nat.reduceShiftRight, Nat.reduceAnd, Nat.reduceAdd, Nat.reduceSub, Nat.reduceEqDiff, Nat.reduceLT, Nat.reduceLeDiff, Int.reduceToNat, Int.reduceLT, Int.reduceLE, Int.reduceEq, reduceIte, reduceCtorEq, h]
    (first | done | rfl)
  · rw [show decide (0 ≤ w) = false by simpa using hw]
    simp -implicitDefEqProofs (maxSteps := 10000000) (disch := omega) only [go_sem, Int.reduceAdd, Int.reduceSub, Int.reduceMul, dec_t, dec_f, Nat.reduceBEq, Nat.reduceBNe, Nat.reduceShiftRight, Nat.reduceAnd, Nat.reduceAdd, Nat.reduceSub, Nat.reduceEqDiff, Nat.reduceLT, Nat.reduceLeDiff, Int.reduceToNat, Int.reduceLT, Int.reduceLE, Int.reduceEq, reduceIte, reduceCtorEq, h]
    (first | done | rfl)

def pEmpty (i : Bs) (a : List Bs) (e : Bs) (hi hf : Bool) : Bool := List.beq (bs i) [] && List.beq (bs e) [] && a.isEmpty && !hi && !hf
theorem beq_app (x y : List UInt8) : List.beq (x ++ y) [] = (List.beq x [] && List.beq y []) := by cases x <;> cases y <;> rfl
theorem lenz {α : Type} (a : List α) : decide ((a.length : Int) = 0) = a.isEmpty := by cases a with
  | nil => rfl
  | cons x r => exact decide_eq_false (by simp only [List.length_cons]; omega)
theorem t74 (i : Bs) (a : List Bs) (e : Bs) (hi hf : Bool) (ha : a.length ≤ 2 ^ 30) : pureCall C 74 [.agg [.str (bs i), .sl (a.map encS), .str (bs e), .lit (.bool hi), .lit (.bool hf)]] = some (tf (pEmpty i a e hi hf)) := by
  have h1 := bs_le i
  have h2 := bs_le e
  rw [p74]
  simp -implicitDefEqProofs (maxSteps := 10000000) (disch := omega) only [go_sem, Int.reduceAdd, Int.reduceSub, Int.reduceMul, dec_t, dec_f, Nat.reduceBEq, Nat.reduceBNe, Nat.reduceShiftRight, Nat.reduceAnd, Nat.reduceAdd, Nat.reduceSub, Nat.reduceEqDiff, Nat.reduceLT, Nat.reduceLeDiff, Int.reduceToNat, Int.reduceLT, Int.reduceLE, Int.reduceEq, reduceIte, reduceCtorEq, ↓so_condB, ↓so_grdB, contK_br, blkK_br, behK_br, loopK_br, nx_br, tailK_br, obind_br, omap_br, lenz, beq_app]
  unfold pEmpty
  generalize List.beq (bs i) [] = b1
  generalize List.beq (bs e) [] = b2
  generalize a.isEmpty = b3
  cases b1 <;> cases b2 <;> cases b3 <;> cases hi <;> cases hf <;> rfl
def pcOk (i : Bs) (a : List Bs) (e : Bs) (hi hf : Bool) : Bool := !(!hi && !hf && a.isEmpty) && decide (a.length ≤ 6) && !(hi == List.beq (bs i) []) && !(hf == List.beq (bs e) []) && !(a.any fun s => List.beq [] (bs s))
theorem t76 (i : Bs) (a : List Bs) (e : Bs) (hi hf : Bool) (ha : a.length ≤ 2 ^ 30) : pureCall C 76 [.agg [.str (bs i), .sl (a.map encS), .str (bs e), .lit (.bool hi), .lit (.bool hf)]] = some (lit (if pcOk i a e hi hf then 0 else 2)) := by
  have h := t93 [] a ha
  have e6 : decide ((6 : Int) < a.length) = !decide (a.length ≤ 6) := by
    rw [← decide_not]; exact decide_eq_decide.2 (by omega)
  rw [p76]
  simp -implicitDefEqProofs (maxSteps := 10000000) (disch := omega) only [go_sem, Int.reduceAdd, Int.reduceSub, Int.reduceMul, dec_t, dec_f, Nat.reduceBEq, Nat.reduceBNe, Nat.reduceShiftRight, Nat.reduceAnd, Nat.reduceAdd, Nat.reduceSub, Nat.reduceEqDiff, Nat.reduceLT, Nat.reduceLeDiff, Int.reduceToNat, Int.reduceLT, Int.reduceLE, Int.reduceEq, reduceIte, reduceCtorEq, ↓so_condB, ↓so_grdB, contK_br, blkK_br, behK_br, loopK_br, nx_br, tailK_br, obind_br, omap_br, lenz, h, e6]
  unfold pcOk
  generalize a.any (fun s => List.beq [] (bs s)) = w
  generalize List.beq (bs i) [] = b1
  generalize List.beq (bs e) [] = b2
  generalize a.isEmpty = b3
  generalize decide (a.length ≤ 6) = b4
  cases b1 <;> cases b2 <;> cases b3 <;> cases b4 <;> cases hi <;> cases hf <;> cases w <;> rfl

def pShort (i : Bs) (a : List Bs) (e : Bs) : Bool := !(decide (400 < (bs i).length)) && !(decide (400 < (bs e).length)) && !(a.any fun s => decide (400 < (bs s).length))
theorem t77 (i : Bs) (a : List Bs) (e : Bs) (hi hf : Bool) (ha : a.length ≤ 2 ^ 30) : pureCall C 77 [.agg [.str (bs i), .sl (a.map encS), .str (bs e), .lit (.bool hi), .lit (.bool hf)]] = some (tf (pShort i a e)) := by
  have h := t95 a ha
  have h1 := t94 i
  have h2 := t94 e
  unfold pShort
  rw [p77]
  generalize a.any (fun s => decide (400 < (bs s).length)) = w at h ⊢
  generalize decide (400 < (bs i).length) = w1 at h1 ⊢
  generalize decide (400 < (bs e).length) = w2 at h2 ⊢
  cases w <;> cases w1 <;> cases w2 <;> (simp -implicitDefEqProofs (maxSteps := 10000000) (disch := omega) only [go_sem, Int.reduceAdd, Int.reduceSub, Int.reduceMul, dec_t, dec_f, Nat.reduceBEq, Nat.reduceBNe, Nat.reduceShiftRight, Nat.reduceAnd, Nat.reduceAdd, Nat.reduceSub, Nat.reduceEqDiff, Nat.reduceLT, Nat.reduceLeDiff, Int.reduceToNat, Int.reduceLT, Int.reduceLE, Int.reduceEq, reduceIte, reduceCtorEq, h, h1, h2]) <;> (first | done | rfl)

theorem t78 (s : Bs) : pureCall C 78 [.str (bs s)] = some (tf (List.beq (bs s) [] || word (bs s))) := by
  have h := t75 s
  rw [p78]
  generalize bs s = l at h ⊢
  generalize word l = w at h ⊢
  cases l <;> cases w <;> (simp -implicitDefEqProofs (maxSteps := 10000000) (disch := omega) only [go_sem, Int.reduceAdd, Int.reduceSub, Int.reduceMul, dec_t, dec_f, Nat.reduceBEq, Nat.reduceBNe, Nat.reduceShiftRight, Nat.reduceAnd, Nat.reduceAdd, Nat.reduceSub, Nat.reduceEqDiff, Nat.reduceLT, Nat.reduceLeDiff, Int.reduceToNat, Int.reduceLT, Int.reduceLE, Int.reduceEq, reduceIte, reduceCtorEq, h]) <;> (first | done | rfl)

end Go.L25
