/- Layer 25: the document reads. Conditions: none. -/
import Derived.Test.YtjbaoopiffcigaaPL
import Derived.Test.YtjbaoopiffcigaaPI
set_option linter.unusedVariables false
set_option linter.unusedSimpArgs false
namespace Go.L25
open Go Go.Eng Go.Proofs
open Nat (reduceShiftRight reduceAnd reduceEqDiff reduceLeDiff)
open Int (reduceToNat)
set_option maxRecDepth 10000
set_option maxHeartbeats 2000000
attribute [go_sem] t19
theorem t53_0 (L : List Eo) (hl : L.length ≤ 1000) (p : Pc) (j : Nat) (x : Int) (c : Eo) (r : List Eo) (hx : x = j) (hd : L.drop j = c :: r) (ha : p.a.length ≤ j) (hn : num c = 0) : n53_8 ⟨[(0, .d (.sl (List.map encE L))), (2, .ptr 0 1 0 0), (3, .ptr 1 1 0 0), (4, .d (.lit (.int .i64 x)))], [⟨5, [.agg [.d (.str []), .snil, .d (.str []), .d (.lit (.bool false)), .d (.lit (.bool false))]], false, false, false⟩, ⟨5, [.agg [.d (.str (bs (p).i)), (bif (p).a.isEmpty then .snil else .sref 2 (p).a.length 1 0 (p).a.length), .d (.str (bs (p).f)), .d (.lit (.bool (p).x)), .d (.lit (.bool (p).y))]], false, false, false⟩] ++ (bif (p).a.isEmpty then [] else [⟨1, List.map AV.d (List.map encS (p).a), true, true, false⟩])⟩ = n53_8 ⟨[(0, .d (.sl (List.map encE L))), (2, .ptr 0 1 0 0), (3, .ptr 1 1 0 0), (4, .d (.lit (.int .i64 (x + 1))))], [⟨5, [.agg [.d (.str []), .snil, .d (.str []), .d (.lit (.bool false)), .d (.lit (.bool false))]], false, false, false⟩, ⟨5, [.agg [.d (.str (bs (Pc.mk (cont c) p.a p.f true p.y).i)), (bif (Pc.mk (cont c) p.a p.f true p.y).a.isEmpty then .snil else .sref 2 (Pc.mk (cont c) p.a p.f true p.y).a.length 1 0 (Pc.mk (cont c) p.a p.f true p.y).a.length), .d (.str (bs (Pc.mk (cont c) p.a p.f true p.y).f)), .d (.lit (.bool (Pc.mk (cont c) p.a p.f true p.y).x)), .d (.lit (.bool (Pc.mk (cont c) p.a p.f true p.y).y))]], false, false, false⟩] ++ (bif (Pc.mk (cont c) p.a p.f true p.y).a.isEmpty then [] else [⟨1, List.map AV.d (List.map encS (Pc.mk (cont c) p.a p.f true p.y).a), true, true, false⟩])⟩ := by
  obtain ⟨g1, g2, g3, g4⟩ := drop_cons hd
  have hnat : Int.toNat x = j := by omega
  rw [r_n53_8]
  cases he : p.a.isEmpty
  · simp -implicitDefEqProofs (disch := omega) only [go_sem, Int.reduceAdd, Int.reduceSub, Int.reduceMul, dec_t, dec_f, Nat.reduceBEq, Nat.reduceBNe, reduceShiftRight, reduceAnd, Nat.reduceAdd, Nat.reduceSub, reduceEqDiff, Nat.reduceLT, reduceLeDiff, reduceToNat, Int.reduceLT, Int.reduceLE, Int.reduceEq, reduceIte, reduceCtorEq, he, g2, hnat, hn]
  · have : p.a = [] := List.isEmpty_iff.1 he
    simp -implicitDefEqProofs (disch := omega) only [go_sem, Int.reduceAdd, Int.reduceSub, Int.reduceMul, dec_t, dec_f, Nat.reduceBEq, Nat.reduceBNe, reduceShiftRight, reduceAnd, Nat.reduceAdd, Nat.reduceSub, reduceEqDiff, Nat.reduceLT, reduceLeDiff, reduceToNat, Int.reduceLT, Int.reduceLE, Int.reduceEq, reduceIte, reduceCtorEq, he, this, g2, hnat, hn]
theorem t53_1 (L : List Eo) (hl : L.length ≤ 1000) (p : Pc) (j : Nat) (x : Int) (c : Eo) (r : List Eo) (hx : x = j) (hd : L.drop j = c :: r) (ha : p.a.length ≤ j) (hn : num c = 1) : n53_8 ⟨[(0, .d (.sl (List.map encE L))), (2, .ptr 0 1 0 0), (3, .ptr 1 1 0 0), (4, .d (.lit (.int .i64 x)))], [⟨5, [.agg [.d (.str []), .snil, .d (.str []), .d (.lit (.bool false)), .d (.lit (.bool false))]], false, false, false⟩, ⟨5, [.agg [.d (.str (bs (p).i)), (bif (p).a.isEmpty then .snil else .sref 2 (p).a.length 1 0 (p).a.length), .d (.str (bs (p).f)), .d (.lit (.bool (p).x)), .d (.lit (.bool (p).y))]], false, false, false⟩] ++ (bif (p).a.isEmpty then [] else [⟨1, List.map AV.d (List.map encS (p).a), true, true, false⟩])⟩ = n53_8 ⟨[(0, .d (.sl (List.map encE L))), (2, .ptr 0 1 0 0), (3, .ptr 1 1 0 0), (4, .d (.lit (.int .i64 (x + 1))))], [⟨5, [.agg [.d (.str []), .snil, .d (.str []), .d (.lit (.bool false)), .d (.lit (.bool false))]], false, false, false⟩, ⟨5, [.agg [.d (.str (bs (Pc.mk p.i (p.a ++ [cont c]) p.f p.x p.y).i)), (bif (Pc.mk p.i (p.a ++ [cont c]) p.f p.x p.y).a.isEmpty then .snil else .sref 2 (Pc.mk p.i (p.a ++ [cont c]) p.f p.x p.y).a.length 1 0 (Pc.mk p.i (p.a ++ [cont c]) p.f p.x p.y).a.length), .d (.str (bs (Pc.mk p.i (p.a ++ [cont c]) p.f p.x p.y).f)), .d (.lit (.bool (Pc.mk p.i (p.a ++ [cont c]) p.f p.x p.y).x)), .d (.lit (.bool (Pc.mk p.i (p.a ++ [cont c]) p.f p.x p.y).y))]], false, false, false⟩] ++ (bif (Pc.mk p.i (p.a ++ [cont c]) p.f p.x p.y).a.isEmpty then [] else [⟨1, List.map AV.d (List.map encS (Pc.mk p.i (p.a ++ [cont c]) p.f p.x p.y).a), true, true, false⟩])⟩ := by
  obtain ⟨g1, g2, g3, g4⟩ := drop_cons hd
  have hnat : Int.toNat x = j := by omega
  rw [r_n53_8]
  cases he : p.a.isEmpty
  · simp -implicitDefEqProofs (disch := omega) only [go_sem, Int.reduceAdd, Int.reduceSub, Int.reduceMul, dec_t, dec_f, Nat.reduceBEq, Nat.reduceBNe, reduceShiftRight, reduceAnd, Nat.reduceAdd, Nat.reduceSub, reduceEqDiff, Nat.reduceLT, reduceLeDiff, reduceToNat, Int.reduceLT, Int.reduceLE, Int.reduceEq, reduceIte, reduceCtorEq, he, g2, hnat, hn]
  · have : p.a = [] := List.isEmpty_iff.1 he
    simp -implicitDefEqProofs (disch := omega) only [go_sem, Int.reduceAdd, Int.reduceSub, Int.reduceMul, dec_t, dec_f, Nat.reduceBEq, Nat.reduceBNe, reduceShiftRight, reduceAnd, Nat.reduceAdd, Nat.reduceSub, reduceEqDiff, Nat.reduceLT, reduceLeDiff, reduceToNat, Int.reduceLT, Int.reduceLE, Int.reduceEq, reduceIte, reduceCtorEq, he, this, g2, hnat, hn]
theorem t53_2 (L : List Eo) (hl : L.length ≤ 1000) (p : Pc) (j : Nat) (x : Int) (c : Eo) (r : List Eo) (hx : x = j) (hd : L.drop j = c :: r) (ha : p.a.length ≤ j) (hn : num c = 2) : n53_8 ⟨[(0, .d (.sl (List.map encE L))), (2, .ptr 0 1 0 0), (3, .ptr 1 1 0 0), (4, .d (.lit (.int .i64 x)))], [⟨5, [.agg [.d (.str []), .snil, .d (.str []), .d (.lit (.bool false)), .d (.lit (.bool false))]], false, false, false⟩, ⟨5, [.agg [.d (.str (bs (p).i)), (bif (p).a.isEmpty then .snil else .sref 2 (p).a.length 1 0 (p).a.length), .d (.str (bs (p).f)), .d (.lit (.bool (p).x)), .d (.lit (.bool (p).y))]], false, false, false⟩] ++ (bif (p).a.isEmpty then [] else [⟨1, List.map AV.d (List.map encS (p).a), true, true, false⟩])⟩ = n53_8 ⟨[(0, .d (.sl (List.map encE L))), (2, .ptr 0 1 0 0), (3, .ptr 1 1 0 0), (4, .d (.lit (.int .i64 (x + 1))))], [⟨5, [.agg [.d (.str []), .snil, .d (.str []), .d (.lit (.bool false)), .d (.lit (.bool false))]], false, false, false⟩, ⟨5, [.agg [.d (.str (bs (Pc.mk p.i p.a (cont c) p.x true).i)), (bif (Pc.mk p.i p.a (cont c) p.x true).a.isEmpty then .snil else .sref 2 (Pc.mk p.i p.a (cont c) p.x true).a.length 1 0 (Pc.mk p.i p.a (cont c) p.x true).a.length), .d (.str (bs (Pc.mk p.i p.a (cont c) p.x true).f)), .d (.lit (.bool (Pc.mk p.i p.a (cont c) p.x true).x)), .d (.lit (.bool (Pc.mk p.i p.a (cont c) p.x true).y))]], false, false, false⟩] ++ (bif (Pc.mk p.i p.a (cont c) p.x true).a.isEmpty then [] else [⟨1, List.map AV.d (List.map encS (Pc.mk p.i p.a (cont c) p.x true).a), true, true, false⟩])⟩ := by
  obtain ⟨g1, g2, g3, g4⟩ := drop_cons hd
  have hnat : Int.toNat x = j := by omega
  rw [r_n53_8]
  cases he : p.a.isEmpty
  · simp -implicitDefEqProofs (disch := omega) only [go_sem, Int.reduceAdd, Int.reduceSub, Int.reduceMul, dec_t, dec_f, Nat.reduceBEq, Nat.reduceBNe, reduceShiftRight, reduceAnd, Nat.reduceAdd, Nat.reduceSub, reduceEqDiff, Nat.reduceLT, reduceLeDiff, reduceToNat, Int.reduceLT, Int.reduceLE, Int.reduceEq, reduceIte, reduceCtorEq, he, g2, hnat, hn]
  · have : p.a = [] := List.isEmpty_iff.1 he
    simp -implicitDefEqProofs (disch := omega) only [go_sem, Int.reduceAdd, Int.reduceSub, Int.reduceMul, dec_t, dec_f, Nat.reduceBEq, Nat.reduceBNe, reduceShiftRight, reduceAnd, Nat.reduceAdd, Nat.reduceSub, reduceEqDiff, Nat.reduceLT, reduceLeDiff, reduceToNat, Int.reduceLT, Int.reduceLE, Int.reduceEq, reduceIte, reduceCtorEq, he, this, g2, hnat, hn]
theorem t53_3 (L : List Eo) (hl : L.length ≤ 1000) (p : Pc) (j : Nat) (x : Int) (c : Eo) (r : List Eo) (hx : x = j) (hd : L.drop j = c :: r) (ha : p.a.length ≤ j) (n0 : ¬ num c = 0) (n1 : ¬ num c = 1) (n2 : ¬ num c = 2) : n53_8 ⟨[(0, .d (.sl (List.map encE L))), (2, .ptr 0 1 0 0), (3, .ptr 1 1 0 0), (4, .d (.lit (.int .i64 x)))], [⟨5, [.agg [.d (.str []), .snil, .d (.str []), .d (.lit (.bool false)), .d (.lit (.bool false))]], false, false, false⟩, ⟨5, [.agg [.d (.str (bs (p).i)), (bif (p).a.isEmpty then .snil else .sref 2 (p).a.length 1 0 (p).a.length), .d (.str (bs (p).f)), .d (.lit (.bool (p).x)), .d (.lit (.bool (p).y))]], false, false, false⟩] ++ (bif (p).a.isEmpty then [] else [⟨1, List.map AV.d (List.map encS (p).a), true, true, false⟩])⟩ = n53_8 ⟨[(0, .d (.sl (List.map encE L))), (2, .ptr 0 1 0 0), (3, .ptr 1 1 0 0), (4, .d (.lit (.int .i64 (x + 1))))], [⟨5, [.agg [.d (.str []), .snil, .d (.str []), .d (.lit (.bool false)), .d (.lit (.bool false))]], false, false, false⟩, ⟨5, [.agg [.d (.str (bs (p).i)), (bif (p).a.isEmpty then .snil else .sref 2 (p).a.length 1 0 (p).a.length), .d (.str (bs (p).f)), .d (.lit (.bool (p).x)), .d (.lit (.bool (p).y))]], false, false, false⟩] ++ (bif (p).a.isEmpty then [] else [⟨1, List.map AV.d (List.map encS (p).a), true, true, false⟩])⟩ := by
  obtain ⟨g1, g2, g3, g4⟩ := drop_cons hd
  have hnat : Int.toNat x = j := by omega
  rw [r_n53_8]
  cases he : p.a.isEmpty
  · simp -implicitDefEqProofs (disch := omega) only [go_sem, Int.reduceAdd, Int.reduceSub, Int.reduceMul, dec_t, dec_f, Nat.reduceBEq, Nat.reduceBNe, reduceShiftRight, reduceAnd, Nat.reduceAdd, Nat.reduceSub, reduceEqDiff, Nat.reduceLT, reduceLeDiff, reduceToNat, Int.reduceLT, Int.reduceLE, Int.reduceEq, reduceIte, reduceCtorEq, he, g2, hnat, hnat]
  · have : p.a = [] := List.isEmpty_iff.1 he
    simp -implicitDefEqProofs (disch := omega) only [go_sem, Int.reduceAdd, Int.reduceSub, Int.reduceMul, dec_t, dec_f, Nat.reduceBEq, Nat.reduceBNe, reduceShiftRight, reduceAnd, Nat.reduceAdd, Nat.reduceSub, reduceEqDiff, Nat.reduceLT, reduceLeDiff, reduceToNat, Int.reduceLT, Int.reduceLE, Int.reduceEq, reduceIte, reduceCtorEq, he, this, g2, hnat, hnat]
def pcD (p : Pc) : D := .agg [.str (bs p.i), .sl (List.map encS p.a), .str (bs p.f), .lit (.bool p.x), .lit (.bool p.y)]
theorem t53k (L : List Eo) (hl : L.length ≤ 1000) : ∀ (r : List Eo) (j : Nat) (p : Pc) (x : Int), x = j → L.drop j = r → p.a.length ≤ j →
    ∃ x', n53_8 ⟨[(0, .d (.sl (List.map encE L))), (2, .ptr 0 1 0 0), (3, .ptr 1 1 0 0), (4, .d (.lit (.int .i64 x)))], [⟨5, [.agg [.d (.str []), .snil, .d (.str []), .d (.lit (.bool false)), .d (.lit (.bool false))]], false, false, false⟩, ⟨5, [.agg [.d (.str (bs (p).i)), (bif (p).a.isEmpty then .snil else .sref 2 (p).a.length 1 0 (p).a.length), .d (.str (bs (p).f)), .d (.lit (.bool (p).x)), .d (.lit (.bool (p).y))]], false, false, false⟩] ++ (bif (p).a.isEmpty then [] else [⟨1, List.map AV.d (List.map encS (p).a), true, true, false⟩])⟩ = some (.exit 0, ⟨[(0, .d (.sl (List.map encE L))), (2, .ptr 0 1 0 0), (3, .ptr 1 1 0 0), (4, x'), (9, .d (.lit (.bool false)))], [⟨5, [.agg [.d (.str []), .snil, .d (.str []), .d (.lit (.bool false)), .d (.lit (.bool false))]], false, false, false⟩, ⟨5, [.agg [.d (.str (bs (gPc r p).i)), (bif (gPc r p).a.isEmpty then .snil else .sref 2 (gPc r p).a.length 1 0 (gPc r p).a.length), .d (.str (bs (gPc r p).f)), .d (.lit (.bool (gPc r p).x)), .d (.lit (.bool (gPc r p).y))]], false, false, false⟩] ++ (bif (gPc r p).a.isEmpty then [] else [⟨1, List.map AV.d (List.map encS (gPc r p).a), true, true, false⟩])⟩)
  | [], j, p, x, hx, hd, ha => by
    have hd := drop_nil hd
    rw [gPc]
    refine ⟨.d (.lit (.int .i64 x)), ?_⟩
    rw [r_n53_8]
    cases he : p.a.isEmpty <;> (simp -implicitDefEqProofs (disch := omega) only [go_sem, Int.reduceAdd, Int.reduceSub, Int.reduceMul, dec_t, dec_f, Nat.reduceBEq, Nat.reduceBNe, reduceShiftRight, reduceAnd, Nat.reduceAdd, Nat.reduceSub, reduceEqDiff, Nat.reduceLT, reduceLeDiff, reduceToNat, Int.reduceLT, Int.reduceLE, Int.reduceEq, reduceIte, reduceCtorEq, he])
  | c :: r, j, p, x, hx, hd, ha => by
    have g3 := (drop_cons hd).2.2.1
    rw [gPc]
    by_cases n0 : num c = 0
    · rw [if_pos n0, t53_0 L hl p j x c r hx hd ha n0]
      exact t53k L hl r (j + 1) _ (x + 1) (by omega) g3 (by show p.a.length ≤ _; omega)
    · rw [if_neg n0]
      by_cases n1 : num c = 1
      · rw [if_pos n1, t53_1 L hl p j x c r hx hd ha n1]
        exact t53k L hl r (j + 1) _ (x + 1) (by omega) g3 (by show (p.a ++ [cont c]).length ≤ _; rw [List.length_append]; simp only [List.length_cons, List.length_nil]; omega)
      · rw [if_neg n1]
        by_cases n2 : num c = 2
        · rw [if_pos n2, t53_2 L hl p j x c r hx hd ha n2]
          exact t53k L hl r (j + 1) _ (x + 1) (by omega) g3 (by show p.a.length ≤ _; omega)
        · rw [if_neg n2, t53_3 L hl p j x c r hx hd ha n0 n1 n2]
          exact t53k L hl r (j + 1) _ (x + 1) (by omega) g3 (by omega)
theorem t53 (L : List Eo) (hl : L.length ≤ 1000) : pureCall C 53 [.sl (List.map encE L)] = some (.one (.d (pcD (gPc L pz)))) := by
  obtain ⟨x', h⟩ := t53k L hl L 0 pz 0 rfl rfl (Nat.le_refl _)
  simp only [pz] at h
  simp -implicitDefEqProofs (disch := omega) only [go_sem, Int.reduceAdd, Int.reduceSub, Int.reduceMul, dec_t, dec_f, Nat.reduceBEq, Nat.reduceBNe, reduceShiftRight, reduceAnd, Nat.reduceAdd, Nat.reduceSub, reduceEqDiff, Nat.reduceLT, reduceLeDiff, reduceToNat, Int.reduceLT, Int.reduceLE, Int.reduceEq, reduceIte, reduceCtorEq] at h
  rw [p53]
  unfold pcD pz
  generalize gPc L ⟨b0, [], b0, false, false⟩ = q at h ⊢
  cases he : q.a.isEmpty
  · simp -implicitDefEqProofs (disch := omega) only [go_sem, Int.reduceAdd, Int.reduceSub, Int.reduceMul, dec_t, dec_f, Nat.reduceBEq, Nat.reduceBNe, reduceShiftRight, reduceAnd, Nat.reduceAdd, Nat.reduceSub, reduceEqDiff, Nat.reduceLT, reduceLeDiff, reduceToNat, Int.reduceLT, Int.reduceLE, Int.reduceEq, reduceIte, reduceCtorEq, he] at h
    simp -implicitDefEqProofs (disch := omega) only [go_sem, Int.reduceAdd, Int.reduceSub, Int.reduceMul, dec_t, dec_f, Nat.reduceBEq, Nat.reduceBNe, reduceShiftRight, reduceAnd, Nat.reduceAdd, Nat.reduceSub, reduceEqDiff, Nat.reduceLT, reduceLeDiff, reduceToNat, Int.reduceLT, Int.reduceLE, Int.reduceEq, reduceIte, reduceCtorEq, h, he]
  · have : q.a = [] := List.isEmpty_iff.1 he
    simp -implicitDefEqProofs (disch := omega) only [go_sem, Int.reduceAdd, Int.reduceSub, Int.reduceMul, dec_t, dec_f, Nat.reduceBEq, Nat.reduceBNe, reduceShiftRight, reduceAnd, Nat.reduceAdd, Nat.reduceSub, reduceEqDiff, Nat.reduceLT, reduceLeDiff, reduceToNat, Int.reduceLT, Int.reduceLE, Int.reduceEq, reduceIte, reduceCtorEq, he, this] at h
    simp -implicitDefEqProofs (disch := omega) only [go_sem, Int.reduceAdd, Int.reduceSub, Int.reduceMul, dec_t, dec_f, Nat.reduceBEq, Nat.reduceBNe, reduceShiftRight, reduceAnd, Nat.reduceAdd, Nat.reduceSub, reduceEqDiff, Nat.reduceLT, reduceLeDiff, reduceToNat, Int.reduceLT, Int.reduceLE, Int.reduceEq, reduceIte, reduceCtorEq, h, this]
theorem t30_s (e : Eo) (k : Int) (l : Nat) (h8 : l + 1 ≤ 8) (hl : (els e).length ≤ 1000) (acc : List Fo) (j : Nat) (x : Int) (c : Eo) (r : List Eo) (hx : x = j) (hd : (els e).drop j = c :: r) (ha : acc.length ≤ j) (g : Fo) (hc : pureCall C 30 [(.agg [.lit (.int .i64 (cls c)), .lit (.bool (made c)), .lit (.int .i64 (num c)), .str (bs (cont c)), .sl (List.map encE (els c))]), .lit (.int .i64 (l : Nat))] = some (.one (.d (encO g)))) :
    n30_24 ⟨[(1, .d (.lit (.int .i64 (l + 1 : Nat)))), (2, .ptr 0 1 0 0), (4, .ptr 1 1 0 0), (5, .ptr 2 1 0 0), (6, .d (.lit (.int .i64 (els e).length))), (7, .d (.lit (.int .i64 x)))], ([⟨5, [.d (.agg [.lit (.int .i64 (cls e)), .lit (.bool (made e)), .lit (.int .i64 k), .str (bs (cont e)), .sl (List.map encE (els e))])], false, false, false⟩, ⟨11, [(.agg [.d (.lit (.int .i64 0)), .d (.str []), .d (.str []), .d (.str []), .snil, .d (.str []), .d (.lit (.bool false)), .d (.lit (.bool false)), .d (.str []), .d (.lit (.bool false)), .snil])], false, false, false⟩, ⟨11, [(.agg [.d (.lit (.int .i64 k)), .d (.str []), .d (.str []), .d (.str []), .snil, .d (.str []), .d (.lit (.bool false)), .d (.lit (.bool false)), .d (.str []), .d (.lit (.bool false)), (bif (acc).isEmpty then .snil else .sref 3 (acc).length 11 0 (acc).length)])], false, false, false⟩] ++ (bif (acc).isEmpty then [] else [⟨11, List.map AV.d (List.map encO (acc)), true, true, false⟩]))⟩ = n30_24 ⟨[(1, .d (.lit (.int .i64 (l + 1 : Nat)))), (2, .ptr 0 1 0 0), (4, .ptr 1 1 0 0), (5, .ptr 2 1 0 0), (6, .d (.lit (.int .i64 (els e).length))), (7, .d (.lit (.int .i64 (x + 1))))], ([⟨5, [.d (.agg [.lit (.int .i64 (cls e)), .lit (.bool (made e)), .lit (.int .i64 k), .str (bs (cont e)), .sl (List.map encE (els e))])], false, false, false⟩, ⟨11, [(.agg [.d (.lit (.int .i64 0)), .d (.str []), .d (.str []), .d (.str []), .snil, .d (.str []), .d (.lit (.bool false)), .d (.lit (.bool false)), .d (.str []), .d (.lit (.bool false)), .snil])], false, false, false⟩, ⟨11, [(.agg [.d (.lit (.int .i64 k)), .d (.str []), .d (.str []), .d (.str []), .snil, .d (.str []), .d (.lit (.bool false)), .d (.lit (.bool false)), .d (.str []), .d (.lit (.bool false)), (bif (acc ++ [g]).isEmpty then .snil else .sref 3 (acc ++ [g]).length 11 0 (acc ++ [g]).length)])], false, false, false⟩] ++ (bif (acc ++ [g]).isEmpty then [] else [⟨11, List.map AV.d (List.map encO (acc ++ [g])), true, true, false⟩]))⟩ := by
  obtain ⟨g1, g2, g3, g4⟩ := drop_cons hd
  have hnat : Int.toNat x = j := by omega
  have hw : ((l + 1 : Nat) : Int) - 1 = l := by omega
  rw [r_n30_24]
  cases he : acc.isEmpty
  · simp -implicitDefEqProofs (disch := omega) only [go_sem, Int.reduceAdd, Int.reduceSub, Int.reduceMul, dec_t, dec_f, Nat.reduceBEq, Nat.reduceBNe, reduceShiftRight, reduceAnd, Nat.reduceAdd, Nat.reduceSub, reduceEqDiff, Nat.reduceLT, reduceLeDiff, reduceToNat, Int.reduceLT, Int.reduceLE, Int.reduceEq, reduceIte, reduceCtorEq, he, g2, hnat, hw, hc]
  · have : acc = [] := List.isEmpty_iff.1 he
    simp -implicitDefEqProofs (disch := omega) only [go_sem, Int.reduceAdd, Int.reduceSub, Int.reduceMul, dec_t, dec_f, Nat.reduceBEq, Nat.reduceBNe, reduceShiftRight, reduceAnd, Nat.reduceAdd, Nat.reduceSub, reduceEqDiff, Nat.reduceLT, reduceLeDiff, reduceToNat, Int.reduceLT, Int.reduceLE, Int.reduceEq, reduceIte, reduceCtorEq, this, g2, hnat, hw, hc]
theorem t30k (e : Eo) (k : Int) (l : Nat) (h8 : l + 1 ≤ 8) (hl : (els e).length ≤ 1000) (IH : ∀ x ∈ els e, pureCall C 30 [(.agg [.lit (.int .i64 (cls x)), .lit (.bool (made x)), .lit (.int .i64 (num x)), .str (bs (cont x)), .sl (List.map encE (els x))]), .lit (.int .i64 (l : Nat))] = some (.one (.d (encO (guessO l x))))) : ∀ (r : List Eo) (acc : List Fo) (j : Nat) (x : Int), x = j → (els e).drop j = r → acc.length ≤ j →
    ∃ x', n30_24 ⟨[(1, .d (.lit (.int .i64 (l + 1 : Nat)))), (2, .ptr 0 1 0 0), (4, .ptr 1 1 0 0), (5, .ptr 2 1 0 0), (6, .d (.lit (.int .i64 (els e).length))), (7, .d (.lit (.int .i64 x)))], ([⟨5, [.d (.agg [.lit (.int .i64 (cls e)), .lit (.bool (made e)), .lit (.int .i64 k), .str (bs (cont e)), .sl (List.map encE (els e))])], false, false, false⟩, ⟨11, [(.agg [.d (.lit (.int .i64 0)), .d (.str []), .d (.str []), .d (.str []), .snil, .d (.str []), .d (.lit (.bool false)), .d (.lit (.bool false)), .d (.str []), .d (.lit (.bool false)), .snil])], false, false, false⟩, ⟨11, [(.agg [.d (.lit (.int .i64 k)), .d (.str []), .d (.str []), .d (.str []), .snil, .d (.str []), .d (.lit (.bool false)), .d (.lit (.bool false)), .d (.str []), .d (.lit (.bool false)), (bif (acc).isEmpty then .snil else .sref 3 (acc).length 11 0 (acc).length)])], false, false, false⟩] ++ (bif (acc).isEmpty then [] else [⟨11, List.map AV.d (List.map encO (acc)), true, true, false⟩]))⟩ = some (.exit 1, ⟨[(1, .d (.lit (.int .i64 (l + 1 : Nat)))), (2, .ptr 0 1 0 0), (4, .ptr 1 1 0 0), (5, .ptr 2 1 0 0), (6, .d (.lit (.int .i64 (els e).length))), (7, x'), (43, .d (.lit (.bool false)))], ([⟨5, [.d (.agg [.lit (.int .i64 (cls e)), .lit (.bool (made e)), .lit (.int .i64 k), .str (bs (cont e)), .sl (List.map encE (els e))])], false, false, false⟩, ⟨11, [(.agg [.d (.lit (.int .i64 0)), .d (.str []), .d (.str []), .d (.str []), .snil, .d (.str []), .d (.lit (.bool false)), .d (.lit (.bool false)), .d (.str []), .d (.lit (.bool false)), .snil])], false, false, false⟩, ⟨11, [(.agg [.d (.lit (.int .i64 k)), .d (.str []), .d (.str []), .d (.str []), .snil, .d (.str []), .d (.lit (.bool false)), .d (.lit (.bool false)), .d (.str []), .d (.lit (.bool false)), (bif (acc ++ r.map (guessO l)).isEmpty then .snil else .sref 3 (acc ++ r.map (guessO l)).length 11 0 (acc ++ r.map (guessO l)).length)])], false, false, false⟩] ++ (bif (acc ++ r.map (guessO l)).isEmpty then [] else [⟨11, List.map AV.d (List.map encO (acc ++ r.map (guessO l))), true, true, false⟩]))⟩)
  | [], acc, j, x, hx, hd, ha => by
    have hd := drop_nil hd
    rw [List.map_nil, List.append_nil, r_n30_24]
    refine ⟨.d (.lit (.int .i64 x)), ?_⟩
    cases he : acc.isEmpty <;> (simp -implicitDefEqProofs (disch := omega) only [go_sem, Int.reduceAdd, Int.reduceSub, Int.reduceMul, dec_t, dec_f, Nat.reduceBEq, Nat.reduceBNe, reduceShiftRight, reduceAnd, Nat.reduceAdd, Nat.reduceSub, reduceEqDiff, Nat.reduceLT, reduceLeDiff, reduceToNat, Int.reduceLT, Int.reduceLE, Int.reduceEq, reduceIte, reduceCtorEq, he])
  | c :: r, acc, j, x, hx, hd, ha => by
    have g3 := (drop_cons hd).2.2.1
    rw [t30_s e k l h8 hl acc j x c r hx hd ha _ (IH c (drop_cons hd).2.2.2)]
    have := t30k e k l h8 hl IH r (acc ++ [guessO l c]) (j + 1) (x + 1) (by omega) g3 (by rw [List.length_append]; simp only [List.length_cons, List.length_nil]; omega)
    rw [List.map_cons, show acc ++ guessO l c :: r.map (guessO l) = (acc ++ [guessO l c]) ++ r.map (guessO l) by simp]
    exact this
theorem t30e_0 (e : Eo) (hl : (els e).length ≤ 1000) (m : Mo) (j : Nat) (x : Int) (c : Eo) (r : List Eo) (hx : x = j) (hd : (els e).drop j = c :: r) (hn : num c = 1) : n30_55 ⟨[(2, .ptr 0 1 0 0), (4, .ptr 1 1 0 0), (5, .ptr 2 1 0 0), (6, .d (.lit (.int .i64 (els e).length))), (8, .d (.lit (.int .i64 x)))], [⟨5, [.d (.agg [.lit (.int .i64 (cls e)), .lit (.bool (made e)), .lit (.int .i64 9), .str (bs (cont e)), .sl (List.map encE (els e))])], false, false, false⟩, ⟨11, [(.agg [.d (.lit (.int .i64 0)), .d (.str []), .d (.str []), .d (.str []), .snil, .d (.str []), .d (.lit (.bool false)), .d (.lit (.bool false)), .d (.str []), .d (.lit (.bool false)), .snil])], false, false, false⟩, ⟨11, [(.agg [.d (.lit (.int .i64 9)), .d (.str (bs (m).name)), .d (.str (bs (m).value)), .d (.str []), .snil, .d (.str []), .d (.lit (.bool false)), .d (.lit (.bool false)), .d (.str (bs (m).rule)), .d (.lit (.bool (m).dn)), .snil])], false, false, false⟩]⟩ = n30_55 ⟨[(2, .ptr 0 1 0 0), (4, .ptr 1 1 0 0), (5, .ptr 2 1 0 0), (6, .d (.lit (.int .i64 (els e).length))), (8, .d (.lit (.int .i64 (x + 1))))], [⟨5, [.d (.agg [.lit (.int .i64 (cls e)), .lit (.bool (made e)), .lit (.int .i64 9), .str (bs (cont e)), .sl (List.map encE (els e))])], false, false, false⟩, ⟨11, [(.agg [.d (.lit (.int .i64 0)), .d (.str []), .d (.str []), .d (.str []), .snil, .d (.str []), .d (.lit (.bool false)), .d (.lit (.bool false)), .d (.str []), .d (.lit (.bool false)), .snil])], false, false, false⟩, ⟨11, [(.agg [.d (.lit (.int .i64 9)), .d (.str (bs (Mo.mk (lowB (cont c)) m.name m.value m.dn).name)), .d (.str (bs (Mo.mk (lowB (cont c)) m.name m.value m.dn).value)), .d (.str []), .snil, .d (.str []), .d (.lit (.bool false)), .d (.lit (.bool false)), .d (.str (bs (Mo.mk (lowB (cont c)) m.name m.value m.dn).rule)), .d (.lit (.bool (Mo.mk (lowB (cont c)) m.name m.value m.dn).dn)), .snil])], false, false, false⟩]⟩ := by
  obtain ⟨g1, g2, g3, g4⟩ := drop_cons hd
  have hnat : Int.toNat x = j := by omega
  rw [r_n30_55]
  simp -implicitDefEqProofs (disch := omega) only [go_sem, Int.reduceAdd, Int.reduceSub, Int.reduceMul, dec_t, dec_f, Nat.reduceBEq, Nat.reduceBNe, reduceShiftRight, reduceAnd, Nat.reduceAdd, Nat.reduceSub, reduceEqDiff, Nat.reduceLT, reduceLeDiff, reduceToNat, Int.reduceLT, Int.reduceLE, Int.reduceEq, reduceIte, reduceCtorEq, g2, hnat, hn]
theorem t30e_1 (e : Eo) (hl : (els e).length ≤ 1000) (m : Mo) (j : Nat) (x : Int) (c : Eo) (r : List Eo) (hx : x = j) (hd : (els e).drop j = c :: r) (hn : num c = 2) : n30_55 ⟨[(2, .ptr 0 1 0 0), (4, .ptr 1 1 0 0), (5, .ptr 2 1 0 0), (6, .d (.lit (.int .i64 (els e).length))), (8, .d (.lit (.int .i64 x)))], [⟨5, [.d (.agg [.lit (.int .i64 (cls e)), .lit (.bool (made e)), .lit (.int .i64 9), .str (bs (cont e)), .sl (List.map encE (els e))])], false, false, false⟩, ⟨11, [(.agg [.d (.lit (.int .i64 0)), .d (.str []), .d (.str []), .d (.str []), .snil, .d (.str []), .d (.lit (.bool false)), .d (.lit (.bool false)), .d (.str []), .d (.lit (.bool false)), .snil])], false, false, false⟩, ⟨11, [(.agg [.d (.lit (.int .i64 9)), .d (.str (bs (m).name)), .d (.str (bs (m).value)), .d (.str []), .snil, .d (.str []), .d (.lit (.bool false)), .d (.lit (.bool false)), .d (.str (bs (m).rule)), .d (.lit (.bool (m).dn)), .snil])], false, false, false⟩]⟩ = n30_55 ⟨[(2, .ptr 0 1 0 0), (4, .ptr 1 1 0 0), (5, .ptr 2 1 0 0), (6, .d (.lit (.int .i64 (els e).length))), (8, .d (.lit (.int .i64 (x + 1))))], [⟨5, [.d (.agg [.lit (.int .i64 (cls e)), .lit (.bool (made e)), .lit (.int .i64 9), .str (bs (cont e)), .sl (List.map encE (els e))])], false, false, false⟩, ⟨11, [(.agg [.d (.lit (.int .i64 0)), .d (.str []), .d (.str []), .d (.str []), .snil, .d (.str []), .d (.lit (.bool false)), .d (.lit (.bool false)), .d (.str []), .d (.lit (.bool false)), .snil])], false, false, false⟩, ⟨11, [(.agg [.d (.lit (.int .i64 9)), .d (.str (bs (Mo.mk m.rule (lowB (cont c)) m.value m.dn).name)), .d (.str (bs (Mo.mk m.rule (lowB (cont c)) m.value m.dn).value)), .d (.str []), .snil, .d (.str []), .d (.lit (.bool false)), .d (.lit (.bool false)), .d (.str (bs (Mo.mk m.rule (lowB (cont c)) m.value m.dn).rule)), .d (.lit (.bool (Mo.mk m.rule (lowB (cont c)) m.value m.dn).dn)), .snil])], false, false, false⟩]⟩ := by
  obtain ⟨g1, g2, g3, g4⟩ := drop_cons hd
  have hnat : Int.toNat x = j := by omega
  rw [r_n30_55]
  simp -implicitDefEqProofs (disch := omega) only [go_sem, Int.reduceAdd, Int.reduceSub, Int.reduceMul, dec_t, dec_f, Nat.reduceBEq, Nat.reduceBNe, reduceShiftRight, reduceAnd, Nat.reduceAdd, Nat.reduceSub, reduceEqDiff, Nat.reduceLT, reduceLeDiff, reduceToNat, Int.reduceLT, Int.reduceLE, Int.reduceEq, reduceIte, reduceCtorEq, g2, hnat, hn]
theorem t30e_2 (e : Eo) (hl : (els e).length ≤ 1000) (m : Mo) (j : Nat) (x : Int) (c : Eo) (r : List Eo) (hx : x = j) (hd : (els e).drop j = c :: r) (hn : num c = 3) : n30_55 ⟨[(2, .ptr 0 1 0 0), (4, .ptr 1 1 0 0), (5, .ptr 2 1 0 0), (6, .d (.lit (.int .i64 (els e).length))), (8, .d (.lit (.int .i64 x)))], [⟨5, [.d (.agg [.lit (.int .i64 (cls e)), .lit (.bool (made e)), .lit (.int .i64 9), .str (bs (cont e)), .sl (List.map encE (els e))])], false, false, false⟩, ⟨11, [(.agg [.d (.lit (.int .i64 0)), .d (.str []), .d (.str []), .d (.str []), .snil, .d (.str []), .d (.lit (.bool false)), .d (.lit (.bool false)), .d (.str []), .d (.lit (.bool false)), .snil])], false, false, false⟩, ⟨11, [(.agg [.d (.lit (.int .i64 9)), .d (.str (bs (m).name)), .d (.str (bs (m).value)), .d (.str []), .snil, .d (.str []), .d (.lit (.bool false)), .d (.lit (.bool false)), .d (.str (bs (m).rule)), .d (.lit (.bool (m).dn)), .snil])], false, false, false⟩]⟩ = n30_55 ⟨[(2, .ptr 0 1 0 0), (4, .ptr 1 1 0 0), (5, .ptr 2 1 0 0), (6, .d (.lit (.int .i64 (els e).length))), (8, .d (.lit (.int .i64 (x + 1))))], [⟨5, [.d (.agg [.lit (.int .i64 (cls e)), .lit (.bool (made e)), .lit (.int .i64 9), .str (bs (cont e)), .sl (List.map encE (els e))])], false, false, false⟩, ⟨11, [(.agg [.d (.lit (.int .i64 0)), .d (.str []), .d (.str []), .d (.str []), .snil, .d (.str []), .d (.lit (.bool false)), .d (.lit (.bool false)), .d (.str []), .d (.lit (.bool false)), .snil])], false, false, false⟩, ⟨11, [(.agg [.d (.lit (.int .i64 9)), .d (.str (bs (Mo.mk m.rule m.name (cont c) m.dn).name)), .d (.str (bs (Mo.mk m.rule m.name (cont c) m.dn).value)), .d (.str []), .snil, .d (.str []), .d (.lit (.bool false)), .d (.lit (.bool false)), .d (.str (bs (Mo.mk m.rule m.name (cont c) m.dn).rule)), .d (.lit (.bool (Mo.mk m.rule m.name (cont c) m.dn).dn)), .snil])], false, false, false⟩]⟩ := by
  obtain ⟨g1, g2, g3, g4⟩ := drop_cons hd
  have hnat : Int.toNat x = j := by omega
  rw [r_n30_55]
  simp -implicitDefEqProofs (disch := omega) only [go_sem, Int.reduceAdd, Int.reduceSub, Int.reduceMul, dec_t, dec_f, Nat.reduceBEq, Nat.reduceBNe, reduceShiftRight, reduceAnd, Nat.reduceAdd, Nat.reduceSub, reduceEqDiff, Nat.reduceLT, reduceLeDiff, reduceToNat, Int.reduceLT, Int.reduceLE, Int.reduceEq, reduceIte, reduceCtorEq, g2, hnat, hn]
theorem t30e_3 (e : Eo) (hl : (els e).length ≤ 1000) (m : Mo) (j : Nat) (x : Int) (c : Eo) (r : List Eo) (hx : x = j) (hd : (els e).drop j = c :: r) (hn : num c = 4) : n30_55 ⟨[(2, .ptr 0 1 0 0), (4, .ptr 1 1 0 0), (5, .ptr 2 1 0 0), (6, .d (.lit (.int .i64 (els e).length))), (8, .d (.lit (.int .i64 x)))], [⟨5, [.d (.agg [.lit (.int .i64 (cls e)), .lit (.bool (made e)), .lit (.int .i64 9), .str (bs (cont e)), .sl (List.map encE (els e))])], false, false, false⟩, ⟨11, [(.agg [.d (.lit (.int .i64 0)), .d (.str []), .d (.str []), .d (.str []), .snil, .d (.str []), .d (.lit (.bool false)), .d (.lit (.bool false)), .d (.str []), .d (.lit (.bool false)), .snil])], false, false, false⟩, ⟨11, [(.agg [.d (.lit (.int .i64 9)), .d (.str (bs (m).name)), .d (.str (bs (m).value)), .d (.str []), .snil, .d (.str []), .d (.lit (.bool false)), .d (.lit (.bool false)), .d (.str (bs (m).rule)), .d (.lit (.bool (m).dn)), .snil])], false, false, false⟩]⟩ = n30_55 ⟨[(2, .ptr 0 1 0 0), (4, .ptr 1 1 0 0), (5, .ptr 2 1 0 0), (6, .d (.lit (.int .i64 (els e).length))), (8, .d (.lit (.int .i64 (x + 1))))], [⟨5, [.d (.agg [.lit (.int .i64 (cls e)), .lit (.bool (made e)), .lit (.int .i64 9), .str (bs (cont e)), .sl (List.map encE (els e))])], false, false, false⟩, ⟨11, [(.agg [.d (.lit (.int .i64 0)), .d (.str []), .d (.str []), .d (.str []), .snil, .d (.str []), .d (.lit (.bool false)), .d (.lit (.bool false)), .d (.str []), .d (.lit (.bool false)), .snil])], false, false, false⟩, ⟨11, [(.agg [.d (.lit (.int .i64 9)), .d (.str (bs (Mo.mk m.rule m.name m.value (!(List.beq (bs (cont c)) [0]))).name)), .d (.str (bs (Mo.mk m.rule m.name m.value (!(List.beq (bs (cont c)) [0]))).value)), .d (.str []), .snil, .d (.str []), .d (.lit (.bool false)), .d (.lit (.bool false)), .d (.str (bs (Mo.mk m.rule m.name m.value (!(List.beq (bs (cont c)) [0]))).rule)), .d (.lit (.bool (Mo.mk m.rule m.name m.value (!(List.beq (bs (cont c)) [0]))).dn)), .snil])], false, false, false⟩]⟩ := by
  obtain ⟨g1, g2, g3, g4⟩ := drop_cons hd
  have hnat : Int.toNat x = j := by omega
  rw [r_n30_55]
  simp -implicitDefEqProofs (disch := omega) only [go_sem, Int.reduceAdd, Int.reduceSub, Int.reduceMul, dec_t, dec_f, Nat.reduceBEq, Nat.reduceBNe, reduceShiftRight, reduceAnd, Nat.reduceAdd, Nat.reduceSub, reduceEqDiff, Nat.reduceLT, reduceLeDiff, reduceToNat, Int.reduceLT, Int.reduceLE, Int.reduceEq, reduceIte, reduceCtorEq, g2, hnat, hn]
theorem t30e_4 (e : Eo) (hl : (els e).length ≤ 1000) (m : Mo) (j : Nat) (x : Int) (c : Eo) (r : List Eo) (hx : x = j) (hd : (els e).drop j = c :: r) (n1 : ¬ num c = 1) (n2 : ¬ num c = 2) (n3 : ¬ num c = 3) (n4 : ¬ num c = 4) : n30_55 ⟨[(2, .ptr 0 1 0 0), (4, .ptr 1 1 0 0), (5, .ptr 2 1 0 0), (6, .d (.lit (.int .i64 (els e).length))), (8, .d (.lit (.int .i64 x)))], [⟨5, [.d (.agg [.lit (.int .i64 (cls e)), .lit (.bool (made e)), .lit (.int .i64 9), .str (bs (cont e)), .sl (List.map encE (els e))])], false, false, false⟩, ⟨11, [(.agg [.d (.lit (.int .i64 0)), .d (.str []), .d (.str []), .d (.str []), .snil, .d (.str []), .d (.lit (.bool false)), .d (.lit (.bool false)), .d (.str []), .d (.lit (.bool false)), .snil])], false, false, false⟩, ⟨11, [(.agg [.d (.lit (.int .i64 9)), .d (.str (bs (m).name)), .d (.str (bs (m).value)), .d (.str []), .snil, .d (.str []), .d (.lit (.bool false)), .d (.lit (.bool false)), .d (.str (bs (m).rule)), .d (.lit (.bool (m).dn)), .snil])], false, false, false⟩]⟩ = n30_55 ⟨[(2, .ptr 0 1 0 0), (4, .ptr 1 1 0 0), (5, .ptr 2 1 0 0), (6, .d (.lit (.int .i64 (els e).length))), (8, .d (.lit (.int .i64 (x + 1))))], [⟨5, [.d (.agg [.lit (.int .i64 (cls e)), .lit (.bool (made e)), .lit (.int .i64 9), .str (bs (cont e)), .sl (List.map encE (els e))])], false, false, false⟩, ⟨11, [(.agg [.d (.lit (.int .i64 0)), .d (.str []), .d (.str []), .d (.str []), .snil, .d (.str []), .d (.lit (.bool false)), .d (.lit (.bool false)), .d (.str []), .d (.lit (.bool false)), .snil])], false, false, false⟩, ⟨11, [(.agg [.d (.lit (.int .i64 9)), .d (.str (bs (m).name)), .d (.str (bs (m).value)), .d (.str []), .snil, .d (.str []), .d (.lit (.bool false)), .d (.lit (.bool false)), .d (.str (bs (m).rule)), .d (.lit (.bool (m).dn)), .snil])], false, false, false⟩]⟩ := by
  obtain ⟨g1, g2, g3, g4⟩ := drop_cons hd
  have hnat : Int.toNat x = j := by omega
  rw [r_n30_55]
  simp -implicitDefEqProofs (disch := omega) only [go_sem, Int.reduceAdd, Int.reduceSub, Int.reduceMul, dec_t, dec_f, Nat.reduceBEq, Nat.reduceBNe, reduceShiftRight, reduceAnd, Nat.reduceAdd, Nat.reduceSub, reduceEqDiff, Nat.reduceLT, reduceLeDiff, reduceToNat, Int.reduceLT, Int.reduceLE, Int.reduceEq, reduceIte, reduceCtorEq, g2, hnat]
theorem t30ek (e : Eo) (hl : (els e).length ≤ 1000) : ∀ (r : List Eo) (j : Nat) (m : Mo) (x : Int), x = j → (els e).drop j = r →
    ∃ x', n30_55 ⟨[(2, .ptr 0 1 0 0), (4, .ptr 1 1 0 0), (5, .ptr 2 1 0 0), (6, .d (.lit (.int .i64 (els e).length))), (8, .d (.lit (.int .i64 x)))], [⟨5, [.d (.agg [.lit (.int .i64 (cls e)), .lit (.bool (made e)), .lit (.int .i64 9), .str (bs (cont e)), .sl (List.map encE (els e))])], false, false, false⟩, ⟨11, [(.agg [.d (.lit (.int .i64 0)), .d (.str []), .d (.str []), .d (.str []), .snil, .d (.str []), .d (.lit (.bool false)), .d (.lit (.bool false)), .d (.str []), .d (.lit (.bool false)), .snil])], false, false, false⟩, ⟨11, [(.agg [.d (.lit (.int .i64 9)), .d (.str (bs (m).name)), .d (.str (bs (m).value)), .d (.str []), .snil, .d (.str []), .d (.lit (.bool false)), .d (.lit (.bool false)), .d (.str (bs (m).rule)), .d (.lit (.bool (m).dn)), .snil])], false, false, false⟩]⟩ = some (.exit 3, ⟨[(2, .ptr 0 1 0 0), (4, .ptr 1 1 0 0), (5, .ptr 2 1 0 0), (6, .d (.lit (.int .i64 (els e).length))), (8, x'), (87, .d (.lit (.bool false)))], [⟨5, [.d (.agg [.lit (.int .i64 (cls e)), .lit (.bool (made e)), .lit (.int .i64 9), .str (bs (cont e)), .sl (List.map encE (els e))])], false, false, false⟩, ⟨11, [(.agg [.d (.lit (.int .i64 0)), .d (.str []), .d (.str []), .d (.str []), .snil, .d (.str []), .d (.lit (.bool false)), .d (.lit (.bool false)), .d (.str []), .d (.lit (.bool false)), .snil])], false, false, false⟩, ⟨11, [(.agg [.d (.lit (.int .i64 9)), .d (.str (bs (gMo r m).name)), .d (.str (bs (gMo r m).value)), .d (.str []), .snil, .d (.str []), .d (.lit (.bool false)), .d (.lit (.bool false)), .d (.str (bs (gMo r m).rule)), .d (.lit (.bool (gMo r m).dn)), .snil])], false, false, false⟩]⟩)
  | [], j, m, x, hx, hd => by
    have hd := drop_nil hd
    rw [gMo]
    refine ⟨.d (.lit (.int .i64 x)), ?_⟩
    rw [r_n30_55]
    simp -implicitDefEqProofs (disch := omega) only [go_sem, Int.reduceAdd, Int.reduceSub, Int.reduceMul, dec_t, dec_f, Nat.reduceBEq, Nat.reduceBNe, reduceShiftRight, reduceAnd, Nat.reduceAdd, Nat.reduceSub, reduceEqDiff, Nat.reduceLT, reduceLeDiff, reduceToNat, Int.reduceLT, Int.reduceLE, Int.reduceEq, reduceIte, reduceCtorEq]
  | c :: r, j, m, x, hx, hd => by
    have g3 := (drop_cons hd).2.2.1
    rw [gMo]
    by_cases n1 : num c = 1
    · rw [if_pos n1, t30e_0 e hl m j x c r hx hd n1]
      exact t30ek e hl r (j + 1) _ (x + 1) (by omega) g3
    rw [if_neg n1]
    by_cases n2 : num c = 2
    · rw [if_pos n2, t30e_1 e hl m j x c r hx hd n2]
      exact t30ek e hl r (j + 1) _ (x + 1) (by omega) g3
    rw [if_neg n2]
    by_cases n3 : num c = 3
    · rw [if_pos n3, t30e_2 e hl m j x c r hx hd n3]
      exact t30ek e hl r (j + 1) _ (x + 1) (by omega) g3
    rw [if_neg n3]
    by_cases n4 : num c = 4
    · rw [if_pos n4, t30e_3 e hl m j x c r hx hd n4]
      exact t30ek e hl r (j + 1) _ (x + 1) (by omega) g3
    rw [if_neg n4, t30e_4 e hl m j x c r hx hd n1 n2 n3 n4]
    exact t30ek e hl r (j + 1) _ (x + 1) (by omega) g3
set_option maxRecDepth 10000
set_option maxHeartbeats 2000000
theorem t30z (e : Eo) (k : Int) (hl : (els e).length ≤ 1000) : n30_24 ⟨[(1, .d (.lit (.int .i64 (0 : Nat)))), (2, .ptr 0 1 0 0), (4, .ptr 1 1 0 0), (5, .ptr 2 1 0 0), (6, .d (.lit (.int .i64 (els e).length))), (7, .d (.lit (.int .i64 0)))], ([⟨5, [.d (.agg [.lit (.int .i64 (cls e)), .lit (.bool (made e)), .lit (.int .i64 k), .str (bs (cont e)), .sl (List.map encE (els e))])], false, false, false⟩, ⟨11, [(.agg [.d (.lit (.int .i64 0)), .d (.str []), .d (.str []), .d (.str []), .snil, .d (.str []), .d (.lit (.bool false)), .d (.lit (.bool false)), .d (.str []), .d (.lit (.bool false)), .snil])], false, false, false⟩, ⟨11, [(.agg [.d (.lit (.int .i64 k)), .d (.str []), .d (.str []), .d (.str []), .snil, .d (.str []), .d (.lit (.bool false)), .d (.lit (.bool false)), .d (.str []), .d (.lit (.bool false)), (bif (([] : List Fo)).isEmpty then .snil else .sref 3 (([] : List Fo)).length 11 0 (([] : List Fo)).length)])], false, false, false⟩] ++ (bif (([] : List Fo)).isEmpty then [] else [⟨11, List.map AV.d (List.map encO (([] : List Fo))), true, true, false⟩]))⟩ = some (.exit 1, ⟨[(1, .d (.lit (.int .i64 (0 : Nat)))), (2, .ptr 0 1 0 0), (4, .ptr 1 1 0 0), (5, .ptr 2 1 0 0), (6, .d (.lit (.int .i64 (els e).length))), (7, .d (.lit (.int .i64 0))), (43, .d (.lit (.bool false)))], ([⟨5, [.d (.agg [.lit (.int .i64 (cls e)), .lit (.bool (made e)), .lit (.int .i64 k), .str (bs (cont e)), .sl (List.map encE (els e))])], false, false, false⟩, ⟨11, [(.agg [.d (.lit (.int .i64 0)), .d (.str []), .d (.str []), .d (.str []), .snil, .d (.str []), .d (.lit (.bool false)), .d (.lit (.bool false)), .d (.str []), .d (.lit (.bool false)), .snil])], false, false, false⟩, ⟨11, [(.agg [.d (.lit (.int .i64 k)), .d (.str []), .d (.str []), .d (.str []), .snil, .d (.str []), .d (.lit (.bool false)), .d (.lit (.bool false)), .d (.str []), .d (.lit (.bool false)), (bif (([] : List Fo)).isEmpty then .snil else .sref 3 (([] : List Fo)).length 11 0 (([] : List Fo)).length)])], false, false, false⟩] ++ (bif (([] : List Fo)).isEmpty then [] else [⟨11, List.map AV.d (List.map encO (([] : List Fo))), true, true, false⟩]))⟩) := by
  rw [r_n30_24]
  by_cases h : 0 < (els e).length <;> (simp -implicitDefEqProofs (disch := omega) only [go_sem, Int.reduceAdd, Int.reduceSub, Int.reduceMul, dec_t, dec_f, Nat.reduceBEq, Nat.reduceBNe, reduceShiftRight, reduceAnd, Nat.reduceAdd, Nat.reduceSub, reduceEqDiff, Nat.reduceLT, reduceLeDiff, reduceToNat, Int.reduceLT, Int.reduceLE, Int.reduceEq, reduceIte, reduceCtorEq])
theorem t30g (e : Eo) (l : Nat) (h8 : l ≤ 8) (hl : (els e).length ≤ 1000) (k0 : num e = 0 ∨ num e = 1 ∨ num e = 2) (ks : List Fo) (hk : ks.length ≤ 1000) (x' : AV) (h : n30_24 ⟨[(1, .d (.lit (.int .i64 (l : Nat)))), (2, .ptr 0 1 0 0), (4, .ptr 1 1 0 0), (5, .ptr 2 1 0 0), (6, .d (.lit (.int .i64 (els e).length))), (7, .d (.lit (.int .i64 0)))], ([⟨5, [.d (.agg [.lit (.int .i64 (cls e)), .lit (.bool (made e)), .lit (.int .i64 (num e)), .str (bs (cont e)), .sl (List.map encE (els e))])], false, false, false⟩, ⟨11, [(.agg [.d (.lit (.int .i64 0)), .d (.str []), .d (.str []), .d (.str []), .snil, .d (.str []), .d (.lit (.bool false)), .d (.lit (.bool false)), .d (.str []), .d (.lit (.bool false)), .snil])], false, false, false⟩, ⟨11, [(.agg [.d (.lit (.int .i64 (num e))), .d (.str []), .d (.str []), .d (.str []), .snil, .d (.str []), .d (.lit (.bool false)), .d (.lit (.bool false)), .d (.str []), .d (.lit (.bool false)), (bif (([] : List Fo)).isEmpty then .snil else .sref 3 (([] : List Fo)).length 11 0 (([] : List Fo)).length)])], false, false, false⟩] ++ (bif (([] : List Fo)).isEmpty then [] else [⟨11, List.map AV.d (List.map encO (([] : List Fo))), true, true, false⟩]))⟩ = some (.exit 1, ⟨[(1, .d (.lit (.int .i64 (l : Nat)))), (2, .ptr 0 1 0 0), (4, .ptr 1 1 0 0), (5, .ptr 2 1 0 0), (6, .d (.lit (.int .i64 (els e).length))), (7, x'), (43, .d (.lit (.bool false)))], ([⟨5, [.d (.agg [.lit (.int .i64 (cls e)), .lit (.bool (made e)), .lit (.int .i64 (num e)), .str (bs (cont e)), .sl (List.map encE (els e))])], false, false, false⟩, ⟨11, [(.agg [.d (.lit (.int .i64 0)), .d (.str []), .d (.str []), .d (.str []), .snil, .d (.str []), .d (.lit (.bool false)), .d (.lit (.bool false)), .d (.str []), .d (.lit (.bool false)), .snil])], false, false, false⟩, ⟨11, [(.agg [.d (.lit (.int .i64 (num e))), .d (.str []), .d (.str []), .d (.str []), .snil, .d (.str []), .d (.lit (.bool false)), .d (.lit (.bool false)), .d (.str []), .d (.lit (.bool false)), (bif (ks).isEmpty then .snil else .sref 3 (ks).length 11 0 (ks).length)])], false, false, false⟩] ++ (bif (ks).isEmpty then [] else [⟨11, List.map AV.d (List.map encO (ks)), true, true, false⟩]))⟩)) : pureCall C 30 [(.agg [.lit (.int .i64 (cls e)), .lit (.bool (made e)), .lit (.int .i64 (num e)), .str (bs (cont e)), .sl (List.map encE (els e))]), .lit (.int .i64 (l : Nat))] = some (.one (.d (encO (mkF (num e) b0 b0 b0 [] b0 false false b0 false ks)))) := by
  have hkk := mkf_kids (num e) b0 b0 b0 [] b0 false false b0 false ks (by omega)
  rw [p30]
  cases he : ks.isEmpty
  · simp -implicitDefEqProofs (disch := omega) only [go_sem, Int.reduceAdd, Int.reduceSub, Int.reduceMul, dec_t, dec_f, Nat.reduceBEq, Nat.reduceBNe, reduceShiftRight, reduceAnd, Nat.reduceAdd, Nat.reduceSub, reduceEqDiff, Nat.reduceLT, reduceLeDiff, reduceToNat, Int.reduceLT, Int.reduceLE, Int.reduceEq, reduceIte, reduceCtorEq, he] at h
    rcases k0 with k | k | k <;> simp only [k] at h hkk <;> (simp -implicitDefEqProofs (disch := omega) only [go_sem, Int.reduceAdd, Int.reduceSub, Int.reduceMul, dec_t, dec_f, Nat.reduceBEq, Nat.reduceBNe, reduceShiftRight, reduceAnd, Nat.reduceAdd, Nat.reduceSub, reduceEqDiff, Nat.reduceLT, reduceLeDiff, reduceToNat, Int.reduceLT, Int.reduceLE, Int.reduceEq, reduceIte, reduceCtorEq, k, h, hkk, he])
  · have : ks = [] := List.isEmpty_iff.1 he
    subst this
    simp -implicitDefEqProofs (disch := omega) only [go_sem, Int.reduceAdd, Int.reduceSub, Int.reduceMul, dec_t, dec_f, Nat.reduceBEq, Nat.reduceBNe, reduceShiftRight, reduceAnd, Nat.reduceAdd, Nat.reduceSub, reduceEqDiff, Nat.reduceLT, reduceLeDiff, reduceToNat, Int.reduceLT, Int.reduceLE, Int.reduceEq, reduceIte, reduceCtorEq] at h
    rcases k0 with k | k | k <;> simp only [k] at h hkk <;> (simp -implicitDefEqProofs (disch := omega) only [go_sem, Int.reduceAdd, Int.reduceSub, Int.reduceMul, dec_t, dec_f, Nat.reduceBEq, Nat.reduceBNe, reduceShiftRight, reduceAnd, Nat.reduceAdd, Nat.reduceSub, reduceEqDiff, Nat.reduceLT, reduceLeDiff, reduceToNat, Int.reduceLT, Int.reduceLE, Int.reduceEq, reduceIte, reduceCtorEq, k, h, hkk])
theorem t30_7 (e : Eo) (l : Nat) (h8 : l ≤ 8) (k : num e = 7) : pureCall C 30 [(.agg [.lit (.int .i64 (cls e)), .lit (.bool (made e)), .lit (.int .i64 (num e)), .str (bs (cont e)), .sl (List.map encE (els e))]), .lit (.int .i64 (l : Nat))] = some (.one (.d (encO (mkF 7 (lowB (cont e)) b0 b0 [] b0 false false b0 false [])))) := by
  have hl := els_le e
  rw [p30]
  simp -implicitDefEqProofs (disch := omega) only [go_sem, Int.reduceAdd, Int.reduceSub, Int.reduceMul, dec_t, dec_f, Nat.reduceBEq, Nat.reduceBNe, reduceShiftRight, reduceAnd, Nat.reduceAdd, Nat.reduceSub, reduceEqDiff, Nat.reduceLT, reduceLeDiff, reduceToNat, Int.reduceLT, Int.reduceLE, Int.reduceEq, reduceIte, reduceCtorEq, k]
theorem t30_4 (e : Eo) (l : Nat) (h8 : l ≤ 8) (k : num e = 4) (a b : Eo) (he : els e = [a, b]) (hl : (els b).length ≤ 1000) : pureCall C 30 [(.agg [.lit (.int .i64 (cls e)), .lit (.bool (made e)), .lit (.int .i64 (num e)), .str (bs (cont e)), .sl (List.map encE (els e))]), .lit (.int .i64 (l : Nat))] = some (.one (.d (encO (mkF 4 (lowB (cont a)) b0 (gPc (els b) pz).i (gPc (els b) pz).a (gPc (els b) pz).f (gPc (els b) pz).x (gPc (els b) pz).y b0 false [])))) := by
  have h := t53 (els b) hl
  have hqa : (gPc (els b) pz).a.length ≤ 2 ^ 28 := by
    refine Nat.le_trans (gPc_len _ _) ?_
    show 0 + _ ≤ _
    omega
  generalize gPc (els b) pz = q at h hqa ⊢
  have ha := mkf_any 4 (lowB (cont a)) b0 q.i q.a q.f q.x q.y b0 false [] hqa
  rw [p30]
  simp -implicitDefEqProofs (disch := omega) only [go_sem, Int.reduceAdd, Int.reduceSub, Int.reduceMul, dec_t, dec_f, Nat.reduceBEq, Nat.reduceBNe, reduceShiftRight, reduceAnd, Nat.reduceAdd, Nat.reduceSub, reduceEqDiff, Nat.reduceLT, reduceLeDiff, reduceToNat, Int.reduceLT, Int.reduceLE, Int.reduceEq, reduceIte, reduceCtorEq, k, he, h, ha, pcD]
theorem t30_4n (e : Eo) (l : Nat) (h8 : l ≤ 8) (k : num e = 4) (he : (els e).length ≠ 2) : pureCall C 30 [(.agg [.lit (.int .i64 (cls e)), .lit (.bool (made e)), .lit (.int .i64 (num e)), .str (bs (cont e)), .sl (List.map encE (els e))]), .lit (.int .i64 (l : Nat))] = some (.one (.d (encO (mkF 4 b0 b0 b0 [] b0 false false b0 false [])))) := by
  have hl := els_le e
  rw [p30]
  simp -implicitDefEqProofs (disch := omega) only [go_sem, Int.reduceAdd, Int.reduceSub, Int.reduceMul, dec_t, dec_f, Nat.reduceBEq, Nat.reduceBNe, reduceShiftRight, reduceAnd, Nat.reduceAdd, Nat.reduceSub, reduceEqDiff, Nat.reduceLT, reduceLeDiff, reduceToNat, Int.reduceLT, Int.reduceLE, Int.reduceEq, reduceIte, reduceCtorEq, k]
theorem t30_9 (e : Eo) (l : Nat) (h8 : l ≤ 8) (hl : (els e).length ≤ 1000) (k : num e = 9) : pureCall C 30 [(.agg [.lit (.int .i64 (cls e)), .lit (.bool (made e)), .lit (.int .i64 (num e)), .str (bs (cont e)), .sl (List.map encE (els e))]), .lit (.int .i64 (l : Nat))] = some (.one (.d (encO (mkF 9 (gMo (els e) mz).name (gMo (els e) mz).value b0 [] b0 false false (gMo (els e) mz).rule (gMo (els e) mz).dn [])))) := by
  obtain ⟨x', h⟩ := t30ek e hl (els e) 0 mz 0 rfl rfl
  generalize gMo (els e) mz = q at h ⊢
  simp only [mz] at h
  simp -implicitDefEqProofs (disch := omega) only [go_sem, Int.reduceAdd, Int.reduceSub, Int.reduceMul, dec_t, dec_f, Nat.reduceBEq, Nat.reduceBNe, reduceShiftRight, reduceAnd, Nat.reduceAdd, Nat.reduceSub, reduceEqDiff, Nat.reduceLT, reduceLeDiff, reduceToNat, Int.reduceLT, Int.reduceLE, Int.reduceEq, reduceIte, reduceCtorEq] at h
  rw [p30]
  simp -implicitDefEqProofs (disch := omega) only [go_sem, Int.reduceAdd, Int.reduceSub, Int.reduceMul, dec_t, dec_f, Nat.reduceBEq, Nat.reduceBNe, reduceShiftRight, reduceAnd, Nat.reduceAdd, Nat.reduceSub, reduceEqDiff, Nat.reduceLT, reduceLeDiff, reduceToNat, Int.reduceLT, Int.reduceLE, Int.reduceEq, reduceIte, reduceCtorEq, k, h]
theorem t30_o (e : Eo) (l : Nat) (h8 : l ≤ 8) (k0 : ¬ num e = 0) (k1 : ¬ num e = 1) (k2 : ¬ num e = 2) (k7 : ¬ num e = 7) (k4 : ¬ num e = 4) (k9 : ¬ num e = 9) (a b : Eo) (he : els e = [a, b]) : pureCall C 30 [(.agg [.lit (.int .i64 (cls e)), .lit (.bool (made e)), .lit (.int .i64 (num e)), .str (bs (cont e)), .sl (List.map encE (els e))]), .lit (.int .i64 (l : Nat))] = some (.one (.d (encO (mkF (num e) (lowB (cont a)) (cont b) b0 [] b0 false false b0 false [])))) := by
  rw [p30]
  simp -implicitDefEqProofs (disch := omega) only [go_sem, Int.reduceAdd, Int.reduceSub, Int.reduceMul, dec_t, dec_f, Nat.reduceBEq, Nat.reduceBNe, reduceShiftRight, reduceAnd, Nat.reduceAdd, Nat.reduceSub, reduceEqDiff, Nat.reduceLT, reduceLeDiff, reduceToNat, Int.reduceLT, Int.reduceLE, Int.reduceEq, reduceIte, reduceCtorEq, he]
theorem t30_on (e : Eo) (l : Nat) (h8 : l ≤ 8) (k0 : ¬ num e = 0) (k1 : ¬ num e = 1) (k2 : ¬ num e = 2) (k7 : ¬ num e = 7) (k4 : ¬ num e = 4) (k9 : ¬ num e = 9) (he : (els e).length ≠ 2) : pureCall C 30 [(.agg [.lit (.int .i64 (cls e)), .lit (.bool (made e)), .lit (.int .i64 (num e)), .str (bs (cont e)), .sl (List.map encE (els e))]), .lit (.int .i64 (l : Nat))] = some (.one (.d (encO (mkF (num e) b0 b0 b0 [] b0 false false b0 false [])))) := by
  have hl := els_le e
  rw [p30]
  simp -implicitDefEqProofs (disch := omega) only [go_sem, Int.reduceAdd, Int.reduceSub, Int.reduceMul, dec_t, dec_f, Nat.reduceBEq, Nat.reduceBNe, reduceShiftRight, reduceAnd, Nat.reduceAdd, Nat.reduceSub, reduceEqDiff, Nat.reduceLT, reduceLeDiff, reduceToNat, Int.reduceLT, Int.reduceLE, Int.reduceEq, reduceIte, reduceCtorEq]
theorem t30c (e : Eo) (l : Nat) (h8 : l ≤ 8) (hs : Sm e) (ks : List Fo) (hg : (num e = 0 ∨ num e = 1 ∨ num e = 2) → pureCall C 30 [(.agg [.lit (.int .i64 (cls e)), .lit (.bool (made e)), .lit (.int .i64 (num e)), .str (bs (cont e)), .sl (List.map encE (els e))]), .lit (.int .i64 (l : Nat))] = some (.one (.d (encO (mkF (num e) b0 b0 b0 [] b0 false false b0 false ks))))) : pureCall C 30 [(.agg [.lit (.int .i64 (cls e)), .lit (.bool (made e)), .lit (.int .i64 (num e)), .str (bs (cont e)), .sl (List.map encE (els e))]), .lit (.int .i64 (l : Nat))] = some (.one (.d (encO (guess1 e ks)))) := by
  unfold guess1
  by_cases k0 : num e = 0 ∨ num e = 1 ∨ num e = 2
  · rw [if_pos k0]
    exact hg k0
  rw [if_neg k0]
  have n0 : ¬ num e = 0 := fun h => k0 (.inl h)
  have n1 : ¬ num e = 1 := fun h => k0 (.inr (.inl h))
  have n2 : ¬ num e = 2 := fun h => k0 (.inr (.inr h))
  by_cases k7 : num e = 7
  · rw [if_pos k7]
    exact t30_7 e l h8 k7
  rw [if_neg k7]
  by_cases k4 : num e = 4
  · rw [if_pos k4]
    rcases two_or (els e) with ⟨a, b, he⟩ | he
    · have h := t30_4 e l h8 k4 a b he ((hs.inv).2 b (by rw [he]; simp)).inv.1
      rw [he] at h ⊢
      exact h
    · have hne : (els e).length ≠ 2 := by
        intro h
        match hE : els e, h with
        | [a, b], _ => exact he a b hE
      have h := t30_4n e l h8 k4 hne
      split
      · rename_i a b q
        exact absurd q (he a b)
      · exact h
  rw [if_neg k4]
  by_cases k9 : num e = 9
  · rw [if_pos k9]
    exact t30_9 e l h8 hs.inv.1 k9
  rw [if_neg k9]
  rcases two_or (els e) with ⟨a, b, he⟩ | he
  · have h := t30_o e l h8 n0 n1 n2 k7 k4 k9 a b he
    rw [he] at h ⊢
    exact h
  · have hne : (els e).length ≠ 2 := by
      intro h
      match hE : els e, h with
      | [a, b], _ => exact he a b hE
    have h := t30_on e l h8 n0 n1 n2 k7 k4 k9 hne
    split
    · rename_i a b q
      exact absurd q (he a b)
    · exact h
theorem t30 : ∀ (l : Nat) (e : Eo), l ≤ 8 → Sm e → pureCall C 30 [(.agg [.lit (.int .i64 (cls e)), .lit (.bool (made e)), .lit (.int .i64 (num e)), .str (bs (cont e)), .sl (List.map encE (els e))]), .lit (.int .i64 (l : Nat))] = some (.one (.d (encO (guessO l e))))
  | 0, e, h8, hs => by
    rw [guessO]
    exact t30c e 0 h8 hs [] fun k0 => t30g e 0 h8 hs.inv.1 k0 [] (by simp) _ (t30z e (num e) hs.inv.1)
  | l + 1, e, h8, hs => by
    rw [guessO]
    refine t30c e (l + 1) h8 hs _ fun k0 => ?_
    obtain ⟨x', h⟩ := t30k e (num e) l h8 hs.inv.1 (fun x hx => t30 l x (by omega) (hs.inv.2 x hx)) (els e) [] 0 0 rfl rfl (Nat.le_refl _)
    exact t30g e (l + 1) h8 hs.inv.1 k0 _ (by rw [List.length_map]; exact hs.inv.1) x' h
set_option maxRecDepth 10000
set_option maxHeartbeats 2000000
theorem t31_s (e : Eo) (k : Int) (l : Nat) (h8 : l + 1 ≤ 8) (hl : (els e).length ≤ 1000) (acc : List Eo) (j : Nat) (x : Int) (c : Eo) (r : List Eo) (hx : x = j) (hd : (els e).drop j = c :: r) (ha : acc.length ≤ j) (g : Eo) (hc : pureCall C 31 [(.agg [.lit (.int .i64 (cls c)), .lit (.bool (made c)), .lit (.int .i64 (num c)), .str (bs (cont c)), .sl (List.map encE (els c))]), .lit (.int .i64 (l : Nat))] = some (.one (.d (encE g)))) :
    n31_35 ⟨[(1, .d (.lit (.int .i64 (l + 1 : Nat)))), (2, .ptr 0 1 0 0), (4, .ptr 1 1 0 0), (5, .ptr 2 1 0 0), (6, .d (.lit (.int .i64 (els e).length))), (7, (bif (acc).isEmpty then .snil else .sref 3 (acc).length 5 0 (acc).length)), (8, .d (.lit (.int .i64 x)))], ([⟨5, [.d (.agg [.lit (.int .i64 (cls e)), .lit (.bool (made e)), .lit (.int .i64 k), .str (bs (cont e)), .sl (List.map encE (els e))])], false, false, false⟩, ⟨5, [.agg [.d (.lit (.int .i64 0)), .d (.lit (.bool false)), .d (.lit (.int .i64 0)), .d (.str []), .snil]], false, false, false⟩, ⟨5, [.d (.agg [.lit (.int .i64 (cls e)), .lit (.bool (made e)), .lit (.int .i64 k), .str (bs (cont e)), .sl (List.map encE (els e))])], false, false, false⟩] ++ (bif (acc).isEmpty then [] else [⟨5, List.map AV.d (List.map encE (acc)), true, true, false⟩]))⟩ = n31_35 ⟨[(1, .d (.lit (.int .i64 (l + 1 : Nat)))), (2, .ptr 0 1 0 0), (4, .ptr 1 1 0 0), (5, .ptr 2 1 0 0), (6, .d (.lit (.int .i64 (els e).length))), (7, (bif (acc ++ [g]).isEmpty then .snil else .sref 3 (acc ++ [g]).length 5 0 (acc ++ [g]).length)), (8, .d (.lit (.int .i64 (x + 1))))], ([⟨5, [.d (.agg [.lit (.int .i64 (cls e)), .lit (.bool (made e)), .lit (.int .i64 k), .str (bs (cont e)), .sl (List.map encE (els e))])], false, false, false⟩, ⟨5, [.agg [.d (.lit (.int .i64 0)), .d (.lit (.bool false)), .d (.lit (.int .i64 0)), .d (.str []), .snil]], false, false, false⟩, ⟨5, [.d (.agg [.lit (.int .i64 (cls e)), .lit (.bool (made e)), .lit (.int .i64 k), .str (bs (cont e)), .sl (List.map encE (els e))])], false, false, false⟩] ++ (bif (acc ++ [g]).isEmpty then [] else [⟨5, List.map AV.d (List.map encE (acc ++ [g])), true, true, false⟩]))⟩ := by
  obtain ⟨g1, g2, g3, g4⟩ := drop_cons hd
  have hnat : Int.toNat x = j := by omega
  have hw : ((l + 1 : Nat) : Int) - 1 = l := by omega
  rw [r_n31_35]
  cases he : acc.isEmpty
  · simp -implicitDefEqProofs (disch := omega) only [go_sem, Int.reduceAdd, Int.reduceSub, Int.reduceMul, dec_t, dec_f, Nat.reduceBEq, Nat.reduceBNe, reduceShiftRight, reduceAnd, Nat.reduceAdd, Nat.reduceSub, reduceEqDiff, Nat.reduceLT, reduceLeDiff, reduceToNat, Int.reduceLT, Int.reduceLE, Int.reduceEq, reduceIte, reduceCtorEq, he, g2, hnat, hw, hc]
  · have : acc = [] := List.isEmpty_iff.1 he
    simp -implicitDefEqProofs (disch := omega) only [go_sem, Int.reduceAdd, Int.reduceSub, Int.reduceMul, dec_t, dec_f, Nat.reduceBEq, Nat.reduceBNe, reduceShiftRight, reduceAnd, Nat.reduceAdd, Nat.reduceSub, reduceEqDiff, Nat.reduceLT, reduceLeDiff, reduceToNat, Int.reduceLT, Int.reduceLE, Int.reduceEq, reduceIte, reduceCtorEq, this, g2, hnat, hw, hc]
theorem t31k (e : Eo) (k : Int) (l : Nat) (h8 : l + 1 ≤ 8) (hl : (els e).length ≤ 1000) (IH : ∀ x ∈ els e, pureCall C 31 [(.agg [.lit (.int .i64 (cls x)), .lit (.bool (made x)), .lit (.int .i64 (num x)), .str (bs (cont x)), .sl (List.map encE (els x))]), .lit (.int .i64 (l : Nat))] = some (.one (.d (encE (smallO l x))))) : ∀ (r : List Eo) (acc : List Eo) (j : Nat) (x : Int), x = j → (els e).drop j = r → acc.length ≤ j →
    ∃ x', n31_35 ⟨[(1, .d (.lit (.int .i64 (l + 1 : Nat)))), (2, .ptr 0 1 0 0), (4, .ptr 1 1 0 0), (5, .ptr 2 1 0 0), (6, .d (.lit (.int .i64 (els e).length))), (7, (bif (acc).isEmpty then .snil else .sref 3 (acc).length 5 0 (acc).length)), (8, .d (.lit (.int .i64 x)))], ([⟨5, [.d (.agg [.lit (.int .i64 (cls e)), .lit (.bool (made e)), .lit (.int .i64 k), .str (bs (cont e)), .sl (List.map encE (els e))])], false, false, false⟩, ⟨5, [.agg [.d (.lit (.int .i64 0)), .d (.lit (.bool false)), .d (.lit (.int .i64 0)), .d (.str []), .snil]], false, false, false⟩, ⟨5, [.d (.agg [.lit (.int .i64 (cls e)), .lit (.bool (made e)), .lit (.int .i64 k), .str (bs (cont e)), .sl (List.map encE (els e))])], false, false, false⟩] ++ (bif (acc).isEmpty then [] else [⟨5, List.map AV.d (List.map encE (acc)), true, true, false⟩]))⟩ = some (.exit 1, ⟨[(1, .d (.lit (.int .i64 (l + 1 : Nat)))), (2, .ptr 0 1 0 0), (4, .ptr 1 1 0 0), (5, .ptr 2 1 0 0), (6, .d (.lit (.int .i64 (els e).length))), (7, (bif (acc ++ r.map (smallO l)).isEmpty then .snil else .sref 3 (acc ++ r.map (smallO l)).length 5 0 (acc ++ r.map (smallO l)).length)), (8, x'), (46, .d (.lit (.bool false)))], ([⟨5, [.d (.agg [.lit (.int .i64 (cls e)), .lit (.bool (made e)), .lit (.int .i64 k), .str (bs (cont e)), .sl (List.map encE (els e))])], false, false, false⟩, ⟨5, [.agg [.d (.lit (.int .i64 0)), .d (.lit (.bool false)), .d (.lit (.int .i64 0)), .d (.str []), .snil]], false, false, false⟩, ⟨5, [.d (.agg [.lit (.int .i64 (cls e)), .lit (.bool (made e)), .lit (.int .i64 k), .str (bs (cont e)), .sl (List.map encE (els e))])], false, false, false⟩] ++ (bif (acc ++ r.map (smallO l)).isEmpty then [] else [⟨5, List.map AV.d (List.map encE (acc ++ r.map (smallO l))), true, true, false⟩]))⟩)
  | [], acc, j, x, hx, hd, ha => by
    have hd := drop_nil hd
    rw [List.map_nil, List.append_nil, r_n31_35]
    refine ⟨.d (.lit (.int .i64 x)), ?_⟩
    cases he : acc.isEmpty <;> (simp -implicitDefEqProofs (disch := omega) only [go_sem, Int.reduceAdd, Int.reduceSub, Int.reduceMul, dec_t, dec_f, Nat.reduceBEq, Nat.reduceBNe, reduceShiftRight, reduceAnd, Nat.reduceAdd, Nat.reduceSub, reduceEqDiff, Nat.reduceLT, reduceLeDiff, reduceToNat, Int.reduceLT, Int.reduceLE, Int.reduceEq, reduceIte, reduceCtorEq, he])
  | c :: r, acc, j, x, hx, hd, ha => by
    have g3 := (drop_cons hd).2.2.1
    rw [t31_s e k l h8 hl acc j x c r hx hd ha _ (IH c (drop_cons hd).2.2.2)]
    have := t31k e k l h8 hl IH r (acc ++ [smallO l c]) (j + 1) (x + 1) (by omega) g3 (by rw [List.length_append]; simp only [List.length_cons, List.length_nil]; omega)
    rw [List.map_cons, show acc ++ smallO l c :: r.map (smallO l) = (acc ++ [smallO l c]) ++ r.map (smallO l) by simp]
    exact this
theorem t31_1 (e : Eo) (hl : (els e).length ≤ 1000) (acc : List Eo) (j : Nat) (x : Int) (X : Blk) (uX : ∀ n, AV.under1s n X.elems = true) (c : Eo) (r : List Eo) (hx : x = j) (hd : (els e).drop j = c :: r) (ha : acc.length ≤ j) (hn : num c = 1) : ∃ X2 : Blk, (∀ n, AV.under1s n X2.elems = true) ∧ n31_60 ⟨[(2, .ptr 0 1 0 0), (4, .ptr 1 1 0 0), (5, .ptr 2 1 0 0), (6, .d (.lit (.int .i64 (els e).length))), (9, (bif (acc).isEmpty then .snil else .sref 4 (acc).length 5 0 (acc).length)), (10, .d (.lit (.int .i64 x)))], ([⟨5, [.d (.agg [.lit (.int .i64 (cls e)), .lit (.bool (made e)), .lit (.int .i64 9), .str (bs (cont e)), .sl (List.map encE (els e))])], false, false, false⟩, ⟨5, [.agg [.d (.lit (.int .i64 0)), .d (.lit (.bool false)), .d (.lit (.int .i64 0)), .d (.str []), .snil]], false, false, false⟩, ⟨5, [.d (.agg [.lit (.int .i64 (cls e)), .lit (.bool (made e)), .lit (.int .i64 9), .str (bs (cont e)), .sl (List.map encE (els e))])], false, false, false⟩] ++ (bif (acc).isEmpty then [] else [X, ⟨5, List.map AV.d (List.map encE (acc)), true, true, false⟩]))⟩ = n31_60 ⟨[(2, .ptr 0 1 0 0), (4, .ptr 1 1 0 0), (5, .ptr 2 1 0 0), (6, .d (.lit (.int .i64 (els e).length))), (9, (bif (acc ++ [mkE (cls c) (made c) (num c) (lowB (cont c)) (els c)]).isEmpty then .snil else .sref 4 (acc ++ [mkE (cls c) (made c) (num c) (lowB (cont c)) (els c)]).length 5 0 (acc ++ [mkE (cls c) (made c) (num c) (lowB (cont c)) (els c)]).length)), (10, .d (.lit (.int .i64 (x + 1))))], ([⟨5, [.d (.agg [.lit (.int .i64 (cls e)), .lit (.bool (made e)), .lit (.int .i64 9), .str (bs (cont e)), .sl (List.map encE (els e))])], false, false, false⟩, ⟨5, [.agg [.d (.lit (.int .i64 0)), .d (.lit (.bool false)), .d (.lit (.int .i64 0)), .d (.str []), .snil]], false, false, false⟩, ⟨5, [.d (.agg [.lit (.int .i64 (cls e)), .lit (.bool (made e)), .lit (.int .i64 9), .str (bs (cont e)), .sl (List.map encE (els e))])], false, false, false⟩] ++ (bif (acc ++ [mkE (cls c) (made c) (num c) (lowB (cont c)) (els c)]).isEmpty then [] else [X2, ⟨5, List.map AV.d (List.map encE (acc ++ [mkE (cls c) (made c) (num c) (lowB (cont c)) (els c)])), true, true, false⟩]))⟩ := by
  obtain ⟨g1, g2, g3, g4⟩ := drop_cons hd
  have hnat : Int.toNat x = j := by omega
  have hr : (els e).length = j + 1 + r.length := by
    have := congrArg List.length hd
    simp only [List.length_drop, List.length_cons] at this
    omega
  have hec := mk_els (cls c) (made c) (num c) (lowB (cont c)) (els c) (els_le c)
  simp only [hn] at hec
  rw [r_n31_60]
  cases he : acc.isEmpty
  · refine ⟨X, uX, ?_⟩
    rcases Nat.eq_zero_or_pos r.length with hr0 | hr0
    all_goals (
      by_cases hc : cls c = 2
      · cases hm : made c
        · cases hz : (els c).isEmpty <;> (try simp only [hc, hm] at hec) <;> (simp -implicitDefEqProofs (disch := omega) only [go_sem, Int.reduceAdd, Int.reduceSub, Int.reduceMul, dec_t, dec_f, Nat.reduceBEq, Nat.reduceBNe, reduceShiftRight, reduceAnd, Nat.reduceAdd, Nat.reduceSub, reduceEqDiff, Nat.reduceLT, reduceLeDiff, reduceToNat, Int.reduceLT, Int.reduceLE, Int.reduceEq, reduceIte, reduceCtorEq, lenz, hc, hm, hz, he, g2, hnat, uX, hec, hn])
        · try simp only [hc, hm] at hec
          simp -implicitDefEqProofs (disch := omega) only [go_sem, Int.reduceAdd, Int.reduceSub, Int.reduceMul, dec_t, dec_f, Nat.reduceBEq, Nat.reduceBNe, reduceShiftRight, reduceAnd, Nat.reduceAdd, Nat.reduceSub, reduceEqDiff, Nat.reduceLT, reduceLeDiff, reduceToNat, Int.reduceLT, Int.reduceLE, Int.reduceEq, reduceIte, reduceCtorEq, lenz, hc, hm, he, g2, hnat, uX, hec, hn]
      · simp -implicitDefEqProofs (disch := omega) only [go_sem, Int.reduceAdd, Int.reduceSub, Int.reduceMul, dec_t, dec_f, Nat.reduceBEq, Nat.reduceBNe, reduceShiftRight, reduceAnd, Nat.reduceAdd, Nat.reduceSub, reduceEqDiff, Nat.reduceLT, reduceLeDiff, reduceToNat, Int.reduceLT, Int.reduceLE, Int.reduceEq, reduceIte, reduceCtorEq, lenz, he, g2, hnat, uX, hec, hn])
  · have : acc = [] := List.isEmpty_iff.1 he
    subst this
    refine ⟨⟨5, [.agg [.d (.lit (.int .i64 (cls c))), .d (.lit (.bool (made c))), .d (.lit (.int .i64 (num c))), .d (.str (lowL (bs (cont c)))), .d (.sl (List.map encE (els c)))]], false, false, false⟩, fun n => rfl, ?_⟩
    rcases Nat.eq_zero_or_pos r.length with hr0 | hr0
    all_goals (
      by_cases hc : cls c = 2
      · cases hm : made c
        · cases hz : (els c).isEmpty <;> (try simp only [hc, hm] at hec) <;> (simp -implicitDefEqProofs (disch := omega) only [go_sem, Int.reduceAdd, Int.reduceSub, Int.reduceMul, dec_t, dec_f, Nat.reduceBEq, Nat.reduceBNe, reduceShiftRight, reduceAnd, Nat.reduceAdd, Nat.reduceSub, reduceEqDiff, Nat.reduceLT, reduceLeDiff, reduceToNat, Int.reduceLT, Int.reduceLE, Int.reduceEq, reduceIte, reduceCtorEq, lenz, hc, hm, hz, g2, hnat, hec, hn])
        · try simp only [hc, hm] at hec
          simp -implicitDefEqProofs (disch := omega) only [go_sem, Int.reduceAdd, Int.reduceSub, Int.reduceMul, dec_t, dec_f, Nat.reduceBEq, Nat.reduceBNe, reduceShiftRight, reduceAnd, Nat.reduceAdd, Nat.reduceSub, reduceEqDiff, Nat.reduceLT, reduceLeDiff, reduceToNat, Int.reduceLT, Int.reduceLE, Int.reduceEq, reduceIte, reduceCtorEq, lenz, hc, hm, g2, hnat, hec, hn]
      · simp -implicitDefEqProofs (disch := omega) only [go_sem, Int.reduceAdd, Int.reduceSub, Int.reduceMul, dec_t, dec_f, Nat.reduceBEq, Nat.reduceBNe, reduceShiftRight, reduceAnd, Nat.reduceAdd, Nat.reduceSub, reduceEqDiff, Nat.reduceLT, reduceLeDiff, reduceToNat, Int.reduceLT, Int.reduceLE, Int.reduceEq, reduceIte, reduceCtorEq, lenz, g2, hnat, hec, hn])
theorem t31_2 (e : Eo) (hl : (els e).length ≤ 1000) (acc : List Eo) (j : Nat) (x : Int) (X : Blk) (uX : ∀ n, AV.under1s n X.elems = true) (c : Eo) (r : List Eo) (hx : x = j) (hd : (els e).drop j = c :: r) (ha : acc.length ≤ j) (hn : num c = 2) : ∃ X2 : Blk, (∀ n, AV.under1s n X2.elems = true) ∧ n31_60 ⟨[(2, .ptr 0 1 0 0), (4, .ptr 1 1 0 0), (5, .ptr 2 1 0 0), (6, .d (.lit (.int .i64 (els e).length))), (9, (bif (acc).isEmpty then .snil else .sref 4 (acc).length 5 0 (acc).length)), (10, .d (.lit (.int .i64 x)))], ([⟨5, [.d (.agg [.lit (.int .i64 (cls e)), .lit (.bool (made e)), .lit (.int .i64 9), .str (bs (cont e)), .sl (List.map encE (els e))])], false, false, false⟩, ⟨5, [.agg [.d (.lit (.int .i64 0)), .d (.lit (.bool false)), .d (.lit (.int .i64 0)), .d (.str []), .snil]], false, false, false⟩, ⟨5, [.d (.agg [.lit (.int .i64 (cls e)), .lit (.bool (made e)), .lit (.int .i64 9), .str (bs (cont e)), .sl (List.map encE (els e))])], false, false, false⟩] ++ (bif (acc).isEmpty then [] else [X, ⟨5, List.map AV.d (List.map encE (acc)), true, true, false⟩]))⟩ = n31_60 ⟨[(2, .ptr 0 1 0 0), (4, .ptr 1 1 0 0), (5, .ptr 2 1 0 0), (6, .d (.lit (.int .i64 (els e).length))), (9, (bif (acc ++ [mkE (cls c) (made c) (num c) (lowB (cont c)) (els c)]).isEmpty then .snil else .sref 4 (acc ++ [mkE (cls c) (made c) (num c) (lowB (cont c)) (els c)]).length 5 0 (acc ++ [mkE (cls c) (made c) (num c) (lowB (cont c)) (els c)]).length)), (10, .d (.lit (.int .i64 (x + 1))))], ([⟨5, [.d (.agg [.lit (.int .i64 (cls e)), .lit (.bool (made e)), .lit (.int .i64 9), .str (bs (cont e)), .sl (List.map encE (els e))])], false, false, false⟩, ⟨5, [.agg [.d (.lit (.int .i64 0)), .d (.lit (.bool false)), .d (.lit (.int .i64 0)), .d (.str []), .snil]], false, false, false⟩, ⟨5, [.d (.agg [.lit (.int .i64 (cls e)), .lit (.bool (made e)), .lit (.int .i64 9), .str (bs (cont e)), .sl (List.map encE (els e))])], false, false, false⟩] ++ (bif (acc ++ [mkE (cls c) (made c) (num c) (lowB (cont c)) (els c)]).isEmpty then [] else [X2, ⟨5, List.map AV.d (List.map encE (acc ++ [mkE (cls c) (made c) (num c) (lowB (cont c)) (els c)])), true, true, false⟩]))⟩ := by
  obtain ⟨g1, g2, g3, g4⟩ := drop_cons hd
  have hnat : Int.toNat x = j := by omega
  have hr : (els e).length = j + 1 + r.length := by
    have := congrArg List.length hd
    simp only [List.length_drop, List.length_cons] at this
    omega
  have hec := mk_els (cls c) (made c) (num c) (lowB (cont c)) (els c) (els_le c)
  simp only [hn] at hec
  rw [r_n31_60]
  cases he : acc.isEmpty
  · refine ⟨X, uX, ?_⟩
    rcases Nat.eq_zero_or_pos r.length with hr0 | hr0
    all_goals (
      by_cases hc : cls c = 2
      · cases hm : made c
        · cases hz : (els c).isEmpty <;> (try simp only [hc, hm] at hec) <;> (simp -implicitDefEqProofs (disch := omega) only [go_sem, Int.reduceAdd, Int.reduceSub, Int.reduceMul, dec_t, dec_f, Nat.reduceBEq, Nat.reduceBNe, reduceShiftRight, reduceAnd, Nat.reduceAdd, Nat.reduceSub, reduceEqDiff, Nat.reduceLT, reduceLeDiff, reduceToNat, Int.reduceLT, Int.reduceLE, Int.reduceEq, reduceIte, reduceCtorEq, lenz, hc, hm, hz, he, g2, hnat, uX, hec, hn])
        · try simp only [hc, hm] at hec
          simp -implicitDefEqProofs (disch := omega) only [go_sem, Int.reduceAdd, Int.reduceSub, Int.reduceMul, dec_t, dec_f, Nat.reduceBEq, Nat.reduceBNe, reduceShiftRight, reduceAnd, Nat.reduceAdd, Nat.reduceSub, reduceEqDiff, Nat.reduceLT, reduceLeDiff, reduceToNat, Int.reduceLT, Int.reduceLE, Int.reduceEq, reduceIte, reduceCtorEq, lenz, hc, hm, he, g2, hnat, uX, hec, hn]
      · simp -implicitDefEqProofs (disch := omega) only [go_sem, Int.reduceAdd, Int.reduceSub, Int.reduceMul, dec_t, dec_f, Nat.reduceBEq, Nat.reduceBNe, reduceShiftRight, reduceAnd, Nat.reduceAdd, Nat.reduceSub, reduceEqDiff, Nat.reduceLT, reduceLeDiff, reduceToNat, Int.reduceLT, Int.reduceLE, Int.reduceEq, reduceIte, reduceCtorEq, lenz, he, g2, hnat, uX, hec, hn])
  · have : acc = [] := List.isEmpty_iff.1 he
    subst this
    refine ⟨⟨5, [.agg [.d (.lit (.int .i64 (cls c))), .d (.lit (.bool (made c))), .d (.lit (.int .i64 (num c))), .d (.str (lowL (bs (cont c)))), .d (.sl (List.map encE (els c)))]], false, false, false⟩, fun n => rfl, ?_⟩
    rcases Nat.eq_zero_or_pos r.length with hr0 | hr0
    all_goals (
      by_cases hc : cls c = 2
      · cases hm : made c
        · cases hz : (els c).isEmpty <;> (try simp only [hc, hm] at hec) <;> (simp -implicitDefEqProofs (disch := omega) only [go_sem, Int.reduceAdd, Int.reduceSub, Int.reduceMul, dec_t, dec_f, Nat.reduceBEq, Nat.reduceBNe, reduceShiftRight, reduceAnd, Nat.reduceAdd, Nat.reduceSub, reduceEqDiff, Nat.reduceLT, reduceLeDiff, reduceToNat, Int.reduceLT, Int.reduceLE, Int.reduceEq, reduceIte, reduceCtorEq, lenz, hc, hm, hz, g2, hnat, hec, hn])
        · try simp only [hc, hm] at hec
          simp -implicitDefEqProofs (disch := omega) only [go_sem, Int.reduceAdd, Int.reduceSub, Int.reduceMul, dec_t, dec_f, Nat.reduceBEq, Nat.reduceBNe, reduceShiftRight, reduceAnd, Nat.reduceAdd, Nat.reduceSub, reduceEqDiff, Nat.reduceLT, reduceLeDiff, reduceToNat, Int.reduceLT, Int.reduceLE, Int.reduceEq, reduceIte, reduceCtorEq, lenz, hc, hm, g2, hnat, hec, hn]
      · simp -implicitDefEqProofs (disch := omega) only [go_sem, Int.reduceAdd, Int.reduceSub, Int.reduceMul, dec_t, dec_f, Nat.reduceBEq, Nat.reduceBNe, reduceShiftRight, reduceAnd, Nat.reduceAdd, Nat.reduceSub, reduceEqDiff, Nat.reduceLT, reduceLeDiff, reduceToNat, Int.reduceLT, Int.reduceLE, Int.reduceEq, reduceIte, reduceCtorEq, lenz, g2, hnat, hec, hn])
theorem t31_3 (e : Eo) (hl : (els e).length ≤ 1000) (acc : List Eo) (j : Nat) (x : Int) (X : Blk) (uX : ∀ n, AV.under1s n X.elems = true) (c : Eo) (r : List Eo) (hx : x = j) (hd : (els e).drop j = c :: r) (ha : acc.length ≤ j) (n1 : ¬ num c = 1) (n2 : ¬ num c = 2) (n4 : ¬ num c = 4) : ∃ X2 : Blk, (∀ n, AV.under1s n X2.elems = true) ∧ n31_60 ⟨[(2, .ptr 0 1 0 0), (4, .ptr 1 1 0 0), (5, .ptr 2 1 0 0), (6, .d (.lit (.int .i64 (els e).length))), (9, (bif (acc).isEmpty then .snil else .sref 4 (acc).length 5 0 (acc).length)), (10, .d (.lit (.int .i64 x)))], ([⟨5, [.d (.agg [.lit (.int .i64 (cls e)), .lit (.bool (made e)), .lit (.int .i64 9), .str (bs (cont e)), .sl (List.map encE (els e))])], false, false, false⟩, ⟨5, [.agg [.d (.lit (.int .i64 0)), .d (.lit (.bool false)), .d (.lit (.int .i64 0)), .d (.str []), .snil]], false, false, false⟩, ⟨5, [.d (.agg [.lit (.int .i64 (cls e)), .lit (.bool (made e)), .lit (.int .i64 9), .str (bs (cont e)), .sl (List.map encE (els e))])], false, false, false⟩] ++ (bif (acc).isEmpty then [] else [X, ⟨5, List.map AV.d (List.map encE (acc)), true, true, false⟩]))⟩ = n31_60 ⟨[(2, .ptr 0 1 0 0), (4, .ptr 1 1 0 0), (5, .ptr 2 1 0 0), (6, .d (.lit (.int .i64 (els e).length))), (9, (bif (acc ++ [c]).isEmpty then .snil else .sref 4 (acc ++ [c]).length 5 0 (acc ++ [c]).length)), (10, .d (.lit (.int .i64 (x + 1))))], ([⟨5, [.d (.agg [.lit (.int .i64 (cls e)), .lit (.bool (made e)), .lit (.int .i64 9), .str (bs (cont e)), .sl (List.map encE (els e))])], false, false, false⟩, ⟨5, [.agg [.d (.lit (.int .i64 0)), .d (.lit (.bool false)), .d (.lit (.int .i64 0)), .d (.str []), .snil]], false, false, false⟩, ⟨5, [.d (.agg [.lit (.int .i64 (cls e)), .lit (.bool (made e)), .lit (.int .i64 9), .str (bs (cont e)), .sl (List.map encE (els e))])], false, false, false⟩] ++ (bif (acc ++ [c]).isEmpty then [] else [X2, ⟨5, List.map AV.d (List.map encE (acc ++ [c])), true, true, false⟩]))⟩ := by
  obtain ⟨g1, g2, g3, g4⟩ := drop_cons hd
  have hnat : Int.toNat x = j := by omega
  have hr : (els e).length = j + 1 + r.length := by
    have := congrArg List.length hd
    simp only [List.length_drop, List.length_cons] at this
    omega
  have hec : True := trivial
  rw [r_n31_60]
  cases he : acc.isEmpty
  · refine ⟨X, uX, ?_⟩
    rcases Nat.eq_zero_or_pos r.length with hr0 | hr0
    all_goals (
      by_cases hc : cls c = 2
      · cases hm : made c
        · cases hz : (els c).isEmpty <;> (try simp only [hc, hm] at hec) <;> (simp -implicitDefEqProofs (disch := omega) only [go_sem, Int.reduceAdd, Int.reduceSub, Int.reduceMul, dec_t, dec_f, Nat.reduceBEq, Nat.reduceBNe, reduceShiftRight, reduceAnd, Nat.reduceAdd, Nat.reduceSub, reduceEqDiff, Nat.reduceLT, reduceLeDiff, reduceToNat, Int.reduceLT, Int.reduceLE, Int.reduceEq, reduceIte, reduceCtorEq, lenz, hc, hm, hz, he, g2, hnat, uX, hec, n1])
        · try simp only [hc, hm] at hec
          simp -implicitDefEqProofs (disch := omega) only [go_sem, Int.reduceAdd, Int.reduceSub, Int.reduceMul, dec_t, dec_f, Nat.reduceBEq, Nat.reduceBNe, reduceShiftRight, reduceAnd, Nat.reduceAdd, Nat.reduceSub, reduceEqDiff, Nat.reduceLT, reduceLeDiff, reduceToNat, Int.reduceLT, Int.reduceLE, Int.reduceEq, reduceIte, reduceCtorEq, lenz, hc, hm, he, g2, hnat, uX, hec, n1]
      · simp -implicitDefEqProofs (disch := omega) only [go_sem, Int.reduceAdd, Int.reduceSub, Int.reduceMul, dec_t, dec_f, Nat.reduceBEq, Nat.reduceBNe, reduceShiftRight, reduceAnd, Nat.reduceAdd, Nat.reduceSub, reduceEqDiff, Nat.reduceLT, reduceLeDiff, reduceToNat, Int.reduceLT, Int.reduceLE, Int.reduceEq, reduceIte, reduceCtorEq, lenz, he, g2, hnat, uX, hec, n1])
  · have : acc = [] := List.isEmpty_iff.1 he
    subst this
    refine ⟨⟨5, [.d (.agg [.lit (.int .i64 (cls c)), .lit (.bool (made c)), .lit (.int .i64 (num c)), .str (bs (cont c)), .sl (List.map encE (els c))])], false, false, false⟩, fun n => rfl, ?_⟩
    rcases Nat.eq_zero_or_pos r.length with hr0 | hr0
    all_goals (
      by_cases hc : cls c = 2
      · cases hm : made c
        · cases hz : (els c).isEmpty <;> (try simp only [hc, hm] at hec) <;> (simp -implicitDefEqProofs (disch := omega) only [go_sem, Int.reduceAdd, Int.reduceSub, Int.reduceMul, dec_t, dec_f, Nat.reduceBEq, Nat.reduceBNe, reduceShiftRight, reduceAnd, Nat.reduceAdd, Nat.reduceSub, reduceEqDiff, Nat.reduceLT, reduceLeDiff, reduceToNat, Int.reduceLT, Int.reduceLE, Int.reduceEq, reduceIte, reduceCtorEq, lenz, hc, hm, hz, g2, hnat, hec, n1])
        · try simp only [hc, hm] at hec
          simp -implicitDefEqProofs (disch := omega) only [go_sem, Int.reduceAdd, Int.reduceSub, Int.reduceMul, dec_t, dec_f, Nat.reduceBEq, Nat.reduceBNe, reduceShiftRight, reduceAnd, Nat.reduceAdd, Nat.reduceSub, reduceEqDiff, Nat.reduceLT, reduceLeDiff, reduceToNat, Int.reduceLT, Int.reduceLE, Int.reduceEq, reduceIte, reduceCtorEq, lenz, hc, hm, g2, hnat, hec, n1]
      · simp -implicitDefEqProofs (disch := omega) only [go_sem, Int.reduceAdd, Int.reduceSub, Int.reduceMul, dec_t, dec_f, Nat.reduceBEq, Nat.reduceBNe, reduceShiftRight, reduceAnd, Nat.reduceAdd, Nat.reduceSub, reduceEqDiff, Nat.reduceLT, reduceLeDiff, reduceToNat, Int.reduceLT, Int.reduceLE, Int.reduceEq, reduceIte, reduceCtorEq, lenz, g2, hnat, hec, n1])
theorem t31_4a (e : Eo) (hl : (els e).length ≤ 1000) (acc : List Eo) (j : Nat) (x : Int) (X : Blk) (uX : ∀ n, AV.under1s n X.elems = true) (c : Eo) (r : List Eo) (hx : x = j) (hd : (els e).drop j = c :: r) (ha : acc.length ≤ j) (hn : num c = 4) (hb : (bs (cont c)).length = 1) (h0 : List.beq (bs (cont c)) [0] = false) : ∃ X2 : Blk, (∀ n, AV.under1s n X2.elems = true) ∧ n31_60 ⟨[(2, .ptr 0 1 0 0), (4, .ptr 1 1 0 0), (5, .ptr 2 1 0 0), (6, .d (.lit (.int .i64 (els e).length))), (9, (bif (acc).isEmpty then .snil else .sref 4 (acc).length 5 0 (acc).length)), (10, .d (.lit (.int .i64 x)))], ([⟨5, [.d (.agg [.lit (.int .i64 (cls e)), .lit (.bool (made e)), .lit (.int .i64 9), .str (bs (cont e)), .sl (List.map encE (els e))])], false, false, false⟩, ⟨5, [.agg [.d (.lit (.int .i64 0)), .d (.lit (.bool false)), .d (.lit (.int .i64 0)), .d (.str []), .snil]], false, false, false⟩, ⟨5, [.d (.agg [.lit (.int .i64 (cls e)), .lit (.bool (made e)), .lit (.int .i64 9), .str (bs (cont e)), .sl (List.map encE (els e))])], false, false, false⟩] ++ (bif (acc).isEmpty then [] else [X, ⟨5, List.map AV.d (List.map encE (acc)), true, true, false⟩]))⟩ = n31_60 ⟨[(2, .ptr 0 1 0 0), (4, .ptr 1 1 0 0), (5, .ptr 2 1 0 0), (6, .d (.lit (.int .i64 (els e).length))), (9, (bif (acc ++ [mkE (cls c) (made c) (num c) bff (els c)]).isEmpty then .snil else .sref 4 (acc ++ [mkE (cls c) (made c) (num c) bff (els c)]).length 5 0 (acc ++ [mkE (cls c) (made c) (num c) bff (els c)]).length)), (10, .d (.lit (.int .i64 (x + 1))))], ([⟨5, [.d (.agg [.lit (.int .i64 (cls e)), .lit (.bool (made e)), .lit (.int .i64 9), .str (bs (cont e)), .sl (List.map encE (els e))])], false, false, false⟩, ⟨5, [.agg [.d (.lit (.int .i64 0)), .d (.lit (.bool false)), .d (.lit (.int .i64 0)), .d (.str []), .snil]], false, false, false⟩, ⟨5, [.d (.agg [.lit (.int .i64 (cls e)), .lit (.bool (made e)), .lit (.int .i64 9), .str (bs (cont e)), .sl (List.map encE (els e))])], false, false, false⟩] ++ (bif (acc ++ [mkE (cls c) (made c) (num c) bff (els c)]).isEmpty then [] else [X2, ⟨5, List.map AV.d (List.map encE (acc ++ [mkE (cls c) (made c) (num c) bff (els c)])), true, true, false⟩]))⟩ := by
  obtain ⟨g1, g2, g3, g4⟩ := drop_cons hd
  have hnat : Int.toNat x = j := by omega
  have hr : (els e).length = j + 1 + r.length := by
    have := congrArg List.length hd
    simp only [List.length_drop, List.length_cons] at this
    omega
  have hec := mk_els (cls c) (made c) (num c) bff (els c) (els_le c)
  simp only [hn] at hec
  rw [r_n31_60]
  cases he : acc.isEmpty
  · refine ⟨X, uX, ?_⟩
    rcases Nat.eq_zero_or_pos r.length with hr0 | hr0
    all_goals (
      by_cases hc : cls c = 2
      · cases hm : made c
        · cases hz : (els c).isEmpty <;> (try simp only [hc, hm] at hec) <;> (simp -implicitDefEqProofs (disch := omega) only [go_sem, Int.reduceAdd, Int.reduceSub, Int.reduceMul, dec_t, dec_f, Nat.reduceBEq, Nat.reduceBNe, reduceShiftRight, reduceAnd, Nat.reduceAdd, Nat.reduceSub, reduceEqDiff, Nat.reduceLT, reduceLeDiff, reduceToNat, Int.reduceLT, Int.reduceLE, Int.reduceEq, reduceIte, reduceCtorEq, lenz, hc, hm, hz, he, g2, hnat, uX, hec, hn, h0, show ((255 : UInt8) == 0) = false from rfl])
        · try simp only [hc, hm] at hec
          simp -implicitDefEqProofs (disch := omega) only [go_sem, Int.reduceAdd, Int.reduceSub, Int.reduceMul, dec_t, dec_f, Nat.reduceBEq, Nat.reduceBNe, reduceShiftRight, reduceAnd, Nat.reduceAdd, Nat.reduceSub, reduceEqDiff, Nat.reduceLT, reduceLeDiff, reduceToNat, Int.reduceLT, Int.reduceLE, Int.reduceEq, reduceIte, reduceCtorEq, lenz, hc, hm, he, g2, hnat, uX, hec, hn, h0, show ((255 : UInt8) == 0) = false from rfl]
      · simp -implicitDefEqProofs (disch := omega) only [go_sem, Int.reduceAdd, Int.reduceSub, Int.reduceMul, dec_t, dec_f, Nat.reduceBEq, Nat.reduceBNe, reduceShiftRight, reduceAnd, Nat.reduceAdd, Nat.reduceSub, reduceEqDiff, Nat.reduceLT, reduceLeDiff, reduceToNat, Int.reduceLT, Int.reduceLE, Int.reduceEq, reduceIte, reduceCtorEq, lenz, he, g2, hnat, uX, hec, hn, h0, show ((255 : UInt8) == 0) = false from rfl])
  · have : acc = [] := List.isEmpty_iff.1 he
    subst this
    refine ⟨⟨5, [.agg [.d (.lit (.int .i64 (cls c))), .d (.lit (.bool (made c))), .d (.lit (.int .i64 (num c))), .d (.str [255]), .d (.sl (List.map encE (els c)))]], false, false, false⟩, fun n => rfl, ?_⟩
    rcases Nat.eq_zero_or_pos r.length with hr0 | hr0
    all_goals (
      by_cases hc : cls c = 2
      · cases hm : made c
        · cases hz : (els c).isEmpty <;> (try simp only [hc, hm] at hec) <;> (simp -implicitDefEqProofs (disch := omega) only [go_sem, Int.reduceAdd, Int.reduceSub, Int.reduceMul, dec_t, dec_f, Nat.reduceBEq, Nat.reduceBNe, reduceShiftRight, reduceAnd, Nat.reduceAdd, Nat.reduceSub, reduceEqDiff, Nat.reduceLT, reduceLeDiff, reduceToNat, Int.reduceLT, Int.reduceLE, Int.reduceEq, reduceIte, reduceCtorEq, lenz, hc, hm, hz, g2, hnat, hec, hn, h0, show ((255 : UInt8) == 0) = false from rfl])
        · try simp only [hc, hm] at hec
          simp -implicitDefEqProofs (disch := omega) only [go_sem, Int.reduceAdd, Int.reduceSub, Int.reduceMul, dec_t, dec_f, Nat.reduceBEq, Nat.reduceBNe, reduceShiftRight, reduceAnd, Nat.reduceAdd, Nat.reduceSub, reduceEqDiff, Nat.reduceLT, reduceLeDiff, reduceToNat, Int.reduceLT, Int.reduceLE, Int.reduceEq, reduceIte, reduceCtorEq, lenz, hc, hm, g2, hnat, hec, hn, h0, show ((255 : UInt8) == 0) = false from rfl]
      · simp -implicitDefEqProofs (disch := omega) only [go_sem, Int.reduceAdd, Int.reduceSub, Int.reduceMul, dec_t, dec_f, Nat.reduceBEq, Nat.reduceBNe, reduceShiftRight, reduceAnd, Nat.reduceAdd, Nat.reduceSub, reduceEqDiff, Nat.reduceLT, reduceLeDiff, reduceToNat, Int.reduceLT, Int.reduceLE, Int.reduceEq, reduceIte, reduceCtorEq, lenz, g2, hnat, hec, hn, h0, show ((255 : UInt8) == 0) = false from rfl])
theorem t31_4b (e : Eo) (hl : (els e).length ≤ 1000) (acc : List Eo) (j : Nat) (x : Int) (X : Blk) (uX : ∀ n, AV.under1s n X.elems = true) (c : Eo) (r : List Eo) (hx : x = j) (hd : (els e).drop j = c :: r) (ha : acc.length ≤ j) (hn : num c = 4) (hb : (bs (cont c)).length ≠ 1) (h0 : List.beq (bs (cont c)) [0] = false) : ∃ X2 : Blk, (∀ n, AV.under1s n X2.elems = true) ∧ n31_60 ⟨[(2, .ptr 0 1 0 0), (4, .ptr 1 1 0 0), (5, .ptr 2 1 0 0), (6, .d (.lit (.int .i64 (els e).length))), (9, (bif (acc).isEmpty then .snil else .sref 4 (acc).length 5 0 (acc).length)), (10, .d (.lit (.int .i64 x)))], ([⟨5, [.d (.agg [.lit (.int .i64 (cls e)), .lit (.bool (made e)), .lit (.int .i64 9), .str (bs (cont e)), .sl (List.map encE (els e))])], false, false, false⟩, ⟨5, [.agg [.d (.lit (.int .i64 0)), .d (.lit (.bool false)), .d (.lit (.int .i64 0)), .d (.str []), .snil]], false, false, false⟩, ⟨5, [.d (.agg [.lit (.int .i64 (cls e)), .lit (.bool (made e)), .lit (.int .i64 9), .str (bs (cont e)), .sl (List.map encE (els e))])], false, false, false⟩] ++ (bif (acc).isEmpty then [] else [X, ⟨5, List.map AV.d (List.map encE (acc)), true, true, false⟩]))⟩ = n31_60 ⟨[(2, .ptr 0 1 0 0), (4, .ptr 1 1 0 0), (5, .ptr 2 1 0 0), (6, .d (.lit (.int .i64 (els e).length))), (9, (bif (acc ++ [c]).isEmpty then .snil else .sref 4 (acc ++ [c]).length 5 0 (acc ++ [c]).length)), (10, .d (.lit (.int .i64 (x + 1))))], ([⟨5, [.d (.agg [.lit (.int .i64 (cls e)), .lit (.bool (made e)), .lit (.int .i64 9), .str (bs (cont e)), .sl (List.map encE (els e))])], false, false, false⟩, ⟨5, [.agg [.d (.lit (.int .i64 0)), .d (.lit (.bool false)), .d (.lit (.int .i64 0)), .d (.str []), .snil]], false, false, false⟩, ⟨5, [.d (.agg [.lit (.int .i64 (cls e)), .lit (.bool (made e)), .lit (.int .i64 9), .str (bs (cont e)), .sl (List.map encE (els e))])], false, false, false⟩] ++ (bif (acc ++ [c]).isEmpty then [] else [X2, ⟨5, List.map AV.d (List.map encE (acc ++ [c])), true, true, false⟩]))⟩ := by
  obtain ⟨g1, g2, g3, g4⟩ := drop_cons hd
  have hnat : Int.toNat x = j := by omega
  have hr : (els e).length = j + 1 + r.length := by
    have := congrArg List.length hd
    simp only [List.length_drop, List.length_cons] at this
    omega
  have hec : True := trivial
  rw [r_n31_60]
  cases he : acc.isEmpty
  · refine ⟨X, uX, ?_⟩
    rcases Nat.eq_zero_or_pos r.length with hr0 | hr0
    all_goals (
      by_cases hc : cls c = 2
      · cases hm : made c
        · cases hz : (els c).isEmpty <;> (try simp only [hc, hm] at hec) <;> (simp -implicitDefEqProofs (disch := omega) only [go_sem, Int.reduceAdd, Int.reduceSub, Int.reduceMul, dec_t, dec_f, Nat.reduceBEq, Nat.reduceBNe, reduceShiftRight, reduceAnd, Nat.reduceAdd, Nat.reduceSub, reduceEqDiff, Nat.reduceLT, reduceLeDiff, reduceToNat, Int.reduceLT, Int.reduceLE, Int.reduceEq, reduceIte, reduceCtorEq, lenz, hc, hm, hz, he, g2, hnat, uX, hec, hn, h0])
        · try simp only [hc, hm] at hec
          simp -implicitDefEqProofs (disch := omega) only [go_sem, Int.reduceAdd, Int.reduceSub, Int.reduceMul, dec_t, dec_f, Nat.reduceBEq, Nat.reduceBNe, reduceShiftRight, reduceAnd, Nat.reduceAdd, Nat.reduceSub, reduceEqDiff, Nat.reduceLT, reduceLeDiff, reduceToNat, Int.reduceLT, Int.reduceLE, Int.reduceEq, reduceIte, reduceCtorEq, lenz, hc, hm, he, g2, hnat, uX, hec, hn, h0]
      · simp -implicitDefEqProofs (disch := omega) only [go_sem, Int.reduceAdd, Int.reduceSub, Int.reduceMul, dec_t, dec_f, Nat.reduceBEq, Nat.reduceBNe, reduceShiftRight, reduceAnd, Nat.reduceAdd, Nat.reduceSub, reduceEqDiff, Nat.reduceLT, reduceLeDiff, reduceToNat, Int.reduceLT, Int.reduceLE, Int.reduceEq, reduceIte, reduceCtorEq, lenz, he, g2, hnat, uX, hec, hn, h0])
  · have : acc = [] := List.isEmpty_iff.1 he
    subst this
    refine ⟨⟨5, [.d (.agg [.lit (.int .i64 (cls c)), .lit (.bool (made c)), .lit (.int .i64 (num c)), .str (bs (cont c)), .sl (List.map encE (els c))])], false, false, false⟩, fun n => rfl, ?_⟩
    rcases Nat.eq_zero_or_pos r.length with hr0 | hr0
    all_goals (
      by_cases hc : cls c = 2
      · cases hm : made c
        · cases hz : (els c).isEmpty <;> (try simp only [hc, hm] at hec) <;> (simp -implicitDefEqProofs (disch := omega) only [go_sem, Int.reduceAdd, Int.reduceSub, Int.reduceMul, dec_t, dec_f, Nat.reduceBEq, Nat.reduceBNe, reduceShiftRight, reduceAnd, Nat.reduceAdd, Nat.reduceSub, reduceEqDiff, Nat.reduceLT, reduceLeDiff, reduceToNat, Int.reduceLT, Int.reduceLE, Int.reduceEq, reduceIte, reduceCtorEq, lenz, hc, hm, hz, g2, hnat, hec, hn, h0])
        · try simp only [hc, hm] at hec
          simp -implicitDefEqProofs (disch := omega) only [go_sem, Int.reduceAdd, Int.reduceSub, Int.reduceMul, dec_t, dec_f, Nat.reduceBEq, Nat.reduceBNe, reduceShiftRight, reduceAnd, Nat.reduceAdd, Nat.reduceSub, reduceEqDiff, Nat.reduceLT, reduceLeDiff, reduceToNat, Int.reduceLT, Int.reduceLE, Int.reduceEq, reduceIte, reduceCtorEq, lenz, hc, hm, g2, hnat, hec, hn, h0]
      · simp -implicitDefEqProofs (disch := omega) only [go_sem, Int.reduceAdd, Int.reduceSub, Int.reduceMul, dec_t, dec_f, Nat.reduceBEq, Nat.reduceBNe, reduceShiftRight, reduceAnd, Nat.reduceAdd, Nat.reduceSub, reduceEqDiff, Nat.reduceLT, reduceLeDiff, reduceToNat, Int.reduceLT, Int.reduceLE, Int.reduceEq, reduceIte, reduceCtorEq, lenz, g2, hnat, hec, hn, h0])
theorem t31_4c (e : Eo) (hl : (els e).length ≤ 1000) (acc : List Eo) (j : Nat) (x : Int) (X : Blk) (uX : ∀ n, AV.under1s n X.elems = true) (c : Eo) (r : List Eo) (hx : x = j) (hd : (els e).drop j = c :: r) (ha : acc.length ≤ j) (hn : num c = 4) (hb : (bs (cont c)).length = 1) (h0 : List.beq (bs (cont c)) [0] = true) (hr0 : 0 < r.length) : ∃ X2 : Blk, (∀ n, AV.under1s n X2.elems = true) ∧ n31_60 ⟨[(2, .ptr 0 1 0 0), (4, .ptr 1 1 0 0), (5, .ptr 2 1 0 0), (6, .d (.lit (.int .i64 (els e).length))), (9, (bif (acc).isEmpty then .snil else .sref 4 (acc).length 5 0 (acc).length)), (10, .d (.lit (.int .i64 x)))], ([⟨5, [.d (.agg [.lit (.int .i64 (cls e)), .lit (.bool (made e)), .lit (.int .i64 9), .str (bs (cont e)), .sl (List.map encE (els e))])], false, false, false⟩, ⟨5, [.agg [.d (.lit (.int .i64 0)), .d (.lit (.bool false)), .d (.lit (.int .i64 0)), .d (.str []), .snil]], false, false, false⟩, ⟨5, [.d (.agg [.lit (.int .i64 (cls e)), .lit (.bool (made e)), .lit (.int .i64 9), .str (bs (cont e)), .sl (List.map encE (els e))])], false, false, false⟩] ++ (bif (acc).isEmpty then [] else [X, ⟨5, List.map AV.d (List.map encE (acc)), true, true, false⟩]))⟩ = n31_60 ⟨[(2, .ptr 0 1 0 0), (4, .ptr 1 1 0 0), (5, .ptr 2 1 0 0), (6, .d (.lit (.int .i64 (els e).length))), (9, (bif (acc ++ [c]).isEmpty then .snil else .sref 4 (acc ++ [c]).length 5 0 (acc ++ [c]).length)), (10, .d (.lit (.int .i64 (x + 1))))], ([⟨5, [.d (.agg [.lit (.int .i64 (cls e)), .lit (.bool (made e)), .lit (.int .i64 9), .str (bs (cont e)), .sl (List.map encE (els e))])], false, false, false⟩, ⟨5, [.agg [.d (.lit (.int .i64 0)), .d (.lit (.bool false)), .d (.lit (.int .i64 0)), .d (.str []), .snil]], false, false, false⟩, ⟨5, [.d (.agg [.lit (.int .i64 (cls e)), .lit (.bool (made e)), .lit (.int .i64 9), .str (bs (cont e)), .sl (List.map encE (els e))])], false, false, false⟩] ++ (bif (acc ++ [c]).isEmpty then [] else [X2, ⟨5, List.map AV.d (List.map encE (acc ++ [c])), true, true, false⟩]))⟩ := by
  obtain ⟨g1, g2, g3, g4⟩ := drop_cons hd
  have hnat : Int.toNat x = j := by omega
  have hr : (els e).length = j + 1 + r.length := by
    have := congrArg List.length hd
    simp only [List.length_drop, List.length_cons] at this
    omega
  have hec : True := trivial
  rw [r_n31_60]
  cases he : acc.isEmpty
  · refine ⟨X, uX, ?_⟩
    (
      by_cases hc : cls c = 2
      · cases hm : made c
        · cases hz : (els c).isEmpty <;> (try simp only [hc, hm] at hec) <;> (simp -implicitDefEqProofs (disch := omega) only [go_sem, Int.reduceAdd, Int.reduceSub, Int.reduceMul, dec_t, dec_f, Nat.reduceBEq, Nat.reduceBNe, reduceShiftRight, reduceAnd, Nat.reduceAdd, Nat.reduceSub, reduceEqDiff, Nat.reduceLT, reduceLeDiff, reduceToNat, Int.reduceLT, Int.reduceLE, Int.reduceEq, reduceIte, reduceCtorEq, lenz, hc, hm, hz, he, g2, hnat, uX, hec, hn, h0])
        · try simp only [hc, hm] at hec
          simp -implicitDefEqProofs (disch := omega) only [go_sem, Int.reduceAdd, Int.reduceSub, Int.reduceMul, dec_t, dec_f, Nat.reduceBEq, Nat.reduceBNe, reduceShiftRight, reduceAnd, Nat.reduceAdd, Nat.reduceSub, reduceEqDiff, Nat.reduceLT, reduceLeDiff, reduceToNat, Int.reduceLT, Int.reduceLE, Int.reduceEq, reduceIte, reduceCtorEq, lenz, hc, hm, he, g2, hnat, uX, hec, hn, h0]
      · simp -implicitDefEqProofs (disch := omega) only [go_sem, Int.reduceAdd, Int.reduceSub, Int.reduceMul, dec_t, dec_f, Nat.reduceBEq, Nat.reduceBNe, reduceShiftRight, reduceAnd, Nat.reduceAdd, Nat.reduceSub, reduceEqDiff, Nat.reduceLT, reduceLeDiff, reduceToNat, Int.reduceLT, Int.reduceLE, Int.reduceEq, reduceIte, reduceCtorEq, lenz, he, g2, hnat, uX, hec, hn, h0])
  · have : acc = [] := List.isEmpty_iff.1 he
    subst this
    refine ⟨⟨5, [.d (.agg [.lit (.int .i64 (cls c)), .lit (.bool (made c)), .lit (.int .i64 (num c)), .str (bs (cont c)), .sl (List.map encE (els c))])], false, false, false⟩, fun n => rfl, ?_⟩
    (
      by_cases hc : cls c = 2
      · cases hm : made c
        · cases hz : (els c).isEmpty <;> (try simp only [hc, hm] at hec) <;> (simp -implicitDefEqProofs (disch := omega) only [go_sem, Int.reduceAdd, Int.reduceSub, Int.reduceMul, dec_t, dec_f, Nat.reduceBEq, Nat.reduceBNe, reduceShiftRight, reduceAnd, Nat.reduceAdd, Nat.reduceSub, reduceEqDiff, Nat.reduceLT, reduceLeDiff, reduceToNat, Int.reduceLT, Int.reduceLE, Int.reduceEq, reduceIte, reduceCtorEq, lenz, hc, hm, hz, g2, hnat, hec, hn, h0])
        · try simp only [hc, hm] at hec
          simp -implicitDefEqProofs (disch := omega) only [go_sem, Int.reduceAdd, Int.reduceSub, Int.reduceMul, dec_t, dec_f, Nat.reduceBEq, Nat.reduceBNe, reduceShiftRight, reduceAnd, Nat.reduceAdd, Nat.reduceSub, reduceEqDiff, Nat.reduceLT, reduceLeDiff, reduceToNat, Int.reduceLT, Int.reduceLE, Int.reduceEq, reduceIte, reduceCtorEq, lenz, hc, hm, g2, hnat, hec, hn, h0]
      · simp -implicitDefEqProofs (disch := omega) only [go_sem, Int.reduceAdd, Int.reduceSub, Int.reduceMul, dec_t, dec_f, Nat.reduceBEq, Nat.reduceBNe, reduceShiftRight, reduceAnd, Nat.reduceAdd, Nat.reduceSub, reduceEqDiff, Nat.reduceLT, reduceLeDiff, reduceToNat, Int.reduceLT, Int.reduceLE, Int.reduceEq, reduceIte, reduceCtorEq, lenz, g2, hnat, hec, hn, h0])
theorem t31_4e (e : Eo) (hl : (els e).length ≤ 1000) (acc : List Eo) (j : Nat) (x : Int) (X : Blk) (uX : ∀ n, AV.under1s n X.elems = true) (c : Eo) (r : List Eo) (hx : x = j) (hd : (els e).drop j = c :: r) (ha : acc.length ≤ j) (hn : num c = 4) (hb : (bs (cont c)).length = 1) (h0 : List.beq (bs (cont c)) [0] = true) (hr0 : r.length = 0) (hl2 : ¬ (cls c = 2 ∧ made c = false ∧ (els c).isEmpty = true)) : ∃ X2 : Blk, (∀ n, AV.under1s n X2.elems = true) ∧ n31_60 ⟨[(2, .ptr 0 1 0 0), (4, .ptr 1 1 0 0), (5, .ptr 2 1 0 0), (6, .d (.lit (.int .i64 (els e).length))), (9, (bif (acc).isEmpty then .snil else .sref 4 (acc).length 5 0 (acc).length)), (10, .d (.lit (.int .i64 x)))], ([⟨5, [.d (.agg [.lit (.int .i64 (cls e)), .lit (.bool (made e)), .lit (.int .i64 9), .str (bs (cont e)), .sl (List.map encE (els e))])], false, false, false⟩, ⟨5, [.agg [.d (.lit (.int .i64 0)), .d (.lit (.bool false)), .d (.lit (.int .i64 0)), .d (.str []), .snil]], false, false, false⟩, ⟨5, [.d (.agg [.lit (.int .i64 (cls e)), .lit (.bool (made e)), .lit (.int .i64 9), .str (bs (cont e)), .sl (List.map encE (els e))])], false, false, false⟩] ++ (bif (acc).isEmpty then [] else [X, ⟨5, List.map AV.d (List.map encE (acc)), true, true, false⟩]))⟩ = n31_60 ⟨[(2, .ptr 0 1 0 0), (4, .ptr 1 1 0 0), (5, .ptr 2 1 0 0), (6, .d (.lit (.int .i64 (els e).length))), (9, (bif (acc ++ [c]).isEmpty then .snil else .sref 4 (acc ++ [c]).length 5 0 (acc ++ [c]).length)), (10, .d (.lit (.int .i64 (x + 1))))], ([⟨5, [.d (.agg [.lit (.int .i64 (cls e)), .lit (.bool (made e)), .lit (.int .i64 9), .str (bs (cont e)), .sl (List.map encE (els e))])], false, false, false⟩, ⟨5, [.agg [.d (.lit (.int .i64 0)), .d (.lit (.bool false)), .d (.lit (.int .i64 0)), .d (.str []), .snil]], false, false, false⟩, ⟨5, [.d (.agg [.lit (.int .i64 (cls e)), .lit (.bool (made e)), .lit (.int .i64 9), .str (bs (cont e)), .sl (List.map encE (els e))])], false, false, false⟩] ++ (bif (acc ++ [c]).isEmpty then [] else [X2, ⟨5, List.map AV.d (List.map encE (acc ++ [c])), true, true, false⟩]))⟩ := by
  obtain ⟨g1, g2, g3, g4⟩ := drop_cons hd
  have hnat : Int.toNat x = j := by omega
  have hr : (els e).length = j + 1 + r.length := by
    have := congrArg List.length hd
    simp only [List.length_drop, List.length_cons] at this
    omega
  have hec : True := trivial
  rw [r_n31_60]
  cases he : acc.isEmpty
  · refine ⟨X, uX, ?_⟩
    (
      by_cases hc : cls c = 2
      · cases hm : made c
        · cases hz : (els c).isEmpty
          · simp -implicitDefEqProofs (disch := omega) only [go_sem, Int.reduceAdd, Int.reduceSub, Int.reduceMul, dec_t, dec_f, Nat.reduceBEq, Nat.reduceBNe, reduceShiftRight, reduceAnd, Nat.reduceAdd, Nat.reduceSub, reduceEqDiff, Nat.reduceLT, reduceLeDiff, reduceToNat, Int.reduceLT, Int.reduceLE, Int.reduceEq, reduceIte, reduceCtorEq, lenz, hc, hm, hz, he, g2, hnat, uX, hec, hn, h0]
          · exact absurd ⟨hc, hm, hz⟩ hl2
        · try simp only [hc, hm] at hec
          simp -implicitDefEqProofs (disch := omega) only [go_sem, Int.reduceAdd, Int.reduceSub, Int.reduceMul, dec_t, dec_f, Nat.reduceBEq, Nat.reduceBNe, reduceShiftRight, reduceAnd, Nat.reduceAdd, Nat.reduceSub, reduceEqDiff, Nat.reduceLT, reduceLeDiff, reduceToNat, Int.reduceLT, Int.reduceLE, Int.reduceEq, reduceIte, reduceCtorEq, lenz, hc, hm, he, g2, hnat, uX, hec, hn, h0]
      · simp -implicitDefEqProofs (disch := omega) only [go_sem, Int.reduceAdd, Int.reduceSub, Int.reduceMul, dec_t, dec_f, Nat.reduceBEq, Nat.reduceBNe, reduceShiftRight, reduceAnd, Nat.reduceAdd, Nat.reduceSub, reduceEqDiff, Nat.reduceLT, reduceLeDiff, reduceToNat, Int.reduceLT, Int.reduceLE, Int.reduceEq, reduceIte, reduceCtorEq, lenz, he, g2, hnat, uX, hec, hn, h0])
  · have : acc = [] := List.isEmpty_iff.1 he
    subst this
    refine ⟨⟨5, [.d (.agg [.lit (.int .i64 (cls c)), .lit (.bool (made c)), .lit (.int .i64 (num c)), .str (bs (cont c)), .sl (List.map encE (els c))])], false, false, false⟩, fun n => rfl, ?_⟩
    (
      by_cases hc : cls c = 2
      · cases hm : made c
        · cases hz : (els c).isEmpty
          · simp -implicitDefEqProofs (disch := omega) only [go_sem, Int.reduceAdd, Int.reduceSub, Int.reduceMul, dec_t, dec_f, Nat.reduceBEq, Nat.reduceBNe, reduceShiftRight, reduceAnd, Nat.reduceAdd, Nat.reduceSub, reduceEqDiff, Nat.reduceLT, reduceLeDiff, reduceToNat, Int.reduceLT, Int.reduceLE, Int.reduceEq, reduceIte, reduceCtorEq, lenz, hc, hm, hz, g2, hnat, hec, hn, h0]
          · exact absurd ⟨hc, hm, hz⟩ hl2
        · try simp only [hc, hm] at hec
          simp -implicitDefEqProofs (disch := omega) only [go_sem, Int.reduceAdd, Int.reduceSub, Int.reduceMul, dec_t, dec_f, Nat.reduceBEq, Nat.reduceBNe, reduceShiftRight, reduceAnd, Nat.reduceAdd, Nat.reduceSub, reduceEqDiff, Nat.reduceLT, reduceLeDiff, reduceToNat, Int.reduceLT, Int.reduceLE, Int.reduceEq, reduceIte, reduceCtorEq, lenz, hc, hm, g2, hnat, hec, hn, h0]
      · simp -implicitDefEqProofs (disch := omega) only [go_sem, Int.reduceAdd, Int.reduceSub, Int.reduceMul, dec_t, dec_f, Nat.reduceBEq, Nat.reduceBNe, reduceShiftRight, reduceAnd, Nat.reduceAdd, Nat.reduceSub, reduceEqDiff, Nat.reduceLT, reduceLeDiff, reduceToNat, Int.reduceLT, Int.reduceLE, Int.reduceEq, reduceIte, reduceCtorEq, lenz, g2, hnat, hec, hn, h0])
theorem t31_4d (e : Eo) (hl : (els e).length ≤ 1000) (acc : List Eo) (j : Nat) (x : Int) (X : Blk) (uX : ∀ n, AV.under1s n X.elems = true) (c : Eo) (r : List Eo) (hx : x = j) (hd : (els e).drop j = c :: r) (ha : acc.length ≤ j) (hn : num c = 4) (hb : (bs (cont c)).length = 1) (h0 : List.beq (bs (cont c)) [0] = true) (hr0 : r.length = 0) (hc : cls c = 2) (hm : made c = false) (hz : (els c).isEmpty = true) : ∃ X2 : Blk, (∀ n, AV.under1s n X2.elems = true) ∧ n31_60 ⟨[(2, .ptr 0 1 0 0), (4, .ptr 1 1 0 0), (5, .ptr 2 1 0 0), (6, .d (.lit (.int .i64 (els e).length))), (9, (bif (acc).isEmpty then .snil else .sref 4 (acc).length 5 0 (acc).length)), (10, .d (.lit (.int .i64 x)))], ([⟨5, [.d (.agg [.lit (.int .i64 (cls e)), .lit (.bool (made e)), .lit (.int .i64 9), .str (bs (cont e)), .sl (List.map encE (els e))])], false, false, false⟩, ⟨5, [.agg [.d (.lit (.int .i64 0)), .d (.lit (.bool false)), .d (.lit (.int .i64 0)), .d (.str []), .snil]], false, false, false⟩, ⟨5, [.d (.agg [.lit (.int .i64 (cls e)), .lit (.bool (made e)), .lit (.int .i64 9), .str (bs (cont e)), .sl (List.map encE (els e))])], false, false, false⟩] ++ (bif (acc).isEmpty then [] else [X, ⟨5, List.map AV.d (List.map encE (acc)), true, true, false⟩]))⟩ = n31_60 ⟨[(2, .ptr 0 1 0 0), (4, .ptr 1 1 0 0), (5, .ptr 2 1 0 0), (6, .d (.lit (.int .i64 (els e).length))), (9, (bif (acc).isEmpty then .snil else .sref 4 (acc).length 5 0 (acc).length)), (10, .d (.lit (.int .i64 (x + 1))))], ([⟨5, [.d (.agg [.lit (.int .i64 (cls e)), .lit (.bool (made e)), .lit (.int .i64 9), .str (bs (cont e)), .sl (List.map encE (els e))])], false, false, false⟩, ⟨5, [.agg [.d (.lit (.int .i64 0)), .d (.lit (.bool false)), .d (.lit (.int .i64 0)), .d (.str []), .snil]], false, false, false⟩, ⟨5, [.d (.agg [.lit (.int .i64 (cls e)), .lit (.bool (made e)), .lit (.int .i64 9), .str (bs (cont e)), .sl (List.map encE (els e))])], false, false, false⟩] ++ (bif (acc).isEmpty then [] else [X2, ⟨5, List.map AV.d (List.map encE (acc)), true, true, false⟩]))⟩ := by
  obtain ⟨g1, g2, g3, g4⟩ := drop_cons hd
  have hnat : Int.toNat x = j := by omega
  have hr : (els e).length = j + 1 + r.length := by
    have := congrArg List.length hd
    simp only [List.length_drop, List.length_cons] at this
    omega
  have hec : True := trivial
  rw [r_n31_60]
  cases he : acc.isEmpty
  · refine ⟨X, uX, ?_⟩
    simp -implicitDefEqProofs (disch := omega) only [go_sem, Int.reduceAdd, Int.reduceSub, Int.reduceMul, dec_t, dec_f, Nat.reduceBEq, Nat.reduceBNe, reduceShiftRight, reduceAnd, Nat.reduceAdd, Nat.reduceSub, reduceEqDiff, Nat.reduceLT, reduceLeDiff, reduceToNat, Int.reduceLT, Int.reduceLE, Int.reduceEq, reduceIte, reduceCtorEq, lenz, hc, hm, hz, he, g2, hnat, uX, hec, hn, h0]
  · have : acc = [] := List.isEmpty_iff.1 he
    subst this
    refine ⟨⟨5, [.d (.agg [.lit (.int .i64 (cls c)), .lit (.bool (made c)), .lit (.int .i64 (num c)), .str (bs (cont c)), .sl (List.map encE (els c))])], false, false, false⟩, fun n => rfl, ?_⟩
    simp -implicitDefEqProofs (disch := omega) only [go_sem, Int.reduceAdd, Int.reduceSub, Int.reduceMul, dec_t, dec_f, Nat.reduceBEq, Nat.reduceBNe, reduceShiftRight, reduceAnd, Nat.reduceAdd, Nat.reduceSub, reduceEqDiff, Nat.reduceLT, reduceLeDiff, reduceToNat, Int.reduceLT, Int.reduceLE, Int.reduceEq, reduceIte, reduceCtorEq, lenz, hc, hm, hz, g2, hnat, hec, hn, h0]
set_option maxRecDepth 10000
set_option maxHeartbeats 2000000
theorem sm1_self (c : Eo) (h4 : ¬ (num c = 4 ∧ (bs (cont c)).length = 1 ∧ List.beq (bs (cont c)) [0] = false)) (h1 : ¬ num c = 1) (h2 : ¬ num c = 2) : sm1 c = c := by
  unfold sm1
  rw [if_neg, if_neg (by omega), mkE_self]
  intro q
  simp only [Bool.and_eq_true, decide_eq_true_eq, Bool.not_eq_true'] at q
  exact h4 ⟨q.1.1, q.1.2, q.2⟩
theorem sm1_low (c : Eo) (h : num c = 1 ∨ num c = 2) : sm1 c = mkE (cls c) (made c) (num c) (lowB (cont c)) (els c) := by
  unfold sm1
  rw [if_neg (by simp; omega), if_pos h]
theorem sm1_ff (c : Eo) (hn : num c = 4) (hb : (bs (cont c)).length = 1) (h0 : List.beq (bs (cont c)) [0] = false) : sm1 c = mkE (cls c) (made c) (num c) bff (els c) := by
  unfold sm1
  rw [if_pos (by simp [hn, hb, h0])]
theorem smX_keep {c : Eo} {r : List Eo} (h : ¬ (r.length = 0 ∧ num c = 4 ∧ List.beq (bs (cont c)) [0] = true ∧ cls c = 2 ∧ made c = false ∧ (els c).isEmpty = true)) : smX (c :: r) = sm1 c :: smX r := by
  rw [smX, if_neg]
  intro q
  simp only [Bool.and_eq_true, decide_eq_true_eq, Bool.not_eq_true'] at q
  obtain ⟨⟨⟨⟨⟨q1, q2⟩, q3⟩, q4⟩, q5⟩, q6⟩ := q
  exact h ⟨by rw [List.isEmpty_iff.1 q1]; rfl, q2, q3, q4, q5, q6⟩
theorem t31xe (e : Eo) (hl : (els e).length ≤ 1000) (acc : List Eo) (j : Nat) (x : Int) (X : Blk) (uX : ∀ n, AV.under1s n X.elems = true) (hx : x = j) (hd : (els e).drop j = []) :
    ∃ x', n31_60 ⟨[(2, .ptr 0 1 0 0), (4, .ptr 1 1 0 0), (5, .ptr 2 1 0 0), (6, .d (.lit (.int .i64 (els e).length))), (9, (bif (acc).isEmpty then .snil else .sref 4 (acc).length 5 0 (acc).length)), (10, .d (.lit (.int .i64 x)))], ([⟨5, [.d (.agg [.lit (.int .i64 (cls e)), .lit (.bool (made e)), .lit (.int .i64 9), .str (bs (cont e)), .sl (List.map encE (els e))])], false, false, false⟩, ⟨5, [.agg [.d (.lit (.int .i64 0)), .d (.lit (.bool false)), .d (.lit (.int .i64 0)), .d (.str []), .snil]], false, false, false⟩, ⟨5, [.d (.agg [.lit (.int .i64 (cls e)), .lit (.bool (made e)), .lit (.int .i64 9), .str (bs (cont e)), .sl (List.map encE (els e))])], false, false, false⟩] ++ (bif (acc).isEmpty then [] else [X, ⟨5, List.map AV.d (List.map encE (acc)), true, true, false⟩]))⟩ = some (.exit 3, ⟨[(2, .ptr 0 1 0 0), (4, .ptr 1 1 0 0), (5, .ptr 2 1 0 0), (6, .d (.lit (.int .i64 (els e).length))), (9, (bif (acc).isEmpty then .snil else .sref 4 (acc).length 5 0 (acc).length)), (10, x'), (72, .d (.lit (.bool false)))], ([⟨5, [.d (.agg [.lit (.int .i64 (cls e)), .lit (.bool (made e)), .lit (.int .i64 9), .str (bs (cont e)), .sl (List.map encE (els e))])], false, false, false⟩, ⟨5, [.agg [.d (.lit (.int .i64 0)), .d (.lit (.bool false)), .d (.lit (.int .i64 0)), .d (.str []), .snil]], false, false, false⟩, ⟨5, [.d (.agg [.lit (.int .i64 (cls e)), .lit (.bool (made e)), .lit (.int .i64 9), .str (bs (cont e)), .sl (List.map encE (els e))])], false, false, false⟩] ++ (bif (acc).isEmpty then [] else [X, ⟨5, List.map AV.d (List.map encE (acc)), true, true, false⟩]))⟩) := by
  have hd := drop_nil hd
  refine ⟨.d (.lit (.int .i64 x)), ?_⟩
  rw [r_n31_60]
  cases he : acc.isEmpty <;> (simp -implicitDefEqProofs (disch := omega) only [go_sem, Int.reduceAdd, Int.reduceSub, Int.reduceMul, dec_t, dec_f, Nat.reduceBEq, Nat.reduceBNe, reduceShiftRight, reduceAnd, Nat.reduceAdd, Nat.reduceSub, reduceEqDiff, Nat.reduceLT, reduceLeDiff, reduceToNat, Int.reduceLT, Int.reduceLE, Int.reduceEq, reduceIte, reduceCtorEq, he, uX])
theorem t31xk (e : Eo) (hl : (els e).length ≤ 1000) : ∀ (r : List Eo) (acc : List Eo) (j : Nat) (x : Int) (X : Blk), (∀ n, AV.under1s n X.elems = true) → x = j → (els e).drop j = r → acc.length ≤ j →
    ∃ x' X', n31_60 ⟨[(2, .ptr 0 1 0 0), (4, .ptr 1 1 0 0), (5, .ptr 2 1 0 0), (6, .d (.lit (.int .i64 (els e).length))), (9, (bif (acc).isEmpty then .snil else .sref 4 (acc).length 5 0 (acc).length)), (10, .d (.lit (.int .i64 x)))], ([⟨5, [.d (.agg [.lit (.int .i64 (cls e)), .lit (.bool (made e)), .lit (.int .i64 9), .str (bs (cont e)), .sl (List.map encE (els e))])], false, false, false⟩, ⟨5, [.agg [.d (.lit (.int .i64 0)), .d (.lit (.bool false)), .d (.lit (.int .i64 0)), .d (.str []), .snil]], false, false, false⟩, ⟨5, [.d (.agg [.lit (.int .i64 (cls e)), .lit (.bool (made e)), .lit (.int .i64 9), .str (bs (cont e)), .sl (List.map encE (els e))])], false, false, false⟩] ++ (bif (acc).isEmpty then [] else [X, ⟨5, List.map AV.d (List.map encE (acc)), true, true, false⟩]))⟩ = some (.exit 3, ⟨[(2, .ptr 0 1 0 0), (4, .ptr 1 1 0 0), (5, .ptr 2 1 0 0), (6, .d (.lit (.int .i64 (els e).length))), (9, (bif (acc ++ smX r).isEmpty then .snil else .sref 4 (acc ++ smX r).length 5 0 (acc ++ smX r).length)), (10, x'), (72, .d (.lit (.bool false)))], ([⟨5, [.d (.agg [.lit (.int .i64 (cls e)), .lit (.bool (made e)), .lit (.int .i64 9), .str (bs (cont e)), .sl (List.map encE (els e))])], false, false, false⟩, ⟨5, [.agg [.d (.lit (.int .i64 0)), .d (.lit (.bool false)), .d (.lit (.int .i64 0)), .d (.str []), .snil]], false, false, false⟩, ⟨5, [.d (.agg [.lit (.int .i64 (cls e)), .lit (.bool (made e)), .lit (.int .i64 9), .str (bs (cont e)), .sl (List.map encE (els e))])], false, false, false⟩] ++ (bif (acc ++ smX r).isEmpty then [] else [X', ⟨5, List.map AV.d (List.map encE (acc ++ smX r)), true, true, false⟩]))⟩)
  | [], acc, j, x, X, uX, hx, hd, ha => by
    obtain ⟨x', h⟩ := t31xe e hl acc j x X uX hx hd
    rw [smX, List.append_nil]
    exact ⟨x', X, h⟩
  | c :: r, acc, j, x, X, uX, hx, hd, ha => by
    have g3 := (drop_cons hd).2.2.1
    have go : ∀ (d : Eo) (X2 : Blk), (∀ n, AV.under1s n X2.elems = true) → ∃ x' X', n31_60 ⟨[(2, .ptr 0 1 0 0), (4, .ptr 1 1 0 0), (5, .ptr 2 1 0 0), (6, .d (.lit (.int .i64 (els e).length))), (9, (bif (acc ++ [d]).isEmpty then .snil else .sref 4 (acc ++ [d]).length 5 0 (acc ++ [d]).length)), (10, .d (.lit (.int .i64 (x + 1))))], ([⟨5, [.d (.agg [.lit (.int .i64 (cls e)), .lit (.bool (made e)), .lit (.int .i64 9), .str (bs (cont e)), .sl (List.map encE (els e))])], false, false, false⟩, ⟨5, [.agg [.d (.lit (.int .i64 0)), .d (.lit (.bool false)), .d (.lit (.int .i64 0)), .d (.str []), .snil]], false, false, false⟩, ⟨5, [.d (.agg [.lit (.int .i64 (cls e)), .lit (.bool (made e)), .lit (.int .i64 9), .str (bs (cont e)), .sl (List.map encE (els e))])], false, false, false⟩] ++ (bif (acc ++ [d]).isEmpty then [] else [X2, ⟨5, List.map AV.d (List.map encE (acc ++ [d])), true, true, false⟩]))⟩ = some (.exit 3, ⟨[(2, .ptr 0 1 0 0), (4, .ptr 1 1 0 0), (5, .ptr 2 1 0 0), (6, .d (.lit (.int .i64 (els e).length))), (9, (bif (acc ++ d :: smX r).isEmpty then .snil else .sref 4 (acc ++ d :: smX r).length 5 0 (acc ++ d :: smX r).length)), (10, x'), (72, .d (.lit (.bool false)))], ([⟨5, [.d (.agg [.lit (.int .i64 (cls e)), .lit (.bool (made e)), .lit (.int .i64 9), .str (bs (cont e)), .sl (List.map encE (els e))])], false, false, false⟩, ⟨5, [.agg [.d (.lit (.int .i64 0)), .d (.lit (.bool false)), .d (.lit (.int .i64 0)), .d (.str []), .snil]], false, false, false⟩, ⟨5, [.d (.agg [.lit (.int .i64 (cls e)), .lit (.bool (made e)), .lit (.int .i64 9), .str (bs (cont e)), .sl (List.map encE (els e))])], false, false, false⟩] ++ (bif (acc ++ d :: smX r).isEmpty then [] else [X', ⟨5, List.map AV.d (List.map encE (acc ++ d :: smX r)), true, true, false⟩]))⟩) := fun d X2 u2 => by
      have := t31xk e hl r (acc ++ [d]) (j + 1) (x + 1) X2 u2 (by omega) g3 (by rw [List.length_append]; simp only [List.length_cons, List.length_nil]; omega)
      rw [show acc ++ d :: smX r = (acc ++ [d]) ++ smX r by simp]
      exact this
    by_cases n1 : num c = 1
    · obtain ⟨X2, u2, h⟩ := t31_1 e hl acc j x X uX c r hx hd ha n1
      rw [h, smX_keep (by omega), sm1_low c (.inl n1)]
      exact go _ X2 u2
    by_cases n2 : num c = 2
    · obtain ⟨X2, u2, h⟩ := t31_2 e hl acc j x X uX c r hx hd ha n2
      rw [h, smX_keep (by omega), sm1_low c (.inr n2)]
      exact go _ X2 u2
    by_cases n4 : num c = 4
    · by_cases hb : (bs (cont c)).length = 1
      · cases h0 : List.beq (bs (cont c)) [0]
        · obtain ⟨X2, u2, h⟩ := t31_4a e hl acc j x X uX c r hx hd ha n4 hb h0
          rw [h, smX_keep (by rw [h0]; simp), sm1_ff c n4 hb h0]
          exact go _ X2 u2
        · rcases Nat.eq_zero_or_pos r.length with hr0 | hr0
          · by_cases hl2 : cls c = 2 ∧ made c = false ∧ (els c).isEmpty = true
            · obtain ⟨X2, u2, h⟩ := t31_4d e hl acc j x X uX c r hx hd ha n4 hb h0 hr0 hl2.1 hl2.2.1 hl2.2.2
              have hr : r = [] := List.length_eq_zero_iff.1 hr0
              subst hr
              rw [h, smX, if_pos (by simp [n4, h0, hl2.1, hl2.2.1, hl2.2.2]), List.append_nil]
              obtain ⟨x', h2⟩ := t31xe e hl acc (j + 1) (x + 1) X2 u2 (by omega) g3
              exact ⟨x', X2, h2⟩
            · obtain ⟨X2, u2, h⟩ := t31_4e e hl acc j x X uX c r hx hd ha n4 hb h0 hr0 hl2
              rw [h, smX_keep (fun q => hl2 q.2.2.2), sm1_self c (by rw [h0]; simp) n1 n2]
              exact go _ X2 u2
          · obtain ⟨X2, u2, h⟩ := t31_4c e hl acc j x X uX c r hx hd ha n4 hb h0 hr0
            rw [h, smX_keep (by omega), sm1_self c (by rw [h0]; simp) n1 n2]
            exact go _ X2 u2
      · have h0 : List.beq (bs (cont c)) [0] = false := by
          cases h0 : List.beq (bs (cont c)) [0]
          · rfl
          · exfalso
            have : bs (cont c) = [0] := eq_of_beq h0
            rw [this] at hb
            exact hb rfl
        obtain ⟨X2, u2, h⟩ := t31_4b e hl acc j x X uX c r hx hd ha n4 hb h0
        rw [h, smX_keep (by rw [h0]; simp), sm1_self c (fun q => hb q.2.1) n1 n2]
        exact go _ X2 u2
    · obtain ⟨X2, u2, h⟩ := t31_3 e hl acc j x X uX c r hx hd ha n1 n2 n4
      rw [h, smX_keep (by omega), sm1_self c (by omega) n1 n2]
      exact go _ X2 u2
theorem t31_z (e : Eo) : pureCall C 31 [(.agg [.lit (.int .i64 (cls e)), .lit (.bool (made e)), .lit (.int .i64 (num e)), .str (bs (cont e)), .sl (List.map encE (els e))]), .lit (.int .i64 0)] = some (.one (.d (encE e))) := by
  have hl := els_le e
  rw [p31]
  simp -implicitDefEqProofs (disch := omega) only [go_sem, Int.reduceAdd, Int.reduceSub, Int.reduceMul, dec_t, dec_f, Nat.reduceBEq, Nat.reduceBNe, reduceShiftRight, reduceAnd, Nat.reduceAdd, Nat.reduceSub, reduceEqDiff, Nat.reduceLT, reduceLeDiff, reduceToNat, Int.reduceLT, Int.reduceLE, Int.reduceEq, reduceIte, reduceCtorEq]
theorem t31_g (e : Eo) (l : Nat) (h8 : l + 1 ≤ 8) (hl : (els e).length ≤ 1000) (k0 : num e = 0 ∨ num e = 1 ∨ num e = 2) (ks : List Eo) (hk : ks.length ≤ 1000) (x' : AV) (h : n31_35 ⟨[(1, .d (.lit (.int .i64 (l + 1 : Nat)))), (2, .ptr 0 1 0 0), (4, .ptr 1 1 0 0), (5, .ptr 2 1 0 0), (6, .d (.lit (.int .i64 (els e).length))), (7, (bif (([] : List Eo)).isEmpty then .snil else .sref 3 (([] : List Eo)).length 5 0 (([] : List Eo)).length)), (8, .d (.lit (.int .i64 0)))], ([⟨5, [.d (.agg [.lit (.int .i64 (cls e)), .lit (.bool (made e)), .lit (.int .i64 (num e)), .str (bs (cont e)), .sl (List.map encE (els e))])], false, false, false⟩, ⟨5, [.agg [.d (.lit (.int .i64 0)), .d (.lit (.bool false)), .d (.lit (.int .i64 0)), .d (.str []), .snil]], false, false, false⟩, ⟨5, [.d (.agg [.lit (.int .i64 (cls e)), .lit (.bool (made e)), .lit (.int .i64 (num e)), .str (bs (cont e)), .sl (List.map encE (els e))])], false, false, false⟩] ++ (bif (([] : List Eo)).isEmpty then [] else [⟨5, List.map AV.d (List.map encE (([] : List Eo))), true, true, false⟩]))⟩ = some (.exit 1, ⟨[(1, .d (.lit (.int .i64 (l + 1 : Nat)))), (2, .ptr 0 1 0 0), (4, .ptr 1 1 0 0), (5, .ptr 2 1 0 0), (6, .d (.lit (.int .i64 (els e).length))), (7, (bif ([] ++ ks).isEmpty then .snil else .sref 3 ([] ++ ks).length 5 0 ([] ++ ks).length)), (8, x'), (46, .d (.lit (.bool false)))], ([⟨5, [.d (.agg [.lit (.int .i64 (cls e)), .lit (.bool (made e)), .lit (.int .i64 (num e)), .str (bs (cont e)), .sl (List.map encE (els e))])], false, false, false⟩, ⟨5, [.agg [.d (.lit (.int .i64 0)), .d (.lit (.bool false)), .d (.lit (.int .i64 0)), .d (.str []), .snil]], false, false, false⟩, ⟨5, [.d (.agg [.lit (.int .i64 (cls e)), .lit (.bool (made e)), .lit (.int .i64 (num e)), .str (bs (cont e)), .sl (List.map encE (els e))])], false, false, false⟩] ++ (bif ([] ++ ks).isEmpty then [] else [⟨5, List.map AV.d (List.map encE ([] ++ ks)), true, true, false⟩]))⟩)) : pureCall C 31 [(.agg [.lit (.int .i64 (cls e)), .lit (.bool (made e)), .lit (.int .i64 (num e)), .str (bs (cont e)), .sl (List.map encE (els e))]), .lit (.int .i64 (l + 1 : Nat))] = some (.one (.d (encE (mkE (cls e) (made e) (num e) (cont e) ks)))) := by
  have hkk := mk_els (cls e) (made e) (num e) (cont e) ks (by omega)
  rw [p31]
  cases he : ks.isEmpty
  · simp -implicitDefEqProofs (disch := omega) only [go_sem, Int.reduceAdd, Int.reduceSub, Int.reduceMul, dec_t, dec_f, Nat.reduceBEq, Nat.reduceBNe, reduceShiftRight, reduceAnd, Nat.reduceAdd, Nat.reduceSub, reduceEqDiff, Nat.reduceLT, reduceLeDiff, reduceToNat, Int.reduceLT, Int.reduceLE, Int.reduceEq, reduceIte, reduceCtorEq, he] at h
    rcases k0 with k | k | k <;> simp only [k] at h hkk <;> (simp -implicitDefEqProofs (disch := omega) only [go_sem, Int.reduceAdd, Int.reduceSub, Int.reduceMul, dec_t, dec_f, Nat.reduceBEq, Nat.reduceBNe, reduceShiftRight, reduceAnd, Nat.reduceAdd, Nat.reduceSub, reduceEqDiff, Nat.reduceLT, reduceLeDiff, reduceToNat, Int.reduceLT, Int.reduceLE, Int.reduceEq, reduceIte, reduceCtorEq, k, h, hkk, he])
  · have : ks = [] := List.isEmpty_iff.1 he
    subst this
    simp -implicitDefEqProofs (disch := omega) only [go_sem, Int.reduceAdd, Int.reduceSub, Int.reduceMul, dec_t, dec_f, Nat.reduceBEq, Nat.reduceBNe, reduceShiftRight, reduceAnd, Nat.reduceAdd, Nat.reduceSub, reduceEqDiff, Nat.reduceLT, reduceLeDiff, reduceToNat, Int.reduceLT, Int.reduceLE, Int.reduceEq, reduceIte, reduceCtorEq] at h
    rcases k0 with k | k | k <;> simp only [k] at h hkk <;> (simp -implicitDefEqProofs (disch := omega) only [go_sem, Int.reduceAdd, Int.reduceSub, Int.reduceMul, dec_t, dec_f, Nat.reduceBEq, Nat.reduceBNe, reduceShiftRight, reduceAnd, Nat.reduceAdd, Nat.reduceSub, reduceEqDiff, Nat.reduceLT, reduceLeDiff, reduceToNat, Int.reduceLT, Int.reduceLE, Int.reduceEq, reduceIte, reduceCtorEq, k, h, hkk])
theorem t31_7 (e : Eo) (l : Nat) (h8 : l + 1 ≤ 8) (k : num e = 7) : pureCall C 31 [(.agg [.lit (.int .i64 (cls e)), .lit (.bool (made e)), .lit (.int .i64 (num e)), .str (bs (cont e)), .sl (List.map encE (els e))]), .lit (.int .i64 (l + 1 : Nat))] = some (.one (.d (encE (mkE (cls e) (made e) (num e) (lowB (cont e)) (els e))))) := by
  have hl := els_le e
  have hkk := mk_els (cls e) (made e) (num e) (lowB (cont e)) (els e) hl
  simp only [k] at hkk
  rw [p31]
  simp -implicitDefEqProofs (disch := omega) only [go_sem, Int.reduceAdd, Int.reduceSub, Int.reduceMul, dec_t, dec_f, Nat.reduceBEq, Nat.reduceBNe, reduceShiftRight, reduceAnd, Nat.reduceAdd, Nat.reduceSub, reduceEqDiff, Nat.reduceLT, reduceLeDiff, reduceToNat, Int.reduceLT, Int.reduceLE, Int.reduceEq, reduceIte, reduceCtorEq, k, hkk]
theorem t31_9 (e : Eo) (l : Nat) (h8 : l + 1 ≤ 8) (hl : (els e).length ≤ 1000) (k : num e = 9) : pureCall C 31 [(.agg [.lit (.int .i64 (cls e)), .lit (.bool (made e)), .lit (.int .i64 (num e)), .str (bs (cont e)), .sl (List.map encE (els e))]), .lit (.int .i64 (l + 1 : Nat))] = some (.one (.d (encE (mkE (cls e) (made e) (num e) (cont e) (smX (els e)))))) := by
  obtain ⟨x', X, h⟩ := t31xk e hl (els e) [] 0 0 ⟨5, [], false, false, false⟩ (fun n => rfl) rfl rfl (Nat.le_refl _)
  have hkl : (smX (els e)).length ≤ 2 ^ 30 := Nat.le_trans (smX_len _) (els_le e)
  have hkk := mk_els (cls e) (made e) (num e) (cont e) (smX (els e)) hkl
  generalize smX (els e) = ks at h hkk hkl ⊢
  simp only [k] at hkk
  rw [p31]
  cases he : ks.isEmpty
  · simp -implicitDefEqProofs (disch := omega) only [go_sem, Int.reduceAdd, Int.reduceSub, Int.reduceMul, dec_t, dec_f, Nat.reduceBEq, Nat.reduceBNe, reduceShiftRight, reduceAnd, Nat.reduceAdd, Nat.reduceSub, reduceEqDiff, Nat.reduceLT, reduceLeDiff, reduceToNat, Int.reduceLT, Int.reduceLE, Int.reduceEq, reduceIte, reduceCtorEq, he] at h
    simp -implicitDefEqProofs (disch := omega) only [go_sem, Int.reduceAdd, Int.reduceSub, Int.reduceMul, dec_t, dec_f, Nat.reduceBEq, Nat.reduceBNe, reduceShiftRight, reduceAnd, Nat.reduceAdd, Nat.reduceSub, reduceEqDiff, Nat.reduceLT, reduceLeDiff, reduceToNat, Int.reduceLT, Int.reduceLE, Int.reduceEq, reduceIte, reduceCtorEq, k, h, hkk, he]
  · have : ks = [] := List.isEmpty_iff.1 he
    subst this
    simp -implicitDefEqProofs (disch := omega) only [go_sem, Int.reduceAdd, Int.reduceSub, Int.reduceMul, dec_t, dec_f, Nat.reduceBEq, Nat.reduceBNe, reduceShiftRight, reduceAnd, Nat.reduceAdd, Nat.reduceSub, reduceEqDiff, Nat.reduceLT, reduceLeDiff, reduceToNat, Int.reduceLT, Int.reduceLE, Int.reduceEq, reduceIte, reduceCtorEq] at h
    simp -implicitDefEqProofs (disch := omega) only [go_sem, Int.reduceAdd, Int.reduceSub, Int.reduceMul, dec_t, dec_f, Nat.reduceBEq, Nat.reduceBNe, reduceShiftRight, reduceAnd, Nat.reduceAdd, Nat.reduceSub, reduceEqDiff, Nat.reduceLT, reduceLeDiff, reduceToNat, Int.reduceLT, Int.reduceLE, Int.reduceEq, reduceIte, reduceCtorEq, k, h, hkk]
theorem t31_n (e : Eo) (l : Nat) (h8 : l + 1 ≤ 8) (k0 : ¬ num e = 0) (k1 : ¬ num e = 1) (k2 : ¬ num e = 2) (k7 : ¬ num e = 7) (k9 : ¬ num e = 9) (he : els e = []) : pureCall C 31 [(.agg [.lit (.int .i64 (cls e)), .lit (.bool (made e)), .lit (.int .i64 (num e)), .str (bs (cont e)), .sl (List.map encE (els e))]), .lit (.int .i64 (l + 1 : Nat))] = some (.one (.d (encE e))) := by
  rw [p31]
  simp -implicitDefEqProofs (disch := omega) only [go_sem, Int.reduceAdd, Int.reduceSub, Int.reduceMul, dec_t, dec_f, Nat.reduceBEq, Nat.reduceBNe, reduceShiftRight, reduceAnd, Nat.reduceAdd, Nat.reduceSub, reduceEqDiff, Nat.reduceLT, reduceLeDiff, reduceToNat, Int.reduceLT, Int.reduceLE, Int.reduceEq, reduceIte, reduceCtorEq, he]
theorem t31_o (e : Eo) (l : Nat) (h8 : l + 1 ≤ 8) (k0 : ¬ num e = 0) (k1 : ¬ num e = 1) (k2 : ¬ num e = 2) (k7 : ¬ num e = 7) (k9 : ¬ num e = 9) (a : Eo) (r : List Eo) (he : els e = a :: r) (hl : r.length ≤ 1000) : pureCall C 31 [(.agg [.lit (.int .i64 (cls e)), .lit (.bool (made e)), .lit (.int .i64 (num e)), .str (bs (cont e)), .sl (List.map encE (els e))]), .lit (.int .i64 (l + 1 : Nat))] = some (.one (.d (encE (mkE (cls e) (made e) (num e) (cont e) (mkE (cls a) (made a) (num a) (lowB (cont a)) (els a) :: r))))) := by
  have h1 := mk_els (cls e) (made e) (num e) (cont e) (mkE (cls a) (made a) (num a) (lowB (cont a)) (els a) :: r) (by simp only [List.length_cons]; omega)
  have h2 := mk_els (cls a) (made a) (num a) (lowB (cont a)) (els a) (els_le a)
  have h3 : List.take (r.length + 1 - 1) (List.map encE r) = List.map encE r := List.take_of_length_le (by rw [List.length_map]; omega)
  have h4 := fit_E r
  rw [p31]
  cases hz : r.isEmpty
  · simp -implicitDefEqProofs (disch := omega) only [go_sem, Int.reduceAdd, Int.reduceSub, Int.reduceMul, dec_t, dec_f, Nat.reduceBEq, Nat.reduceBNe, reduceShiftRight, reduceAnd, Nat.reduceAdd, Nat.reduceSub, reduceEqDiff, Nat.reduceLT, reduceLeDiff, reduceToNat, Int.reduceLT, Int.reduceLE, Int.reduceEq, reduceIte, reduceCtorEq, he, h1, h2, h3, h4, hz]
  · have : r = [] := List.isEmpty_iff.1 hz
    subst this
    simp -implicitDefEqProofs (disch := omega) only [go_sem, Int.reduceAdd, Int.reduceSub, Int.reduceMul, dec_t, dec_f, Nat.reduceBEq, Nat.reduceBNe, reduceShiftRight, reduceAnd, Nat.reduceAdd, Nat.reduceSub, reduceEqDiff, Nat.reduceLT, reduceLeDiff, reduceToNat, Int.reduceLT, Int.reduceLE, Int.reduceEq, reduceIte, reduceCtorEq, he, h1, h2]
theorem t31 : ∀ (l : Nat) (e : Eo), l ≤ 8 → Sm e → pureCall C 31 [(.agg [.lit (.int .i64 (cls e)), .lit (.bool (made e)), .lit (.int .i64 (num e)), .str (bs (cont e)), .sl (List.map encE (els e))]), .lit (.int .i64 (l : Nat))] = some (.one (.d (encE (smallO l e))))
  | 0, e, h8, hs => by
    rw [smallO]
    exact t31_z e
  | l + 1, e, h8, hs => by
    rw [smallO]
    unfold small1
    by_cases k0 : num e = 0 ∨ num e = 1 ∨ num e = 2
    · rw [if_pos k0]
      obtain ⟨x', h⟩ := t31k e (num e) l h8 hs.inv.1 (fun x hx => t31 l x (by omega) (hs.inv.2 x hx)) (els e) [] 0 0 rfl rfl (Nat.le_refl _)
      exact t31_g e l h8 hs.inv.1 k0 _ (by rw [List.length_map]; exact hs.inv.1) x' h
    rw [if_neg k0]
    have n0 : ¬ num e = 0 := fun h => k0 (.inl h)
    have n1 : ¬ num e = 1 := fun h => k0 (.inr (.inl h))
    have n2 : ¬ num e = 2 := fun h => k0 (.inr (.inr h))
    by_cases k7 : num e = 7
    · rw [if_pos k7]
      exact t31_7 e l h8 k7
    rw [if_neg k7]
    by_cases k9 : num e = 9
    · rw [if_pos k9]
      exact t31_9 e l h8 hs.inv.1 k9
    rw [if_neg k9]
    cases he : els e with
    | nil =>
      have h := t31_n e l h8 n0 n1 n2 k7 k9 he
      rw [he] at h
      exact h
    | cons a r =>
      have hl := hs.inv.1
      rw [he] at hl
      have h := t31_o e l h8 n0 n1 n2 k7 k9 a r he (by simp only [List.length_cons] at hl; omega)
      rw [he] at h
      exact h
set_option maxRecDepth 10000
set_option maxHeartbeats 2000000
theorem t14 (e : Eo) (hs : Sm e) : pureCall C 14 [(.agg [.lit (.int .i64 (cls e)), .lit (.bool (made e)), .lit (.int .i64 (num e)), .str (bs (cont e)), .sl (List.map encE (els e))])] = some (rdPR (refR e)) := by
  have h30 : pureCall C 30 [(.agg [.lit (.int .i64 (cls e)), .lit (.bool (made e)), .lit (.int .i64 (num e)), .str (bs (cont e)), .sl (List.map encE (els e))]), .lit (.int .i64 8)] = some (.one (.d (encO (guessO 8 e)))) := t30 8 e (Nat.le_refl _) hs
  have h31 : pureCall C 31 [(.agg [.lit (.int .i64 (cls e)), .lit (.bool (made e)), .lit (.int .i64 (num e)), .str (bs (cont e)), .sl (List.map encE (els e))]), .lit (.int .i64 8)] = some (.one (.d (encE (smallO 8 e)))) := t31 8 e (Nat.le_refl _) hs
  have h25 := t25 (guessO 8 e)
  unfold refR
  rw [p14]
  generalize guessO 8 e = g at h30 h25 ⊢
  generalize smallO 8 e = s at h31 ⊢
  cases h1 : chkF g
  · simp -implicitDefEqProofs (disch := omega) only [go_sem, Int.reduceAdd, Int.reduceSub, Int.reduceMul, dec_t, dec_f, Nat.reduceBEq, Nat.reduceBNe, reduceShiftRight, reduceAnd, Nat.reduceAdd, Nat.reduceSub, reduceEqDiff, Nat.reduceLT, reduceLeDiff, reduceToNat, Int.reduceLT, Int.reduceLE, Int.reduceEq, reduceIte, reduceCtorEq, h30, h1, rdPR, zF]
  · cases h2 : eqE (laidE g) s
    · simp -implicitDefEqProofs (disch := omega) only [go_sem, Int.reduceAdd, Int.reduceSub, Int.reduceMul, dec_t, dec_f, Nat.reduceBEq, Nat.reduceBNe, reduceShiftRight, reduceAnd, Nat.reduceAdd, Nat.reduceSub, reduceEqDiff, Nat.reduceLT, reduceLeDiff, reduceToNat, Int.reduceLT, Int.reduceLE, Int.reduceEq, reduceIte, reduceCtorEq, h30, h25, h31, h1, h2, rdPR, zF]
    · simp -implicitDefEqProofs (disch := omega) only [go_sem, Int.reduceAdd, Int.reduceSub, Int.reduceMul, dec_t, dec_f, Nat.reduceBEq, Nat.reduceBNe, reduceShiftRight, reduceAnd, Nat.reduceAdd, Nat.reduceSub, reduceEqDiff, Nat.reduceLT, reduceLeDiff, reduceToNat, Int.reduceLT, Int.reduceLE, Int.reduceEq, reduceIte, reduceCtorEq, h30, h25, h31, h1, h2, rdPR]
end Go.L25
