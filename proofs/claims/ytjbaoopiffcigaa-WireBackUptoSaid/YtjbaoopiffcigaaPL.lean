/- Layer 25: the program reads; elements that are few. Conditions: none. -/
import Derived.Test.YtjbaoopiffcigaaPK
set_option linter.unusedVariables false
set_option linter.unusedSimpArgs false
namespace Go.L25
open Go Go.Eng Go.Proofs
open Nat (reduceShiftRight reduceAnd reduceEqDiff reduceLeDiff)
open Int (reduceToNat)
set_option maxRecDepth 10000
set_option maxHeartbeats 1000000
attribute [go_sem] t15
theorem nameR_t {e : Eo} (h : isE e 0 4 false = true) : nameR e = .tup (.d (.str (lowL (bs (cont e))))) [.lit (.bool true)] := by unfold nameR; rw [h]; rfl
theorem nameR_f {e : Eo} (h : isE e 0 4 false = false) : nameR e = .tup (.d (.str [])) [.lit (.bool false)] := by unfold nameR; rw [h]; rfl
theorem t28_2 (a b : Eo) : pureCall C 28 [.sl [(.agg [.lit (.int .i64 (cls a)), .lit (.bool (made a)), .lit (.int .i64 (num a)), .str (bs (cont a)), .sl (List.map encE (els a))]), (.agg [.lit (.int .i64 (cls b)), .lit (.bool (made b)), .lit (.int .i64 (num b)), .str (bs (cont b)), .sl (List.map encE (els b))])]] = some (tf (snd1 a && snd1 b)) := by
  have h := t28 [a, b] (by simp)
  simpa only [List.map_cons, List.map_nil, encE_eq, List.all_cons, List.all_nil, Bool.and_true] using h
theorem t52_no (c n k : Int) (m : Bool) (t : Bs) (es : List Eo) (h : es.length ≤ 2 ^ 30) (h2 : es.length ≠ 2) (B0 B1 : Blk) :
    (C 52 [.ptr 2 1 0 0, .d (.agg [.lit (.int .i64 c), .lit (.bool m), .lit (.int .i64 n), .str (bs t), .sl (List.map encE es)])] [B0, B1, ⟨11, [(.agg [.d (.lit (.int .i64 k)), .d (.str []), .d (.str []), .d (.str []), .snil, .d (.str []), .d (.lit (.bool false)), .d (.lit (.bool false)), .d (.str []), .d (.lit (.bool false)), .snil])], false, false, false⟩]) =
      some (.d (.lit (.bool false)), [B0, B1, ⟨11, [(.agg [.d (.lit (.int .i64 k)), .d (.str []), .d (.str []), .d (.str []), .snil, .d (.str []), .d (.lit (.bool false)), .d (.lit (.bool false)), .d (.str []), .d (.lit (.bool false)), .snil])], false, false, false⟩, ⟨5, [.d (.agg [.lit (.int .i64 c), .lit (.bool m), .lit (.int .i64 n), .str (bs t), .sl (List.map encE es)])], false, false, false⟩]) := by
  rw [q52]
  simp -implicitDefEqProofs (disch := omega) only [go_sem, Int.reduceAdd, Int.reduceSub, Int.reduceMul, dec_t, dec_f, Nat.reduceBEq, Nat.reduceBNe, reduceShiftRight, reduceAnd, Nat.reduceAdd, Nat.reduceSub, reduceEqDiff, Nat.reduceLT, reduceLeDiff, reduceToNat, Int.reduceLT, Int.reduceLE, Int.reduceEq, reduceIte, reduceCtorEq]
theorem t52_ok (c n k : Int) (m : Bool) (t : Bs) (a b : Eo) (h : (snd1 a && snd1 b && isE b 0 4 false && isE a 0 4 false) = true) (B0 B1 : Blk) :
    (C 52 [.ptr 2 1 0 0, .d (.agg [.lit (.int .i64 c), .lit (.bool m), .lit (.int .i64 n), .str (bs t), .sl [(.agg [.lit (.int .i64 (cls a)), .lit (.bool (made a)), .lit (.int .i64 (num a)), .str (bs (cont a)), .sl (List.map encE (els a))]), (.agg [.lit (.int .i64 (cls b)), .lit (.bool (made b)), .lit (.int .i64 (num b)), .str (bs (cont b)), .sl (List.map encE (els b))])]])] [B0, B1, ⟨11, [(.agg [.d (.lit (.int .i64 k)), .d (.str []), .d (.str []), .d (.str []), .snil, .d (.str []), .d (.lit (.bool false)), .d (.lit (.bool false)), .d (.str []), .d (.lit (.bool false)), .snil])], false, false, false⟩]) =
      some (.d (.lit (.bool true)), [B0, B1, ⟨11, [(.agg [.d (.lit (.int .i64 k)), .d (.str (lowL (bs (cont a)))), .d (.str (bs (cont b))), .d (.str []), .snil, .d (.str []), .d (.lit (.bool false)), .d (.lit (.bool false)), .d (.str []), .d (.lit (.bool false)), .snil])], false, false, false⟩, ⟨5, [.d (.agg [.lit (.int .i64 c), .lit (.bool m), .lit (.int .i64 n), .str (bs t), .sl [(.agg [.lit (.int .i64 (cls a)), .lit (.bool (made a)), .lit (.int .i64 (num a)), .str (bs (cont a)), .sl (List.map encE (els a))]), (.agg [.lit (.int .i64 (cls b)), .lit (.bool (made b)), .lit (.int .i64 (num b)), .str (bs (cont b)), .sl (List.map encE (els b))])]])], false, false, false⟩]) := by
  simp only [Bool.and_eq_true] at h
  obtain ⟨⟨⟨h1, h2⟩, h3⟩, h4⟩ := h
  rw [q52]
  simp -implicitDefEqProofs (disch := omega) only [go_sem, Int.reduceAdd, Int.reduceSub, Int.reduceMul, dec_t, dec_f, Nat.reduceBEq, Nat.reduceBNe, reduceShiftRight, reduceAnd, Nat.reduceAdd, Nat.reduceSub, reduceEqDiff, Nat.reduceLT, reduceLeDiff, reduceToNat, Int.reduceLT, Int.reduceLE, Int.reduceEq, reduceIte, reduceCtorEq, t28_2, h1, h2, h3, nameR_t h4]
theorem t52_f (c n k : Int) (m : Bool) (t : Bs) (a b : Eo) (h : (snd1 a && snd1 b && isE b 0 4 false && isE a 0 4 false) = false) (B0 B1 : Blk) :
    ∃ v : Bs, (C 52 [.ptr 2 1 0 0, .d (.agg [.lit (.int .i64 c), .lit (.bool m), .lit (.int .i64 n), .str (bs t), .sl [(.agg [.lit (.int .i64 (cls a)), .lit (.bool (made a)), .lit (.int .i64 (num a)), .str (bs (cont a)), .sl (List.map encE (els a))]), (.agg [.lit (.int .i64 (cls b)), .lit (.bool (made b)), .lit (.int .i64 (num b)), .str (bs (cont b)), .sl (List.map encE (els b))])]])] [B0, B1, ⟨11, [(.agg [.d (.lit (.int .i64 k)), .d (.str []), .d (.str []), .d (.str []), .snil, .d (.str []), .d (.lit (.bool false)), .d (.lit (.bool false)), .d (.str []), .d (.lit (.bool false)), .snil])], false, false, false⟩]) =
      some (.d (.lit (.bool false)), [B0, B1, ⟨11, [(.agg [.d (.lit (.int .i64 k)), .d (.str []), .d (.str (bs v)), .d (.str []), .snil, .d (.str []), .d (.lit (.bool false)), .d (.lit (.bool false)), .d (.str []), .d (.lit (.bool false)), .snil])], false, false, false⟩, ⟨5, [.d (.agg [.lit (.int .i64 c), .lit (.bool m), .lit (.int .i64 n), .str (bs t), .sl [(.agg [.lit (.int .i64 (cls a)), .lit (.bool (made a)), .lit (.int .i64 (num a)), .str (bs (cont a)), .sl (List.map encE (els a))]), (.agg [.lit (.int .i64 (cls b)), .lit (.bool (made b)), .lit (.int .i64 (num b)), .str (bs (cont b)), .sl (List.map encE (els b))])]])], false, false, false⟩]) := by
  rw [q52]
  cases h1 : (snd1 a && snd1 b)
  · refine ⟨b0, ?_⟩
    simp -implicitDefEqProofs (disch := omega) only [go_sem, Int.reduceAdd, Int.reduceSub, Int.reduceMul, dec_t, dec_f, Nat.reduceBEq, Nat.reduceBNe, reduceShiftRight, reduceAnd, Nat.reduceAdd, Nat.reduceSub, reduceEqDiff, Nat.reduceLT, reduceLeDiff, reduceToNat, Int.reduceLT, Int.reduceLE, Int.reduceEq, reduceIte, reduceCtorEq, t28_2, h1]
  · cases h3 : isE b 0 4 false
    · refine ⟨b0, ?_⟩
      simp -implicitDefEqProofs (disch := omega) only [go_sem, Int.reduceAdd, Int.reduceSub, Int.reduceMul, dec_t, dec_f, Nat.reduceBEq, Nat.reduceBNe, reduceShiftRight, reduceAnd, Nat.reduceAdd, Nat.reduceSub, reduceEqDiff, Nat.reduceLT, reduceLeDiff, reduceToNat, Int.reduceLT, Int.reduceLE, Int.reduceEq, reduceIte, reduceCtorEq, t28_2, h1, h3]
    · refine ⟨cont b, ?_⟩
      rw [h1, h3] at h
      simp -implicitDefEqProofs (disch := omega) only [go_sem, Int.reduceAdd, Int.reduceSub, Int.reduceMul, dec_t, dec_f, Nat.reduceBEq, Nat.reduceBNe, reduceShiftRight, reduceAnd, Nat.reduceAdd, Nat.reduceSub, reduceEqDiff, Nat.reduceLT, reduceLeDiff, reduceToNat, Int.reduceLT, Int.reduceLE, Int.reduceEq, reduceIte, reduceCtorEq, t28_2, h1, h3, nameR_f (show isE a 0 4 false = false from h)]
set_option maxRecDepth 10000
set_option maxHeartbeats 1000000
theorem isE_num {e : Eo} {c n n' : Int} {m : Bool} (h : isE e c n m = true) (hn : n ≠ n') : isE e c n' m = false := by
  unfold isE at h ⊢
  simp only [Bool.and_eq_true, decide_eq_true_eq] at h
  rw [h.1.2, decide_eq_false hn, Bool.and_false, Bool.false_and]
theorem t50_0 (k : Int) (nm : List UInt8) (w : Bool) (L : List Eo) (hl : L.length ≤ 1000) (B0 B1 B3 : Blk) (u0 : ∀ n, AV.under1s n B0.elems = true) (u1 : ∀ n, AV.under1s n B1.elems = true) (u3 : ∀ n, AV.under1s n B3.elems = true) (j : Nat) (p : Pc) (x : Int) (X : D) (c : Eo) (r : List Eo) (hx : x = j) (hd : L.drop j = c :: r) (ha : p.a.length ≤ j) (c1 : isE c 2 0 false = true) (hj : j = 0) :
    n50_22 ⟨[(0, .ptr 2 1 0 0), (7, .d (.lit (.bool w))), (8, .d (.sl (List.map encE L))), (51, .d (.sl (List.map encE L))), (52, .d (.lit (.int .i64 L.length))), (53, .d (.lit (.int .i64 x)))], (B0 :: B1 :: ⟨11, [(.agg [.d (.lit (.int .i64 k)), .d (.str nm), .d (.str []), .d (.str (bs (p).i)), (bif (p).a.isEmpty then .snil else .sref 5 (p).a.length 1 0 (p).a.length), .d (.str (bs (p).f)), .d (.lit (.bool (p).x)), .d (.lit (.bool (p).y)), .d (.str []), .d (.lit (.bool false)), .snil])], false, false, false⟩ :: B3 :: (bif (p).a.isEmpty then [] else [⟨5, [.d X], false, false, false⟩, ⟨1, List.map AV.d (List.map encS (p).a), true, true, false⟩]))⟩ = n50_22 ⟨[(0, .ptr 2 1 0 0), (7, .d (.lit (.bool w))), (8, .d (.sl (List.map encE L))), (51, .d (.sl (List.map encE L))), (52, .d (.lit (.int .i64 L.length))), (53, .d (.lit (.int .i64 (x + 1))))], (B0 :: B1 :: ⟨11, [(.agg [.d (.lit (.int .i64 k)), .d (.str nm), .d (.str []), .d (.str (bs (Pc.mk (cont c) p.a p.f true p.y).i)), (bif (Pc.mk (cont c) p.a p.f true p.y).a.isEmpty then .snil else .sref 5 (Pc.mk (cont c) p.a p.f true p.y).a.length 1 0 (Pc.mk (cont c) p.a p.f true p.y).a.length), .d (.str (bs (Pc.mk (cont c) p.a p.f true p.y).f)), .d (.lit (.bool (Pc.mk (cont c) p.a p.f true p.y).x)), .d (.lit (.bool (Pc.mk (cont c) p.a p.f true p.y).y)), .d (.str []), .d (.lit (.bool false)), .snil])], false, false, false⟩ :: B3 :: (bif (Pc.mk (cont c) p.a p.f true p.y).a.isEmpty then [] else [⟨5, [.d X], false, false, false⟩, ⟨1, List.map AV.d (List.map encS (Pc.mk (cont c) p.a p.f true p.y).a), true, true, false⟩]))⟩ := by
  obtain ⟨g1, g2, g3, g4⟩ := drop_cons hd
  have hnat : Int.toNat x = j := by omega
  have hr : L.length = j + 1 + r.length := by
    have := congrArg List.length hd
    simp only [List.length_drop, List.length_cons] at this
    omega
  rw [r_n50_22]
  cases he : p.a.isEmpty <;> (simp -implicitDefEqProofs (disch := omega) only [go_sem, Int.reduceAdd, Int.reduceSub, Int.reduceMul, dec_t, dec_f, Nat.reduceBEq, Nat.reduceBNe, reduceShiftRight, reduceAnd, Nat.reduceAdd, Nat.reduceSub, reduceEqDiff, Nat.reduceLT, reduceLeDiff, reduceToNat, Int.reduceLT, Int.reduceLE, Int.reduceEq, reduceIte, reduceCtorEq, he, g2, hnat, c1, u0, u1, u3])
theorem t50_1 (k : Int) (nm : List UInt8) (w : Bool) (L : List Eo) (hl : L.length ≤ 1000) (B0 B1 B3 : Blk) (u0 : ∀ n, AV.under1s n B0.elems = true) (u1 : ∀ n, AV.under1s n B1.elems = true) (u3 : ∀ n, AV.under1s n B3.elems = true) (j : Nat) (p : Pc) (x : Int) (X : D) (c : Eo) (r : List Eo) (hx : x = j) (hd : L.drop j = c :: r) (ha : p.a.length ≤ j) (c1 : isE c 2 1 false = true) :
    ∃ X2 : D, n50_22 ⟨[(0, .ptr 2 1 0 0), (7, .d (.lit (.bool w))), (8, .d (.sl (List.map encE L))), (51, .d (.sl (List.map encE L))), (52, .d (.lit (.int .i64 L.length))), (53, .d (.lit (.int .i64 x)))], (B0 :: B1 :: ⟨11, [(.agg [.d (.lit (.int .i64 k)), .d (.str nm), .d (.str []), .d (.str (bs (p).i)), (bif (p).a.isEmpty then .snil else .sref 5 (p).a.length 1 0 (p).a.length), .d (.str (bs (p).f)), .d (.lit (.bool (p).x)), .d (.lit (.bool (p).y)), .d (.str []), .d (.lit (.bool false)), .snil])], false, false, false⟩ :: B3 :: (bif (p).a.isEmpty then [] else [⟨5, [.d X], false, false, false⟩, ⟨1, List.map AV.d (List.map encS (p).a), true, true, false⟩]))⟩ = n50_22 ⟨[(0, .ptr 2 1 0 0), (7, .d (.lit (.bool w))), (8, .d (.sl (List.map encE L))), (51, .d (.sl (List.map encE L))), (52, .d (.lit (.int .i64 L.length))), (53, .d (.lit (.int .i64 (x + 1))))], (B0 :: B1 :: ⟨11, [(.agg [.d (.lit (.int .i64 k)), .d (.str nm), .d (.str []), .d (.str (bs (Pc.mk p.i (p.a ++ [cont c]) p.f p.x p.y).i)), (bif (Pc.mk p.i (p.a ++ [cont c]) p.f p.x p.y).a.isEmpty then .snil else .sref 5 (Pc.mk p.i (p.a ++ [cont c]) p.f p.x p.y).a.length 1 0 (Pc.mk p.i (p.a ++ [cont c]) p.f p.x p.y).a.length), .d (.str (bs (Pc.mk p.i (p.a ++ [cont c]) p.f p.x p.y).f)), .d (.lit (.bool (Pc.mk p.i (p.a ++ [cont c]) p.f p.x p.y).x)), .d (.lit (.bool (Pc.mk p.i (p.a ++ [cont c]) p.f p.x p.y).y)), .d (.str []), .d (.lit (.bool false)), .snil])], false, false, false⟩ :: B3 :: (bif (Pc.mk p.i (p.a ++ [cont c]) p.f p.x p.y).a.isEmpty then [] else [⟨5, [.d X2], false, false, false⟩, ⟨1, List.map AV.d (List.map encS (Pc.mk p.i (p.a ++ [cont c]) p.f p.x p.y).a), true, true, false⟩]))⟩ := by
  obtain ⟨g1, g2, g3, g4⟩ := drop_cons hd
  have hnat : Int.toNat x = j := by omega
  have hr : L.length = j + 1 + r.length := by
    have := congrArg List.length hd
    simp only [List.length_drop, List.length_cons] at this
    omega
  have c0 := isE_num (n' := 0) c1 (by decide)
  rw [r_n50_22]
  cases he : p.a.isEmpty
  · refine ⟨X, ?_⟩
    simp -implicitDefEqProofs (disch := omega) only [go_sem, Int.reduceAdd, Int.reduceSub, Int.reduceMul, dec_t, dec_f, Nat.reduceBEq, Nat.reduceBNe, reduceShiftRight, reduceAnd, Nat.reduceAdd, Nat.reduceSub, reduceEqDiff, Nat.reduceLT, reduceLeDiff, reduceToNat, Int.reduceLT, Int.reduceLE, Int.reduceEq, reduceIte, reduceCtorEq, he, g2, hnat, c0, c1, u0, u1, u3]
  · refine ⟨(.agg [.lit (.int .i64 (cls c)), .lit (.bool (made c)), .lit (.int .i64 (num c)), .str (bs (cont c)), .sl (List.map encE (els c))]), ?_⟩
    have : p.a = [] := List.isEmpty_iff.1 he
    simp -implicitDefEqProofs (disch := omega) only [go_sem, Int.reduceAdd, Int.reduceSub, Int.reduceMul, dec_t, dec_f, Nat.reduceBEq, Nat.reduceBNe, reduceShiftRight, reduceAnd, Nat.reduceAdd, Nat.reduceSub, reduceEqDiff, Nat.reduceLT, reduceLeDiff, reduceToNat, Int.reduceLT, Int.reduceLE, Int.reduceEq, reduceIte, reduceCtorEq, he, this, g2, hnat, c0, c1, u0, u1, u3]
theorem t50_2 (k : Int) (nm : List UInt8) (w : Bool) (L : List Eo) (hl : L.length ≤ 1000) (B0 B1 B3 : Blk) (u0 : ∀ n, AV.under1s n B0.elems = true) (u1 : ∀ n, AV.under1s n B1.elems = true) (u3 : ∀ n, AV.under1s n B3.elems = true) (j : Nat) (p : Pc) (x : Int) (X : D) (c : Eo) (r : List Eo) (hx : x = j) (hd : L.drop j = c :: r) (ha : p.a.length ≤ j) (c1 : isE c 2 2 false = true) (hre : r = []) :
    n50_22 ⟨[(0, .ptr 2 1 0 0), (7, .d (.lit (.bool w))), (8, .d (.sl (List.map encE L))), (51, .d (.sl (List.map encE L))), (52, .d (.lit (.int .i64 L.length))), (53, .d (.lit (.int .i64 x)))], (B0 :: B1 :: ⟨11, [(.agg [.d (.lit (.int .i64 k)), .d (.str nm), .d (.str []), .d (.str (bs (p).i)), (bif (p).a.isEmpty then .snil else .sref 5 (p).a.length 1 0 (p).a.length), .d (.str (bs (p).f)), .d (.lit (.bool (p).x)), .d (.lit (.bool (p).y)), .d (.str []), .d (.lit (.bool false)), .snil])], false, false, false⟩ :: B3 :: (bif (p).a.isEmpty then [] else [⟨5, [.d X], false, false, false⟩, ⟨1, List.map AV.d (List.map encS (p).a), true, true, false⟩]))⟩ = n50_22 ⟨[(0, .ptr 2 1 0 0), (7, .d (.lit (.bool w))), (8, .d (.sl (List.map encE L))), (51, .d (.sl (List.map encE L))), (52, .d (.lit (.int .i64 L.length))), (53, .d (.lit (.int .i64 (x + 1))))], (B0 :: B1 :: ⟨11, [(.agg [.d (.lit (.int .i64 k)), .d (.str nm), .d (.str []), .d (.str (bs (Pc.mk p.i p.a (cont c) p.x true).i)), (bif (Pc.mk p.i p.a (cont c) p.x true).a.isEmpty then .snil else .sref 5 (Pc.mk p.i p.a (cont c) p.x true).a.length 1 0 (Pc.mk p.i p.a (cont c) p.x true).a.length), .d (.str (bs (Pc.mk p.i p.a (cont c) p.x true).f)), .d (.lit (.bool (Pc.mk p.i p.a (cont c) p.x true).x)), .d (.lit (.bool (Pc.mk p.i p.a (cont c) p.x true).y)), .d (.str []), .d (.lit (.bool false)), .snil])], false, false, false⟩ :: B3 :: (bif (Pc.mk p.i p.a (cont c) p.x true).a.isEmpty then [] else [⟨5, [.d X], false, false, false⟩, ⟨1, List.map AV.d (List.map encS (Pc.mk p.i p.a (cont c) p.x true).a), true, true, false⟩]))⟩ := by
  obtain ⟨g1, g2, g3, g4⟩ := drop_cons hd
  have hnat : Int.toNat x = j := by omega
  have hr : L.length = j + 1 + r.length := by
    have := congrArg List.length hd
    simp only [List.length_drop, List.length_cons] at this
    omega
  have c0 := isE_num (n' := 0) c1 (by decide)
  have c2 := isE_num (n' := 1) c1 (by decide)
  have hrl : r.length = 0 := by rw [hre]; rfl
  rw [r_n50_22]
  cases he : p.a.isEmpty <;> (simp -implicitDefEqProofs (disch := omega) only [go_sem, Int.reduceAdd, Int.reduceSub, Int.reduceMul, dec_t, dec_f, Nat.reduceBEq, Nat.reduceBNe, reduceShiftRight, reduceAnd, Nat.reduceAdd, Nat.reduceSub, reduceEqDiff, Nat.reduceLT, reduceLeDiff, reduceToNat, Int.reduceLT, Int.reduceLE, Int.reduceEq, reduceIte, reduceCtorEq, he, g2, hnat, c0, c1, c2, u0, u1, u3])
theorem t50_f (k : Int) (nm : List UInt8) (w : Bool) (L : List Eo) (hl : L.length ≤ 1000) (B0 B1 B3 : Blk) (u0 : ∀ n, AV.under1s n B0.elems = true) (u1 : ∀ n, AV.under1s n B1.elems = true) (u3 : ∀ n, AV.under1s n B3.elems = true) (j : Nat) (p : Pc) (x : Int) (X : D) (c : Eo) (r : List Eo) (hx : x = j) (hd : L.drop j = c :: r) (ha : p.a.length ≤ j) (c0 : (isE c 2 0 false && decide (j = 0)) = false) (c1 : isE c 2 1 false = false) (c2 : (isE c 2 2 false && r.isEmpty) = false) :
    ∃ T : Store, n50_22 ⟨[(0, .ptr 2 1 0 0), (7, .d (.lit (.bool w))), (8, .d (.sl (List.map encE L))), (51, .d (.sl (List.map encE L))), (52, .d (.lit (.int .i64 L.length))), (53, .d (.lit (.int .i64 x)))], (B0 :: B1 :: ⟨11, [(.agg [.d (.lit (.int .i64 k)), .d (.str nm), .d (.str []), .d (.str (bs (p).i)), (bif (p).a.isEmpty then .snil else .sref 5 (p).a.length 1 0 (p).a.length), .d (.str (bs (p).f)), .d (.lit (.bool (p).x)), .d (.lit (.bool (p).y)), .d (.str []), .d (.lit (.bool false)), .snil])], false, false, false⟩ :: B3 :: (bif (p).a.isEmpty then [] else [⟨5, [.d X], false, false, false⟩, ⟨1, List.map AV.d (List.map encS (p).a), true, true, false⟩]))⟩ = some (.ret, ⟨[(4, .d (.lit (.bool false)))], (B0 :: B1 :: ⟨11, [(.agg [.d (.lit (.int .i64 k)), .d (.str nm), .d (.str []), .d (.str (bs (p).i)), (bif (p).a.isEmpty then .snil else .sref 5 (p).a.length 1 0 (p).a.length), .d (.str (bs (p).f)), .d (.lit (.bool (p).x)), .d (.lit (.bool (p).y)), .d (.str []), .d (.lit (.bool false)), .snil])], false, false, false⟩ :: B3 :: (bif (p).a.isEmpty then [] else [⟨5, [.d X], false, false, false⟩, ⟨1, List.map AV.d (List.map encS (p).a), true, true, false⟩])) ++ T⟩) := by
  obtain ⟨g1, g2, g3, g4⟩ := drop_cons hd
  have hnat : Int.toNat x = j := by omega
  have hr : L.length = j + 1 + r.length := by
    have := congrArg List.length hd
    simp only [List.length_drop, List.length_cons] at this
    omega
  refine ⟨[⟨5, [.d (.agg [.lit (.int .i64 (cls c)), .lit (.bool (made c)), .lit (.int .i64 (num c)), .str (bs (cont c)), .sl (List.map encE (els c))])], false, false, false⟩], ?_⟩
  rw [r_n50_22]
  have d0 : isE c 2 0 false = false ∨ (isE c 2 0 false = true ∧ 0 < j) := by
    cases q : isE c 2 0 false
    · exact .inl rfl
    · rw [q] at c0
      have : ¬ j = 0 := by simpa using c0
      exact .inr ⟨rfl, by omega⟩
  have d2 : isE c 2 2 false = false ∨ (isE c 2 2 false = true ∧ 0 < r.length) := by
    cases q : isE c 2 2 false
    · exact .inl rfl
    · rw [q] at c2
      refine .inr ⟨rfl, ?_⟩
      cases r with
      | nil => cases c2
      | cons a b => simp
  rcases d0 with d0 | ⟨d0, dj⟩ <;> rcases d2 with d2 | ⟨d2, dr⟩ <;> cases he : p.a.isEmpty <;> (simp -implicitDefEqProofs (disch := omega) only [go_sem, Int.reduceAdd, Int.reduceSub, Int.reduceMul, dec_t, dec_f, Nat.reduceBEq, Nat.reduceBNe, reduceShiftRight, reduceAnd, Nat.reduceAdd, Nat.reduceSub, reduceEqDiff, Nat.reduceLT, reduceLeDiff, reduceToNat, Int.reduceLT, Int.reduceLE, Int.reduceEq, reduceIte, reduceCtorEq, he, g2, hnat, d0, d2, c1, u0, u1, u3])
theorem t50_e (k : Int) (nm : List UInt8) (w : Bool) (L : List Eo) (hl : L.length ≤ 1000) (B0 B1 B3 : Blk) (u0 : ∀ n, AV.under1s n B0.elems = true) (u1 : ∀ n, AV.under1s n B1.elems = true) (u3 : ∀ n, AV.under1s n B3.elems = true) (j : Nat) (p : Pc) (x : Int) (X : D) (hx : x = j) (hd : L.drop j = []) :
    ∃ x', n50_22 ⟨[(0, .ptr 2 1 0 0), (7, .d (.lit (.bool w))), (8, .d (.sl (List.map encE L))), (51, .d (.sl (List.map encE L))), (52, .d (.lit (.int .i64 L.length))), (53, .d (.lit (.int .i64 x)))], (B0 :: B1 :: ⟨11, [(.agg [.d (.lit (.int .i64 k)), .d (.str nm), .d (.str []), .d (.str (bs (p).i)), (bif (p).a.isEmpty then .snil else .sref 5 (p).a.length 1 0 (p).a.length), .d (.str (bs (p).f)), .d (.lit (.bool (p).x)), .d (.lit (.bool (p).y)), .d (.str []), .d (.lit (.bool false)), .snil])], false, false, false⟩ :: B3 :: (bif (p).a.isEmpty then [] else [⟨5, [.d X], false, false, false⟩, ⟨1, List.map AV.d (List.map encS (p).a), true, true, false⟩]))⟩ = some (.exit 0, ⟨[(0, .ptr 2 1 0 0), (7, .d (.lit (.bool w))), (8, .d (.sl (List.map encE L))), (51, .d (.sl (List.map encE L))), (52, .d (.lit (.int .i64 L.length))), (53, x'), (54, .d (.lit (.bool false)))], (B0 :: B1 :: ⟨11, [(.agg [.d (.lit (.int .i64 k)), .d (.str nm), .d (.str []), .d (.str (bs (p).i)), (bif (p).a.isEmpty then .snil else .sref 5 (p).a.length 1 0 (p).a.length), .d (.str (bs (p).f)), .d (.lit (.bool (p).x)), .d (.lit (.bool (p).y)), .d (.str []), .d (.lit (.bool false)), .snil])], false, false, false⟩ :: B3 :: (bif (p).a.isEmpty then [] else [⟨5, [.d X], false, false, false⟩, ⟨1, List.map AV.d (List.map encS (p).a), true, true, false⟩]))⟩) := by
  have hd := drop_nil hd
  refine ⟨.d (.lit (.int .i64 x)), ?_⟩
  rw [r_n50_22]
  cases he : p.a.isEmpty <;> (simp -implicitDefEqProofs (disch := omega) only [go_sem, Int.reduceAdd, Int.reduceSub, Int.reduceMul, dec_t, dec_f, Nat.reduceBEq, Nat.reduceBNe, reduceShiftRight, reduceAnd, Nat.reduceAdd, Nat.reduceSub, reduceEqDiff, Nat.reduceLT, reduceLeDiff, reduceToNat, Int.reduceLT, Int.reduceLE, Int.reduceEq, reduceIte, reduceCtorEq, he])
theorem t50k (k : Int) (nm : List UInt8) (w : Bool) (L : List Eo) (hl : L.length ≤ 1000) (B0 B1 B3 : Blk) (u0 : ∀ n, AV.under1s n B0.elems = true) (u1 : ∀ n, AV.under1s n B1.elems = true) (u3 : ∀ n, AV.under1s n B3.elems = true) : ∀ (r : List Eo) (j : Nat) (p : Pc) (x : Int) (X : D), x = j → L.drop j = r → p.a.length ≤ j →
    (∀ q, rPc r j p = some q → ∃ x' X', n50_22 ⟨[(0, .ptr 2 1 0 0), (7, .d (.lit (.bool w))), (8, .d (.sl (List.map encE L))), (51, .d (.sl (List.map encE L))), (52, .d (.lit (.int .i64 L.length))), (53, .d (.lit (.int .i64 x)))], (B0 :: B1 :: ⟨11, [(.agg [.d (.lit (.int .i64 k)), .d (.str nm), .d (.str []), .d (.str (bs (p).i)), (bif (p).a.isEmpty then .snil else .sref 5 (p).a.length 1 0 (p).a.length), .d (.str (bs (p).f)), .d (.lit (.bool (p).x)), .d (.lit (.bool (p).y)), .d (.str []), .d (.lit (.bool false)), .snil])], false, false, false⟩ :: B3 :: (bif (p).a.isEmpty then [] else [⟨5, [.d X], false, false, false⟩, ⟨1, List.map AV.d (List.map encS (p).a), true, true, false⟩]))⟩ = some (.exit 0, ⟨[(0, .ptr 2 1 0 0), (7, .d (.lit (.bool w))), (8, .d (.sl (List.map encE L))), (51, .d (.sl (List.map encE L))), (52, .d (.lit (.int .i64 L.length))), (53, x'), (54, .d (.lit (.bool false)))], (B0 :: B1 :: ⟨11, [(.agg [.d (.lit (.int .i64 k)), .d (.str nm), .d (.str []), .d (.str (bs (q).i)), (bif (q).a.isEmpty then .snil else .sref 5 (q).a.length 1 0 (q).a.length), .d (.str (bs (q).f)), .d (.lit (.bool (q).x)), .d (.lit (.bool (q).y)), .d (.str []), .d (.lit (.bool false)), .snil])], false, false, false⟩ :: B3 :: (bif (q).a.isEmpty then [] else [⟨5, [.d X'], false, false, false⟩, ⟨1, List.map AV.d (List.map encS (q).a), true, true, false⟩]))⟩)) ∧
    (rPc r j p = none → ∃ (q : Pc) (X' : D) (T : Store), q.a.length ≤ 1000 ∧ n50_22 ⟨[(0, .ptr 2 1 0 0), (7, .d (.lit (.bool w))), (8, .d (.sl (List.map encE L))), (51, .d (.sl (List.map encE L))), (52, .d (.lit (.int .i64 L.length))), (53, .d (.lit (.int .i64 x)))], (B0 :: B1 :: ⟨11, [(.agg [.d (.lit (.int .i64 k)), .d (.str nm), .d (.str []), .d (.str (bs (p).i)), (bif (p).a.isEmpty then .snil else .sref 5 (p).a.length 1 0 (p).a.length), .d (.str (bs (p).f)), .d (.lit (.bool (p).x)), .d (.lit (.bool (p).y)), .d (.str []), .d (.lit (.bool false)), .snil])], false, false, false⟩ :: B3 :: (bif (p).a.isEmpty then [] else [⟨5, [.d X], false, false, false⟩, ⟨1, List.map AV.d (List.map encS (p).a), true, true, false⟩]))⟩ = some (.ret, ⟨[(4, .d (.lit (.bool false)))], (B0 :: B1 :: ⟨11, [(.agg [.d (.lit (.int .i64 k)), .d (.str nm), .d (.str []), .d (.str (bs (q).i)), (bif (q).a.isEmpty then .snil else .sref 5 (q).a.length 1 0 (q).a.length), .d (.str (bs (q).f)), .d (.lit (.bool (q).x)), .d (.lit (.bool (q).y)), .d (.str []), .d (.lit (.bool false)), .snil])], false, false, false⟩ :: B3 :: (bif (q).a.isEmpty then [] else [⟨5, [.d X'], false, false, false⟩, ⟨1, List.map AV.d (List.map encS (q).a), true, true, false⟩])) ++ T⟩))
  | [], j, p, x, X, hx, hd, ha => by
    rw [rPc]
    refine ⟨fun q hq => ?_, fun h => by cases h⟩
    obtain ⟨x', h⟩ := t50_e k nm w L hl B0 B1 B3 u0 u1 u3 j p x X hx hd
    rw [← Option.some.inj hq]
    exact ⟨x', X, h⟩
  | c :: r, j, p, x, X, hx, hd, ha => by
    have g3 := (drop_cons hd).2.2.1
    have g1 := (drop_cons hd).1
    rw [rPc]
    split
    · rename_i c0
      simp only [Bool.and_eq_true, decide_eq_true_eq] at c0
      rw [t50_0 k nm w L hl B0 B1 B3 u0 u1 u3 j p x X c r hx hd ha c0.1 c0.2]
      exact t50k k nm w L hl B0 B1 B3 u0 u1 u3 r (j + 1) (Pc.mk (cont c) p.a p.f true p.y) (x + 1) X (by omega) g3 (by show p.a.length ≤ _; omega)
    · rename_i c0
      split
      · rename_i c1
        obtain ⟨X2, h⟩ := t50_1 k nm w L hl B0 B1 B3 u0 u1 u3 j p x X c r hx hd ha c1
        rw [h]
        exact t50k k nm w L hl B0 B1 B3 u0 u1 u3 r (j + 1) (Pc.mk p.i (p.a ++ [cont c]) p.f p.x p.y) (x + 1) X2 (by omega) g3 (by show (p.a ++ [cont c]).length ≤ _; rw [List.length_append]; simp only [List.length_cons, List.length_nil]; omega)
      · rename_i c1
        split
        · rename_i c2
          simp only [Bool.and_eq_true, List.isEmpty_iff] at c2
          rw [t50_2 k nm w L hl B0 B1 B3 u0 u1 u3 j p x X c r hx hd ha c2.1 c2.2]
          exact t50k k nm w L hl B0 B1 B3 u0 u1 u3 r (j + 1) (Pc.mk p.i p.a (cont c) p.x true) (x + 1) X (by omega) g3 (by show p.a.length ≤ _; omega)
        · rename_i c2
          refine ⟨fun q hq => (by cases hq), fun _ => ?_⟩
          obtain ⟨T, h⟩ := t50_f k nm w L hl B0 B1 B3 u0 u1 u3 j p x X c r hx hd ha (by simpa using c0) (by simpa using c1) (by simpa using c2)
          exact ⟨p, X, T, by omega, h⟩
theorem t28_l (L : List Eo) (hl : L.length ≤ 1000) : pureCall C 28 [.sl (List.map encE L)] = some (tf (L.all snd1)) := t28 L (by omega)
theorem t50_no (c n k : Int) (m : Bool) (t : Bs) (es : List Eo) (h : es.length ≤ 1000) (h2 : es.length ≠ 2) (B0 B1 : Blk) :
    C 50 [.ptr 2 1 0 0, .d (.agg [.lit (.int .i64 c), .lit (.bool m), .lit (.int .i64 n), .str (bs t), .sl (List.map encE es)])] [B0, B1, ⟨11, [(.agg [.d (.lit (.int .i64 k)), .d (.str []), .d (.str []), .d (.str []), .snil, .d (.str []), .d (.lit (.bool false)), .d (.lit (.bool false)), .d (.str []), .d (.lit (.bool false)), .snil])], false, false, false⟩] = some (.d (.lit (.bool false)), [B0, B1, ⟨11, [(.agg [.d (.lit (.int .i64 k)), .d (.str []), .d (.str []), .d (.str []), .snil, .d (.str []), .d (.lit (.bool false)), .d (.lit (.bool false)), .d (.str []), .d (.lit (.bool false)), .snil])], false, false, false⟩, ⟨5, [.d (.agg [.lit (.int .i64 c), .lit (.bool m), .lit (.int .i64 n), .str (bs t), .sl (List.map encE es)])], false, false, false⟩]) := by
  rw [q50]
  simp -implicitDefEqProofs (disch := omega) only [go_sem, Int.reduceAdd, Int.reduceSub, Int.reduceMul, dec_t, dec_f, Nat.reduceBEq, Nat.reduceBNe, reduceShiftRight, reduceAnd, Nat.reduceAdd, Nat.reduceSub, reduceEqDiff, Nat.reduceLT, reduceLeDiff, reduceToNat, Int.reduceLT, Int.reduceLE, Int.reduceEq, reduceIte, reduceCtorEq]
theorem t50_ok (c n k : Int) (m : Bool) (t : Bs) (a b : Eo) (hl : (els b).length ≤ 1000) (h : (snd1 a && snd1 b && isE b 0 16 true && (els b).all snd1 && isE a 0 4 false) = true) (B0 B1 : Blk) (u0 : ∀ n, AV.under1s n B0.elems = true) (u1 : ∀ n, AV.under1s n B1.elems = true) (q : Pc) (hq : rPc (els b) 0 pz = some q) :
    ∃ X, C 50 [.ptr 2 1 0 0, .d (.agg [.lit (.int .i64 c), .lit (.bool m), .lit (.int .i64 n), .str (bs t), .sl [(.agg [.lit (.int .i64 (cls a)), .lit (.bool (made a)), .lit (.int .i64 (num a)), .str (bs (cont a)), .sl (List.map encE (els a))]), (.agg [.lit (.int .i64 (cls b)), .lit (.bool (made b)), .lit (.int .i64 (num b)), .str (bs (cont b)), .sl (List.map encE (els b))])]])] [B0, B1, ⟨11, [(.agg [.d (.lit (.int .i64 k)), .d (.str []), .d (.str []), .d (.str []), .snil, .d (.str []), .d (.lit (.bool false)), .d (.lit (.bool false)), .d (.str []), .d (.lit (.bool false)), .snil])], false, false, false⟩] = some (.d (.lit (.bool true)), (B0 :: B1 :: ⟨11, [(.agg [.d (.lit (.int .i64 k)), .d (.str (lowL (bs (cont a)))), .d (.str []), .d (.str (bs (q).i)), (bif (q).a.isEmpty then .snil else .sref 5 (q).a.length 1 0 (q).a.length), .d (.str (bs (q).f)), .d (.lit (.bool (q).x)), .d (.lit (.bool (q).y)), .d (.str []), .d (.lit (.bool false)), .snil])], false, false, false⟩ :: ⟨5, [.d (.agg [.lit (.int .i64 c), .lit (.bool m), .lit (.int .i64 n), .str (bs t), .sl [(.agg [.lit (.int .i64 (cls a)), .lit (.bool (made a)), .lit (.int .i64 (num a)), .str (bs (cont a)), .sl (List.map encE (els a))]), (.agg [.lit (.int .i64 (cls b)), .lit (.bool (made b)), .lit (.int .i64 (num b)), .str (bs (cont b)), .sl (List.map encE (els b))])]])], false, false, false⟩ :: (bif (q).a.isEmpty then [] else [⟨5, [.d X], false, false, false⟩, ⟨1, List.map AV.d (List.map encS (q).a), true, true, false⟩]))) := by
  simp only [Bool.and_eq_true] at h
  obtain ⟨⟨⟨⟨h1, h2⟩, h3⟩, h4⟩, h5⟩ := h
  obtain ⟨x', X', g⟩ := (t50k k (lowL (bs (cont a))) true (els b) hl B0 B1 ⟨5, [.d (.agg [.lit (.int .i64 c), .lit (.bool m), .lit (.int .i64 n), .str (bs t), .sl [(.agg [.lit (.int .i64 (cls a)), .lit (.bool (made a)), .lit (.int .i64 (num a)), .str (bs (cont a)), .sl (List.map encE (els a))]), (.agg [.lit (.int .i64 (cls b)), .lit (.bool (made b)), .lit (.int .i64 (num b)), .str (bs (cont b)), .sl (List.map encE (els b))])]])], false, false, false⟩ u0 u1 (fun n => rfl) (els b) 0 pz 0 (.str []) rfl rfl (Nat.le_refl _)).1 q hq
  refine ⟨X', ?_⟩
  rw [q50]
  simp only [pz] at g
  simp -implicitDefEqProofs (disch := omega) only [go_sem, Int.reduceAdd, Int.reduceSub, Int.reduceMul, dec_t, dec_f, Nat.reduceBEq, Nat.reduceBNe, reduceShiftRight, reduceAnd, Nat.reduceAdd, Nat.reduceSub, reduceEqDiff, Nat.reduceLT, reduceLeDiff, reduceToNat, Int.reduceLT, Int.reduceLE, Int.reduceEq, reduceIte, reduceCtorEq] at g
  cases he : q.a.isEmpty <;> simp only [he, cond_true, cond_false] at g <;> (simp -implicitDefEqProofs (disch := omega) only [go_sem, Int.reduceAdd, Int.reduceSub, Int.reduceMul, dec_t, dec_f, Nat.reduceBEq, Nat.reduceBNe, reduceShiftRight, reduceAnd, Nat.reduceAdd, Nat.reduceSub, reduceEqDiff, Nat.reduceLT, reduceLeDiff, reduceToNat, Int.reduceLT, Int.reduceLE, Int.reduceEq, reduceIte, reduceCtorEq, he, t28_2, t28_l (els b) hl, h1, h2, h3, h4, nameR_t h5, g])
theorem t50_n (c n k : Int) (m : Bool) (t : Bs) (a b : Eo) (hl : (els b).length ≤ 1000) (h : ¬ ((snd1 a && snd1 b && isE b 0 16 true && (els b).all snd1 && isE a 0 4 false) = true ∧ ∃ q, rPc (els b) 0 pz = some q)) (B0 B1 : Blk) (u0 : ∀ n, AV.under1s n B0.elems = true) (u1 : ∀ n, AV.under1s n B1.elems = true) :
    ∃ (s : Bs) (q : Pc) (X : D) (T : Store), q.a.length ≤ 1000 ∧ C 50 [.ptr 2 1 0 0, .d (.agg [.lit (.int .i64 c), .lit (.bool m), .lit (.int .i64 n), .str (bs t), .sl [(.agg [.lit (.int .i64 (cls a)), .lit (.bool (made a)), .lit (.int .i64 (num a)), .str (bs (cont a)), .sl (List.map encE (els a))]), (.agg [.lit (.int .i64 (cls b)), .lit (.bool (made b)), .lit (.int .i64 (num b)), .str (bs (cont b)), .sl (List.map encE (els b))])]])] [B0, B1, ⟨11, [(.agg [.d (.lit (.int .i64 k)), .d (.str []), .d (.str []), .d (.str []), .snil, .d (.str []), .d (.lit (.bool false)), .d (.lit (.bool false)), .d (.str []), .d (.lit (.bool false)), .snil])], false, false, false⟩] = some (.d (.lit (.bool false)), (B0 :: B1 :: ⟨11, [(.agg [.d (.lit (.int .i64 k)), .d (.str (bs s)), .d (.str []), .d (.str (bs (q).i)), (bif (q).a.isEmpty then .snil else .sref 5 (q).a.length 1 0 (q).a.length), .d (.str (bs (q).f)), .d (.lit (.bool (q).x)), .d (.lit (.bool (q).y)), .d (.str []), .d (.lit (.bool false)), .snil])], false, false, false⟩ :: ⟨5, [.d (.agg [.lit (.int .i64 c), .lit (.bool m), .lit (.int .i64 n), .str (bs t), .sl [(.agg [.lit (.int .i64 (cls a)), .lit (.bool (made a)), .lit (.int .i64 (num a)), .str (bs (cont a)), .sl (List.map encE (els a))]), (.agg [.lit (.int .i64 (cls b)), .lit (.bool (made b)), .lit (.int .i64 (num b)), .str (bs (cont b)), .sl (List.map encE (els b))])]])], false, false, false⟩ :: (bif (q).a.isEmpty then [] else [⟨5, [.d X], false, false, false⟩, ⟨1, List.map AV.d (List.map encS (q).a), true, true, false⟩])) ++ T) := by
  rw [q50]
  cases h1 : snd1 a && snd1 b
  · refine ⟨b0, pz, .str [], [], Nat.zero_le _, ?_⟩
    unfold pz
    simp -implicitDefEqProofs (disch := omega) only [go_sem, Int.reduceAdd, Int.reduceSub, Int.reduceMul, dec_t, dec_f, Nat.reduceBEq, Nat.reduceBNe, reduceShiftRight, reduceAnd, Nat.reduceAdd, Nat.reduceSub, reduceEqDiff, Nat.reduceLT, reduceLeDiff, reduceToNat, Int.reduceLT, Int.reduceLE, Int.reduceEq, reduceIte, reduceCtorEq, t28_2, h1]
  cases h3 : isE b 0 16 true
  · refine ⟨b0, pz, .str [], [], Nat.zero_le _, ?_⟩
    unfold pz
    simp -implicitDefEqProofs (disch := omega) only [go_sem, Int.reduceAdd, Int.reduceSub, Int.reduceMul, dec_t, dec_f, Nat.reduceBEq, Nat.reduceBNe, reduceShiftRight, reduceAnd, Nat.reduceAdd, Nat.reduceSub, reduceEqDiff, Nat.reduceLT, reduceLeDiff, reduceToNat, Int.reduceLT, Int.reduceLE, Int.reduceEq, reduceIte, reduceCtorEq, t28_2, h1, h3]
  cases h4 : (els b).all snd1
  · refine ⟨b0, pz, .str [], [], Nat.zero_le _, ?_⟩
    unfold pz
    simp -implicitDefEqProofs (disch := omega) only [go_sem, Int.reduceAdd, Int.reduceSub, Int.reduceMul, dec_t, dec_f, Nat.reduceBEq, Nat.reduceBNe, reduceShiftRight, reduceAnd, Nat.reduceAdd, Nat.reduceSub, reduceEqDiff, Nat.reduceLT, reduceLeDiff, reduceToNat, Int.reduceLT, Int.reduceLE, Int.reduceEq, reduceIte, reduceCtorEq, t28_2, t28_l (els b) hl, h1, h3, h4]
  have hx : ∀ nm w, _ := fun nm w => t50k k nm w (els b) hl B0 B1 ⟨5, [.d (.agg [.lit (.int .i64 c), .lit (.bool m), .lit (.int .i64 n), .str (bs t), .sl [(.agg [.lit (.int .i64 (cls a)), .lit (.bool (made a)), .lit (.int .i64 (num a)), .str (bs (cont a)), .sl (List.map encE (els a))]), (.agg [.lit (.int .i64 (cls b)), .lit (.bool (made b)), .lit (.int .i64 (num b)), .str (bs (cont b)), .sl (List.map encE (els b))])]])], false, false, false⟩ u0 u1 (fun n => rfl) (els b) 0 pz 0 (.str []) rfl rfl (Nat.le_refl _)
  cases hr : rPc (els b) 0 pz with
  | none =>
    cases h5 : isE a 0 4 false
    · obtain ⟨q, X, T, hq, g⟩ := (hx [] false).2 hr
      refine ⟨b0, q, X, T, hq, ?_⟩
      simp only [pz] at g
      simp -implicitDefEqProofs (disch := omega) only [go_sem, Int.reduceAdd, Int.reduceSub, Int.reduceMul, dec_t, dec_f, Nat.reduceBEq, Nat.reduceBNe, reduceShiftRight, reduceAnd, Nat.reduceAdd, Nat.reduceSub, reduceEqDiff, Nat.reduceLT, reduceLeDiff, reduceToNat, Int.reduceLT, Int.reduceLE, Int.reduceEq, reduceIte, reduceCtorEq] at g
      cases he : q.a.isEmpty <;> simp only [he, cond_true, cond_false] at g <;> (simp -implicitDefEqProofs (disch := omega) only [go_sem, Int.reduceAdd, Int.reduceSub, Int.reduceMul, dec_t, dec_f, Nat.reduceBEq, Nat.reduceBNe, reduceShiftRight, reduceAnd, Nat.reduceAdd, Nat.reduceSub, reduceEqDiff, Nat.reduceLT, reduceLeDiff, reduceToNat, Int.reduceLT, Int.reduceLE, Int.reduceEq, reduceIte, reduceCtorEq, he, t28_2, t28_l (els b) hl, h1, h3, h4, nameR_f h5, g])
    · obtain ⟨q, X, T, hq, g⟩ := (hx (lowL (bs (cont a))) true).2 hr
      refine ⟨lowB (cont a), q, X, T, hq, ?_⟩
      simp only [pz] at g
      simp -implicitDefEqProofs (disch := omega) only [go_sem, Int.reduceAdd, Int.reduceSub, Int.reduceMul, dec_t, dec_f, Nat.reduceBEq, Nat.reduceBNe, reduceShiftRight, reduceAnd, Nat.reduceAdd, Nat.reduceSub, reduceEqDiff, Nat.reduceLT, reduceLeDiff, reduceToNat, Int.reduceLT, Int.reduceLE, Int.reduceEq, reduceIte, reduceCtorEq] at g
      cases he : q.a.isEmpty <;> simp only [he, cond_true, cond_false] at g <;> (simp -implicitDefEqProofs (disch := omega) only [go_sem, Int.reduceAdd, Int.reduceSub, Int.reduceMul, dec_t, dec_f, Nat.reduceBEq, Nat.reduceBNe, reduceShiftRight, reduceAnd, Nat.reduceAdd, Nat.reduceSub, reduceEqDiff, Nat.reduceLT, reduceLeDiff, reduceToNat, Int.reduceLT, Int.reduceLE, Int.reduceEq, reduceIte, reduceCtorEq, he, t28_2, t28_l (els b) hl, h1, h3, h4, nameR_t h5, g])
  | some q =>
    have h5 : isE a 0 4 false = false := by
      rw [h1, h3, h4] at h
      cases h5 : isE a 0 4 false
      · rfl
      · rw [h5] at h
        exact absurd ⟨rfl, q, hr⟩ h
    obtain ⟨x', X, g⟩ := (hx [] false).1 q hr
    have hq : q.a.length ≤ 1000 := by
      rw [rPc_g _ _ _ _ hr]
      refine Nat.le_trans (gPc_len _ _) ?_
      show 0 + _ ≤ _
      omega
    refine ⟨b0, q, X, [], hq, ?_⟩
    simp only [pz] at g
    simp -implicitDefEqProofs (disch := omega) only [go_sem, Int.reduceAdd, Int.reduceSub, Int.reduceMul, dec_t, dec_f, Nat.reduceBEq, Nat.reduceBNe, reduceShiftRight, reduceAnd, Nat.reduceAdd, Nat.reduceSub, reduceEqDiff, Nat.reduceLT, reduceLeDiff, reduceToNat, Int.reduceLT, Int.reduceLE, Int.reduceEq, reduceIte, reduceCtorEq] at g
    cases he : q.a.isEmpty <;> simp only [he, cond_true, cond_false] at g <;> (simp -implicitDefEqProofs (disch := omega) only [go_sem, Int.reduceAdd, Int.reduceSub, Int.reduceMul, dec_t, dec_f, Nat.reduceBEq, Nat.reduceBNe, reduceShiftRight, reduceAnd, Nat.reduceAdd, Nat.reduceSub, reduceEqDiff, Nat.reduceLT, reduceLeDiff, reduceToNat, Int.reduceLT, Int.reduceLE, Int.reduceEq, reduceIte, reduceCtorEq, he, t28_2, t28_l (els b) hl, h1, h3, h4, nameR_f h5, g])
set_option maxRecDepth 10000
set_option maxHeartbeats 1000000
theorem t28_1 (a : Eo) : pureCall C 28 [.sl [(.agg [.lit (.int .i64 (cls a)), .lit (.bool (made a)), .lit (.int .i64 (num a)), .str (bs (cont a)), .sl (List.map encE (els a))])]] = some (tf (snd1 a)) := by
  have h := t28 [a] (by simp)
  simpa only [List.map_cons, List.map_nil, encE_eq, List.all_cons, List.all_nil, Bool.and_true] using h
theorem t73_ok (x : Eo) (hm : made x = false) (hx : els x = []) (h : (bs (cont x)).length = 1) : pureCall C 73 [.agg [.lit (.int .i64 (cls x)), .lit (.bool false), .lit (.int .i64 (num x)), .str (bs (cont x)), .sl []]] = some (.tup (.d (.lit (.bool (!(List.beq (bs (cont x)) [0]))))) [.lit (.int .i64 0)]) := by
  rw [p73]
  simp -implicitDefEqProofs (disch := omega) only [go_sem, Int.reduceAdd, Int.reduceSub, Int.reduceMul, dec_t, dec_f, Nat.reduceBEq, Nat.reduceBNe, reduceShiftRight, reduceAnd, Nat.reduceAdd, Nat.reduceSub, reduceEqDiff, Nat.reduceLT, reduceLeDiff, reduceToNat, Int.reduceLT, Int.reduceLE, Int.reduceEq, reduceIte, reduceCtorEq, p91, hm, hx]
  (first | done | rfl)
theorem t73_no (x : Eo) (hm : made x = false) (hx : els x = []) (h : (bs (cont x)).length ≠ 1) : pureCall C 73 [.agg [.lit (.int .i64 (cls x)), .lit (.bool false), .lit (.int .i64 (num x)), .str (bs (cont x)), .sl []]] = some (.tup (.d (.lit (.bool false))) [.lit (.int .i64 160)]) := by
  have := bs_le (cont x)
  rw [p73]
  simp -implicitDefEqProofs (disch := omega) only [go_sem, Int.reduceAdd, Int.reduceSub, Int.reduceMul, dec_t, dec_f, Nat.reduceBEq, Nat.reduceBNe, reduceShiftRight, reduceAnd, Nat.reduceAdd, Nat.reduceSub, reduceEqDiff, Nat.reduceLT, reduceLeDiff, reduceToNat, Int.reduceLT, Int.reduceLE, Int.reduceEq, reduceIte, reduceCtorEq, p91, hm, hx]
  (first | done | rfl)
inductive O4 where
  | a | b
def hT (L : List Eo) (last : Int) (v : Bool) (x : Int) : O4 → List (Nat × AV)
  | .a => [(0, .ptr 2 1 0 0), (5, .d (.lit (.int .i64 last))), (6, .d (.lit (.bool v))), (12, .d (.sl (List.map encE L))), (13, .d (.lit (.int .i64 L.length))), (14, .d (.lit (.int .i64 x)))]
  | .b => [(0, .ptr 2 1 0 0), (6, .d (.lit (.bool v))), (12, .d (.sl (List.map encE L))), (13, .d (.lit (.int .i64 L.length))), (14, .d (.lit (.int .i64 x))), (5, .d (.lit (.int .i64 last)))]
theorem t51_1 (k : Int) (L : List Eo) (hl : L.length ≤ 1000) (B0 B1 B3 : Blk) (u0 : ∀ n, AV.under1s n B0.elems = true) (u1 : ∀ n, AV.under1s n B1.elems = true) (u3 : ∀ n, AV.under1s n B3.elems = true) (j : Nat) (m : Mo) (last : Int) (v : Bool) (x : Int) (o : O4) (c : Eo) (r : List Eo) (hx : x = j) (hd : L.drop j = c :: r) (hs : snd1 c = true) (hc : cls c = 2) (hm : made c = false) (hlt : last < num c) (hn : num c = 1) (hb : List.beq (lowL (bs (cont c))) [] = false) : ∃ o', n51_10 ⟨hT L last v x o, [B0, B1, ⟨11, [(.agg [.d (.lit (.int .i64 k)), .d (.str (bs (m).name)), .d (.str (bs (m).value)), .d (.str []), .snil, .d (.str []), .d (.lit (.bool false)), .d (.lit (.bool false)), .d (.str (bs (m).rule)), .d (.lit (.bool (m).dn)), .snil])], false, false, false⟩, B3]⟩ = n51_10 ⟨hT L 1 v (x + 1) o', [B0, B1, ⟨11, [(.agg [.d (.lit (.int .i64 k)), .d (.str (bs (Mo.mk (lowB (cont c)) m.name m.value m.dn).name)), .d (.str (bs (Mo.mk (lowB (cont c)) m.name m.value m.dn).value)), .d (.str []), .snil, .d (.str []), .d (.lit (.bool false)), .d (.lit (.bool false)), .d (.str (bs (Mo.mk (lowB (cont c)) m.name m.value m.dn).rule)), .d (.lit (.bool (Mo.mk (lowB (cont c)) m.name m.value m.dn).dn)), .snil])], false, false, false⟩, B3]⟩ := by
  obtain ⟨g1, g2, g3, g4⟩ := drop_cons hd
  have hnat : Int.toNat x = j := by omega
  have hx0 := lone hs hm
  have h28 := t28_1 c
  simp only [hc, hm, hn, hx0, hs, List.map_nil] at h28
  rw [r_n51_10]
  cases o
  · exact ⟨.b, by simp -implicitDefEqProofs (disch := omega) only [go_sem, Int.reduceAdd, Int.reduceSub, Int.reduceMul, dec_t, dec_f, Nat.reduceBEq, Nat.reduceBNe, reduceShiftRight, reduceAnd, Nat.reduceAdd, Nat.reduceSub, reduceEqDiff, Nat.reduceLT, reduceLeDiff, reduceToNat, Int.reduceLT, Int.reduceLE, Int.reduceEq, reduceIte, reduceCtorEq, hT, g2, hnat, h28, hs, hc, hm, hx0, u0, u1, u3, t18, hn, hb]⟩
  · exact ⟨.b, by simp -implicitDefEqProofs (disch := omega) only [go_sem, Int.reduceAdd, Int.reduceSub, Int.reduceMul, dec_t, dec_f, Nat.reduceBEq, Nat.reduceBNe, reduceShiftRight, reduceAnd, Nat.reduceAdd, Nat.reduceSub, reduceEqDiff, Nat.reduceLT, reduceLeDiff, reduceToNat, Int.reduceLT, Int.reduceLE, Int.reduceEq, reduceIte, reduceCtorEq, hT, g2, hnat, h28, hs, hc, hm, hx0, u0, u1, u3, t18, hn, hb]⟩
theorem t51_2 (k : Int) (L : List Eo) (hl : L.length ≤ 1000) (B0 B1 B3 : Blk) (u0 : ∀ n, AV.under1s n B0.elems = true) (u1 : ∀ n, AV.under1s n B1.elems = true) (u3 : ∀ n, AV.under1s n B3.elems = true) (j : Nat) (m : Mo) (last : Int) (v : Bool) (x : Int) (o : O4) (c : Eo) (r : List Eo) (hx : x = j) (hd : L.drop j = c :: r) (hs : snd1 c = true) (hc : cls c = 2) (hm : made c = false) (hlt : last < num c) (hn : num c = 2) (hb : List.beq (lowL (bs (cont c))) [] = false) : ∃ o', n51_10 ⟨hT L last v x o, [B0, B1, ⟨11, [(.agg [.d (.lit (.int .i64 k)), .d (.str (bs (m).name)), .d (.str (bs (m).value)), .d (.str []), .snil, .d (.str []), .d (.lit (.bool false)), .d (.lit (.bool false)), .d (.str (bs (m).rule)), .d (.lit (.bool (m).dn)), .snil])], false, false, false⟩, B3]⟩ = n51_10 ⟨hT L 2 v (x + 1) o', [B0, B1, ⟨11, [(.agg [.d (.lit (.int .i64 k)), .d (.str (bs (Mo.mk m.rule (lowB (cont c)) m.value m.dn).name)), .d (.str (bs (Mo.mk m.rule (lowB (cont c)) m.value m.dn).value)), .d (.str []), .snil, .d (.str []), .d (.lit (.bool false)), .d (.lit (.bool false)), .d (.str (bs (Mo.mk m.rule (lowB (cont c)) m.value m.dn).rule)), .d (.lit (.bool (Mo.mk m.rule (lowB (cont c)) m.value m.dn).dn)), .snil])], false, false, false⟩, B3]⟩ := by
  obtain ⟨g1, g2, g3, g4⟩ := drop_cons hd
  have hnat : Int.toNat x = j := by omega
  have hx0 := lone hs hm
  have h28 := t28_1 c
  simp only [hc, hm, hn, hx0, hs, List.map_nil] at h28
  rw [r_n51_10]
  cases o
  · exact ⟨.b, by simp -implicitDefEqProofs (disch := omega) only [go_sem, Int.reduceAdd, Int.reduceSub, Int.reduceMul, dec_t, dec_f, Nat.reduceBEq, Nat.reduceBNe, reduceShiftRight, reduceAnd, Nat.reduceAdd, Nat.reduceSub, reduceEqDiff, Nat.reduceLT, reduceLeDiff, reduceToNat, Int.reduceLT, Int.reduceLE, Int.reduceEq, reduceIte, reduceCtorEq, hT, g2, hnat, h28, hs, hc, hm, hx0, u0, u1, u3, t18, hn, hb]⟩
  · exact ⟨.b, by simp -implicitDefEqProofs (disch := omega) only [go_sem, Int.reduceAdd, Int.reduceSub, Int.reduceMul, dec_t, dec_f, Nat.reduceBEq, Nat.reduceBNe, reduceShiftRight, reduceAnd, Nat.reduceAdd, Nat.reduceSub, reduceEqDiff, Nat.reduceLT, reduceLeDiff, reduceToNat, Int.reduceLT, Int.reduceLE, Int.reduceEq, reduceIte, reduceCtorEq, hT, g2, hnat, h28, hs, hc, hm, hx0, u0, u1, u3, t18, hn, hb]⟩
theorem t51_3 (k : Int) (L : List Eo) (hl : L.length ≤ 1000) (B0 B1 B3 : Blk) (u0 : ∀ n, AV.under1s n B0.elems = true) (u1 : ∀ n, AV.under1s n B1.elems = true) (u3 : ∀ n, AV.under1s n B3.elems = true) (j : Nat) (m : Mo) (last : Int) (v : Bool) (x : Int) (o : O4) (c : Eo) (r : List Eo) (hx : x = j) (hd : L.drop j = c :: r) (hs : snd1 c = true) (hc : cls c = 2) (hm : made c = false) (hlt : last < num c) (hn : num c = 3) : ∃ o', n51_10 ⟨hT L last v x o, [B0, B1, ⟨11, [(.agg [.d (.lit (.int .i64 k)), .d (.str (bs (m).name)), .d (.str (bs (m).value)), .d (.str []), .snil, .d (.str []), .d (.lit (.bool false)), .d (.lit (.bool false)), .d (.str (bs (m).rule)), .d (.lit (.bool (m).dn)), .snil])], false, false, false⟩, B3]⟩ = n51_10 ⟨hT L 3 true (x + 1) o', [B0, B1, ⟨11, [(.agg [.d (.lit (.int .i64 k)), .d (.str (bs (Mo.mk m.rule m.name (cont c) m.dn).name)), .d (.str (bs (Mo.mk m.rule m.name (cont c) m.dn).value)), .d (.str []), .snil, .d (.str []), .d (.lit (.bool false)), .d (.lit (.bool false)), .d (.str (bs (Mo.mk m.rule m.name (cont c) m.dn).rule)), .d (.lit (.bool (Mo.mk m.rule m.name (cont c) m.dn).dn)), .snil])], false, false, false⟩, B3]⟩ := by
  obtain ⟨g1, g2, g3, g4⟩ := drop_cons hd
  have hnat : Int.toNat x = j := by omega
  have hx0 := lone hs hm
  have h28 := t28_1 c
  simp only [hc, hm, hn, hx0, hs, List.map_nil] at h28
  rw [r_n51_10]
  cases o
  · exact ⟨.b, by simp -implicitDefEqProofs (disch := omega) only [go_sem, Int.reduceAdd, Int.reduceSub, Int.reduceMul, dec_t, dec_f, Nat.reduceBEq, Nat.reduceBNe, reduceShiftRight, reduceAnd, Nat.reduceAdd, Nat.reduceSub, reduceEqDiff, Nat.reduceLT, reduceLeDiff, reduceToNat, Int.reduceLT, Int.reduceLE, Int.reduceEq, reduceIte, reduceCtorEq, hT, g2, hnat, h28, hs, hc, hm, hx0, u0, u1, u3, t18, hn]⟩
  · exact ⟨.b, by simp -implicitDefEqProofs (disch := omega) only [go_sem, Int.reduceAdd, Int.reduceSub, Int.reduceMul, dec_t, dec_f, Nat.reduceBEq, Nat.reduceBNe, reduceShiftRight, reduceAnd, Nat.reduceAdd, Nat.reduceSub, reduceEqDiff, Nat.reduceLT, reduceLeDiff, reduceToNat, Int.reduceLT, Int.reduceLE, Int.reduceEq, reduceIte, reduceCtorEq, hT, g2, hnat, h28, hs, hc, hm, hx0, u0, u1, u3, t18, hn]⟩
theorem t51_4 (k : Int) (L : List Eo) (hl : L.length ≤ 1000) (B0 B1 B3 : Blk) (u0 : ∀ n, AV.under1s n B0.elems = true) (u1 : ∀ n, AV.under1s n B1.elems = true) (u3 : ∀ n, AV.under1s n B3.elems = true) (j : Nat) (m : Mo) (last : Int) (v : Bool) (x : Int) (o : O4) (c : Eo) (r : List Eo) (hx : x = j) (hd : L.drop j = c :: r) (hs : snd1 c = true) (hc : cls c = 2) (hm : made c = false) (hlt : last < num c) (hn : num c = 4) (hb : (bs (cont c)).length = 1) : ∃ o', n51_10 ⟨hT L last v x o, [B0, B1, ⟨11, [(.agg [.d (.lit (.int .i64 k)), .d (.str (bs (m).name)), .d (.str (bs (m).value)), .d (.str []), .snil, .d (.str []), .d (.lit (.bool false)), .d (.lit (.bool false)), .d (.str (bs (m).rule)), .d (.lit (.bool (m).dn)), .snil])], false, false, false⟩, B3]⟩ = n51_10 ⟨hT L 4 v (x + 1) o', [B0, B1, ⟨11, [(.agg [.d (.lit (.int .i64 k)), .d (.str (bs (Mo.mk m.rule m.name m.value (!(List.beq (bs (cont c)) [0]))).name)), .d (.str (bs (Mo.mk m.rule m.name m.value (!(List.beq (bs (cont c)) [0]))).value)), .d (.str []), .snil, .d (.str []), .d (.lit (.bool false)), .d (.lit (.bool false)), .d (.str (bs (Mo.mk m.rule m.name m.value (!(List.beq (bs (cont c)) [0]))).rule)), .d (.lit (.bool (Mo.mk m.rule m.name m.value (!(List.beq (bs (cont c)) [0]))).dn)), .snil])], false, false, false⟩, B3]⟩ := by
  have h73 := t73_ok c hm (lone hs hm) hb
  rw [hc, hn] at h73
  obtain ⟨g1, g2, g3, g4⟩ := drop_cons hd
  have hnat : Int.toNat x = j := by omega
  have hx0 := lone hs hm
  have h28 := t28_1 c
  simp only [hc, hm, hn, hx0, hs, List.map_nil] at h28
  rw [r_n51_10]
  cases o
  · exact ⟨.b, by simp -implicitDefEqProofs (disch := omega) only [go_sem, Int.reduceAdd, Int.reduceSub, Int.reduceMul, dec_t, dec_f, Nat.reduceBEq, Nat.reduceBNe, reduceShiftRight, reduceAnd, Nat.reduceAdd, Nat.reduceSub, reduceEqDiff, Nat.reduceLT, reduceLeDiff, reduceToNat, Int.reduceLT, Int.reduceLE, Int.reduceEq, reduceIte, reduceCtorEq, hT, g2, hnat, h28, hs, hc, hm, hx0, u0, u1, u3, t18, hn, h73]⟩
  · exact ⟨.b, by simp -implicitDefEqProofs (disch := omega) only [go_sem, Int.reduceAdd, Int.reduceSub, Int.reduceMul, dec_t, dec_f, Nat.reduceBEq, Nat.reduceBNe, reduceShiftRight, reduceAnd, Nat.reduceAdd, Nat.reduceSub, reduceEqDiff, Nat.reduceLT, reduceLeDiff, reduceToNat, Int.reduceLT, Int.reduceLE, Int.reduceEq, reduceIte, reduceCtorEq, hT, g2, hnat, h28, hs, hc, hm, hx0, u0, u1, u3, t18, hn, h73]⟩
theorem t51_f1 (k : Int) (L : List Eo) (hl : L.length ≤ 1000) (B0 B1 B3 : Blk) (u0 : ∀ n, AV.under1s n B0.elems = true) (u1 : ∀ n, AV.under1s n B1.elems = true) (u3 : ∀ n, AV.under1s n B3.elems = true) (j : Nat) (m : Mo) (last : Int) (v : Bool) (x : Int) (o : O4) (c : Eo) (r : List Eo) (hx : x = j) (hd : L.drop j = c :: r) (hs : snd1 c = false) : ∃ T : Store, n51_10 ⟨hT L last v x o, [B0, B1, ⟨11, [(.agg [.d (.lit (.int .i64 k)), .d (.str (bs (m).name)), .d (.str (bs (m).value)), .d (.str []), .snil, .d (.str []), .d (.lit (.bool false)), .d (.lit (.bool false)), .d (.str (bs (m).rule)), .d (.lit (.bool (m).dn)), .snil])], false, false, false⟩, B3]⟩ = some (.ret, ⟨[(4, .d (.lit (.bool false)))], [B0, B1, ⟨11, [(.agg [.d (.lit (.int .i64 k)), .d (.str (bs (m).name)), .d (.str (bs (m).value)), .d (.str []), .snil, .d (.str []), .d (.lit (.bool false)), .d (.lit (.bool false)), .d (.str (bs (m).rule)), .d (.lit (.bool (m).dn)), .snil])], false, false, false⟩, B3] ++ T⟩) := by
  obtain ⟨g1, g2, g3, g4⟩ := drop_cons hd
  have hnat : Int.toNat x = j := by omega
  have h28 := t28_1 c
  simp only [hs] at h28
  refine ⟨[⟨5, [.d (.agg [.lit (.int .i64 (cls c)), .lit (.bool (made c)), .lit (.int .i64 (num c)), .str (bs (cont c)), .sl (List.map encE (els c))])], false, false, false⟩], ?_⟩
  rw [r_n51_10]
  cases o <;> (simp -implicitDefEqProofs (disch := omega) only [go_sem, Int.reduceAdd, Int.reduceSub, Int.reduceMul, dec_t, dec_f, Nat.reduceBEq, Nat.reduceBNe, reduceShiftRight, reduceAnd, Nat.reduceAdd, Nat.reduceSub, reduceEqDiff, Nat.reduceLT, reduceLeDiff, reduceToNat, Int.reduceLT, Int.reduceLE, Int.reduceEq, reduceIte, reduceCtorEq, hT, g2, hnat, h28, u0, u1, u3, hs])
theorem t51_f2 (k : Int) (L : List Eo) (hl : L.length ≤ 1000) (B0 B1 B3 : Blk) (u0 : ∀ n, AV.under1s n B0.elems = true) (u1 : ∀ n, AV.under1s n B1.elems = true) (u3 : ∀ n, AV.under1s n B3.elems = true) (j : Nat) (m : Mo) (last : Int) (v : Bool) (x : Int) (o : O4) (c : Eo) (r : List Eo) (hx : x = j) (hd : L.drop j = c :: r) (hs : snd1 c = true) (hc : ¬ cls c = 2) : ∃ T : Store, n51_10 ⟨hT L last v x o, [B0, B1, ⟨11, [(.agg [.d (.lit (.int .i64 k)), .d (.str (bs (m).name)), .d (.str (bs (m).value)), .d (.str []), .snil, .d (.str []), .d (.lit (.bool false)), .d (.lit (.bool false)), .d (.str (bs (m).rule)), .d (.lit (.bool (m).dn)), .snil])], false, false, false⟩, B3]⟩ = some (.ret, ⟨[(4, .d (.lit (.bool false)))], [B0, B1, ⟨11, [(.agg [.d (.lit (.int .i64 k)), .d (.str (bs (m).name)), .d (.str (bs (m).value)), .d (.str []), .snil, .d (.str []), .d (.lit (.bool false)), .d (.lit (.bool false)), .d (.str (bs (m).rule)), .d (.lit (.bool (m).dn)), .snil])], false, false, false⟩, B3] ++ T⟩) := by
  obtain ⟨g1, g2, g3, g4⟩ := drop_cons hd
  have hnat : Int.toNat x = j := by omega
  have h28 := t28_1 c
  simp only [hs] at h28
  refine ⟨[⟨5, [.d (.agg [.lit (.int .i64 (cls c)), .lit (.bool (made c)), .lit (.int .i64 (num c)), .str (bs (cont c)), .sl (List.map encE (els c))])], false, false, false⟩], ?_⟩
  rw [r_n51_10]
  cases o <;> (simp -implicitDefEqProofs (disch := omega) only [go_sem, Int.reduceAdd, Int.reduceSub, Int.reduceMul, dec_t, dec_f, Nat.reduceBEq, Nat.reduceBNe, reduceShiftRight, reduceAnd, Nat.reduceAdd, Nat.reduceSub, reduceEqDiff, Nat.reduceLT, reduceLeDiff, reduceToNat, Int.reduceLT, Int.reduceLE, Int.reduceEq, reduceIte, reduceCtorEq, hT, g2, hnat, h28, u0, u1, u3, hs])
theorem t51_f3 (k : Int) (L : List Eo) (hl : L.length ≤ 1000) (B0 B1 B3 : Blk) (u0 : ∀ n, AV.under1s n B0.elems = true) (u1 : ∀ n, AV.under1s n B1.elems = true) (u3 : ∀ n, AV.under1s n B3.elems = true) (j : Nat) (m : Mo) (last : Int) (v : Bool) (x : Int) (o : O4) (c : Eo) (r : List Eo) (hx : x = j) (hd : L.drop j = c :: r) (hs : snd1 c = true) (hc : cls c = 2) (hm : made c = true) : ∃ T : Store, n51_10 ⟨hT L last v x o, [B0, B1, ⟨11, [(.agg [.d (.lit (.int .i64 k)), .d (.str (bs (m).name)), .d (.str (bs (m).value)), .d (.str []), .snil, .d (.str []), .d (.lit (.bool false)), .d (.lit (.bool false)), .d (.str (bs (m).rule)), .d (.lit (.bool (m).dn)), .snil])], false, false, false⟩, B3]⟩ = some (.ret, ⟨[(4, .d (.lit (.bool false)))], [B0, B1, ⟨11, [(.agg [.d (.lit (.int .i64 k)), .d (.str (bs (m).name)), .d (.str (bs (m).value)), .d (.str []), .snil, .d (.str []), .d (.lit (.bool false)), .d (.lit (.bool false)), .d (.str (bs (m).rule)), .d (.lit (.bool (m).dn)), .snil])], false, false, false⟩, B3] ++ T⟩) := by
  obtain ⟨g1, g2, g3, g4⟩ := drop_cons hd
  have hnat : Int.toNat x = j := by omega
  have h28 := t28_1 c
  simp only [hs, hc, hm] at h28
  refine ⟨[⟨5, [.d (.agg [.lit (.int .i64 (cls c)), .lit (.bool (made c)), .lit (.int .i64 (num c)), .str (bs (cont c)), .sl (List.map encE (els c))])], false, false, false⟩], ?_⟩
  rw [r_n51_10]
  cases o <;> (simp -implicitDefEqProofs (disch := omega) only [go_sem, Int.reduceAdd, Int.reduceSub, Int.reduceMul, dec_t, dec_f, Nat.reduceBEq, Nat.reduceBNe, reduceShiftRight, reduceAnd, Nat.reduceAdd, Nat.reduceSub, reduceEqDiff, Nat.reduceLT, reduceLeDiff, reduceToNat, Int.reduceLT, Int.reduceLE, Int.reduceEq, reduceIte, reduceCtorEq, hT, g2, hnat, h28, u0, u1, u3, hs, hc, hm])
theorem t51_f4 (k : Int) (L : List Eo) (hl : L.length ≤ 1000) (B0 B1 B3 : Blk) (u0 : ∀ n, AV.under1s n B0.elems = true) (u1 : ∀ n, AV.under1s n B1.elems = true) (u3 : ∀ n, AV.under1s n B3.elems = true) (j : Nat) (m : Mo) (last : Int) (v : Bool) (x : Int) (o : O4) (c : Eo) (r : List Eo) (hx : x = j) (hd : L.drop j = c :: r) (hs : snd1 c = true) (hc : cls c = 2) (hm : made c = false) (hlt : ¬ last < num c) : ∃ T : Store, n51_10 ⟨hT L last v x o, [B0, B1, ⟨11, [(.agg [.d (.lit (.int .i64 k)), .d (.str (bs (m).name)), .d (.str (bs (m).value)), .d (.str []), .snil, .d (.str []), .d (.lit (.bool false)), .d (.lit (.bool false)), .d (.str (bs (m).rule)), .d (.lit (.bool (m).dn)), .snil])], false, false, false⟩, B3]⟩ = some (.ret, ⟨[(4, .d (.lit (.bool false)))], [B0, B1, ⟨11, [(.agg [.d (.lit (.int .i64 k)), .d (.str (bs (m).name)), .d (.str (bs (m).value)), .d (.str []), .snil, .d (.str []), .d (.lit (.bool false)), .d (.lit (.bool false)), .d (.str (bs (m).rule)), .d (.lit (.bool (m).dn)), .snil])], false, false, false⟩, B3] ++ T⟩) := by
  obtain ⟨g1, g2, g3, g4⟩ := drop_cons hd
  have hnat : Int.toNat x = j := by omega
  have h28 := t28_1 c
  simp only [hs, hc, hm] at h28
  refine ⟨[⟨5, [.d (.agg [.lit (.int .i64 (cls c)), .lit (.bool (made c)), .lit (.int .i64 (num c)), .str (bs (cont c)), .sl (List.map encE (els c))])], false, false, false⟩], ?_⟩
  rw [r_n51_10]
  cases o <;> (simp -implicitDefEqProofs (disch := omega) only [go_sem, Int.reduceAdd, Int.reduceSub, Int.reduceMul, dec_t, dec_f, Nat.reduceBEq, Nat.reduceBNe, reduceShiftRight, reduceAnd, Nat.reduceAdd, Nat.reduceSub, reduceEqDiff, Nat.reduceLT, reduceLeDiff, reduceToNat, Int.reduceLT, Int.reduceLE, Int.reduceEq, reduceIte, reduceCtorEq, hT, g2, hnat, h28, u0, u1, u3, hs, hc, hm])
theorem t51_f5 (k : Int) (L : List Eo) (hl : L.length ≤ 1000) (B0 B1 B3 : Blk) (u0 : ∀ n, AV.under1s n B0.elems = true) (u1 : ∀ n, AV.under1s n B1.elems = true) (u3 : ∀ n, AV.under1s n B3.elems = true) (j : Nat) (m : Mo) (last : Int) (v : Bool) (x : Int) (o : O4) (c : Eo) (r : List Eo) (hx : x = j) (hd : L.drop j = c :: r) (hs : snd1 c = true) (hc : cls c = 2) (hm : made c = false) (hlt : last < num c) (hn : num c = 1) (hb : List.beq (lowL (bs (cont c))) [] = true) : ∃ T : Store, n51_10 ⟨hT L last v x o, [B0, B1, ⟨11, [(.agg [.d (.lit (.int .i64 k)), .d (.str (bs (m).name)), .d (.str (bs (m).value)), .d (.str []), .snil, .d (.str []), .d (.lit (.bool false)), .d (.lit (.bool false)), .d (.str (bs (m).rule)), .d (.lit (.bool (m).dn)), .snil])], false, false, false⟩, B3]⟩ = some (.ret, ⟨[(4, .d (.lit (.bool false)))], [B0, B1, ⟨11, [(.agg [.d (.lit (.int .i64 k)), .d (.str (bs (Mo.mk (lowB (cont c)) m.name m.value m.dn).name)), .d (.str (bs (Mo.mk (lowB (cont c)) m.name m.value m.dn).value)), .d (.str []), .snil, .d (.str []), .d (.lit (.bool false)), .d (.lit (.bool false)), .d (.str (bs (Mo.mk (lowB (cont c)) m.name m.value m.dn).rule)), .d (.lit (.bool (Mo.mk (lowB (cont c)) m.name m.value m.dn).dn)), .snil])], false, false, false⟩, B3] ++ T⟩) := by
  obtain ⟨g1, g2, g3, g4⟩ := drop_cons hd
  have hnat : Int.toNat x = j := by omega
  have h28 := t28_1 c
  have hx0 := lone hs hm
  simp only [hs, hc, hm, hx0, hn, List.map_nil] at h28
  refine ⟨[⟨5, [.d (.agg [.lit (.int .i64 (cls c)), .lit (.bool (made c)), .lit (.int .i64 (num c)), .str (bs (cont c)), .sl (List.map encE (els c))])], false, false, false⟩], ?_⟩
  rw [r_n51_10]
  cases o <;> (simp -implicitDefEqProofs (disch := omega) only [go_sem, Int.reduceAdd, Int.reduceSub, Int.reduceMul, dec_t, dec_f, Nat.reduceBEq, Nat.reduceBNe, reduceShiftRight, reduceAnd, Nat.reduceAdd, Nat.reduceSub, reduceEqDiff, Nat.reduceLT, reduceLeDiff, reduceToNat, Int.reduceLT, Int.reduceLE, Int.reduceEq, reduceIte, reduceCtorEq, hT, g2, hnat, h28, u0, u1, u3, hs, hc, hm, hx0, hn, hb, t18])
theorem t51_f6 (k : Int) (L : List Eo) (hl : L.length ≤ 1000) (B0 B1 B3 : Blk) (u0 : ∀ n, AV.under1s n B0.elems = true) (u1 : ∀ n, AV.under1s n B1.elems = true) (u3 : ∀ n, AV.under1s n B3.elems = true) (j : Nat) (m : Mo) (last : Int) (v : Bool) (x : Int) (o : O4) (c : Eo) (r : List Eo) (hx : x = j) (hd : L.drop j = c :: r) (hs : snd1 c = true) (hc : cls c = 2) (hm : made c = false) (hlt : last < num c) (hn : num c = 2) (hb : List.beq (lowL (bs (cont c))) [] = true) : ∃ T : Store, n51_10 ⟨hT L last v x o, [B0, B1, ⟨11, [(.agg [.d (.lit (.int .i64 k)), .d (.str (bs (m).name)), .d (.str (bs (m).value)), .d (.str []), .snil, .d (.str []), .d (.lit (.bool false)), .d (.lit (.bool false)), .d (.str (bs (m).rule)), .d (.lit (.bool (m).dn)), .snil])], false, false, false⟩, B3]⟩ = some (.ret, ⟨[(4, .d (.lit (.bool false)))], [B0, B1, ⟨11, [(.agg [.d (.lit (.int .i64 k)), .d (.str (bs (Mo.mk m.rule (lowB (cont c)) m.value m.dn).name)), .d (.str (bs (Mo.mk m.rule (lowB (cont c)) m.value m.dn).value)), .d (.str []), .snil, .d (.str []), .d (.lit (.bool false)), .d (.lit (.bool false)), .d (.str (bs (Mo.mk m.rule (lowB (cont c)) m.value m.dn).rule)), .d (.lit (.bool (Mo.mk m.rule (lowB (cont c)) m.value m.dn).dn)), .snil])], false, false, false⟩, B3] ++ T⟩) := by
  obtain ⟨g1, g2, g3, g4⟩ := drop_cons hd
  have hnat : Int.toNat x = j := by omega
  have h28 := t28_1 c
  have hx0 := lone hs hm
  simp only [hs, hc, hm, hx0, hn, List.map_nil] at h28
  refine ⟨[⟨5, [.d (.agg [.lit (.int .i64 (cls c)), .lit (.bool (made c)), .lit (.int .i64 (num c)), .str (bs (cont c)), .sl (List.map encE (els c))])], false, false, false⟩], ?_⟩
  rw [r_n51_10]
  cases o <;> (simp -implicitDefEqProofs (disch := omega) only [go_sem, Int.reduceAdd, Int.reduceSub, Int.reduceMul, dec_t, dec_f, Nat.reduceBEq, Nat.reduceBNe, reduceShiftRight, reduceAnd, Nat.reduceAdd, Nat.reduceSub, reduceEqDiff, Nat.reduceLT, reduceLeDiff, reduceToNat, Int.reduceLT, Int.reduceLE, Int.reduceEq, reduceIte, reduceCtorEq, hT, g2, hnat, h28, u0, u1, u3, hs, hc, hm, hx0, hn, hb, t18])
theorem t51_f7 (k : Int) (L : List Eo) (hl : L.length ≤ 1000) (B0 B1 B3 : Blk) (u0 : ∀ n, AV.under1s n B0.elems = true) (u1 : ∀ n, AV.under1s n B1.elems = true) (u3 : ∀ n, AV.under1s n B3.elems = true) (j : Nat) (m : Mo) (last : Int) (v : Bool) (x : Int) (o : O4) (c : Eo) (r : List Eo) (hx : x = j) (hd : L.drop j = c :: r) (hs : snd1 c = true) (hc : cls c = 2) (hm : made c = false) (hlt : last < num c) (hn : num c = 4) (hb : (bs (cont c)).length ≠ 1) : ∃ T : Store, n51_10 ⟨hT L last v x o, [B0, B1, ⟨11, [(.agg [.d (.lit (.int .i64 k)), .d (.str (bs (m).name)), .d (.str (bs (m).value)), .d (.str []), .snil, .d (.str []), .d (.lit (.bool false)), .d (.lit (.bool false)), .d (.str (bs (m).rule)), .d (.lit (.bool (m).dn)), .snil])], false, false, false⟩, B3]⟩ = some (.ret, ⟨[(4, .d (.lit (.bool false)))], [B0, B1, ⟨11, [(.agg [.d (.lit (.int .i64 k)), .d (.str (bs (m).name)), .d (.str (bs (m).value)), .d (.str []), .snil, .d (.str []), .d (.lit (.bool false)), .d (.lit (.bool false)), .d (.str (bs (m).rule)), .d (.lit (.bool (m).dn)), .snil])], false, false, false⟩, B3] ++ T⟩) := by
  obtain ⟨g1, g2, g3, g4⟩ := drop_cons hd
  have hnat : Int.toNat x = j := by omega
  have h28 := t28_1 c
  have hx0 := lone hs hm
  simp only [hs, hc, hm, hx0, hn, List.map_nil] at h28
  have h73 := t73_no c hm hx0 hb
  rw [hc, hn] at h73
  refine ⟨[⟨5, [.d (.agg [.lit (.int .i64 (cls c)), .lit (.bool (made c)), .lit (.int .i64 (num c)), .str (bs (cont c)), .sl (List.map encE (els c))])], false, false, false⟩], ?_⟩
  rw [r_n51_10]
  cases o <;> (simp -implicitDefEqProofs (disch := omega) only [go_sem, Int.reduceAdd, Int.reduceSub, Int.reduceMul, dec_t, dec_f, Nat.reduceBEq, Nat.reduceBNe, reduceShiftRight, reduceAnd, Nat.reduceAdd, Nat.reduceSub, reduceEqDiff, Nat.reduceLT, reduceLeDiff, reduceToNat, Int.reduceLT, Int.reduceLE, Int.reduceEq, reduceIte, reduceCtorEq, hT, g2, hnat, h28, u0, u1, u3, hs, hc, hm, hx0, hn, h73])
theorem t51_f8 (k : Int) (L : List Eo) (hl : L.length ≤ 1000) (B0 B1 B3 : Blk) (u0 : ∀ n, AV.under1s n B0.elems = true) (u1 : ∀ n, AV.under1s n B1.elems = true) (u3 : ∀ n, AV.under1s n B3.elems = true) (j : Nat) (m : Mo) (last : Int) (v : Bool) (x : Int) (o : O4) (c : Eo) (r : List Eo) (hx : x = j) (hd : L.drop j = c :: r) (hs : snd1 c = true) (hc : cls c = 2) (hm : made c = false) (hlt : last < num c) (n1 : ¬ num c = 1) (n2 : ¬ num c = 2) (n3 : ¬ num c = 3) (n4 : ¬ num c = 4) : ∃ T : Store, n51_10 ⟨hT L last v x o, [B0, B1, ⟨11, [(.agg [.d (.lit (.int .i64 k)), .d (.str (bs (m).name)), .d (.str (bs (m).value)), .d (.str []), .snil, .d (.str []), .d (.lit (.bool false)), .d (.lit (.bool false)), .d (.str (bs (m).rule)), .d (.lit (.bool (m).dn)), .snil])], false, false, false⟩, B3]⟩ = some (.ret, ⟨[(4, .d (.lit (.bool false)))], [B0, B1, ⟨11, [(.agg [.d (.lit (.int .i64 k)), .d (.str (bs (m).name)), .d (.str (bs (m).value)), .d (.str []), .snil, .d (.str []), .d (.lit (.bool false)), .d (.lit (.bool false)), .d (.str (bs (m).rule)), .d (.lit (.bool (m).dn)), .snil])], false, false, false⟩, B3] ++ T⟩) := by
  obtain ⟨g1, g2, g3, g4⟩ := drop_cons hd
  have hnat : Int.toNat x = j := by omega
  have h28 := t28_1 c
  have hx0 := lone hs hm
  simp only [hs, hc, hm, hx0, List.map_nil] at h28
  have h73 : ∃ b z, pureCall C 73 [.agg [.lit (.int .i64 2), .lit (.bool false), .lit (.int .i64 (num c)), .str (bs (cont c)), .sl []]] = some (.tup (.d (.lit (.bool b))) [.lit (.int .i64 z)]) := by
    by_cases hb : (bs (cont c)).length = 1
    · have h73 := t73_ok c hm hx0 hb
      rw [hc] at h73
      exact ⟨_, _, h73⟩
    · have h73 := t73_no c hm hx0 hb
      rw [hc] at h73
      exact ⟨_, _, h73⟩
  obtain ⟨b, z, h73⟩ := h73
  refine ⟨[⟨5, [.d (.agg [.lit (.int .i64 (cls c)), .lit (.bool (made c)), .lit (.int .i64 (num c)), .str (bs (cont c)), .sl (List.map encE (els c))])], false, false, false⟩], ?_⟩
  rw [r_n51_10]
  cases o <;> (simp -implicitDefEqProofs (disch := omega) only [go_sem, Int.reduceAdd, Int.reduceSub, Int.reduceMul, dec_t, dec_f, Nat.reduceBEq, Nat.reduceBNe, reduceShiftRight, reduceAnd, Nat.reduceAdd, Nat.reduceSub, reduceEqDiff, Nat.reduceLT, reduceLeDiff, reduceToNat, Int.reduceLT, Int.reduceLE, Int.reduceEq, reduceIte, reduceCtorEq, hT, g2, hnat, h28, u0, u1, u3, hs, hc, hm, hx0, h73])
theorem t51_e (k : Int) (L : List Eo) (hl : L.length ≤ 1000) (B0 B1 B3 : Blk) (u0 : ∀ n, AV.under1s n B0.elems = true) (u1 : ∀ n, AV.under1s n B1.elems = true) (u3 : ∀ n, AV.under1s n B3.elems = true) (j : Nat) (m : Mo) (last : Int) (v : Bool) (x : Int) (o : O4) (hx : x = j) (hd : L.drop j = []) :
    n51_10 ⟨hT L last v x o, [B0, B1, ⟨11, [(.agg [.d (.lit (.int .i64 k)), .d (.str (bs (m).name)), .d (.str (bs (m).value)), .d (.str []), .snil, .d (.str []), .d (.lit (.bool false)), .d (.lit (.bool false)), .d (.str (bs (m).rule)), .d (.lit (.bool (m).dn)), .snil])], false, false, false⟩, B3]⟩ = some (.exit 0, ⟨hT L last v x o ++ [(15, .d (.lit (.bool false)))], [B0, B1, ⟨11, [(.agg [.d (.lit (.int .i64 k)), .d (.str (bs (m).name)), .d (.str (bs (m).value)), .d (.str []), .snil, .d (.str []), .d (.lit (.bool false)), .d (.lit (.bool false)), .d (.str (bs (m).rule)), .d (.lit (.bool (m).dn)), .snil])], false, false, false⟩, B3]⟩) := by
  have hd := drop_nil hd
  rw [r_n51_10]
  cases o <;> (simp -implicitDefEqProofs (disch := omega) only [go_sem, Int.reduceAdd, Int.reduceSub, Int.reduceMul, dec_t, dec_f, Nat.reduceBEq, Nat.reduceBNe, reduceShiftRight, reduceAnd, Nat.reduceAdd, Nat.reduceSub, reduceEqDiff, Nat.reduceLT, reduceLeDiff, reduceToNat, Int.reduceLT, Int.reduceLE, Int.reduceEq, reduceIte, reduceCtorEq, hT])
theorem t51k (k : Int) (L : List Eo) (hl : L.length ≤ 1000) (B0 B1 B3 : Blk) (u0 : ∀ n, AV.under1s n B0.elems = true) (u1 : ∀ n, AV.under1s n B1.elems = true) (u3 : ∀ n, AV.under1s n B3.elems = true) : ∀ (r : List Eo) (j : Nat) (m : Mo) (last : Int) (v : Bool) (x : Int) (o : O4), x = j → L.drop j = r →
    (∀ q, rMo r last v m = some q → ∃ last' x' o', n51_10 ⟨hT L last v x o, [B0, B1, ⟨11, [(.agg [.d (.lit (.int .i64 k)), .d (.str (bs (m).name)), .d (.str (bs (m).value)), .d (.str []), .snil, .d (.str []), .d (.lit (.bool false)), .d (.lit (.bool false)), .d (.str (bs (m).rule)), .d (.lit (.bool (m).dn)), .snil])], false, false, false⟩, B3]⟩ = some (.exit 0, ⟨hT L last' true x' o' ++ [(15, .d (.lit (.bool false)))], [B0, B1, ⟨11, [(.agg [.d (.lit (.int .i64 k)), .d (.str (bs (q).name)), .d (.str (bs (q).value)), .d (.str []), .snil, .d (.str []), .d (.lit (.bool false)), .d (.lit (.bool false)), .d (.str (bs (q).rule)), .d (.lit (.bool (q).dn)), .snil])], false, false, false⟩, B3]⟩)) ∧
    (rMo r last v m = none → (∃ (last' x' : Int) (o' : O4) (q : Mo), n51_10 ⟨hT L last v x o, [B0, B1, ⟨11, [(.agg [.d (.lit (.int .i64 k)), .d (.str (bs (m).name)), .d (.str (bs (m).value)), .d (.str []), .snil, .d (.str []), .d (.lit (.bool false)), .d (.lit (.bool false)), .d (.str (bs (m).rule)), .d (.lit (.bool (m).dn)), .snil])], false, false, false⟩, B3]⟩ = some (.exit 0, ⟨hT L last' false x' o' ++ [(15, .d (.lit (.bool false)))], [B0, B1, ⟨11, [(.agg [.d (.lit (.int .i64 k)), .d (.str (bs (q).name)), .d (.str (bs (q).value)), .d (.str []), .snil, .d (.str []), .d (.lit (.bool false)), .d (.lit (.bool false)), .d (.str (bs (q).rule)), .d (.lit (.bool (q).dn)), .snil])], false, false, false⟩, B3]⟩)) ∨
      ∃ (q : Mo) (T : Store), n51_10 ⟨hT L last v x o, [B0, B1, ⟨11, [(.agg [.d (.lit (.int .i64 k)), .d (.str (bs (m).name)), .d (.str (bs (m).value)), .d (.str []), .snil, .d (.str []), .d (.lit (.bool false)), .d (.lit (.bool false)), .d (.str (bs (m).rule)), .d (.lit (.bool (m).dn)), .snil])], false, false, false⟩, B3]⟩ = some (.ret, ⟨[(4, .d (.lit (.bool false)))], [B0, B1, ⟨11, [(.agg [.d (.lit (.int .i64 k)), .d (.str (bs (q).name)), .d (.str (bs (q).value)), .d (.str []), .snil, .d (.str []), .d (.lit (.bool false)), .d (.lit (.bool false)), .d (.str (bs (q).rule)), .d (.lit (.bool (q).dn)), .snil])], false, false, false⟩, B3] ++ T⟩))
  | [], j, m, last, v, x, o, hx, hd => by
    rw [rMo, t51_e k L hl B0 B1 B3 u0 u1 u3 j m last v x o hx hd]
    cases v
    · exact ⟨fun q h => (by cases h), fun _ => .inl ⟨last, x, o, m, rfl⟩⟩
    · exact ⟨fun q h => ⟨last, x, o, by rw [← Option.some.inj h]⟩, fun h => (by cases h)⟩
  | c :: r, j, m, last, v, x, o, hx, hd => by
    have g3 := (drop_cons hd).2.2.1
    rw [rMo]
    cases hs : snd1 c
    · obtain ⟨T, h⟩ := t51_f1 k L hl B0 B1 B3 u0 u1 u3 j m last v x o c r hx hd hs
      exact ⟨fun q h => (by cases h), fun _ => .inr ⟨m, T, h⟩⟩
    by_cases hc : ¬ cls c = 2
    · obtain ⟨T, h⟩ := t51_f2 k L hl B0 B1 B3 u0 u1 u3 j m last v x o c r hx hd hs hc
      rw [if_neg (by simp [hc])]
      exact ⟨fun q h => (by cases h), fun _ => .inr ⟨m, T, h⟩⟩
    have hc := Decidable.not_not.1 hc
    by_cases hm : made c = true
    · obtain ⟨T, h⟩ := t51_f3 k L hl B0 B1 B3 u0 u1 u3 j m last v x o c r hx hd hs hc hm
      rw [if_neg (by simp [hm])]
      exact ⟨fun q h => (by cases h), fun _ => .inr ⟨m, T, h⟩⟩
    have hm : made c = false := by simpa using hm
    by_cases hlt : ¬ last < num c
    · obtain ⟨T, h⟩ := t51_f4 k L hl B0 B1 B3 u0 u1 u3 j m last v x o c r hx hd hs hc hm hlt
      rw [if_neg (by simp [hlt])]
      exact ⟨fun q h => (by cases h), fun _ => .inr ⟨m, T, h⟩⟩
    have hlt := Decidable.not_not.1 hlt
    rw [if_pos (by simp [hc, hlt, hm])]
    by_cases n1 : num c = 1
    · rw [if_pos n1]
      cases hb : List.beq (lowL (bs (cont c))) []
      · obtain ⟨o', h⟩ := t51_1 k L hl B0 B1 B3 u0 u1 u3 j m last v x o c r hx hd hs hc hm hlt n1 hb
        rw [h, if_neg (by simp)]
        exact t51k k L hl B0 B1 B3 u0 u1 u3 r (j + 1) (Mo.mk (lowB (cont c)) m.name m.value m.dn) 1 v (x + 1) o' (by omega) g3
      · obtain ⟨T, h⟩ := t51_f5 k L hl B0 B1 B3 u0 u1 u3 j m last v x o c r hx hd hs hc hm hlt n1 hb
        rw [if_pos rfl]
        exact ⟨fun q h => (by cases h), fun _ => .inr ⟨_, T, h⟩⟩
    rw [if_neg n1]
    by_cases n2 : num c = 2
    · rw [if_pos n2]
      cases hb : List.beq (lowL (bs (cont c))) []
      · obtain ⟨o', h⟩ := t51_2 k L hl B0 B1 B3 u0 u1 u3 j m last v x o c r hx hd hs hc hm hlt n2 hb
        rw [h, if_neg (by simp)]
        exact t51k k L hl B0 B1 B3 u0 u1 u3 r (j + 1) (Mo.mk m.rule (lowB (cont c)) m.value m.dn) 2 v (x + 1) o' (by omega) g3
      · obtain ⟨T, h⟩ := t51_f6 k L hl B0 B1 B3 u0 u1 u3 j m last v x o c r hx hd hs hc hm hlt n2 hb
        rw [if_pos rfl]
        exact ⟨fun q h => (by cases h), fun _ => .inr ⟨_, T, h⟩⟩
    rw [if_neg n2]
    by_cases n3 : num c = 3
    · rw [if_pos n3]
      obtain ⟨o', h⟩ := t51_3 k L hl B0 B1 B3 u0 u1 u3 j m last v x o c r hx hd hs hc hm hlt n3
      rw [h]
      exact t51k k L hl B0 B1 B3 u0 u1 u3 r (j + 1) (Mo.mk m.rule m.name (cont c) m.dn) 3 true (x + 1) o' (by omega) g3
    rw [if_neg n3]
    by_cases n4 : num c = 4
    · by_cases hb : (bs (cont c)).length = 1
      · obtain ⟨o', h⟩ := t51_4 k L hl B0 B1 B3 u0 u1 u3 j m last v x o c r hx hd hs hc hm hlt n4 hb
        rw [h, if_pos (by simp [n4, hb])]
        exact t51k k L hl B0 B1 B3 u0 u1 u3 r (j + 1) (Mo.mk m.rule m.name m.value (!(List.beq (bs (cont c)) [0]))) 4 v (x + 1) o' (by omega) g3
      · obtain ⟨T, h⟩ := t51_f7 k L hl B0 B1 B3 u0 u1 u3 j m last v x o c r hx hd hs hc hm hlt n4 hb
        rw [if_neg (by simp [hb])]
        exact ⟨fun q h => (by cases h), fun _ => .inr ⟨m, T, h⟩⟩
    · obtain ⟨T, h⟩ := t51_f8 k L hl B0 B1 B3 u0 u1 u3 j m last v x o c r hx hd hs hc hm hlt n1 n2 n3 n4
      rw [if_neg (by simp [n4])]
      exact ⟨fun q h => (by cases h), fun _ => .inr ⟨m, T, h⟩⟩
theorem t51_ok (c n k : Int) (m : Bool) (t : Bs) (es : List Eo) (hl : es.length ≤ 1000) (B0 B1 : Blk) (u0 : ∀ n, AV.under1s n B0.elems = true) (u1 : ∀ n, AV.under1s n B1.elems = true) (q : Mo) (hq : rMo es 0 false mz = some q) :
    C 51 [.ptr 2 1 0 0, .d (.agg [.lit (.int .i64 c), .lit (.bool m), .lit (.int .i64 n), .str (bs t), .sl (List.map encE es)])] [B0, B1, ⟨11, [(.agg [.d (.lit (.int .i64 k)), .d (.str []), .d (.str []), .d (.str []), .snil, .d (.str []), .d (.lit (.bool false)), .d (.lit (.bool false)), .d (.str []), .d (.lit (.bool false)), .snil])], false, false, false⟩] = some (.d (.lit (.bool true)), [B0, B1, ⟨11, [(.agg [.d (.lit (.int .i64 k)), .d (.str (bs (q).name)), .d (.str (bs (q).value)), .d (.str []), .snil, .d (.str []), .d (.lit (.bool false)), .d (.lit (.bool false)), .d (.str (bs (q).rule)), .d (.lit (.bool (q).dn)), .snil])], false, false, false⟩, ⟨5, [.d (.agg [.lit (.int .i64 c), .lit (.bool m), .lit (.int .i64 n), .str (bs t), .sl (List.map encE es)])], false, false, false⟩]) := by
  obtain ⟨la, x', o, h⟩ := (t51k k es hl B0 B1 ⟨5, [.d (.agg [.lit (.int .i64 c), .lit (.bool m), .lit (.int .i64 n), .str (bs t), .sl (List.map encE es)])], false, false, false⟩ u0 u1 (fun n => rfl) es 0 mz 0 false 0 .a rfl rfl).1 q hq
  simp only [mz, hT] at h
  simp -implicitDefEqProofs (disch := omega) only [go_sem, Int.reduceAdd, Int.reduceSub, Int.reduceMul, dec_t, dec_f, Nat.reduceBEq, Nat.reduceBNe, reduceShiftRight, reduceAnd, Nat.reduceAdd, Nat.reduceSub, reduceEqDiff, Nat.reduceLT, reduceLeDiff, reduceToNat, Int.reduceLT, Int.reduceLE, Int.reduceEq, reduceIte, reduceCtorEq] at h
  rw [q51]
  cases o <;> simp only [hT] at h <;> (simp -implicitDefEqProofs (disch := omega) only [go_sem, Int.reduceAdd, Int.reduceSub, Int.reduceMul, dec_t, dec_f, Nat.reduceBEq, Nat.reduceBNe, reduceShiftRight, reduceAnd, Nat.reduceAdd, Nat.reduceSub, reduceEqDiff, Nat.reduceLT, reduceLeDiff, reduceToNat, Int.reduceLT, Int.reduceLE, Int.reduceEq, reduceIte, reduceCtorEq, h])
theorem t51_n (c n k : Int) (m : Bool) (t : Bs) (es : List Eo) (hl : es.length ≤ 1000) (B0 B1 : Blk) (u0 : ∀ n, AV.under1s n B0.elems = true) (u1 : ∀ n, AV.under1s n B1.elems = true) (hq : rMo es 0 false mz = none) :
    ∃ (q : Mo) (T : Store), C 51 [.ptr 2 1 0 0, .d (.agg [.lit (.int .i64 c), .lit (.bool m), .lit (.int .i64 n), .str (bs t), .sl (List.map encE es)])] [B0, B1, ⟨11, [(.agg [.d (.lit (.int .i64 k)), .d (.str []), .d (.str []), .d (.str []), .snil, .d (.str []), .d (.lit (.bool false)), .d (.lit (.bool false)), .d (.str []), .d (.lit (.bool false)), .snil])], false, false, false⟩] = some (.d (.lit (.bool false)), [B0, B1, ⟨11, [(.agg [.d (.lit (.int .i64 k)), .d (.str (bs (q).name)), .d (.str (bs (q).value)), .d (.str []), .snil, .d (.str []), .d (.lit (.bool false)), .d (.lit (.bool false)), .d (.str (bs (q).rule)), .d (.lit (.bool (q).dn)), .snil])], false, false, false⟩, ⟨5, [.d (.agg [.lit (.int .i64 c), .lit (.bool m), .lit (.int .i64 n), .str (bs t), .sl (List.map encE es)])], false, false, false⟩] ++ T) := by
  rcases (t51k k es hl B0 B1 ⟨5, [.d (.agg [.lit (.int .i64 c), .lit (.bool m), .lit (.int .i64 n), .str (bs t), .sl (List.map encE es)])], false, false, false⟩ u0 u1 (fun n => rfl) es 0 mz 0 false 0 .a rfl rfl).2 hq with ⟨la, x', o, q, h⟩ | ⟨q, T, h⟩
  · refine ⟨q, [], ?_⟩
    simp only [mz, hT] at h
    simp -implicitDefEqProofs (disch := omega) only [go_sem, Int.reduceAdd, Int.reduceSub, Int.reduceMul, dec_t, dec_f, Nat.reduceBEq, Nat.reduceBNe, reduceShiftRight, reduceAnd, Nat.reduceAdd, Nat.reduceSub, reduceEqDiff, Nat.reduceLT, reduceLeDiff, reduceToNat, Int.reduceLT, Int.reduceLE, Int.reduceEq, reduceIte, reduceCtorEq] at h
    rw [q51]
    cases o <;> simp only [hT] at h <;> (simp -implicitDefEqProofs (disch := omega) only [go_sem, Int.reduceAdd, Int.reduceSub, Int.reduceMul, dec_t, dec_f, Nat.reduceBEq, Nat.reduceBNe, reduceShiftRight, reduceAnd, Nat.reduceAdd, Nat.reduceSub, reduceEqDiff, Nat.reduceLT, reduceLeDiff, reduceToNat, Int.reduceLT, Int.reduceLE, Int.reduceEq, reduceIte, reduceCtorEq, h])
  · refine ⟨q, T, ?_⟩
    simp only [mz, hT] at h
    simp -implicitDefEqProofs (disch := omega) only [go_sem, Int.reduceAdd, Int.reduceSub, Int.reduceMul, dec_t, dec_f, Nat.reduceBEq, Nat.reduceBNe, reduceShiftRight, reduceAnd, Nat.reduceAdd, Nat.reduceSub, reduceEqDiff, Nat.reduceLT, reduceLeDiff, reduceToNat, Int.reduceLT, Int.reduceLE, Int.reduceEq, reduceIte, reduceCtorEq] at h
    rw [q51]
    simp -implicitDefEqProofs (disch := omega) only [go_sem, Int.reduceAdd, Int.reduceSub, Int.reduceMul, dec_t, dec_f, Nat.reduceBEq, Nat.reduceBNe, reduceShiftRight, reduceAnd, Nat.reduceAdd, Nat.reduceSub, reduceEqDiff, Nat.reduceLT, reduceLeDiff, reduceToNat, Int.reduceLT, Int.reduceLE, Int.reduceEq, reduceIte, reduceCtorEq, h]
set_option maxRecDepth 10000
set_option maxHeartbeats 1000000
theorem t27_s (l : Nat) (h8 : l + 1 ≤ 8) (k : Int) (L : List Eo) (hl : L.length ≤ 1000) (B0 : Blk) (u0 : ∀ n, AV.under1s n B0.elems = true) (acc : List Fo) (j : Nat) (x : Int) (X Y : D) (c : Eo) (r : List Eo) (hx : x = j) (hd : L.drop j = c :: r) (ha : acc.length ≤ j) (g : Fo) (hc : pureCall C 27 [(.agg [.lit (.int .i64 (cls c)), .lit (.bool (made c)), .lit (.int .i64 (num c)), .str (bs (cont c)), .sl (List.map encE (els c))]), .lit (.int .i64 (l : Nat))] = some (.tup (.d (encO g)) [.lit (.bool true)])) :
    ∃ X2 Y2 : D, n27_31 ⟨[(1, .d (.lit (.int .i64 (l + 1 : Nat)))), (4, .ptr 1 1 0 0), (6, .ptr 2 1 0 0), (40, .d (.sl (List.map encE L))), (41, .d (.lit (.int .i64 L.length))), (42, .d (.lit (.int .i64 x)))], (B0 :: ⟨11, [(.agg [.d (.lit (.int .i64 0)), .d (.str []), .d (.str []), .d (.str []), .snil, .d (.str []), .d (.lit (.bool false)), .d (.lit (.bool false)), .d (.str []), .d (.lit (.bool false)), .snil])], false, false, false⟩ :: ⟨11, [(.agg [.d (.lit (.int .i64 k)), .d (.str []), .d (.str []), .d (.str []), .snil, .d (.str []), .d (.lit (.bool false)), .d (.lit (.bool false)), .d (.str []), .d (.lit (.bool false)), (bif (acc).isEmpty then .snil else .sref 5 (acc).length 11 0 (acc).length)])], false, false, false⟩ :: (bif (acc).isEmpty then [] else [⟨5, [.d X], false, false, false⟩, ⟨11, [.d Y], false, false, false⟩, ⟨11, List.map AV.d (List.map encO (acc)), true, false, false⟩]))⟩ = n27_31 ⟨[(1, .d (.lit (.int .i64 (l + 1 : Nat)))), (4, .ptr 1 1 0 0), (6, .ptr 2 1 0 0), (40, .d (.sl (List.map encE L))), (41, .d (.lit (.int .i64 L.length))), (42, .d (.lit (.int .i64 (x + 1))))], (B0 :: ⟨11, [(.agg [.d (.lit (.int .i64 0)), .d (.str []), .d (.str []), .d (.str []), .snil, .d (.str []), .d (.lit (.bool false)), .d (.lit (.bool false)), .d (.str []), .d (.lit (.bool false)), .snil])], false, false, false⟩ :: ⟨11, [(.agg [.d (.lit (.int .i64 k)), .d (.str []), .d (.str []), .d (.str []), .snil, .d (.str []), .d (.lit (.bool false)), .d (.lit (.bool false)), .d (.str []), .d (.lit (.bool false)), (bif (acc ++ [g]).isEmpty then .snil else .sref 5 (acc ++ [g]).length 11 0 (acc ++ [g]).length)])], false, false, false⟩ :: (bif (acc ++ [g]).isEmpty then [] else [⟨5, [.d X2], false, false, false⟩, ⟨11, [.d Y2], false, false, false⟩, ⟨11, List.map AV.d (List.map encO (acc ++ [g])), true, false, false⟩]))⟩ := by
  obtain ⟨g1, g2, g3, g4⟩ := drop_cons hd
  have hnat : Int.toNat x = j := by omega
  have hw : ((l + 1 : Nat) : Int) - 1 = l := by omega
  rw [r_n27_31]
  cases he : acc.isEmpty
  · refine ⟨X, Y, ?_⟩
    simp -implicitDefEqProofs (disch := omega) only [go_sem, Int.reduceAdd, Int.reduceSub, Int.reduceMul, dec_t, dec_f, Nat.reduceBEq, Nat.reduceBNe, reduceShiftRight, reduceAnd, Nat.reduceAdd, Nat.reduceSub, reduceEqDiff, Nat.reduceLT, reduceLeDiff, reduceToNat, Int.reduceLT, Int.reduceLE, Int.reduceEq, reduceIte, reduceCtorEq, he, g2, hnat, hw, hc, u0]
  · refine ⟨(.agg [.lit (.int .i64 (cls c)), .lit (.bool (made c)), .lit (.int .i64 (num c)), .str (bs (cont c)), .sl (List.map encE (els c))]), encO g, ?_⟩
    have : acc = [] := List.isEmpty_iff.1 he
    simp -implicitDefEqProofs (disch := omega) only [go_sem, Int.reduceAdd, Int.reduceSub, Int.reduceMul, dec_t, dec_f, Nat.reduceBEq, Nat.reduceBNe, reduceShiftRight, reduceAnd, Nat.reduceAdd, Nat.reduceSub, reduceEqDiff, Nat.reduceLT, reduceLeDiff, reduceToNat, Int.reduceLT, Int.reduceLE, Int.reduceEq, reduceIte, reduceCtorEq, this, g2, hnat, hw, hc, u0]
theorem t27_f (l : Nat) (h8 : l + 1 ≤ 8) (k : Int) (L : List Eo) (hl : L.length ≤ 1000) (B0 : Blk) (u0 : ∀ n, AV.under1s n B0.elems = true) (acc : List Fo) (j : Nat) (x : Int) (X Y : D) (c : Eo) (r : List Eo) (hx : x = j) (hd : L.drop j = c :: r) (ha : acc.length ≤ j) (g : Fo) (hc : pureCall C 27 [(.agg [.lit (.int .i64 (cls c)), .lit (.bool (made c)), .lit (.int .i64 (num c)), .str (bs (cont c)), .sl (List.map encE (els c))]), .lit (.int .i64 (l : Nat))] = some (.tup (.d (encO g)) [.lit (.bool false)])) :
    ∃ T : Store, n27_31 ⟨[(1, .d (.lit (.int .i64 (l + 1 : Nat)))), (4, .ptr 1 1 0 0), (6, .ptr 2 1 0 0), (40, .d (.sl (List.map encE L))), (41, .d (.lit (.int .i64 L.length))), (42, .d (.lit (.int .i64 x)))], (B0 :: ⟨11, [(.agg [.d (.lit (.int .i64 0)), .d (.str []), .d (.str []), .d (.str []), .snil, .d (.str []), .d (.lit (.bool false)), .d (.lit (.bool false)), .d (.str []), .d (.lit (.bool false)), .snil])], false, false, false⟩ :: ⟨11, [(.agg [.d (.lit (.int .i64 k)), .d (.str []), .d (.str []), .d (.str []), .snil, .d (.str []), .d (.lit (.bool false)), .d (.lit (.bool false)), .d (.str []), .d (.lit (.bool false)), (bif (acc).isEmpty then .snil else .sref 5 (acc).length 11 0 (acc).length)])], false, false, false⟩ :: (bif (acc).isEmpty then [] else [⟨5, [.d X], false, false, false⟩, ⟨11, [.d Y], false, false, false⟩, ⟨11, List.map AV.d (List.map encO (acc)), true, false, false⟩]))⟩ = some (.ret, ⟨[(4, .ptr 1 1 0 0), (5, .d (.lit (.bool false)))], B0 :: ⟨11, [(.agg [.d (.lit (.int .i64 0)), .d (.str []), .d (.str []), .d (.str []), .snil, .d (.str []), .d (.lit (.bool false)), .d (.lit (.bool false)), .d (.str []), .d (.lit (.bool false)), .snil])], false, false, false⟩ :: T⟩) := by
  obtain ⟨g1, g2, g3, g4⟩ := drop_cons hd
  have hnat : Int.toNat x = j := by omega
  have hw : ((l + 1 : Nat) : Int) - 1 = l := by omega
  rw [r_n27_31]
  refine ⟨⟨11, [(.agg [.d (.lit (.int .i64 k)), .d (.str []), .d (.str []), .d (.str []), .snil, .d (.str []), .d (.lit (.bool false)), .d (.lit (.bool false)), .d (.str []), .d (.lit (.bool false)), (bif acc.isEmpty then .snil else .sref 5 acc.length 11 0 acc.length)])], false, false, false⟩ :: ((bif acc.isEmpty then [] else [⟨5, [.d X], false, false, false⟩, ⟨11, [.d Y], false, false, false⟩, ⟨11, List.map AV.d (List.map encO acc), true, false, false⟩]) ++ [⟨5, [.d (.agg [.lit (.int .i64 (cls c)), .lit (.bool (made c)), .lit (.int .i64 (num c)), .str (bs (cont c)), .sl (List.map encE (els c))])], false, false, false⟩, ⟨11, [.d (.agg [.lit (.int .i64 (kind g)), .str (bs (name g)), .str (bs (value g)), .str (bs (ini g)), .sl (List.map encS (any g)), .str (bs (fin g)), .lit (.bool (hi g)), .lit (.bool (hf g)), .str (bs (rule g)), .lit (.bool (dn g)), .sl (List.map encO (kids g))])], false, false, false⟩]), ?_⟩
  cases he : acc.isEmpty
  · simp -implicitDefEqProofs (disch := omega) only [go_sem, Int.reduceAdd, Int.reduceSub, Int.reduceMul, dec_t, dec_f, Nat.reduceBEq, Nat.reduceBNe, reduceShiftRight, reduceAnd, Nat.reduceAdd, Nat.reduceSub, reduceEqDiff, Nat.reduceLT, reduceLeDiff, reduceToNat, Int.reduceLT, Int.reduceLE, Int.reduceEq, reduceIte, reduceCtorEq, he, g2, hnat, hw, hc, u0]
  · have : acc = [] := List.isEmpty_iff.1 he
    simp -implicitDefEqProofs (disch := omega) only [go_sem, Int.reduceAdd, Int.reduceSub, Int.reduceMul, dec_t, dec_f, Nat.reduceBEq, Nat.reduceBNe, reduceShiftRight, reduceAnd, Nat.reduceAdd, Nat.reduceSub, reduceEqDiff, Nat.reduceLT, reduceLeDiff, reduceToNat, Int.reduceLT, Int.reduceLE, Int.reduceEq, reduceIte, reduceCtorEq, this, g2, hnat, hw, hc, u0]
theorem t27_e (l : Nat) (h8 : l + 1 ≤ 8) (k : Int) (L : List Eo) (hl : L.length ≤ 1000) (B0 : Blk) (u0 : ∀ n, AV.under1s n B0.elems = true) (acc : List Fo) (j : Nat) (x : Int) (X Y : D) (hx : x = j) (hd : L.drop j = []) :
    ∃ x', n27_31 ⟨[(1, .d (.lit (.int .i64 (l + 1 : Nat)))), (4, .ptr 1 1 0 0), (6, .ptr 2 1 0 0), (40, .d (.sl (List.map encE L))), (41, .d (.lit (.int .i64 L.length))), (42, .d (.lit (.int .i64 x)))], (B0 :: ⟨11, [(.agg [.d (.lit (.int .i64 0)), .d (.str []), .d (.str []), .d (.str []), .snil, .d (.str []), .d (.lit (.bool false)), .d (.lit (.bool false)), .d (.str []), .d (.lit (.bool false)), .snil])], false, false, false⟩ :: ⟨11, [(.agg [.d (.lit (.int .i64 k)), .d (.str []), .d (.str []), .d (.str []), .snil, .d (.str []), .d (.lit (.bool false)), .d (.lit (.bool false)), .d (.str []), .d (.lit (.bool false)), (bif (acc).isEmpty then .snil else .sref 5 (acc).length 11 0 (acc).length)])], false, false, false⟩ :: (bif (acc).isEmpty then [] else [⟨5, [.d X], false, false, false⟩, ⟨11, [.d Y], false, false, false⟩, ⟨11, List.map AV.d (List.map encO (acc)), true, false, false⟩]))⟩ = some (.exit 1, ⟨[(1, .d (.lit (.int .i64 (l + 1 : Nat)))), (4, .ptr 1 1 0 0), (6, .ptr 2 1 0 0), (40, .d (.sl (List.map encE L))), (41, .d (.lit (.int .i64 L.length))), (42, x'), (43, .d (.lit (.bool false)))], (B0 :: ⟨11, [(.agg [.d (.lit (.int .i64 0)), .d (.str []), .d (.str []), .d (.str []), .snil, .d (.str []), .d (.lit (.bool false)), .d (.lit (.bool false)), .d (.str []), .d (.lit (.bool false)), .snil])], false, false, false⟩ :: ⟨11, [(.agg [.d (.lit (.int .i64 k)), .d (.str []), .d (.str []), .d (.str []), .snil, .d (.str []), .d (.lit (.bool false)), .d (.lit (.bool false)), .d (.str []), .d (.lit (.bool false)), (bif (acc).isEmpty then .snil else .sref 5 (acc).length 11 0 (acc).length)])], false, false, false⟩ :: (bif (acc).isEmpty then [] else [⟨5, [.d X], false, false, false⟩, ⟨11, [.d Y], false, false, false⟩, ⟨11, List.map AV.d (List.map encO (acc)), true, false, false⟩]))⟩) := by
  have hd := drop_nil hd
  refine ⟨.d (.lit (.int .i64 x)), ?_⟩
  rw [r_n27_31]
  cases he : acc.isEmpty <;> (simp -implicitDefEqProofs (disch := omega) only [go_sem, Int.reduceAdd, Int.reduceSub, Int.reduceMul, dec_t, dec_f, Nat.reduceBEq, Nat.reduceBNe, reduceShiftRight, reduceAnd, Nat.reduceAdd, Nat.reduceSub, reduceEqDiff, Nat.reduceLT, reduceLeDiff, reduceToNat, Int.reduceLT, Int.reduceLE, Int.reduceEq, reduceIte, reduceCtorEq, he, u0])
theorem t27k (l : Nat) (h8 : l + 1 ≤ 8) (k : Int) (L : List Eo) (hl : L.length ≤ 1000) (B0 : Blk) (u0 : ∀ n, AV.under1s n B0.elems = true) (IH : ∀ e ∈ L, ∃ f', pureCall C 27 [(.agg [.lit (.int .i64 (cls e)), .lit (.bool (made e)), .lit (.int .i64 (num e)), .str (bs (cont e)), .sl (List.map encE (els e))]), .lit (.int .i64 (l : Nat))] = some (.tup (.d (encO f')) [.lit (.bool (readO l e).isSome)]) ∧ ∀ f, readO l e = some f → f' = f) : ∀ (r : List Eo) (acc : List Fo) (j : Nat) (x : Int) (X Y : D), x = j → L.drop j = r → acc.length ≤ j →
    (∀ q, mapO (readO l) r = some q → ∃ x' X' Y', n27_31 ⟨[(1, .d (.lit (.int .i64 (l + 1 : Nat)))), (4, .ptr 1 1 0 0), (6, .ptr 2 1 0 0), (40, .d (.sl (List.map encE L))), (41, .d (.lit (.int .i64 L.length))), (42, .d (.lit (.int .i64 x)))], (B0 :: ⟨11, [(.agg [.d (.lit (.int .i64 0)), .d (.str []), .d (.str []), .d (.str []), .snil, .d (.str []), .d (.lit (.bool false)), .d (.lit (.bool false)), .d (.str []), .d (.lit (.bool false)), .snil])], false, false, false⟩ :: ⟨11, [(.agg [.d (.lit (.int .i64 k)), .d (.str []), .d (.str []), .d (.str []), .snil, .d (.str []), .d (.lit (.bool false)), .d (.lit (.bool false)), .d (.str []), .d (.lit (.bool false)), (bif (acc).isEmpty then .snil else .sref 5 (acc).length 11 0 (acc).length)])], false, false, false⟩ :: (bif (acc).isEmpty then [] else [⟨5, [.d X], false, false, false⟩, ⟨11, [.d Y], false, false, false⟩, ⟨11, List.map AV.d (List.map encO (acc)), true, false, false⟩]))⟩ = some (.exit 1, ⟨[(1, .d (.lit (.int .i64 (l + 1 : Nat)))), (4, .ptr 1 1 0 0), (6, .ptr 2 1 0 0), (40, .d (.sl (List.map encE L))), (41, .d (.lit (.int .i64 L.length))), (42, x'), (43, .d (.lit (.bool false)))], (B0 :: ⟨11, [(.agg [.d (.lit (.int .i64 0)), .d (.str []), .d (.str []), .d (.str []), .snil, .d (.str []), .d (.lit (.bool false)), .d (.lit (.bool false)), .d (.str []), .d (.lit (.bool false)), .snil])], false, false, false⟩ :: ⟨11, [(.agg [.d (.lit (.int .i64 k)), .d (.str []), .d (.str []), .d (.str []), .snil, .d (.str []), .d (.lit (.bool false)), .d (.lit (.bool false)), .d (.str []), .d (.lit (.bool false)), (bif (acc ++ q).isEmpty then .snil else .sref 5 (acc ++ q).length 11 0 (acc ++ q).length)])], false, false, false⟩ :: (bif (acc ++ q).isEmpty then [] else [⟨5, [.d X'], false, false, false⟩, ⟨11, [.d Y'], false, false, false⟩, ⟨11, List.map AV.d (List.map encO (acc ++ q)), true, false, false⟩]))⟩)) ∧
    (mapO (readO l) r = none → ∃ T : Store, n27_31 ⟨[(1, .d (.lit (.int .i64 (l + 1 : Nat)))), (4, .ptr 1 1 0 0), (6, .ptr 2 1 0 0), (40, .d (.sl (List.map encE L))), (41, .d (.lit (.int .i64 L.length))), (42, .d (.lit (.int .i64 x)))], (B0 :: ⟨11, [(.agg [.d (.lit (.int .i64 0)), .d (.str []), .d (.str []), .d (.str []), .snil, .d (.str []), .d (.lit (.bool false)), .d (.lit (.bool false)), .d (.str []), .d (.lit (.bool false)), .snil])], false, false, false⟩ :: ⟨11, [(.agg [.d (.lit (.int .i64 k)), .d (.str []), .d (.str []), .d (.str []), .snil, .d (.str []), .d (.lit (.bool false)), .d (.lit (.bool false)), .d (.str []), .d (.lit (.bool false)), (bif (acc).isEmpty then .snil else .sref 5 (acc).length 11 0 (acc).length)])], false, false, false⟩ :: (bif (acc).isEmpty then [] else [⟨5, [.d X], false, false, false⟩, ⟨11, [.d Y], false, false, false⟩, ⟨11, List.map AV.d (List.map encO (acc)), true, false, false⟩]))⟩ = some (.ret, ⟨[(4, .ptr 1 1 0 0), (5, .d (.lit (.bool false)))], B0 :: ⟨11, [(.agg [.d (.lit (.int .i64 0)), .d (.str []), .d (.str []), .d (.str []), .snil, .d (.str []), .d (.lit (.bool false)), .d (.lit (.bool false)), .d (.str []), .d (.lit (.bool false)), .snil])], false, false, false⟩ :: T⟩))
  | [], acc, j, x, X, Y, hx, hd, ha => by
    obtain ⟨x', h⟩ := t27_e l h8 k L hl B0 u0 acc j x X Y hx hd
    refine ⟨fun q hq => ⟨x', X, Y, ?_⟩, fun hq => (by cases hq)⟩
    rw [← Option.some.inj hq, List.append_nil]
    exact h
  | c :: r, acc, j, x, X, Y, hx, hd, ha => by
    have g3 := (drop_cons hd).2.2.1
    obtain ⟨f', hc, hf⟩ := IH c (drop_cons hd).2.2.2
    rw [mapO]
    cases hr : readO l c with
    | none =>
      rw [hr] at hc
      obtain ⟨T, h⟩ := t27_f l h8 k L hl B0 u0 acc j x X Y c r hx hd ha f' hc
      exact ⟨fun q hq => (by cases hq), fun _ => ⟨T, h⟩⟩
    | some f =>
      have := hf f hr
      subst this
      rw [hr] at hc
      obtain ⟨X2, Y2, h⟩ := t27_s l h8 k L hl B0 u0 acc j x X Y c r hx hd ha f' hc
      rw [h]
      have := t27k l h8 k L hl B0 u0 IH r (acc ++ [f']) (j + 1) (x + 1) X2 Y2 (by omega) g3 (by rw [List.length_append]; simp only [List.length_cons, List.length_nil]; omega)
      constructor
      · intro q hq
        cases hm : mapO (readO l) r with
        | none => rw [hm] at hq; cases hq
        | some m =>
          rw [hm] at hq
          rw [← show f' :: m = q from Option.some.inj hq, show acc ++ f' :: m = (acc ++ [f']) ++ m by simp]
          exact this.1 m hm
      · intro hq
        cases hm : mapO (readO l) r with
        | none => exact this.2 hm
        | some m => rw [hm] at hq; cases hq
set_option maxRecDepth 10000
set_option maxHeartbeats 2000000
def zF : Fo := mkF 0 b0 b0 b0 [] b0 false false b0 false []
theorem t27_z (e : Eo) : pureCall C 27 [(.agg [.lit (.int .i64 (cls e)), .lit (.bool (made e)), .lit (.int .i64 (num e)), .str (bs (cont e)), .sl (List.map encE (els e))]), .lit (.int .i64 0)] = some (.tup (.d (encO zF)) [.lit (.bool false)]) := by
  rw [p27]
  simp -implicitDefEqProofs (disch := omega) only [go_sem, Int.reduceAdd, Int.reduceSub, Int.reduceMul, dec_t, dec_f, Nat.reduceBEq, Nat.reduceBNe, reduceShiftRight, reduceAnd, Nat.reduceAdd, Nat.reduceSub, reduceEqDiff, Nat.reduceLT, reduceLeDiff, reduceToNat, Int.reduceLT, Int.reduceLE, Int.reduceEq, reduceIte, reduceCtorEq, zF]
theorem t27_c (e : Eo) (l : Nat) (h8 : l + 1 ≤ 8) (hc : ¬ cls e = 2) : pureCall C 27 [(.agg [.lit (.int .i64 (cls e)), .lit (.bool (made e)), .lit (.int .i64 (num e)), .str (bs (cont e)), .sl (List.map encE (els e))]), .lit (.int .i64 (l + 1 : Nat))] = some (.tup (.d (encO zF)) [.lit (.bool false)]) := by
  rw [p27]
  simp -implicitDefEqProofs (disch := omega) only [go_sem, Int.reduceAdd, Int.reduceSub, Int.reduceMul, dec_t, dec_f, Nat.reduceBEq, Nat.reduceBNe, reduceShiftRight, reduceAnd, Nat.reduceAdd, Nat.reduceSub, reduceEqDiff, Nat.reduceLT, reduceLeDiff, reduceToNat, Int.reduceLT, Int.reduceLE, Int.reduceEq, reduceIte, reduceCtorEq, zF]
theorem t27_m (e : Eo) (l : Nat) (h8 : l + 1 ≤ 8) (hc : cls e = 2) (hm : (made e == decide (num e = 7)) = true) : pureCall C 27 [(.agg [.lit (.int .i64 (cls e)), .lit (.bool (made e)), .lit (.int .i64 (num e)), .str (bs (cont e)), .sl (List.map encE (els e))]), .lit (.int .i64 (l + 1 : Nat))] = some (.tup (.d (encO zF)) [.lit (.bool false)]) := by
  rw [p27]
  by_cases k : num e = 7
  · rw [decide_eq_true k] at hm
    have hm : made e = true := by simpa using hm
    simp -implicitDefEqProofs (disch := omega) only [go_sem, Int.reduceAdd, Int.reduceSub, Int.reduceMul, dec_t, dec_f, Nat.reduceBEq, Nat.reduceBNe, reduceShiftRight, reduceAnd, Nat.reduceAdd, Nat.reduceSub, reduceEqDiff, Nat.reduceLT, reduceLeDiff, reduceToNat, Int.reduceLT, Int.reduceLE, Int.reduceEq, reduceIte, reduceCtorEq, zF, hc, hm, k]
  · rw [decide_eq_false k] at hm
    have hm : made e = false := by simpa using hm
    simp -implicitDefEqProofs (disch := omega) only [go_sem, Int.reduceAdd, Int.reduceSub, Int.reduceMul, dec_t, dec_f, Nat.reduceBEq, Nat.reduceBNe, reduceShiftRight, reduceAnd, Nat.reduceAdd, Nat.reduceSub, reduceEqDiff, Nat.reduceLT, reduceLeDiff, reduceToNat, Int.reduceLT, Int.reduceLE, Int.reduceEq, reduceIte, reduceCtorEq, zF, hc, hm]
theorem t27_7 (e : Eo) (l : Nat) (h8 : l + 1 ≤ 8) (hc : cls e = 2) (hm : made e = false) (k : num e = 7) : pureCall C 27 [(.agg [.lit (.int .i64 (cls e)), .lit (.bool (made e)), .lit (.int .i64 (num e)), .str (bs (cont e)), .sl (List.map encE (els e))]), .lit (.int .i64 (l + 1 : Nat))] = some (.tup (.d (encO (mkF 7 (lowB (cont e)) b0 b0 [] b0 false false b0 false []))) [.lit (.bool (els e).isEmpty)]) := by
  have hl := els_le e
  rw [p27]
  simp -implicitDefEqProofs (disch := omega) only [go_sem, Int.reduceAdd, Int.reduceSub, Int.reduceMul, dec_t, dec_f, Nat.reduceBEq, Nat.reduceBNe, reduceShiftRight, reduceAnd, Nat.reduceAdd, Nat.reduceSub, reduceEqDiff, Nat.reduceLT, reduceLeDiff, reduceToNat, Int.reduceLT, Int.reduceLE, Int.reduceEq, reduceIte, reduceCtorEq, hc, hm, k, t18, lenz]
theorem t27_o2 (e : Eo) (l : Nat) (h8 : l + 1 ≤ 8) (hc : cls e = 2) (hm : made e = true) (k0 : ¬ num e = 0) (k1 : ¬ num e = 1) (k2 : ¬ num e = 2) (k7 : ¬ num e = 7) (k4 : ¬ num e = 4) (k9 : ¬ num e = 9) (a b : Eo) (he : els e = [a, b]) :
    ∃ f', pureCall C 27 [(.agg [.lit (.int .i64 (cls e)), .lit (.bool (made e)), .lit (.int .i64 (num e)), .str (bs (cont e)), .sl (List.map encE (els e))]), .lit (.int .i64 (l + 1 : Nat))] = some (.tup (.d (encO f')) [.lit (.bool (snd1 a && snd1 b && isE b 0 4 false && isE a 0 4 false))]) ∧ ((snd1 a && snd1 b && isE b 0 4 false && isE a 0 4 false) = true → f' = mkF (num e) (lowB (cont a)) (cont b) b0 [] b0 false false b0 false []) := by
  cases hb : (snd1 a && snd1 b && isE b 0 4 false && isE a 0 4 false)
  · obtain ⟨v, h⟩ := t52_f 2 (num e) (num e) true (cont e) a b hb ⟨5, [.d (.agg [.lit (.int .i64 2), .lit (.bool true), .lit (.int .i64 (num e)), .str (bs (cont e)), .sl [(.agg [.lit (.int .i64 (cls a)), .lit (.bool (made a)), .lit (.int .i64 (num a)), .str (bs (cont a)), .sl (List.map encE (els a))]), (.agg [.lit (.int .i64 (cls b)), .lit (.bool (made b)), .lit (.int .i64 (num b)), .str (bs (cont b)), .sl (List.map encE (els b))])]])], false, false, false⟩ ⟨11, [(.agg [.d (.lit (.int .i64 0)), .d (.str []), .d (.str []), .d (.str []), .snil, .d (.str []), .d (.lit (.bool false)), .d (.lit (.bool false)), .d (.str []), .d (.lit (.bool false)), .snil])], false, false, false⟩
    refine ⟨mkF (num e) b0 v b0 [] b0 false false b0 false [], ?_, fun h => by cases h⟩
    rw [p27]
    simp -implicitDefEqProofs (disch := omega) only [go_sem, Int.reduceAdd, Int.reduceSub, Int.reduceMul, dec_t, dec_f, Nat.reduceBEq, Nat.reduceBNe, reduceShiftRight, reduceAnd, Nat.reduceAdd, Nat.reduceSub, reduceEqDiff, Nat.reduceLT, reduceLeDiff, reduceToNat, Int.reduceLT, Int.reduceLE, Int.reduceEq, reduceIte, reduceCtorEq, he, hc, hm, h]
  · have h := t52_ok 2 (num e) (num e) true (cont e) a b hb ⟨5, [.d (.agg [.lit (.int .i64 2), .lit (.bool true), .lit (.int .i64 (num e)), .str (bs (cont e)), .sl [(.agg [.lit (.int .i64 (cls a)), .lit (.bool (made a)), .lit (.int .i64 (num a)), .str (bs (cont a)), .sl (List.map encE (els a))]), (.agg [.lit (.int .i64 (cls b)), .lit (.bool (made b)), .lit (.int .i64 (num b)), .str (bs (cont b)), .sl (List.map encE (els b))])]])], false, false, false⟩ ⟨11, [(.agg [.d (.lit (.int .i64 0)), .d (.str []), .d (.str []), .d (.str []), .snil, .d (.str []), .d (.lit (.bool false)), .d (.lit (.bool false)), .d (.str []), .d (.lit (.bool false)), .snil])], false, false, false⟩
    refine ⟨_, ?_, fun _ => rfl⟩
    rw [p27]
    simp -implicitDefEqProofs (disch := omega) only [go_sem, Int.reduceAdd, Int.reduceSub, Int.reduceMul, dec_t, dec_f, Nat.reduceBEq, Nat.reduceBNe, reduceShiftRight, reduceAnd, Nat.reduceAdd, Nat.reduceSub, reduceEqDiff, Nat.reduceLT, reduceLeDiff, reduceToNat, Int.reduceLT, Int.reduceLE, Int.reduceEq, reduceIte, reduceCtorEq, he, hc, hm, h]
theorem t27_on (e : Eo) (l : Nat) (h8 : l + 1 ≤ 8) (hc : cls e = 2) (hm : made e = true) (k0 : ¬ num e = 0) (k1 : ¬ num e = 1) (k2 : ¬ num e = 2) (k7 : ¬ num e = 7) (k4 : ¬ num e = 4) (k9 : ¬ num e = 9) (he : (els e).length ≠ 2) : pureCall C 27 [(.agg [.lit (.int .i64 (cls e)), .lit (.bool (made e)), .lit (.int .i64 (num e)), .str (bs (cont e)), .sl (List.map encE (els e))]), .lit (.int .i64 (l + 1 : Nat))] = some (.tup (.d (encO (mkF (num e) b0 b0 b0 [] b0 false false b0 false []))) [.lit (.bool false)]) := by
  have h := t52_no 2 (num e) (num e) true (cont e) (els e) (els_le e) he ⟨5, [.d (.agg [.lit (.int .i64 2), .lit (.bool true), .lit (.int .i64 (num e)), .str (bs (cont e)), .sl (List.map encE (els e))])], false, false, false⟩ ⟨11, [(.agg [.d (.lit (.int .i64 0)), .d (.str []), .d (.str []), .d (.str []), .snil, .d (.str []), .d (.lit (.bool false)), .d (.lit (.bool false)), .d (.str []), .d (.lit (.bool false)), .snil])], false, false, false⟩
  rw [p27]
  simp -implicitDefEqProofs (disch := omega) only [go_sem, Int.reduceAdd, Int.reduceSub, Int.reduceMul, dec_t, dec_f, Nat.reduceBEq, Nat.reduceBNe, reduceShiftRight, reduceAnd, Nat.reduceAdd, Nat.reduceSub, reduceEqDiff, Nat.reduceLT, reduceLeDiff, reduceToNat, Int.reduceLT, Int.reduceLE, Int.reduceEq, reduceIte, reduceCtorEq, hc, hm, h]
theorem t27_4n (e : Eo) (l : Nat) (h8 : l + 1 ≤ 8) (hc : cls e = 2) (hm : made e = true) (k : num e = 4) (he : (els e).length ≠ 2) (hle : (els e).length ≤ 1000) : pureCall C 27 [(.agg [.lit (.int .i64 (cls e)), .lit (.bool (made e)), .lit (.int .i64 (num e)), .str (bs (cont e)), .sl (List.map encE (els e))]), .lit (.int .i64 (l + 1 : Nat))] = some (.tup (.d (encO (mkF 4 b0 b0 b0 [] b0 false false b0 false []))) [.lit (.bool false)]) := by
  have h := t50_no 2 4 4 true (cont e) (els e) hle he ⟨5, [.d (.agg [.lit (.int .i64 2), .lit (.bool true), .lit (.int .i64 4), .str (bs (cont e)), .sl (List.map encE (els e))])], false, false, false⟩ ⟨11, [(.agg [.d (.lit (.int .i64 0)), .d (.str []), .d (.str []), .d (.str []), .snil, .d (.str []), .d (.lit (.bool false)), .d (.lit (.bool false)), .d (.str []), .d (.lit (.bool false)), .snil])], false, false, false⟩
  rw [p27]
  simp -implicitDefEqProofs (disch := omega) only [go_sem, Int.reduceAdd, Int.reduceSub, Int.reduceMul, dec_t, dec_f, Nat.reduceBEq, Nat.reduceBNe, reduceShiftRight, reduceAnd, Nat.reduceAdd, Nat.reduceSub, reduceEqDiff, Nat.reduceLT, reduceLeDiff, reduceToNat, Int.reduceLT, Int.reduceLE, Int.reduceEq, reduceIte, reduceCtorEq, hc, hm, k, h]
theorem t27_4t (e : Eo) (l : Nat) (h8 : l + 1 ≤ 8) (hc : cls e = 2) (hm : made e = true) (k : num e = 4) (a b : Eo) (he : els e = [a, b]) (hl : (els b).length ≤ 1000) (hb : (snd1 a && snd1 b && isE b 0 16 true && (els b).all snd1 && isE a 0 4 false) = true) (q : Pc) (hq : rPc (els b) 0 pz = some q) : pureCall C 27 [(.agg [.lit (.int .i64 (cls e)), .lit (.bool (made e)), .lit (.int .i64 (num e)), .str (bs (cont e)), .sl (List.map encE (els e))]), .lit (.int .i64 (l + 1 : Nat))] = some (.tup (.d (encO (mkF 4 (lowB (cont a)) b0 q.i q.a q.f q.x q.y b0 false []))) [.lit (.bool true)]) := by
  obtain ⟨X, h⟩ := t50_ok 2 4 4 true (cont e) a b hl hb ⟨5, [.d (.agg [.lit (.int .i64 2), .lit (.bool true), .lit (.int .i64 4), .str (bs (cont e)), .sl [(.agg [.lit (.int .i64 (cls a)), .lit (.bool (made a)), .lit (.int .i64 (num a)), .str (bs (cont a)), .sl (List.map encE (els a))]), (.agg [.lit (.int .i64 (cls b)), .lit (.bool (made b)), .lit (.int .i64 (num b)), .str (bs (cont b)), .sl (List.map encE (els b))])]])], false, false, false⟩ ⟨11, [(.agg [.d (.lit (.int .i64 0)), .d (.str []), .d (.str []), .d (.str []), .snil, .d (.str []), .d (.lit (.bool false)), .d (.lit (.bool false)), .d (.str []), .d (.lit (.bool false)), .snil])], false, false, false⟩ (fun n => rfl) (fun n => rfl) q hq
  have hqa : q.a.length ≤ 2 ^ 28 := by
    rw [rPc_g _ _ _ _ hq]
    refine Nat.le_trans (gPc_len _ _) ?_
    show 0 + _ ≤ _
    omega
  have ha := mkf_any 4 (lowB (cont a)) b0 q.i q.a q.f q.x q.y b0 false [] hqa
  rw [p27]
  cases he2 : q.a.isEmpty
  · simp only [he2, cond_true, cond_false] at h
    simp -implicitDefEqProofs (disch := omega) only [go_sem, Int.reduceAdd, Int.reduceSub, Int.reduceMul, dec_t, dec_f, Nat.reduceBEq, Nat.reduceBNe, reduceShiftRight, reduceAnd, Nat.reduceAdd, Nat.reduceSub, reduceEqDiff, Nat.reduceLT, reduceLeDiff, reduceToNat, Int.reduceLT, Int.reduceLE, Int.reduceEq, reduceIte, reduceCtorEq, he, hc, hm, k, h, ha]
  · simp only [he2, cond_true, cond_false] at h
    have : q.a = [] := List.isEmpty_iff.1 he2
    simp -implicitDefEqProofs (disch := omega) only [go_sem, Int.reduceAdd, Int.reduceSub, Int.reduceMul, dec_t, dec_f, Nat.reduceBEq, Nat.reduceBNe, reduceShiftRight, reduceAnd, Nat.reduceAdd, Nat.reduceSub, reduceEqDiff, Nat.reduceLT, reduceLeDiff, reduceToNat, Int.reduceLT, Int.reduceLE, Int.reduceEq, reduceIte, reduceCtorEq, he, hc, hm, k, h, ha, this]
theorem t27_4f (e : Eo) (l : Nat) (h8 : l + 1 ≤ 8) (hc : cls e = 2) (hm : made e = true) (k : num e = 4) (a b : Eo) (he : els e = [a, b]) (hl : (els b).length ≤ 1000) (hb : ¬ ((snd1 a && snd1 b && isE b 0 16 true && (els b).all snd1 && isE a 0 4 false) = true ∧ ∃ q, rPc (els b) 0 pz = some q)) : ∃ f', pureCall C 27 [(.agg [.lit (.int .i64 (cls e)), .lit (.bool (made e)), .lit (.int .i64 (num e)), .str (bs (cont e)), .sl (List.map encE (els e))]), .lit (.int .i64 (l + 1 : Nat))] = some (.tup (.d (encO f')) [.lit (.bool false)]) := by
  obtain ⟨s, q, X, T, hqa, h⟩ := t50_n 2 4 4 true (cont e) a b hl hb ⟨5, [.d (.agg [.lit (.int .i64 2), .lit (.bool true), .lit (.int .i64 4), .str (bs (cont e)), .sl [(.agg [.lit (.int .i64 (cls a)), .lit (.bool (made a)), .lit (.int .i64 (num a)), .str (bs (cont a)), .sl (List.map encE (els a))]), (.agg [.lit (.int .i64 (cls b)), .lit (.bool (made b)), .lit (.int .i64 (num b)), .str (bs (cont b)), .sl (List.map encE (els b))])]])], false, false, false⟩ ⟨11, [(.agg [.d (.lit (.int .i64 0)), .d (.str []), .d (.str []), .d (.str []), .snil, .d (.str []), .d (.lit (.bool false)), .d (.lit (.bool false)), .d (.str []), .d (.lit (.bool false)), .snil])], false, false, false⟩ (fun n => rfl) (fun n => rfl)
  have ha := mkf_any 4 s b0 q.i q.a q.f q.x q.y b0 false [] (by omega)
  refine ⟨mkF 4 s b0 q.i q.a q.f q.x q.y b0 false [], ?_⟩
  rw [p27]
  cases he2 : q.a.isEmpty
  · simp only [he2, cond_true, cond_false] at h
    simp -implicitDefEqProofs (disch := omega) only [go_sem, Int.reduceAdd, Int.reduceSub, Int.reduceMul, dec_t, dec_f, Nat.reduceBEq, Nat.reduceBNe, reduceShiftRight, reduceAnd, Nat.reduceAdd, Nat.reduceSub, reduceEqDiff, Nat.reduceLT, reduceLeDiff, reduceToNat, Int.reduceLT, Int.reduceLE, Int.reduceEq, reduceIte, reduceCtorEq, he, hc, hm, k, h, ha]
  · simp only [he2, cond_true, cond_false] at h
    have : q.a = [] := List.isEmpty_iff.1 he2
    simp -implicitDefEqProofs (disch := omega) only [go_sem, Int.reduceAdd, Int.reduceSub, Int.reduceMul, dec_t, dec_f, Nat.reduceBEq, Nat.reduceBNe, reduceShiftRight, reduceAnd, Nat.reduceAdd, Nat.reduceSub, reduceEqDiff, Nat.reduceLT, reduceLeDiff, reduceToNat, Int.reduceLT, Int.reduceLE, Int.reduceEq, reduceIte, reduceCtorEq, he, hc, hm, k, h, ha, this]
theorem t27_9t (e : Eo) (l : Nat) (h8 : l + 1 ≤ 8) (hc : cls e = 2) (hm : made e = true) (k : num e = 9) (hl : (els e).length ≤ 1000) (q : Mo) (hq : rMo (els e) 0 false mz = some q) : pureCall C 27 [(.agg [.lit (.int .i64 (cls e)), .lit (.bool (made e)), .lit (.int .i64 (num e)), .str (bs (cont e)), .sl (List.map encE (els e))]), .lit (.int .i64 (l + 1 : Nat))] = some (.tup (.d (encO (mkF 9 q.name q.value b0 [] b0 false false q.rule q.dn []))) [.lit (.bool true)]) := by
  have h := t51_ok 2 9 9 true (cont e) (els e) hl ⟨5, [.d (.agg [.lit (.int .i64 2), .lit (.bool true), .lit (.int .i64 9), .str (bs (cont e)), .sl (List.map encE (els e))])], false, false, false⟩ ⟨11, [(.agg [.d (.lit (.int .i64 0)), .d (.str []), .d (.str []), .d (.str []), .snil, .d (.str []), .d (.lit (.bool false)), .d (.lit (.bool false)), .d (.str []), .d (.lit (.bool false)), .snil])], false, false, false⟩ (fun n => rfl) (fun n => rfl) q hq
  rw [p27]
  simp -implicitDefEqProofs (disch := omega) only [go_sem, Int.reduceAdd, Int.reduceSub, Int.reduceMul, dec_t, dec_f, Nat.reduceBEq, Nat.reduceBNe, reduceShiftRight, reduceAnd, Nat.reduceAdd, Nat.reduceSub, reduceEqDiff, Nat.reduceLT, reduceLeDiff, reduceToNat, Int.reduceLT, Int.reduceLE, Int.reduceEq, reduceIte, reduceCtorEq, hc, hm, k, h]
theorem t27_9f (e : Eo) (l : Nat) (h8 : l + 1 ≤ 8) (hc : cls e = 2) (hm : made e = true) (k : num e = 9) (hl : (els e).length ≤ 1000) (hq : rMo (els e) 0 false mz = none) : ∃ f', pureCall C 27 [(.agg [.lit (.int .i64 (cls e)), .lit (.bool (made e)), .lit (.int .i64 (num e)), .str (bs (cont e)), .sl (List.map encE (els e))]), .lit (.int .i64 (l + 1 : Nat))] = some (.tup (.d (encO f')) [.lit (.bool false)]) := by
  obtain ⟨q, T, h⟩ := t51_n 2 9 9 true (cont e) (els e) hl ⟨5, [.d (.agg [.lit (.int .i64 2), .lit (.bool true), .lit (.int .i64 9), .str (bs (cont e)), .sl (List.map encE (els e))])], false, false, false⟩ ⟨11, [(.agg [.d (.lit (.int .i64 0)), .d (.str []), .d (.str []), .d (.str []), .snil, .d (.str []), .d (.lit (.bool false)), .d (.lit (.bool false)), .d (.str []), .d (.lit (.bool false)), .snil])], false, false, false⟩ (fun n => rfl) (fun n => rfl) hq
  refine ⟨mkF 9 q.name q.value b0 [] b0 false false q.rule q.dn [], ?_⟩
  rw [p27]
  simp -implicitDefEqProofs (disch := omega) only [go_sem, Int.reduceAdd, Int.reduceSub, Int.reduceMul, dec_t, dec_f, Nat.reduceBEq, Nat.reduceBNe, reduceShiftRight, reduceAnd, Nat.reduceAdd, Nat.reduceSub, reduceEqDiff, Nat.reduceLT, reduceLeDiff, reduceToNat, Int.reduceLT, Int.reduceLE, Int.reduceEq, reduceIte, reduceCtorEq, hc, hm, k, h]
set_option maxRecDepth 10000
set_option maxHeartbeats 2000000
theorem t27_gn (e : Eo) (l : Nat) (h8 : l + 1 ≤ 8) (hc : cls e = 2) (hm : made e = true) (k0 : num e = 0 ∨ num e = 1 ∨ num e = 2) (T : Store) (h : n27_31 ⟨[(1, .d (.lit (.int .i64 (l + 1 : Nat)))), (4, .ptr 1 1 0 0), (6, .ptr 2 1 0 0), (40, .d (.sl (List.map encE (els e)))), (41, .d (.lit (.int .i64 (els e).length))), (42, .d (.lit (.int .i64 0)))], (⟨5, [.d (.agg [.lit (.int .i64 2), .lit (.bool true), .lit (.int .i64 (num e)), .str (bs (cont e)), .sl (List.map encE (els e))])], false, false, false⟩ :: ⟨11, [(.agg [.d (.lit (.int .i64 0)), .d (.str []), .d (.str []), .d (.str []), .snil, .d (.str []), .d (.lit (.bool false)), .d (.lit (.bool false)), .d (.str []), .d (.lit (.bool false)), .snil])], false, false, false⟩ :: ⟨11, [(.agg [.d (.lit (.int .i64 (num e))), .d (.str []), .d (.str []), .d (.str []), .snil, .d (.str []), .d (.lit (.bool false)), .d (.lit (.bool false)), .d (.str []), .d (.lit (.bool false)), (bif (([] : List Fo)).isEmpty then .snil else .sref 5 (([] : List Fo)).length 11 0 (([] : List Fo)).length)])], false, false, false⟩ :: (bif (([] : List Fo)).isEmpty then [] else [⟨5, [.d (.str [])], false, false, false⟩, ⟨11, [.d (.str [])], false, false, false⟩, ⟨11, List.map AV.d (List.map encO (([] : List Fo))), true, false, false⟩]))⟩ = some (.ret, ⟨[(4, .ptr 1 1 0 0), (5, .d (.lit (.bool false)))], ⟨5, [.d (.agg [.lit (.int .i64 2), .lit (.bool true), .lit (.int .i64 (num e)), .str (bs (cont e)), .sl (List.map encE (els e))])], false, false, false⟩ :: ⟨11, [(.agg [.d (.lit (.int .i64 0)), .d (.str []), .d (.str []), .d (.str []), .snil, .d (.str []), .d (.lit (.bool false)), .d (.lit (.bool false)), .d (.str []), .d (.lit (.bool false)), .snil])], false, false, false⟩ :: T⟩)) : pureCall C 27 [(.agg [.lit (.int .i64 (cls e)), .lit (.bool (made e)), .lit (.int .i64 (num e)), .str (bs (cont e)), .sl (List.map encE (els e))]), .lit (.int .i64 (l + 1 : Nat))] = some (.tup (.d (encO zF)) [.lit (.bool false)]) := by
  have hl := els_le e
  simp -implicitDefEqProofs (disch := omega) only [go_sem, Int.reduceAdd, Int.reduceSub, Int.reduceMul, dec_t, dec_f, Nat.reduceBEq, Nat.reduceBNe, reduceShiftRight, reduceAnd, Nat.reduceAdd, Nat.reduceSub, reduceEqDiff, Nat.reduceLT, reduceLeDiff, reduceToNat, Int.reduceLT, Int.reduceLE, Int.reduceEq, reduceIte, reduceCtorEq] at h
  rw [p27]
  rcases k0 with k | k | k <;> simp only [k] at h <;> (simp -implicitDefEqProofs (disch := omega) only [go_sem, Int.reduceAdd, Int.reduceSub, Int.reduceMul, dec_t, dec_f, Nat.reduceBEq, Nat.reduceBNe, reduceShiftRight, reduceAnd, Nat.reduceAdd, Nat.reduceSub, reduceEqDiff, Nat.reduceLT, reduceLeDiff, reduceToNat, Int.reduceLT, Int.reduceLE, Int.reduceEq, reduceIte, reduceCtorEq, zF, hc, hm, k, h])
theorem t27_gs (e : Eo) (l : Nat) (h8 : l + 1 ≤ 8) (hc : cls e = 2) (hm : made e = true) (k0 : num e = 0 ∨ num e = 1 ∨ num e = 2) (q : List Fo) (hq : q.length ≤ 1000) (x' : AV) (X Y : D) (h : n27_31 ⟨[(1, .d (.lit (.int .i64 (l + 1 : Nat)))), (4, .ptr 1 1 0 0), (6, .ptr 2 1 0 0), (40, .d (.sl (List.map encE (els e)))), (41, .d (.lit (.int .i64 (els e).length))), (42, .d (.lit (.int .i64 0)))], (⟨5, [.d (.agg [.lit (.int .i64 2), .lit (.bool true), .lit (.int .i64 (num e)), .str (bs (cont e)), .sl (List.map encE (els e))])], false, false, false⟩ :: ⟨11, [(.agg [.d (.lit (.int .i64 0)), .d (.str []), .d (.str []), .d (.str []), .snil, .d (.str []), .d (.lit (.bool false)), .d (.lit (.bool false)), .d (.str []), .d (.lit (.bool false)), .snil])], false, false, false⟩ :: ⟨11, [(.agg [.d (.lit (.int .i64 (num e))), .d (.str []), .d (.str []), .d (.str []), .snil, .d (.str []), .d (.lit (.bool false)), .d (.lit (.bool false)), .d (.str []), .d (.lit (.bool false)), (bif (([] : List Fo)).isEmpty then .snil else .sref 5 (([] : List Fo)).length 11 0 (([] : List Fo)).length)])], false, false, false⟩ :: (bif (([] : List Fo)).isEmpty then [] else [⟨5, [.d (.str [])], false, false, false⟩, ⟨11, [.d (.str [])], false, false, false⟩, ⟨11, List.map AV.d (List.map encO (([] : List Fo))), true, false, false⟩]))⟩ = some (.exit 1, ⟨[(1, .d (.lit (.int .i64 (l + 1 : Nat)))), (4, .ptr 1 1 0 0), (6, .ptr 2 1 0 0), (40, .d (.sl (List.map encE (els e)))), (41, .d (.lit (.int .i64 (els e).length))), (42, x'), (43, .d (.lit (.bool false)))], (⟨5, [.d (.agg [.lit (.int .i64 2), .lit (.bool true), .lit (.int .i64 (num e)), .str (bs (cont e)), .sl (List.map encE (els e))])], false, false, false⟩ :: ⟨11, [(.agg [.d (.lit (.int .i64 0)), .d (.str []), .d (.str []), .d (.str []), .snil, .d (.str []), .d (.lit (.bool false)), .d (.lit (.bool false)), .d (.str []), .d (.lit (.bool false)), .snil])], false, false, false⟩ :: ⟨11, [(.agg [.d (.lit (.int .i64 (num e))), .d (.str []), .d (.str []), .d (.str []), .snil, .d (.str []), .d (.lit (.bool false)), .d (.lit (.bool false)), .d (.str []), .d (.lit (.bool false)), (bif ([] ++ q).isEmpty then .snil else .sref 5 ([] ++ q).length 11 0 ([] ++ q).length)])], false, false, false⟩ :: (bif ([] ++ q).isEmpty then [] else [⟨5, [.d X], false, false, false⟩, ⟨11, [.d Y], false, false, false⟩, ⟨11, List.map AV.d (List.map encO ([] ++ q)), true, false, false⟩]))⟩)) : pureCall C 27 [(.agg [.lit (.int .i64 (cls e)), .lit (.bool (made e)), .lit (.int .i64 (num e)), .str (bs (cont e)), .sl (List.map encE (els e))]), .lit (.int .i64 (l + 1 : Nat))] = some (.tup (.d (encO (mkF (num e) b0 b0 b0 [] b0 false false b0 false q))) [.lit (.bool true)]) := by
  have hl := els_le e
  have hk := mkf_kids (num e) b0 b0 b0 [] b0 false false b0 false q (by omega)
  cases he : q.isEmpty
  · simp -implicitDefEqProofs (disch := omega) only [go_sem, Int.reduceAdd, Int.reduceSub, Int.reduceMul, dec_t, dec_f, Nat.reduceBEq, Nat.reduceBNe, reduceShiftRight, reduceAnd, Nat.reduceAdd, Nat.reduceSub, reduceEqDiff, Nat.reduceLT, reduceLeDiff, reduceToNat, Int.reduceLT, Int.reduceLE, Int.reduceEq, reduceIte, reduceCtorEq, he] at h
    rw [p27]
    rcases k0 with k | k | k <;> simp only [k] at h hk <;> (simp -implicitDefEqProofs (disch := omega) only [go_sem, Int.reduceAdd, Int.reduceSub, Int.reduceMul, dec_t, dec_f, Nat.reduceBEq, Nat.reduceBNe, reduceShiftRight, reduceAnd, Nat.reduceAdd, Nat.reduceSub, reduceEqDiff, Nat.reduceLT, reduceLeDiff, reduceToNat, Int.reduceLT, Int.reduceLE, Int.reduceEq, reduceIte, reduceCtorEq, hc, hm, k, h, hk, he])
  · have : q = [] := List.isEmpty_iff.1 he
    subst this
    simp -implicitDefEqProofs (disch := omega) only [go_sem, Int.reduceAdd, Int.reduceSub, Int.reduceMul, dec_t, dec_f, Nat.reduceBEq, Nat.reduceBNe, reduceShiftRight, reduceAnd, Nat.reduceAdd, Nat.reduceSub, reduceEqDiff, Nat.reduceLT, reduceLeDiff, reduceToNat, Int.reduceLT, Int.reduceLE, Int.reduceEq, reduceIte, reduceCtorEq] at h
    rw [p27]
    rcases k0 with k | k | k <;> simp only [k] at h hk <;> (simp -implicitDefEqProofs (disch := omega) only [go_sem, Int.reduceAdd, Int.reduceSub, Int.reduceMul, dec_t, dec_f, Nat.reduceBEq, Nat.reduceBNe, reduceShiftRight, reduceAnd, Nat.reduceAdd, Nat.reduceSub, reduceEqDiff, Nat.reduceLT, reduceLeDiff, reduceToNat, Int.reduceLT, Int.reduceLE, Int.reduceEq, reduceIte, reduceCtorEq, hc, hm, k, h, hk])
theorem t27 : ∀ (l : Nat) (e : Eo), l ≤ 8 → Sm e → ∃ f', pureCall C 27 [(.agg [.lit (.int .i64 (cls e)), .lit (.bool (made e)), .lit (.int .i64 (num e)), .str (bs (cont e)), .sl (List.map encE (els e))]), .lit (.int .i64 (l : Nat))] = some (.tup (.d (encO f')) [.lit (.bool (readO l e).isSome)]) ∧ ∀ f, readO l e = some f → f' = f
  | 0, e, h8, hs => ⟨zF, t27_z e, fun f h => by cases h⟩
  | l + 1, e, h8, hs => by
    rw [readO]
    unfold read1
    by_cases hc : cls e = 2
    · by_cases hm : made e = !decide (num e = 7)
      · rw [if_pos ⟨hc, hm⟩]
        by_cases k7 : num e = 7
        · rw [decide_eq_true k7] at hm
          have hm : made e = false := hm
          rw [if_neg (by omega), if_pos k7]
          have h := t27_7 e l h8 hc hm k7
          cases hz : (els e).isEmpty
          · rw [hz] at h
            exact ⟨_, h, fun f h => by cases h⟩
          · rw [hz] at h
            exact ⟨_, h, fun f h => Option.some.inj h⟩
        · rw [decide_eq_false k7] at hm
          have hm : made e = true := hm
          by_cases k0 : num e = 0 ∨ num e = 1 ∨ num e = 2
          · rw [if_pos k0]
            have h := t27k l h8 (num e) (els e) hs.inv.1 ⟨5, [.d (.agg [.lit (.int .i64 2), .lit (.bool true), .lit (.int .i64 (num e)), .str (bs (cont e)), .sl (List.map encE (els e))])], false, false, false⟩ (fun n => rfl) (fun x hx => t27 l x (by omega) (hs.inv.2 x hx)) (els e) [] 0 0 (.str []) (.str []) rfl rfl (Nat.le_refl _)
            cases hq : mapO (readO l) (els e) with
            | none =>
              obtain ⟨T, h⟩ := h.2 hq
              exact ⟨zF, t27_gn e l h8 hc hm k0 T h, fun f h => by cases h⟩
            | some q =>
              obtain ⟨x', X, Y, h⟩ := h.1 q hq
              have hql : q.length ≤ 1000 := by
                rw [mapO_eq (g := guessO l) (fun a _ b hb => read_guess l a b hb) hq, List.length_map]
                exact hs.inv.1
              exact ⟨_, t27_gs e l h8 hc hm k0 q hql x' X Y h, fun f h => Option.some.inj h⟩
          · rw [if_neg k0, if_neg k7]
            have n0 : ¬ num e = 0 := fun h => k0 (.inl h)
            have n1 : ¬ num e = 1 := fun h => k0 (.inr (.inl h))
            have n2 : ¬ num e = 2 := fun h => k0 (.inr (.inr h))
            by_cases k4 : num e = 4
            · rw [if_pos k4]
              rcases two_or (els e) with ⟨a, b, he⟩ | he
              · have hlb : (els b).length ≤ 1000 := ((hs.inv).2 b (by rw [he]; simp)).inv.1
                rw [he]
                simp only
                cases hb : (snd1 a && snd1 b && isE b 0 16 true && (els b).all snd1 && isE a 0 4 false)
                · obtain ⟨f', h⟩ := t27_4f e l h8 hc hm k4 a b he hlb (by rw [hb]; simp)
                  simp only [he, List.map_cons, List.map_nil] at h
                  exact ⟨f', h, fun f h => by cases h⟩
                · cases hr : rPc (els b) 0 pz with
                  | none =>
                    obtain ⟨f', h⟩ := t27_4f e l h8 hc hm k4 a b he hlb (by rw [hr]; simp)
                    simp only [he, List.map_cons, List.map_nil] at h
                    exact ⟨f', h, fun f h => by cases h⟩
                  | some q =>
                    have h := t27_4t e l h8 hc hm k4 a b he hlb hb q hr
                    simp only [he, List.map_cons, List.map_nil] at h
                    exact ⟨_, h, fun f h => Option.some.inj h⟩
              · have hne : (els e).length ≠ 2 := by
                  intro h
                  match hE : els e, h with
                  | [a, b], _ => exact he a b hE
                have h := t27_4n e l h8 hc hm k4 hne hs.inv.1
                split
                · rename_i a b q
                  exact absurd q (he a b)
                · exact ⟨_, h, fun f h => by cases h⟩
            · rw [if_neg k4]
              by_cases k9 : num e = 9
              · rw [if_pos k9]
                cases hr : rMo (els e) 0 false mz with
                | none =>
                  obtain ⟨f', h⟩ := t27_9f e l h8 hc hm k9 hs.inv.1 hr
                  exact ⟨f', h, fun f h => by cases h⟩
                | some q =>
                  exact ⟨_, t27_9t e l h8 hc hm k9 hs.inv.1 q hr, fun f h => Option.some.inj h⟩
              · rw [if_neg k9]
                rcases two_or (els e) with ⟨a, b, he⟩ | he
                · obtain ⟨f', h, hf⟩ := t27_o2 e l h8 hc hm n0 n1 n2 k7 k4 k9 a b he
                  rw [he]
                  simp only
                  simp only [he, List.map_cons, List.map_nil] at h
                  cases hb : (snd1 a && snd1 b && isE b 0 4 false && isE a 0 4 false)
                  · rw [hb] at h
                    exact ⟨f', h, fun f h => by cases h⟩
                  · rw [hb] at h
                    exact ⟨f', h, fun f h => by rw [hf hb]; exact Option.some.inj h⟩
                · have hne : (els e).length ≠ 2 := by
                    intro h
                    match hE : els e, h with
                    | [a, b], _ => exact he a b hE
                  have h := t27_on e l h8 hc hm n0 n1 n2 k7 k4 k9 hne
                  split
                  · rename_i a b q
                    exact absurd q (he a b)
                  · exact ⟨_, h, fun f h => by cases h⟩
      · rw [if_neg (fun h => hm h.2)]
        refine ⟨zF, t27_m e l h8 hc ?_, fun f h => by cases h⟩
        cases h1 : made e <;> cases h2 : decide (num e = 7) <;> rw [h1, h2] at hm <;> simp at hm ⊢
    · rw [if_neg (fun h => hc h.1)]
      exact ⟨zF, t27_c e l h8 hc, fun f h => by cases h⟩
set_option maxRecDepth 10000
set_option maxHeartbeats 2000000
def rdPR : Option Fo → PR
  | some f => .tup (.d (encO f)) [.lit (.int .i64 0)]
  | none => .tup (.d (encO zF)) [.lit (.int .i64 250)]
theorem t13 (e : Eo) (hs : Sm e) : pureCall C 13 [(.agg [.lit (.int .i64 (cls e)), .lit (.bool (made e)), .lit (.int .i64 (num e)), .str (bs (cont e)), .sl (List.map encE (els e))])] = some (rdPR (readR e)) := by
  obtain ⟨f', h27, hf⟩ := t27 8 e (Nat.le_refl _) hs
  have h27 : pureCall C 27 [(.agg [.lit (.int .i64 (cls e)), .lit (.bool (made e)), .lit (.int .i64 (num e)), .str (bs (cont e)), .sl (List.map encE (els e))]), .lit (.int .i64 8)] = some (.tup (.d (encO f')) [.lit (.bool (readO 8 e).isSome)]) := h27
  have h28 := t28_1 e
  have h29 := t29 e
  unfold readR
  rw [p13]
  cases hr : readO 8 e with
  | none =>
    rw [hr] at h27
    simp -implicitDefEqProofs (disch := omega) only [go_sem, Int.reduceAdd, Int.reduceSub, Int.reduceMul, dec_t, dec_f, Nat.reduceBEq, Nat.reduceBNe, reduceShiftRight, reduceAnd, Nat.reduceAdd, Nat.reduceSub, reduceEqDiff, Nat.reduceLT, reduceLeDiff, reduceToNat, Int.reduceLT, Int.reduceLE, Int.reduceEq, reduceIte, reduceCtorEq, h27, rdPR, zF]
  | some f =>
    have := hf f hr
    subst this
    rw [hr] at h27
    cases h1 : snd1 e
    · rw [h1] at h28
      simp -implicitDefEqProofs (disch := omega) only [go_sem, Int.reduceAdd, Int.reduceSub, Int.reduceMul, dec_t, dec_f, Nat.reduceBEq, Nat.reduceBNe, reduceShiftRight, reduceAnd, Nat.reduceAdd, Nat.reduceSub, reduceEqDiff, Nat.reduceLT, reduceLeDiff, reduceToNat, Int.reduceLT, Int.reduceLE, Int.reduceEq, reduceIte, reduceCtorEq, h27, h28, rdPR, zF]
    · rw [h1] at h28
      cases h2 : chkF f'
      · simp -implicitDefEqProofs (disch := omega) only [go_sem, Int.reduceAdd, Int.reduceSub, Int.reduceMul, dec_t, dec_f, Nat.reduceBEq, Nat.reduceBNe, reduceShiftRight, reduceAnd, Nat.reduceAdd, Nat.reduceSub, reduceEqDiff, Nat.reduceLT, reduceLeDiff, reduceToNat, Int.reduceLT, Int.reduceLE, Int.reduceEq, reduceIte, reduceCtorEq, h27, h28, h2, rdPR, zF]
      · cases h3 : whole e
        · rw [h3] at h29
          simp -implicitDefEqProofs (disch := omega) only [go_sem, Int.reduceAdd, Int.reduceSub, Int.reduceMul, dec_t, dec_f, Nat.reduceBEq, Nat.reduceBNe, reduceShiftRight, reduceAnd, Nat.reduceAdd, Nat.reduceSub, reduceEqDiff, Nat.reduceLT, reduceLeDiff, reduceToNat, Int.reduceLT, Int.reduceLE, Int.reduceEq, reduceIte, reduceCtorEq, h27, h28, h29, h2, rdPR, zF]
        · rw [h3] at h29
          simp -implicitDefEqProofs (disch := omega) only [go_sem, Int.reduceAdd, Int.reduceSub, Int.reduceMul, dec_t, dec_f, Nat.reduceBEq, Nat.reduceBNe, reduceShiftRight, reduceAnd, Nat.reduceAdd, Nat.reduceSub, reduceEqDiff, Nat.reduceLT, reduceLeDiff, reduceToNat, Int.reduceLT, Int.reduceLE, Int.reduceEq, reduceIte, reduceCtorEq, h27, h28, h29, h2, rdPR]
set_option maxRecDepth 10000
set_option maxHeartbeats 2000000
theorem t12n (e : Eo) (IH : ∀ g ∈ els e, ∀ l : Int, 0 ≤ l → l ≤ 300 → ∃ v : Int, -1 ≤ v ∧ v ≤ 300 ∧ (0 ≤ v → v + 1 ≤ l ∧ Sm g) ∧ pureCall C 12 [(.agg [.lit (.int .i64 (cls g)), .lit (.bool (made g)), .lit (.int .i64 (num g)), .str (bs (cont g)), .sl (List.map encE (els g))]), .lit (.int .i64 l)] = some (lit v)) : ∀ (r : List Eo) (j : Nat) (x y : Int), x = j → (els e).drop j = r → -1 ≤ y → y ≤ 300 →
    ∃ (v : Int) (x' : AV), -1 ≤ v ∧ v ≤ 300 ∧ (0 ≤ v → v + r.length ≤ y ∧ ∀ g ∈ r, Sm g) ∧ n12_16 ⟨[(1, .d (.lit (.int .i64 y))), (2, .ptr 0 1 0 0), (5, .d (.lit (.int .i64 x)))], [⟨5, [.d (.agg [.lit (.int .i64 (cls e)), .lit (.bool (made e)), .lit (.int .i64 (num e)), .str (bs (cont e)), .sl (List.map encE (els e))])], false, false, false⟩]⟩ =
      some (.exit 0, ⟨[(1, .d (.lit (.int .i64 v))), (2, .ptr 0 1 0 0), (5, x'), (20, .d (.lit (.bool false)))], [⟨5, [.d (.agg [.lit (.int .i64 (cls e)), .lit (.bool (made e)), .lit (.int .i64 (num e)), .str (bs (cont e)), .sl (List.map encE (els e))])], false, false, false⟩]⟩) := by
  intro r
  induction r with
  | nil =>
    intro j x y hx hd hy hy'
    have hd := drop_nil hd
    have := els_le e
    refine ⟨y, .d (.lit (.int .i64 x)), hy, hy', fun _ => ⟨by simp, fun g hg => by cases hg⟩, ?_⟩
    rw [r_n12_16]
    simp -implicitDefEqProofs (disch := omega) only [go_sem, Int.reduceAdd, Int.reduceSub, Int.reduceMul, dec_t, dec_f, Nat.reduceBEq, Nat.reduceBNe, reduceShiftRight, reduceAnd, Nat.reduceAdd, Nat.reduceSub, reduceEqDiff, Nat.reduceLT, reduceLeDiff, reduceToNat, Int.reduceLT, Int.reduceLE, Int.reduceEq, reduceIte, reduceCtorEq]
    try rfl
  | cons c r ih =>
    intro j x y hx hd hy hy'
    obtain ⟨g1, g2, g3, g4⟩ := drop_cons hd
    have := els_le e
    have hnat : Int.toNat x = j := by omega
    by_cases h0 : 0 ≤ y
    · obtain ⟨v, hv, hv', hs, hc⟩ := IH c g4 y h0 hy'
      obtain ⟨w, x', hw, hw', hsr, h⟩ := ih (j + 1) (x + 1) v (by omega) g3 hv hv'
      refine ⟨w, x', hw, hw', fun hw0 => ?_, ?_⟩
      · obtain ⟨a1, a2⟩ := hsr hw0
        obtain ⟨b1, b2⟩ := hs (by omega)
        refine ⟨by simp only [List.length_cons]; omega, fun g hg => ?_⟩
        rcases List.mem_cons.1 hg with rfl | hg
        · exact b2
        · exact a2 g hg
      clear ih
      rw [r_n12_16]
      simp -implicitDefEqProofs (disch := omega) only [go_sem, Int.reduceAdd, Int.reduceSub, Int.reduceMul, dec_t, dec_f, Nat.reduceBEq, Nat.reduceBNe, reduceShiftRight, reduceAnd, Nat.reduceAdd, Nat.reduceSub, reduceEqDiff, Nat.reduceLT, reduceLeDiff, reduceToNat, Int.reduceLT, Int.reduceLE, Int.reduceEq, reduceIte, reduceCtorEq, g2, hnat, hc, h]
    · refine ⟨y, .d (.lit (.int .i64 x)), hy, hy', fun h => absurd h h0, ?_⟩
      clear ih
      rw [r_n12_16]
      simp -implicitDefEqProofs (disch := omega) only [go_sem, Int.reduceAdd, Int.reduceSub, Int.reduceMul, dec_t, dec_f, Nat.reduceBEq, Nat.reduceBNe, reduceShiftRight, reduceAnd, Nat.reduceAdd, Nat.reduceSub, reduceEqDiff, Nat.reduceLT, reduceLeDiff, reduceToNat, Int.reduceLT, Int.reduceLE, Int.reduceEq, reduceIte, reduceCtorEq]
      try rfl
theorem t12m (e : Eo) (l : Int) (h0 : 0 ≤ l) (h1 : l ≤ 300) : ∃ v : Int, -1 ≤ v ∧ v ≤ 300 ∧ (0 ≤ v → v + 1 ≤ l ∧ Sm e) ∧ pureCall C 12 [(.agg [.lit (.int .i64 (cls e)), .lit (.bool (made e)), .lit (.int .i64 (num e)), .str (bs (cont e)), .sl (List.map encE (els e))]), .lit (.int .i64 l)] = some (lit v) := by
  have IH : ∀ g ∈ els e, ∀ l : Int, 0 ≤ l → l ≤ 300 → ∃ v : Int, -1 ≤ v ∧ v ≤ 300 ∧ (0 ≤ v → v + 1 ≤ l ∧ Sm g) ∧ pureCall C 12 [(.agg [.lit (.int .i64 (cls g)), .lit (.bool (made g)), .lit (.int .i64 (num g)), .str (bs (cont g)), .sl (List.map encE (els g))]), .lit (.int .i64 l)] = some (lit v) := fun g hg l h0 h1 => t12m g l h0 h1
  obtain ⟨v, x1, hv, hv', hs, hb⟩ := t12n e IH (els e) 0 0 (l - 1) rfl rfl (by omega) (by omega)
  have q1 := bs_le (cont e)
  clear IH
  by_cases hn : 5000 < (bs (cont e)).length
  · refine ⟨-1, by omega, by omega, fun h => absurd h (by omega), ?_⟩
    rw [p12]
    simp -implicitDefEqProofs (disch := omega) only [go_sem, Int.reduceAdd, Int.reduceSub, Int.reduceMul, dec_t, dec_f, Nat.reduceBEq, Nat.reduceBNe, reduceShiftRight, reduceAnd, Nat.reduceAdd, Nat.reduceSub, reduceEqDiff, Nat.reduceLT, reduceLeDiff, reduceToNat, Int.reduceLT, Int.reduceLE, Int.reduceEq, reduceIte, reduceCtorEq]
    (first | done | rfl)
  · refine ⟨v, hv, hv', fun h => ?_, ?_⟩
    · obtain ⟨a1, a2⟩ := hs h
      exact ⟨by omega, .mk e (by omega) a2⟩
    rw [p12]
    simp -implicitDefEqProofs (disch := omega) only [go_sem, Int.reduceAdd, Int.reduceSub, Int.reduceMul, dec_t, dec_f, Nat.reduceBEq, Nat.reduceBNe, reduceShiftRight, reduceAnd, Nat.reduceAdd, Nat.reduceSub, reduceEqDiff, Nat.reduceLT, reduceLeDiff, reduceToNat, Int.reduceLT, Int.reduceLE, Int.reduceEq, reduceIte, reduceCtorEq, hb]
    (first | done | rfl)
termination_by szE e
decreasing_by exact els_lt hg
theorem bq_self : ∀ l : List UInt8, List.beq l l = true := fun l => beq_self_eq_true l
theorem t33k (i : Bs) (a : List Bs) (e : Bs) (hi hf : Bool) (ha : a.length ≤ 2 ^ 28) : ∀ (r : List Bs) (j : Nat) (x : Int), x = j → a.drop j = r →
    ∃ x', n33_14 ⟨[(2, .ptr 0 1 0 0), (3, .ptr 1 1 0 0), (5, .d (.lit (.int .i64 x)))], [⟨5, [.d (.agg [.str (bs i), .sl (a.map encS), .str (bs e), .lit (.bool hi), .lit (.bool hf)])], false, false, false⟩, ⟨5, [.d (.agg [.str (bs i), .sl (a.map encS), .str (bs e), .lit (.bool hi), .lit (.bool hf)])], false, false, false⟩]⟩ =
      some (.exit 0, ⟨[(2, .ptr 0 1 0 0), (3, .ptr 1 1 0 0), (5, x'), (45, .d (.lit (.bool false)))], [⟨5, [.d (.agg [.str (bs i), .sl (a.map encS), .str (bs e), .lit (.bool hi), .lit (.bool hf)])], false, false, false⟩, ⟨5, [.d (.agg [.str (bs i), .sl (a.map encS), .str (bs e), .lit (.bool hi), .lit (.bool hf)])], false, false, false⟩]⟩)
  | [], j, x, hx, hd => by
    have hd := drop_nil hd
    refine ⟨.d (.lit (.int .i64 x)), ?_⟩
    rw [r_n33_14]
    simp -implicitDefEqProofs (disch := omega) only [go_sem, Int.reduceAdd, Int.reduceSub, Int.reduceMul, dec_t, dec_f, Nat.reduceBEq, Nat.reduceBNe, reduceShiftRight, reduceAnd, Nat.reduceAdd, Nat.reduceSub, reduceEqDiff, Nat.reduceLT, reduceLeDiff, reduceToNat, Int.reduceLT, Int.reduceLE, Int.reduceEq, reduceIte, reduceCtorEq]
  | c :: r, j, x, hx, hd => by
    obtain ⟨g1, g2, g3, g4⟩ := drop_cons hd
    have hnat : Int.toNat x = j := by omega
    obtain ⟨x', h⟩ := t33k i a e hi hf ha r (j + 1) (x + 1) (by omega) g3
    refine ⟨x', ?_⟩
    rw [r_n33_14]
    simp -implicitDefEqProofs (disch := omega) only [go_sem, Int.reduceAdd, Int.reduceSub, Int.reduceMul, dec_t, dec_f, Nat.reduceBEq, Nat.reduceBNe, reduceShiftRight, reduceAnd, Nat.reduceAdd, Nat.reduceSub, reduceEqDiff, Nat.reduceLT, reduceLeDiff, reduceToNat, Int.reduceLT, Int.reduceLE, Int.reduceEq, reduceIte, reduceCtorEq, g2, hnat, bq_self, h]
theorem t33e (i : Bs) (a : List Bs) (e : Bs) (hi hf : Bool) (ha : a.length ≤ 2 ^ 28) : pureCall C 33 [.agg [.str (bs i), .sl (a.map encS), .str (bs e), .lit (.bool hi), .lit (.bool hf)], .agg [.str (bs i), .sl (a.map encS), .str (bs e), .lit (.bool hi), .lit (.bool hf)]] = some (tf true) := by
  obtain ⟨x', h⟩ := t33k i a e hi hf ha a 0 0 rfl rfl
  rw [p33]
  simp -implicitDefEqProofs (disch := omega) only [go_sem, Int.reduceAdd, Int.reduceSub, Int.reduceMul, dec_t, dec_f, Nat.reduceBEq, Nat.reduceBNe, reduceShiftRight, reduceAnd, Nat.reduceAdd, Nat.reduceSub, reduceEqDiff, Nat.reduceLT, reduceLeDiff, reduceToNat, Int.reduceLT, Int.reduceLE, Int.reduceEq, reduceIte, reduceCtorEq, bq_self, h]
theorem t17 (f : Fo) : pureCall C 17 [(.agg [.lit (.int .i64 (kind f)), .str (bs (name f)), .str (bs (value f)), .str (bs (ini f)), .sl (List.map encS (any f)), .str (bs (fin f)), .lit (.bool (hi f)), .lit (.bool (hf f)), .str (bs (rule f)), .lit (.bool (dn f)), .sl (List.map encO (kids f))]), (.agg [.lit (.int .i64 (kind f)), .str (bs (name f)), .str (bs (value f)), .str (bs (ini f)), .sl (List.map encS (any f)), .str (bs (fin f)), .lit (.bool (hi f)), .lit (.bool (hf f)), .str (bs (rule f)), .lit (.bool (dn f)), .sl (List.map encO (kids f))])] = some (tf true) := by
  have IH : ∀ g ∈ kids f, pureCall C 17 [(.agg [.lit (.int .i64 (kind g)), .str (bs (name g)), .str (bs (value g)), .str (bs (ini g)), .sl (List.map encS (any g)), .str (bs (fin g)), .lit (.bool (hi g)), .lit (.bool (hf g)), .str (bs (rule g)), .lit (.bool (dn g)), .sl (List.map encO (kids g))]), (.agg [.lit (.int .i64 (kind g)), .str (bs (name g)), .str (bs (value g)), .str (bs (ini g)), .sl (List.map encS (any g)), .str (bs (fin g)), .lit (.bool (hi g)), .lit (.bool (hf g)), .str (bs (rule g)), .lit (.bool (dn g)), .sl (List.map encO (kids g))])] = some (tf true) := fun g hg => t17 g
  have hkl := kids_le f
  have h33 := t33e (ini f) (any f) (fin f) (hi f) (hf f) (any_28 f)
  have key : ∀ (r : List Fo) (j : Nat) (x : Int), x = j → (kids f).drop j = r →
      ∃ x', n17_14 ⟨[(2, .ptr 0 1 0 0), (3, .ptr 1 1 0 0), (5, .d (.lit (.int .i64 x)))], [⟨11, [.d (.agg [.lit (.int .i64 (kind f)), .str (bs (name f)), .str (bs (value f)), .str (bs (ini f)), .sl (List.map encS (any f)), .str (bs (fin f)), .lit (.bool (hi f)), .lit (.bool (hf f)), .str (bs (rule f)), .lit (.bool (dn f)), .sl (List.map encO (kids f))])], false, false, false⟩, ⟨11, [.d (.agg [.lit (.int .i64 (kind f)), .str (bs (name f)), .str (bs (value f)), .str (bs (ini f)), .sl (List.map encS (any f)), .str (bs (fin f)), .lit (.bool (hi f)), .lit (.bool (hf f)), .str (bs (rule f)), .lit (.bool (dn f)), .sl (List.map encO (kids f))])], false, false, false⟩]⟩ =
        some (.exit 0, ⟨[(2, .ptr 0 1 0 0), (3, .ptr 1 1 0 0), (5, x'), (60, .d (.lit (.bool false)))], [⟨11, [.d (.agg [.lit (.int .i64 (kind f)), .str (bs (name f)), .str (bs (value f)), .str (bs (ini f)), .sl (List.map encS (any f)), .str (bs (fin f)), .lit (.bool (hi f)), .lit (.bool (hf f)), .str (bs (rule f)), .lit (.bool (dn f)), .sl (List.map encO (kids f))])], false, false, false⟩, ⟨11, [.d (.agg [.lit (.int .i64 (kind f)), .str (bs (name f)), .str (bs (value f)), .str (bs (ini f)), .sl (List.map encS (any f)), .str (bs (fin f)), .lit (.bool (hi f)), .lit (.bool (hf f)), .str (bs (rule f)), .lit (.bool (dn f)), .sl (List.map encO (kids f))])], false, false, false⟩]⟩) := by
    intro r
    induction r with
    | nil =>
      intro j x hx hd
      have hd := drop_nil hd
      refine ⟨.d (.lit (.int .i64 x)), ?_⟩
      rw [r_n17_14]
      simp -implicitDefEqProofs (disch := omega) only [go_sem, Int.reduceAdd, Int.reduceSub, Int.reduceMul, dec_t, dec_f, Nat.reduceBEq, Nat.reduceBNe, reduceShiftRight, reduceAnd, Nat.reduceAdd, Nat.reduceSub, reduceEqDiff, Nat.reduceLT, reduceLeDiff, reduceToNat, Int.reduceLT, Int.reduceLE, Int.reduceEq, reduceIte, reduceCtorEq]
    | cons c r ih =>
      intro j x hx hd
      obtain ⟨g1, g2, g3, g4⟩ := drop_cons hd
      have hnat : Int.toNat x = j := by omega
      have hc := IH c g4
      obtain ⟨x', h⟩ := ih (j + 1) (x + 1) (by omega) g3
      refine ⟨x', ?_⟩
      clear ih
      rw [r_n17_14]
      simp -implicitDefEqProofs (disch := omega) only [go_sem, Int.reduceAdd, Int.reduceSub, Int.reduceMul, dec_t, dec_f, Nat.reduceBEq, Nat.reduceBNe, reduceShiftRight, reduceAnd, Nat.reduceAdd, Nat.reduceSub, reduceEqDiff, Nat.reduceLT, reduceLeDiff, reduceToNat, Int.reduceLT, Int.reduceLE, Int.reduceEq, reduceIte, reduceCtorEq, g2, hnat, hc, h]
  obtain ⟨x', h⟩ := key (kids f) 0 0 rfl rfl
  rw [p17]
  simp -implicitDefEqProofs (disch := omega) only [go_sem, Int.reduceAdd, Int.reduceSub, Int.reduceMul, dec_t, dec_f, Nat.reduceBEq, Nat.reduceBNe, reduceShiftRight, reduceAnd, Nat.reduceAdd, Nat.reduceSub, reduceEqDiff, Nat.reduceLT, reduceLeDiff, reduceToNat, Int.reduceLT, Int.reduceLE, Int.reduceEq, reduceIte, reduceCtorEq, bq_self, h33, h]
termination_by sz f
decreasing_by exact kids_lt hg
end Go.L25
