/- Layer 25: small letters, soundness, and the plain law of reading. Conditions: none. -/
import Derived.Test.YtjbaoopiffcigaaPJ
import Derived.Test.YtjbaoopiffcigaaPD
import Derived.Test.YtjbaoopiffcigaaPG
set_option linter.unusedVariables false
set_option linter.unusedSimpArgs false
namespace Go.L25
open Go Go.Eng Go.Proofs
open Nat (reduceShiftRight reduceAnd reduceEqDiff reduceLeDiff)
open Int (reduceToNat)
set_option maxRecDepth 10000
set_option maxHeartbeats 4000000
@[go_sem] theorem ti65c : tiOf Try.prog 65 = some { k := TK.slice 5, size := 1, bytes := 24, zero := some (Value.slice none 0 0) } := by kernel_rfl
def low (c : UInt8) : UInt8 := if 65 ≤ c.toNat ∧ c.toNat ≤ 90 then UInt8.ofNat (c.toNat + 32) else c
def cU (c : UInt8) : AV := .d (.lit (.int .u8 c.toNat))
theorem low_up {c : UInt8} (h : 65 ≤ c.toNat ∧ c.toNat ≤ 90) : (low c).toNat = c.toNat + 32 := by
  unfold low
  rw [if_pos h]
  simp
  omega
theorem low_no {c : UInt8} (h : ¬ (65 ≤ c.toNat ∧ c.toNat ≤ 90)) : low c = c := by unfold low; rw [if_neg h]
theorem set_mapU (L : List UInt8) (j : Nat) (d : UInt8) : List.set (List.map (fun c : UInt8 => AV.d (.lit (.int .u8 c.toNat))) L) j (AV.d (.lit (.int .u8 (d.toNat : Nat)))) = List.map (fun c : UInt8 => AV.d (.lit (.int .u8 c.toNat))) (List.set L j d) := by
  rw [List.map_set]
theorem by_mapU : ∀ L : List UInt8, bytesOf (List.map (fun c : UInt8 => AV.d (.lit (.int .u8 c.toNat))) L) = some L
  | [] => rfl
  | c :: r => by
    rw [List.map_cons, bytesOf, by_mapU r]
    show some (UInt8.ofNat c.toNat :: r) = some (c :: r)
    rw [UInt8.ofNat_toNat]
theorem un_mapU (n : Nat) : ∀ L : List UInt8, AV.under1s n (List.map (fun c : UInt8 => AV.d (.lit (.int .u8 c.toNat))) L) = true
  | [] => by rw [List.map_nil, AV.under1s]
  | c :: r => by
    rw [List.map_cons, AV.under1s, un_mapU n r]
    rfl
theorem tk_map {α β : Type} (f : α → β) (l : List α) (n : Nat) (h : l.length ≤ n) : List.take n (List.map f l) = List.map f l := List.take_of_length_le (by rw [List.length_map]; exact h)
def lowL (l : List UInt8) : List UInt8 := l.map low
theorem drop_set (L : List UInt8) (j : Nat) (d : UInt8) : (List.set L j d).drop (j + 1) = L.drop (j + 1) := List.drop_set_of_lt (Nat.lt_succ_self j)
theorem take_set (L : List UInt8) (j : Nat) (c : UInt8) (r : List UInt8) (h : L.drop j = c :: r) (d : UInt8) : (L.set j d).take (j + 1) = L.take j ++ [d] := by
  have hj : j < L.length := by
    rcases Nat.lt_or_ge j L.length with q | q
    · exact q
    · rw [List.drop_eq_nil_of_le q] at h; cases h
  rw [List.take_add_one, List.take_set_of_le (Nat.le_refl _), List.getElem?_set_self hj]
  rfl
theorem t18k (n : Nat) (hn : n ≤ 2 ^ 30) : ∀ (r' L : List UInt8) (j : Nat) (x : Int), x = j → L.length = n → L.drop j = r' →
    ∃ x', n18_8 ⟨[(3, .sref 0 n 1 0 n), (8, .sref 0 n 1 0 n), (9, .d (.lit (.int .i64 n))), (10, .d (.lit (.int .i64 x)))], [⟨1, List.map (fun c : UInt8 => AV.d (.lit (.int .u8 c.toNat))) L, true, false, false⟩]⟩ =
      some (.exit 0, ⟨[(3, .sref 0 n 1 0 n), (8, .sref 0 n 1 0 n), (9, .d (.lit (.int .i64 n))), (10, x'), (11, .d (.lit (.bool false)))], [⟨1, List.map (fun c : UInt8 => AV.d (.lit (.int .u8 c.toNat))) (((L.take j) ++ (r'.map low))), true, false, false⟩]⟩) := by
  intro r'
  induction r' with
  | nil =>
    intro L j x hx hL hd
    have hd' := drop_nil hd
    refine ⟨.d (.lit (.int .i64 x)), ?_⟩
    rw [r_n18_8, show ((List.take j L) ++ (List.map low [])) = L by show List.take j L ++ [] = L; rw [List.append_nil, List.take_of_length_le hd']]
    simp -implicitDefEqProofs (disch := omega) only [go_sem, Int.reduceAdd, Int.reduceSub, Int.reduceMul, dec_t, dec_f, Nat.reduceBEq, Nat.reduceBNe, reduceShiftRight, reduceAnd, Nat.reduceAdd, Nat.reduceSub, reduceEqDiff, Nat.reduceLT, reduceLeDiff, reduceToNat, Int.reduceLT, Int.reduceLE, Int.reduceEq, reduceIte, reduceCtorEq, hL]
    try rfl
  | cons c r' ih =>
    intro L j x hx hL hd
    obtain ⟨g1, g2, g3, g4⟩ := drop_cons hd
    have hnat : Int.toNat x = j := by omega
    have hb : c.toNat < 256 := c.toNat_lt
    by_cases hc : 65 ≤ c.toNat ∧ c.toNat ≤ 90
    · obtain ⟨x', h⟩ := ih (L.set j (low c)) (j + 1) (x + 1) (by omega) (by simpa using hL) (by rw [drop_set]; exact g3)
      rw [take_set L j c r' hd (low c), show ((List.take j L ++ [low c]) ++ (List.map low r')) = ((List.take j L) ++ (List.map low (c :: r'))) from List.append_assoc _ _ _] at h
      have hX : (c.toNat : Int) + 97 - 65 = ((low c).toNat : Nat) := by rw [low_up hc]; omega
      refine ⟨x', ?_⟩
      rw [r_n18_8]
      generalize ((List.take j L) ++ (List.map low (c :: r'))) = w at h ⊢
      clear ih
      obtain ⟨q1, q2⟩ := hc
      simp -implicitDefEqProofs (disch := omega) only [go_sem, Int.reduceAdd, Int.reduceSub, Int.reduceMul, dec_t, dec_f, Nat.reduceBEq, Nat.reduceBNe, reduceShiftRight, reduceAnd, Nat.reduceAdd, Nat.reduceSub, reduceEqDiff, Nat.reduceLT, reduceLeDiff, reduceToNat, Int.reduceLT, Int.reduceLE, Int.reduceEq, reduceIte, reduceCtorEq, hL, g2, hnat, hX, set_mapU, un_mapU, h]
    · obtain ⟨x', h⟩ := ih L (j + 1) (x + 1) (by omega) hL g3
      rw [show ((List.take (j + 1) L) ++ (List.map low r')) = ((List.take j L) ++ (List.map low (c :: r'))) by
        show List.take (j + 1) L ++ _ = List.take j L ++ (low c :: _)
        rw [List.take_add_one, g2, low_no hc]
        simp] at h
      refine ⟨x', ?_⟩
      rw [r_n18_8]
      generalize ((List.take j L) ++ (List.map low (c :: r'))) = w at h ⊢
      clear ih
      rcases Nat.lt_or_ge c.toNat 65 with p1 | p1
      · simp -implicitDefEqProofs (disch := omega) only [go_sem, Int.reduceAdd, Int.reduceSub, Int.reduceMul, dec_t, dec_f, Nat.reduceBEq, Nat.reduceBNe, reduceShiftRight, reduceAnd, Nat.reduceAdd, Nat.reduceSub, reduceEqDiff, Nat.reduceLT, reduceLeDiff, reduceToNat, Int.reduceLT, Int.reduceLE, Int.reduceEq, reduceIte, reduceCtorEq, hL, g2, hnat, un_mapU, h]
      · have p2 : 90 < c.toNat := by omega
        simp -implicitDefEqProofs (disch := omega) only [go_sem, Int.reduceAdd, Int.reduceSub, Int.reduceMul, dec_t, dec_f, Nat.reduceBEq, Nat.reduceBNe, reduceShiftRight, reduceAnd, Nat.reduceAdd, Nat.reduceSub, reduceEqDiff, Nat.reduceLT, reduceLeDiff, reduceToNat, Int.reduceLT, Int.reduceLE, Int.reduceEq, reduceIte, reduceCtorEq, hL, g2, hnat, un_mapU, h]
theorem t18 (s : Bs) : pureCall C 18 [.str (bs s)] = some (.one (.d (.str (lowL (bs s))))) := by
  have hl := bs_le s
  obtain ⟨x', h⟩ := t18k (bs s).length hl (bs s) (bs s) 0 0 rfl rfl rfl
  have hw : (lowL (bs s)).length = (bs s).length := List.length_map _
  rw [show ((List.take 0 (bs s)) ++ (List.map low (bs s))) = lowL (bs s) from rfl] at h
  generalize lowL (bs s) = w at h hw ⊢
  rw [p18]
  simp -implicitDefEqProofs (disch := omega) only [go_sem, Int.reduceAdd, Int.reduceSub, Int.reduceMul, dec_t, dec_f, Nat.reduceBEq, Nat.reduceBNe, reduceShiftRight, reduceAnd, Nat.reduceAdd, Nat.reduceSub, reduceEqDiff, Nat.reduceLT, reduceLeDiff, reduceToNat, Int.reduceLT, Int.reduceLE, Int.reduceEq, reduceIte, reduceCtorEq, h, hw, tk_map, by_mapU]
  (first | done | rfl)
theorem t19k (n : Nat) (hn : n ≤ 2 ^ 30) : ∀ (r' L : List UInt8) (j : Nat) (x : Int), x = j → L.length = n → L.drop j = r' →
    ∃ x', n19_8 ⟨[(3, .sref 0 n 1 0 n), (4, .d (.lit (.int .i64 x)))], [⟨1, List.map (fun c : UInt8 => AV.d (.lit (.int .u8 c.toNat))) L, true, false, false⟩]⟩ =
      some (.exit 0, ⟨[(3, .sref 0 n 1 0 n), (4, x'), (10, .d (.lit (.bool false)))], [⟨1, List.map (fun c : UInt8 => AV.d (.lit (.int .u8 c.toNat))) (((L.take j) ++ (r'.map low))), true, false, false⟩]⟩) := by
  intro r'
  induction r' with
  | nil =>
    intro L j x hx hL hd
    have hd' := drop_nil hd
    refine ⟨.d (.lit (.int .i64 x)), ?_⟩
    rw [r_n19_8, show ((List.take j L) ++ (List.map low [])) = L by show List.take j L ++ [] = L; rw [List.append_nil, List.take_of_length_le hd']]
    simp -implicitDefEqProofs (disch := omega) only [go_sem, Int.reduceAdd, Int.reduceSub, Int.reduceMul, dec_t, dec_f, Nat.reduceBEq, Nat.reduceBNe, reduceShiftRight, reduceAnd, Nat.reduceAdd, Nat.reduceSub, reduceEqDiff, Nat.reduceLT, reduceLeDiff, reduceToNat, Int.reduceLT, Int.reduceLE, Int.reduceEq, reduceIte, reduceCtorEq, hL]
    try rfl
  | cons c r' ih =>
    intro L j x hx hL hd
    obtain ⟨g1, g2, g3, g4⟩ := drop_cons hd
    have hnat : Int.toNat x = j := by omega
    have hb : c.toNat < 256 := c.toNat_lt
    by_cases hc : 65 ≤ c.toNat ∧ c.toNat ≤ 90
    · obtain ⟨x', h⟩ := ih (L.set j (low c)) (j + 1) (x + 1) (by omega) (by simpa using hL) (by rw [drop_set]; exact g3)
      rw [take_set L j c r' hd (low c), show ((List.take j L ++ [low c]) ++ (List.map low r')) = ((List.take j L) ++ (List.map low (c :: r'))) from List.append_assoc _ _ _] at h
      have hX : (c.toNat : Int) + 32 = ((low c).toNat : Nat) := by rw [low_up hc]; omega
      refine ⟨x', ?_⟩
      rw [r_n19_8]
      generalize ((List.take j L) ++ (List.map low (c :: r'))) = w at h ⊢
      clear ih
      obtain ⟨q1, q2⟩ := hc
      simp -implicitDefEqProofs (disch := omega) only [go_sem, Int.reduceAdd, Int.reduceSub, Int.reduceMul, dec_t, dec_f, Nat.reduceBEq, Nat.reduceBNe, reduceShiftRight, reduceAnd, Nat.reduceAdd, Nat.reduceSub, reduceEqDiff, Nat.reduceLT, reduceLeDiff, reduceToNat, Int.reduceLT, Int.reduceLE, Int.reduceEq, reduceIte, reduceCtorEq, hL, g2, hnat, hX, set_mapU, un_mapU, h]
    · obtain ⟨x', h⟩ := ih L (j + 1) (x + 1) (by omega) hL g3
      rw [show ((List.take (j + 1) L) ++ (List.map low r')) = ((List.take j L) ++ (List.map low (c :: r'))) by
        show List.take (j + 1) L ++ _ = List.take j L ++ (low c :: _)
        rw [List.take_add_one, g2, low_no hc]
        simp] at h
      refine ⟨x', ?_⟩
      rw [r_n19_8]
      generalize ((List.take j L) ++ (List.map low (c :: r'))) = w at h ⊢
      clear ih
      rcases Nat.lt_or_ge c.toNat 65 with p1 | p1
      · simp -implicitDefEqProofs (disch := omega) only [go_sem, Int.reduceAdd, Int.reduceSub, Int.reduceMul, dec_t, dec_f, Nat.reduceBEq, Nat.reduceBNe, reduceShiftRight, reduceAnd, Nat.reduceAdd, Nat.reduceSub, reduceEqDiff, Nat.reduceLT, reduceLeDiff, reduceToNat, Int.reduceLT, Int.reduceLE, Int.reduceEq, reduceIte, reduceCtorEq, hL, g2, hnat, un_mapU, h]
      · have p2 : 90 < c.toNat := by omega
        simp -implicitDefEqProofs (disch := omega) only [go_sem, Int.reduceAdd, Int.reduceSub, Int.reduceMul, dec_t, dec_f, Nat.reduceBEq, Nat.reduceBNe, reduceShiftRight, reduceAnd, Nat.reduceAdd, Nat.reduceSub, reduceEqDiff, Nat.reduceLT, reduceLeDiff, reduceToNat, Int.reduceLT, Int.reduceLE, Int.reduceEq, reduceIte, reduceCtorEq, hL, g2, hnat, un_mapU, h]
theorem t19 (s : Bs) : pureCall C 19 [.str (bs s)] = some (.one (.d (.str (lowL (bs s))))) := by
  have hl := bs_le s
  obtain ⟨x', h⟩ := t19k (bs s).length hl (bs s) (bs s) 0 0 rfl rfl rfl
  have hw : (lowL (bs s)).length = (bs s).length := List.length_map _
  rw [show ((List.take 0 (bs s)) ++ (List.map low (bs s))) = lowL (bs s) from rfl] at h
  generalize lowL (bs s) = w at h hw ⊢
  rw [p19]
  simp -implicitDefEqProofs (disch := omega) only [go_sem, Int.reduceAdd, Int.reduceSub, Int.reduceMul, dec_t, dec_f, Nat.reduceBEq, Nat.reduceBNe, reduceShiftRight, reduceAnd, Nat.reduceAdd, Nat.reduceSub, reduceEqDiff, Nat.reduceLT, reduceLeDiff, reduceToNat, Int.reduceLT, Int.reduceLE, Int.reduceEq, reduceIte, reduceCtorEq, h, hw, tk_map, by_mapU]
  (first | done | rfl)
def isE (e : Eo) (c n : Int) (m : Bool) : Bool := decide (cls e = c) && decide (num e = n) && (made e == m)
@[go_sem] theorem t32 (e : Eo) (c n : Int) (m : Bool) : pureCall C 32 [(.agg [.lit (.int .i64 (cls e)), .lit (.bool (made e)), .lit (.int .i64 (num e)), .str (bs (cont e)), .sl (List.map encE (els e))]), .lit (.int .i64 c), .lit (.int .i64 n), .lit (.bool m)] = some (tf (isE e c n m)) := by
  rw [p32]
  generalize hR : isE e c n m = R
  unfold isE at hR
  by_cases q1 : cls e = c
  · simp only [q1, decide_true, Bool.true_and] at hR
    by_cases q2 : num e = n
    · simp only [q2, decide_true, Bool.true_and] at hR
      cases b1 : made e <;> cases m <;> simp only [b1] at hR <;> subst hR <;> (simp -implicitDefEqProofs (disch := omega) only [go_sem, Int.reduceAdd, Int.reduceSub, Int.reduceMul, dec_t, dec_f, Nat.reduceBEq, Nat.reduceBNe, reduceShiftRight, reduceAnd, Nat.reduceAdd, Nat.reduceSub, reduceEqDiff, Nat.reduceLT, reduceLeDiff, reduceToNat, Int.reduceLT, Int.reduceLE, Int.reduceEq, reduceIte, reduceCtorEq, q1, q2, b1]) <;> (first | done | rfl)
    · simp only [q2, decide_false, Bool.false_and] at hR
      subst hR
      simp -implicitDefEqProofs (disch := omega) only [go_sem, Int.reduceAdd, Int.reduceSub, Int.reduceMul, dec_t, dec_f, Nat.reduceBEq, Nat.reduceBNe, reduceShiftRight, reduceAnd, Nat.reduceAdd, Nat.reduceSub, reduceEqDiff, Nat.reduceLT, reduceLeDiff, reduceToNat, Int.reduceLT, Int.reduceLE, Int.reduceEq, reduceIte, reduceCtorEq, q1, q2]
      (first | done | rfl)
  · simp only [q1, decide_false, Bool.false_and] at hR
    subst hR
    simp -implicitDefEqProofs (disch := omega) only [go_sem, Int.reduceAdd, Int.reduceSub, Int.reduceMul, dec_t, dec_f, Nat.reduceBEq, Nat.reduceBNe, reduceShiftRight, reduceAnd, Nat.reduceAdd, Nat.reduceSub, reduceEqDiff, Nat.reduceLT, reduceLeDiff, reduceToNat, Int.reduceLT, Int.reduceLE, Int.reduceEq, reduceIte, reduceCtorEq, q1]
    (first | done | rfl)
def nameR (e : Eo) : PR := if isE e 0 4 false then .tup (.d (.str (lowL (bs (cont e))))) [.lit (.bool true)] else .tup (.d (.str [])) [.lit (.bool false)]
theorem t15 (e : Eo) : pureCall C 15 [(.agg [.lit (.int .i64 (cls e)), .lit (.bool (made e)), .lit (.int .i64 (num e)), .str (bs (cont e)), .sl (List.map encE (els e))])] = some (nameR e) := by
  have h18 := t18 (cont e)
  unfold nameR
  rw [p15]
  cases b : isE e 0 4 false
  · simp -implicitDefEqProofs (disch := omega) only [go_sem, Int.reduceAdd, Int.reduceSub, Int.reduceMul, dec_t, dec_f, Nat.reduceBEq, Nat.reduceBNe, reduceShiftRight, reduceAnd, Nat.reduceAdd, Nat.reduceSub, reduceEqDiff, Nat.reduceLT, reduceLeDiff, reduceToNat, Int.reduceLT, Int.reduceLE, Int.reduceEq, reduceIte, reduceCtorEq, b]
    (first | done | rfl)
  · simp -implicitDefEqProofs (disch := omega) only [go_sem, Int.reduceAdd, Int.reduceSub, Int.reduceMul, dec_t, dec_f, Nat.reduceBEq, Nat.reduceBNe, reduceShiftRight, reduceAnd, Nat.reduceAdd, Nat.reduceSub, reduceEqDiff, Nat.reduceLT, reduceLeDiff, reduceToNat, Int.reduceLT, Int.reduceLE, Int.reduceEq, reduceIte, reduceCtorEq, b, h18]
    (first | done | rfl)
theorem t16 (e : Eo) : pureCall C 16 [(.agg [.lit (.int .i64 (cls e)), .lit (.bool (made e)), .lit (.int .i64 (num e)), .str (bs (cont e)), .sl (List.map encE (els e))])] = some (nameR e) := by
  have h19 := t19 (cont e)
  generalize hR : nameR e = R
  unfold nameR isE at hR
  rw [p16]
  by_cases q1 : cls e = 0
  · simp only [q1, decide_true, Bool.true_and] at hR
    by_cases q2 : num e = 4
    · simp only [q2, decide_true, Bool.true_and] at hR
      cases b1 : made e <;> simp only [b1] at hR <;> subst hR <;> (simp -implicitDefEqProofs (disch := omega) only [go_sem, Int.reduceAdd, Int.reduceSub, Int.reduceMul, dec_t, dec_f, Nat.reduceBEq, Nat.reduceBNe, reduceShiftRight, reduceAnd, Nat.reduceAdd, Nat.reduceSub, reduceEqDiff, Nat.reduceLT, reduceLeDiff, reduceToNat, Int.reduceLT, Int.reduceLE, Int.reduceEq, reduceIte, reduceCtorEq, q1, q2, b1, h19]) <;> (first | done | rfl)
    · simp only [q2, decide_false, Bool.false_and] at hR
      subst hR
      simp -implicitDefEqProofs (disch := omega) only [go_sem, Int.reduceAdd, Int.reduceSub, Int.reduceMul, dec_t, dec_f, Nat.reduceBEq, Nat.reduceBNe, reduceShiftRight, reduceAnd, Nat.reduceAdd, Nat.reduceSub, reduceEqDiff, Nat.reduceLT, reduceLeDiff, reduceToNat, Int.reduceLT, Int.reduceLE, Int.reduceEq, reduceIte, reduceCtorEq, q1, q2]
      (first | done | rfl)
  · simp only [q1, decide_false, Bool.false_and] at hR
    subst hR
    simp -implicitDefEqProofs (disch := omega) only [go_sem, Int.reduceAdd, Int.reduceSub, Int.reduceMul, dec_t, dec_f, Nat.reduceBEq, Nat.reduceBNe, reduceShiftRight, reduceAnd, Nat.reduceAdd, Nat.reduceSub, reduceEqDiff, Nat.reduceLT, reduceLeDiff, reduceToNat, Int.reduceLT, Int.reduceLE, Int.reduceEq, reduceIte, reduceCtorEq, q1]
    (first | done | rfl)
set_option maxRecDepth 10000
set_option maxHeartbeats 4000000
theorem t12b (e : Eo) (IH : ∀ g ∈ els e, ∀ l : Int, 0 ≤ l → l ≤ 300 → ∃ v : Int, -1 ≤ v ∧ v ≤ 300 ∧ pureCall C 12 [(.agg [.lit (.int .i64 (cls g)), .lit (.bool (made g)), .lit (.int .i64 (num g)), .str (bs (cont g)), .sl (List.map encE (els g))]), .lit (.int .i64 l)] = some (lit v)) : ∀ (r : List Eo) (j : Nat) (x y : Int), x = j → (els e).drop j = r → -1 ≤ y → y ≤ 300 →
    ∃ (v : Int) (x' : AV), -1 ≤ v ∧ v ≤ 300 ∧ n12_16 ⟨[(1, .d (.lit (.int .i64 y))), (2, .ptr 0 1 0 0), (5, .d (.lit (.int .i64 x)))], [⟨5, [.d (.agg [.lit (.int .i64 (cls e)), .lit (.bool (made e)), .lit (.int .i64 (num e)), .str (bs (cont e)), .sl (List.map encE (els e))])], false, false, false⟩]⟩ =
      some (.exit 0, ⟨[(1, .d (.lit (.int .i64 v))), (2, .ptr 0 1 0 0), (5, x'), (20, .d (.lit (.bool false)))], [⟨5, [.d (.agg [.lit (.int .i64 (cls e)), .lit (.bool (made e)), .lit (.int .i64 (num e)), .str (bs (cont e)), .sl (List.map encE (els e))])], false, false, false⟩]⟩) := by
  intro r
  induction r with
  | nil =>
    intro j x y hx hd hy hy'
    have hd := drop_nil hd
    have := els_le e
    refine ⟨y, .d (.lit (.int .i64 x)), hy, hy', ?_⟩
    rw [r_n12_16]
    simp -implicitDefEqProofs (disch := omega) only [go_sem, Int.reduceAdd, Int.reduceSub, Int.reduceMul, dec_t, dec_f, Nat.reduceBEq, Nat.reduceBNe, reduceShiftRight, reduceAnd, Nat.reduceAdd, Nat.reduceSub, reduceEqDiff, Nat.reduceLT, reduceLeDiff, reduceToNat, Int.reduceLT, Int.reduceLE, Int.reduceEq, reduceIte, reduceCtorEq]
    try rfl
  | cons c r ih =>
    intro j x y hx hd hy hy'
    obtain ⟨g1, g2, g3, g4⟩ := drop_cons hd
    have := els_le e
    have hnat : Int.toNat x = j := by omega
    by_cases h0 : 0 ≤ y
    · obtain ⟨v, hv, hv', hc⟩ := IH c g4 y h0 hy'
      obtain ⟨w, x', hw, hw', h⟩ := ih (j + 1) (x + 1) v (by omega) g3 hv hv'
      refine ⟨w, x', hw, hw', ?_⟩
      clear ih
      rw [r_n12_16]
      simp -implicitDefEqProofs (disch := omega) only [go_sem, Int.reduceAdd, Int.reduceSub, Int.reduceMul, dec_t, dec_f, Nat.reduceBEq, Nat.reduceBNe, reduceShiftRight, reduceAnd, Nat.reduceAdd, Nat.reduceSub, reduceEqDiff, Nat.reduceLT, reduceLeDiff, reduceToNat, Int.reduceLT, Int.reduceLE, Int.reduceEq, reduceIte, reduceCtorEq, g2, hnat, hc, h]
    · refine ⟨y, .d (.lit (.int .i64 x)), hy, hy', ?_⟩
      clear ih
      rw [r_n12_16]
      simp -implicitDefEqProofs (disch := omega) only [go_sem, Int.reduceAdd, Int.reduceSub, Int.reduceMul, dec_t, dec_f, Nat.reduceBEq, Nat.reduceBNe, reduceShiftRight, reduceAnd, Nat.reduceAdd, Nat.reduceSub, reduceEqDiff, Nat.reduceLT, reduceLeDiff, reduceToNat, Int.reduceLT, Int.reduceLE, Int.reduceEq, reduceIte, reduceCtorEq]
      try rfl
theorem t12 (e : Eo) (l : Int) (h0 : 0 ≤ l) (h1 : l ≤ 300) : ∃ v : Int, -1 ≤ v ∧ v ≤ 300 ∧ pureCall C 12 [(.agg [.lit (.int .i64 (cls e)), .lit (.bool (made e)), .lit (.int .i64 (num e)), .str (bs (cont e)), .sl (List.map encE (els e))]), .lit (.int .i64 l)] = some (lit v) := by
  have IH : ∀ g ∈ els e, ∀ l : Int, 0 ≤ l → l ≤ 300 → ∃ v : Int, -1 ≤ v ∧ v ≤ 300 ∧ pureCall C 12 [(.agg [.lit (.int .i64 (cls g)), .lit (.bool (made g)), .lit (.int .i64 (num g)), .str (bs (cont g)), .sl (List.map encE (els g))]), .lit (.int .i64 l)] = some (lit v) := fun g hg l h0 h1 => t12 g l h0 h1
  obtain ⟨v, x1, hv, hv', hb⟩ := t12b e IH (els e) 0 0 (l - 1) rfl rfl (by omega) (by omega)
  have q1 := bs_le (cont e)
  clear IH
  by_cases hn : 5000 < (bs (cont e)).length
  · refine ⟨-1, by omega, by omega, ?_⟩
    rw [p12]
    simp -implicitDefEqProofs (disch := omega) only [go_sem, Int.reduceAdd, Int.reduceSub, Int.reduceMul, dec_t, dec_f, Nat.reduceBEq, Nat.reduceBNe, reduceShiftRight, reduceAnd, Nat.reduceAdd, Nat.reduceSub, reduceEqDiff, Nat.reduceLT, reduceLeDiff, reduceToNat, Int.reduceLT, Int.reduceLE, Int.reduceEq, reduceIte, reduceCtorEq]
    (first | done | rfl)
  · refine ⟨v, hv, hv', ?_⟩
    rw [p12]
    simp -implicitDefEqProofs (disch := omega) only [go_sem, Int.reduceAdd, Int.reduceSub, Int.reduceMul, dec_t, dec_f, Nat.reduceBEq, Nat.reduceBNe, reduceShiftRight, reduceAnd, Nat.reduceAdd, Nat.reduceSub, reduceEqDiff, Nat.reduceLT, reduceLeDiff, reduceToNat, Int.reduceLT, Int.reduceLE, Int.reduceEq, reduceIte, reduceCtorEq, hb]
    (first | done | rfl)
termination_by szE e
decreasing_by exact els_lt hg
def snd1 (e : Eo) : Bool := if made e then List.beq (bs (cont e)) [] else (els e).isEmpty
theorem els_pos (e : Eo) : decide ((0 : Int) < (els e).length) = !(els e).isEmpty := by
  cases els e with
  | nil => rfl
  | cons a r => exact decide_eq_true (by simp only [List.length_cons]; omega)
theorem t28 (l : List Eo) (hl : l.length ≤ 2 ^ 30) : pureCall C 28 [.sl (l.map encE)] = some (tf (l.all snd1)) := by
  have key : ∀ (r : List Eo) (j : Nat) (x : Int), x = j → l.drop j = r →
      ∃ x' st', n28_6 ⟨[(5, .d (.sl (l.map encE))), (6, .d (.lit (.int .i64 l.length))), (7, .d (.lit (.int .i64 x)))], []⟩ =
        br (r.all snd1) (some (.exit 0, ⟨[(5, .d (.sl (l.map encE))), (6, .d (.lit (.int .i64 l.length))), (7, x'), (8, .d (.lit (.bool false)))], []⟩)) (some (.ret, ⟨[(2, .d (.lit (.bool false)))], st'⟩)) := by
    intro r
    induction r with
    | nil =>
      intro j x hx hd
      have hd := drop_nil hd
      refine ⟨.d (.lit (.int .i64 x)), [], ?_⟩
      rw [r_n28_6]
      simp -implicitDefEqProofs (disch := omega) only [go_sem, Int.reduceAdd, Int.reduceSub, Int.reduceMul, dec_t, dec_f, Nat.reduceBEq, Nat.reduceBNe, reduceShiftRight, reduceAnd, Nat.reduceAdd, Nat.reduceSub, reduceEqDiff, Nat.reduceLT, reduceLeDiff, reduceToNat, Int.reduceLT, Int.reduceLE, Int.reduceEq, reduceIte, reduceCtorEq]
      try rfl
    | cons c r ih =>
      intro j x hx hd
      obtain ⟨g1, g2, g3, g4⟩ := drop_cons hd
      have hnat : Int.toNat x = j := by omega
      have hp := els_pos c
      obtain ⟨x', st', h⟩ := ih (j + 1) (x + 1) (by omega) g3
      cases hs : snd1 c with
      | false =>
        refine ⟨.undef, [⟨5, [.d (.agg [.lit (.int .i64 (cls c)), .lit (.bool (made c)), .lit (.int .i64 (num c)), .str (bs (cont c)), .sl (List.map encE (els c))])], false, false, false⟩], ?_⟩
        rw [r_n28_6, show (c :: r).all snd1 = false by simp [hs]]
        clear ih h
        unfold snd1 at hs
        cases b1 : made c <;> simp only [b1, if_true, Bool.false_eq_true, if_false] at hs <;> (simp -implicitDefEqProofs (disch := omega) only [go_sem, Int.reduceAdd, Int.reduceSub, Int.reduceMul, dec_t, dec_f, Nat.reduceBEq, Nat.reduceBNe, reduceShiftRight, reduceAnd, Nat.reduceAdd, Nat.reduceSub, reduceEqDiff, Nat.reduceLT, reduceLeDiff, reduceToNat, Int.reduceLT, Int.reduceLE, Int.reduceEq, reduceIte, reduceCtorEq, g2, hnat, b1, hs, hp]) <;> try rfl
      | true =>
        refine ⟨x', st', ?_⟩
        rw [r_n28_6, show (c :: r).all snd1 = r.all snd1 by simp [hs]]
        clear ih
        generalize r.all snd1 = w at h ⊢
        unfold snd1 at hs
        cases b1 : made c <;> simp only [b1, if_true, Bool.false_eq_true, if_false] at hs <;> (simp -implicitDefEqProofs (disch := omega) only [go_sem, Int.reduceAdd, Int.reduceSub, Int.reduceMul, dec_t, dec_f, Nat.reduceBEq, Nat.reduceBNe, reduceShiftRight, reduceAnd, Nat.reduceAdd, Nat.reduceSub, reduceEqDiff, Nat.reduceLT, reduceLeDiff, reduceToNat, Int.reduceLT, Int.reduceLE, Int.reduceEq, reduceIte, reduceCtorEq, g2, hnat, b1, hs, hp, h])
  obtain ⟨x', st', h⟩ := key l 0 0 rfl rfl
  generalize l.all snd1 = w at h ⊢
  rw [p28]
  cases w
  · simp -implicitDefEqProofs (disch := omega) only [go_sem, Int.reduceAdd, Int.reduceSub, Int.reduceMul, dec_t, dec_f, Nat.reduceBEq, Nat.reduceBNe, reduceShiftRight, reduceAnd, Nat.reduceAdd, Nat.reduceSub, reduceEqDiff, Nat.reduceLT, reduceLeDiff, reduceToNat, Int.reduceLT, Int.reduceLE, Int.reduceEq, reduceIte, reduceCtorEq, h]
    (first | done | rfl)
  · simp -implicitDefEqProofs (disch := omega) only [go_sem, Int.reduceAdd, Int.reduceSub, Int.reduceMul, dec_t, dec_f, Nat.reduceBEq, Nat.reduceBNe, reduceShiftRight, reduceAnd, Nat.reduceAdd, Nat.reduceSub, reduceEqDiff, Nat.reduceLT, reduceLeDiff, reduceToNat, Int.reduceLT, Int.reduceLE, Int.reduceEq, reduceIte, reduceCtorEq, h]
    (first | done | rfl)
noncomputable def whole (e : Eo) : Bool := (els e).all snd1 && (els e).attach.all fun k => whole k.1
termination_by szE e
decreasing_by exact els_lt k.2
theorem whole_eq (e : Eo) : whole e = ((els e).all snd1 && (els e).all whole) := by
  rw [whole]
  congr 1
  conv => rhs; rw [← List.attach_map_subtype_val (els e), List.all_map]
  rfl
theorem t29 (e : Eo) : pureCall C 29 [(.agg [.lit (.int .i64 (cls e)), .lit (.bool (made e)), .lit (.int .i64 (num e)), .str (bs (cont e)), .sl (List.map encE (els e))])] = some (tf (whole e)) := by
  have IH : ∀ g ∈ els e, pureCall C 29 [(.agg [.lit (.int .i64 (cls g)), .lit (.bool (made g)), .lit (.int .i64 (num g)), .str (bs (cont g)), .sl (List.map encE (els g))])] = some (tf (whole g)) := fun g hg => t29 g
  have hl := els_le e
  have h28 := t28 (els e) hl
  have key : ∀ (r : List Eo) (j : Nat) (x : Int), x = j → (els e).drop j = r →
      ∃ x' st', n29_14 ⟨[(10, .d (.sl ((els e).map encE))), (11, .d (.lit (.int .i64 (els e).length))), (12, .d (.lit (.int .i64 x)))], [⟨5, [.d (.agg [.lit (.int .i64 (cls e)), .lit (.bool (made e)), .lit (.int .i64 (num e)), .str (bs (cont e)), .sl (List.map encE (els e))])], false, false, false⟩]⟩ =
        br (r.all whole) (some (.exit 0, ⟨[(10, .d (.sl ((els e).map encE))), (11, .d (.lit (.int .i64 (els e).length))), (12, x'), (13, .d (.lit (.bool false)))], [⟨5, [.d (.agg [.lit (.int .i64 (cls e)), .lit (.bool (made e)), .lit (.int .i64 (num e)), .str (bs (cont e)), .sl (List.map encE (els e))])], false, false, false⟩]⟩)) (some (.ret, ⟨[(2, .d (.lit (.bool false)))], st'⟩)) := by
    intro r
    induction r with
    | nil =>
      intro j x hx hd
      have hd := drop_nil hd
      refine ⟨.d (.lit (.int .i64 x)), [], ?_⟩
      rw [r_n29_14]
      simp -implicitDefEqProofs (disch := omega) only [go_sem, Int.reduceAdd, Int.reduceSub, Int.reduceMul, dec_t, dec_f, Nat.reduceBEq, Nat.reduceBNe, reduceShiftRight, reduceAnd, Nat.reduceAdd, Nat.reduceSub, reduceEqDiff, Nat.reduceLT, reduceLeDiff, reduceToNat, Int.reduceLT, Int.reduceLE, Int.reduceEq, reduceIte, reduceCtorEq]
      try rfl
    | cons c r ih =>
      intro j x hx hd
      obtain ⟨g1, g2, g3, g4⟩ := drop_cons hd
      have hnat : Int.toNat x = j := by omega
      have hc := IH c g4
      obtain ⟨x', st', h⟩ := ih (j + 1) (x + 1) (by omega) g3
      cases hs : whole c with
      | false =>
        rw [hs] at hc
        refine ⟨.undef, [⟨5, [.d (.agg [.lit (.int .i64 (cls e)), .lit (.bool (made e)), .lit (.int .i64 (num e)), .str (bs (cont e)), .sl (List.map encE (els e))])], false, false, false⟩, ⟨5, [.d (.agg [.lit (.int .i64 (cls c)), .lit (.bool (made c)), .lit (.int .i64 (num c)), .str (bs (cont c)), .sl (List.map encE (els c))])], false, false, false⟩], ?_⟩
        rw [r_n29_14, show (c :: r).all whole = false by simp [hs]]
        clear ih h
        simp -implicitDefEqProofs (disch := omega) only [go_sem, Int.reduceAdd, Int.reduceSub, Int.reduceMul, dec_t, dec_f, Nat.reduceBEq, Nat.reduceBNe, reduceShiftRight, reduceAnd, Nat.reduceAdd, Nat.reduceSub, reduceEqDiff, Nat.reduceLT, reduceLeDiff, reduceToNat, Int.reduceLT, Int.reduceLE, Int.reduceEq, reduceIte, reduceCtorEq, g2, hnat, hc]
        try rfl
      | true =>
        rw [hs] at hc
        refine ⟨x', st', ?_⟩
        rw [r_n29_14, show (c :: r).all whole = r.all whole by simp [hs]]
        clear ih
        generalize r.all whole = w at h ⊢
        simp -implicitDefEqProofs (disch := omega) only [go_sem, Int.reduceAdd, Int.reduceSub, Int.reduceMul, dec_t, dec_f, Nat.reduceBEq, Nat.reduceBNe, reduceShiftRight, reduceAnd, Nat.reduceAdd, Nat.reduceSub, reduceEqDiff, Nat.reduceLT, reduceLeDiff, reduceToNat, Int.reduceLT, Int.reduceLE, Int.reduceEq, reduceIte, reduceCtorEq, g2, hnat, hc, h]
  obtain ⟨x', st', h⟩ := key (els e) 0 0 rfl rfl
  rw [p29, whole_eq]
  generalize (els e).all whole = w at h ⊢
  generalize (els e).all snd1 = w2 at h28 ⊢
  cases w <;> cases w2 <;> (simp -implicitDefEqProofs (disch := omega) only [go_sem, Int.reduceAdd, Int.reduceSub, Int.reduceMul, dec_t, dec_f, Nat.reduceBEq, Nat.reduceBNe, reduceShiftRight, reduceAnd, Nat.reduceAdd, Nat.reduceSub, reduceEqDiff, Nat.reduceLT, reduceLeDiff, reduceToNat, Int.reduceLT, Int.reduceLE, Int.reduceEq, reduceIte, reduceCtorEq, h, h28]) <;> (first | done | rfl)
termination_by szE e
decreasing_by exact els_lt hg
set_option maxRecDepth 10000
set_option maxHeartbeats 1000000
inductive Sm : Eo → Prop where
  | mk (e : Eo) (h : (els e).length ≤ 1000) (hk : ∀ g ∈ els e, Sm g) : Sm e
theorem Sm.inv {e : Eo} (h : Sm e) : (els e).length ≤ 1000 ∧ ∀ g ∈ els e, Sm g := by
  cases h with | mk _ h hk => exact ⟨h, hk⟩
def lowB (s : Bs) : Bs := ⟨lowL (bs s), by show (List.map low s.1).length ≤ _; rw [List.length_map]; exact s.2⟩
theorem bs_lowB (s : Bs) : bs (lowB s) = lowL (bs s) := rfl
def mkF (k : Int) (n v i : Bs) (a : List Bs) (e : Bs) (x y : Bool) (r : Bs) (d : Bool) (ks : List Fo) : Fo :=
  ⟨.mk k n v i (a.take (2 ^ 28)) e x y r d ((ks.take (2 ^ 30)).map fun (x : Fo) => x.1), .mk (List.length_take_le _ _) (by refine Nat.le_trans (Nat.le_of_eq (List.length_map _)) ?_; exact List.length_take_le _ _) (fun f hf => by
    obtain ⟨x, -, rfl⟩ := List.mem_map.1 hf
    exact x.2)⟩
section
variable (k : Int) (n v i : Bs) (a : List Bs) (e : Bs) (x y : Bool) (r : Bs) (d : Bool) (ks : List Fo)
theorem mkf_kind : kind (mkF k n v i a e x y r d ks) = k := rfl
theorem mkf_name : name (mkF k n v i a e x y r d ks) = n := rfl
theorem mkf_value : value (mkF k n v i a e x y r d ks) = v := rfl
theorem mkf_ini : ini (mkF k n v i a e x y r d ks) = i := rfl
theorem mkf_fin : fin (mkF k n v i a e x y r d ks) = e := rfl
theorem mkf_hi : hi (mkF k n v i a e x y r d ks) = x := rfl
theorem mkf_hf : hf (mkF k n v i a e x y r d ks) = y := rfl
theorem mkf_rule : rule (mkF k n v i a e x y r d ks) = r := rfl
theorem mkf_dn : dn (mkF k n v i a e x y r d ks) = d := rfl
theorem mkf_any (h : a.length ≤ 2 ^ 28) : any (mkF k n v i a e x y r d ks) = a := List.take_of_length_le h
theorem mkf_any0 : any (mkF k n v i [] e x y r d ks) = [] := mkf_any k n v i [] e x y r d ks (Nat.zero_le _)
theorem mkf_kids (h : ks.length ≤ 2 ^ 30) : kids (mkF k n v i a e x y r d ks) = ks := by
  exact sub_map (p := OkF) ks ((ks.take (2 ^ 30)).map fun (x : Fo) => x.1) (by rw [List.take_of_length_le h]; rfl) _
theorem mkf_kids0 : kids (mkF k n v i a e x y r d []) = [] := mkf_kids k n v i a e x y r d [] (Nat.zero_le _)
end
attribute [go_sem] mkf_kind mkf_name mkf_value mkf_ini mkf_fin mkf_hi mkf_hf mkf_rule mkf_dn mkf_any0 mkf_kids0 bs_lowB
def mapO {α β : Type} (f : α → Option β) : List α → Option (List β)
  | [] => some []
  | a :: r => (f a).bind fun b => (mapO f r).map (b :: ·)
theorem mapO_some {α β : Type} {f : α → Option β} {g : α → β} : ∀ {l : List α}, (∀ a ∈ l, f a = some (g a)) → mapO f l = some (l.map g)
  | [], _ => rfl
  | a :: r, h => by
    rw [mapO, h a (by simp), mapO_some (fun b hb => h b (by simp [hb]))]
    rfl
theorem mapO_inv {α β : Type} {f : α → Option β} : ∀ {l : List α} {m : List β}, mapO f l = some m → ∀ a ∈ l, ∃ b, f a = some b
  | [], _, _, a, ha => by cases ha
  | a :: r, m, h, x, hx => by
    rw [mapO] at h
    cases e : f a with
    | none => rw [e] at h; cases h
    | some b =>
      rw [e] at h
      cases q : mapO f r with
      | none => rw [q] at h; cases h
      | some t =>
        rcases List.mem_cons.1 hx with rfl | hx
        · exact ⟨b, e⟩
        · exact mapO_inv q x hx
structure Pc where
  i : Bs
  a : List Bs
  f : Bs
  x : Bool
  y : Bool
def pz : Pc := ⟨b0, [], b0, false, false⟩
def gPc : List Eo → Pc → Pc
  | [], p => p
  | x :: r, p => gPc r (if num x = 0 then ⟨cont x, p.a, p.f, true, p.y⟩ else if num x = 1 then ⟨p.i, p.a ++ [cont x], p.f, p.x, p.y⟩ else if num x = 2 then ⟨p.i, p.a, cont x, p.x, true⟩ else p)
def rPc : List Eo → Nat → Pc → Option Pc
  | [], _, p => some p
  | x :: r, j, p =>
    if isE x 2 0 false && decide (j = 0) then rPc r (j + 1) ⟨cont x, p.a, p.f, true, p.y⟩
    else if isE x 2 1 false then rPc r (j + 1) ⟨p.i, p.a ++ [cont x], p.f, p.x, p.y⟩
    else if isE x 2 2 false && r.isEmpty then rPc r (j + 1) ⟨p.i, p.a, cont x, p.x, true⟩
    else none
structure Mo where
  rule : Bs
  name : Bs
  value : Bs
  dn : Bool
def mz : Mo := ⟨b0, b0, b0, false⟩
def gMo : List Eo → Mo → Mo
  | [], m => m
  | x :: r, m => gMo r (if num x = 1 then ⟨lowB (cont x), m.name, m.value, m.dn⟩ else if num x = 2 then ⟨m.rule, lowB (cont x), m.value, m.dn⟩ else if num x = 3 then ⟨m.rule, m.name, cont x, m.dn⟩ else if num x = 4 then ⟨m.rule, m.name, m.value, !(List.beq (bs (cont x)) [0])⟩ else m)
def rMo : List Eo → Int → Bool → Mo → Option Mo
  | [], _, v, m => if v then some m else none
  | x :: r, last, v, m =>
    if snd1 x && decide (cls x = 2) && !made x && decide (last < num x) then
      if num x = 1 then (if List.beq (lowL (bs (cont x))) [] then none else rMo r 1 v ⟨lowB (cont x), m.name, m.value, m.dn⟩)
      else if num x = 2 then (if List.beq (lowL (bs (cont x))) [] then none else rMo r 2 v ⟨m.rule, lowB (cont x), m.value, m.dn⟩)
      else if num x = 3 then rMo r 3 true ⟨m.rule, m.name, cont x, m.dn⟩
      else if num x = 4 && decide ((bs (cont x)).length = 1) then rMo r 4 v ⟨m.rule, m.name, m.value, !(List.beq (bs (cont x)) [0])⟩
      else none
    else none
def guess1 (e : Eo) (ks : List Fo) : Fo :=
  if num e = 0 ∨ num e = 1 ∨ num e = 2 then mkF (num e) b0 b0 b0 [] b0 false false b0 false ks else
  if num e = 7 then mkF 7 (lowB (cont e)) b0 b0 [] b0 false false b0 false [] else
  if num e = 4 then (match els e with
    | [a, b] => mkF 4 (lowB (cont a)) b0 (gPc (els b) pz).i (gPc (els b) pz).a (gPc (els b) pz).f (gPc (els b) pz).x (gPc (els b) pz).y b0 false []
    | _ => mkF 4 b0 b0 b0 [] b0 false false b0 false []) else
  if num e = 9 then mkF 9 (gMo (els e) mz).name (gMo (els e) mz).value b0 [] b0 false false (gMo (els e) mz).rule (gMo (els e) mz).dn [] else
  match els e with
    | [a, b] => mkF (num e) (lowB (cont a)) (cont b) b0 [] b0 false false b0 false []
    | _ => mkF (num e) b0 b0 b0 [] b0 false false b0 false []
def guessO : Nat → Eo → Fo
  | 0, e => guess1 e []
  | l + 1, e => guess1 e ((els e).map (guessO l))
def read1 (e : Eo) (ks : Option (List Fo)) : Option Fo :=
  if cls e = 2 ∧ made e = !decide (num e = 7) then
    if num e = 0 ∨ num e = 1 ∨ num e = 2 then ks.map fun ks => mkF (num e) b0 b0 b0 [] b0 false false b0 false ks else
    if num e = 7 then (if (els e).isEmpty then some (mkF 7 (lowB (cont e)) b0 b0 [] b0 false false b0 false []) else none) else
    if num e = 4 then (match els e with
      | [a, b] => if snd1 a && snd1 b && isE b 0 16 true && (els b).all snd1 && isE a 0 4 false then (rPc (els b) 0 pz).map fun p => mkF 4 (lowB (cont a)) b0 p.i p.a p.f p.x p.y b0 false [] else none
      | _ => none) else
    if num e = 9 then (rMo (els e) 0 false mz).map fun m => mkF 9 m.name m.value b0 [] b0 false false m.rule m.dn [] else
    match els e with
      | [a, b] => if snd1 a && snd1 b && isE b 0 4 false && isE a 0 4 false then some (mkF (num e) (lowB (cont a)) (cont b) b0 [] b0 false false b0 false []) else none
      | _ => none
  else none
def readO : Nat → Eo → Option Fo
  | 0, _ => none
  | l + 1, e => read1 e (mapO (readO l) (els e))
def sm1 (x : Eo) : Eo :=
  mkE (cls x) (made x) (num x) (if num x = 4 && decide ((bs (cont x)).length = 1) && !(List.beq (bs (cont x)) [0]) then bff else if num x = 1 ∨ num x = 2 then lowB (cont x) else cont x) (els x)
def smX : List Eo → List Eo
  | [] => []
  | x :: r => if r.isEmpty && decide (num x = 4) && List.beq (bs (cont x)) [0] && decide (cls x = 2) && !made x && (els x).isEmpty then [] else sm1 x :: smX r
def small1 (e : Eo) (ks : List Eo) : Eo :=
  if num e = 0 ∨ num e = 1 ∨ num e = 2 then mkE (cls e) (made e) (num e) (cont e) ks else
  if num e = 7 then mkE (cls e) (made e) (num e) (lowB (cont e)) (els e) else
  if num e = 9 then mkE (cls e) (made e) (num e) (cont e) (smX (els e)) else
  match els e with
    | [] => e
    | a :: r => mkE (cls e) (made e) (num e) (cont e) (mkE (cls a) (made a) (num a) (lowB (cont a)) (els a) :: r)
def smallO : Nat → Eo → Eo
  | 0, e => e
  | l + 1, e => small1 e ((els e).map (smallO l))
set_option maxRecDepth 10000
set_option maxHeartbeats 1000000
theorem mkE_inj {c c' : Int} {m m' : Bool} {n n' : Int} {t t' : Bs} {es es' : List Eo} (h1 : es.length ≤ 2 ^ 30) (h2 : es'.length ≤ 2 ^ 30) (h : mkE c m n t es = mkE c' m' n' t' es') : c = c' ∧ m = m' ∧ n = n' ∧ t = t' ∧ es = es' := by
  refine ⟨congrArg cls h, congrArg made h, congrArg num h, congrArg cont h, ?_⟩
  have := congrArg els h
  rwa [mk_els _ _ _ _ _ h1, mk_els _ _ _ _ _ h2] at this
theorem mkE_self (e : Eo) : mkE (cls e) (made e) (num e) (cont e) (els e) = e := Eo_ext rfl rfl rfl rfl (mk_els _ _ _ _ _ (els_le e))
theorem bs_nil {s : Bs} (h : List.beq (bs s) [] = true) : s = b0 := by
  obtain ⟨l, hl⟩ := s
  cases l with
  | nil => rfl
  | cons a r => cases h
theorem isE_inv {e : Eo} {c n : Int} {m : Bool} (h : isE e c n m = true) : cls e = c ∧ num e = n ∧ made e = m := by
  unfold isE at h
  simp only [Bool.and_eq_true, decide_eq_true_eq, beq_iff_eq] at h
  exact ⟨h.1.1, h.1.2, h.2⟩
theorem isE_t {e : Eo} {c n : Int} {m : Bool} (h1 : cls e = c) (h2 : num e = n) (h3 : made e = m) : isE e c n m = true := by
  unfold isE
  simp [h1, h2, h3]
theorem isE_n {e : Eo} {c n : Int} {m : Bool} (h : ¬ num e = n) : isE e c n m = false := by
  unfold isE
  simp [h]
theorem lone {e : Eo} (h : snd1 e = true) (hm : made e = false) : els e = [] := by
  unfold snd1 at h
  rw [hm] at h
  exact List.isEmpty_iff.1 h
theorem filled {e : Eo} (h : snd1 e = true) (hm : made e = true) : cont e = b0 := by
  unfold snd1 at h
  rw [hm] at h
  exact bs_nil h
theorem snd_lone {e : Eo} (hm : made e = false) (h : els e = []) : snd1 e = true := by
  unfold snd1
  rw [hm, h]
  rfl
theorem snd_filled {e : Eo} (hm : made e = true) (h : cont e = b0) : snd1 e = true := by
  unfold snd1
  rw [hm, h]
  rfl
def pcl (p : Pc) : List Eo := (if p.x then [mkE 2 false 0 p.i []] else []) ++ p.a.map p1 ++ (if p.y then [mkE 2 false 2 p.f []] else [])
theorem rPc_g : ∀ (L : List Eo) (j : Nat) (p q : Pc), rPc L j p = some q → q = gPc L p
  | [], j, p, q, h => (Option.some.inj h).symm
  | x :: r, j, p, q, h => by
    rw [rPc] at h
    rw [gPc]
    split at h
    · rename_i c
      simp only [Bool.and_eq_true] at c
      rw [if_pos (isE_inv c.1).2.1]
      exact rPc_g r _ _ q h
    · split at h
      · rename_i c
        have c1 := (isE_inv c).2.1
        rw [if_neg (by omega), if_pos c1]
        exact rPc_g r _ _ q h
      · split at h
        · rename_i c
          simp only [Bool.and_eq_true] at c
          have c1 := (isE_inv c.1).2.1
          rw [if_neg (by omega), if_neg (by omega), if_pos c1]
          exact rPc_g r _ _ q h
        · cases h
theorem e_of {x : Eo} {n : Int} (hs : snd1 x = true) (h : isE x 2 n false = true) : x = mkE 2 false n (cont x) [] := by
  obtain ⟨h1, h2, h3⟩ := isE_inv h
  exact Eo_ext h1 h3 h2 rfl (by rw [lone hs h3]; exact (mk_els0 _ _ _ _).symm)
theorem rPc_pcl : ∀ (L : List Eo) (j : Nat) (p q : Pc), L.all snd1 = true → p.y = false → (j = 0 → p.x = false ∧ p.a = []) → rPc L j p = some q → pcl q = pcl p ++ L
  | [], j, p, q, hs, hy, hj, h => by
    rw [← Option.some.inj h, List.append_nil]
  | x :: r, j, p, q, hs, hy, hj, h => by
    rw [rPc] at h
    rw [List.all_cons, Bool.and_eq_true] at hs
    obtain ⟨hs1, hs2⟩ := hs
    split at h
    · rename_i c
      simp only [Bool.and_eq_true, decide_eq_true_eq] at c
      obtain ⟨j1, j2⟩ := hj c.2
      have := rPc_pcl r (j + 1) ⟨cont x, p.a, p.f, true, p.y⟩ q hs2 hy (fun e => absurd e (by omega)) h
      rw [this, e_of hs1 c.1]
      unfold pcl
      simp only [j1, j2, hy, mk_cont]
      simp
    · split at h
      · rename_i c
        have := rPc_pcl r (j + 1) ⟨p.i, p.a ++ [cont x], p.f, p.x, p.y⟩ q hs2 hy (fun e => absurd e (by omega)) h
        rw [this, e_of hs1 c]
        unfold pcl
        simp only [hy, mk_cont]
        simp [p1]
      · split at h
        · rename_i c
          simp only [Bool.and_eq_true] at c
          have hr := List.isEmpty_iff.1 c.2
          subst hr
          rw [← Option.some.inj h, e_of hs1 c.1]
          unfold pcl
          simp only [hy, mk_cont]
          simp
        · cases h
theorem rPc_tail (f : Bs) (y : Bool) : ∀ (A : List Bs) (j : Nat) (p : Pc), ∃ q, rPc (A.map p1 ++ (if y then [mkE 2 false 2 f []] else [])) j p = some q
  | [], j, p => by
    cases y
    · exact ⟨p, rfl⟩
    · refine ⟨⟨p.i, p.a, f, p.x, true⟩, ?_⟩
      simp only [List.map_nil, List.nil_append, if_true]
      rw [rPc]
      rw [isE_n (e := mkE 2 false 2 f []) (c := 2) (n := 0) (m := false) (by rw [mk_num]; omega), isE_n (e := mkE 2 false 2 f []) (c := 2) (n := 1) (m := false) (by rw [mk_num]; omega), isE_t (e := mkE 2 false 2 f []) (c := 2) (n := 2) (m := false) rfl rfl rfl]
      rfl
  | a :: A, j, p => by
    obtain ⟨q, h⟩ := rPc_tail f y A (j + 1) ⟨p.i, p.a ++ [cont (p1 a)], p.f, p.x, p.y⟩
    refine ⟨q, ?_⟩
    rw [List.map_cons, List.cons_append, rPc]
    rw [isE_n (e := p1 a) (c := 2) (n := 0) (m := false) (by show ¬ (1 : Int) = 0; omega), isE_t (e := p1 a) (c := 2) (n := 1) (m := false) rfl rfl rfl]
    exact h
theorem rPc_of (p : Pc) : ∃ q, rPc (pcl p) 0 pz = some q := by
  unfold pcl
  cases p.x
  · simp only [Bool.false_eq_true, if_false, List.nil_append]
    exact rPc_tail p.f p.y p.a 0 pz
  · simp only [if_true, List.cons_append, List.nil_append]
    obtain ⟨q, h⟩ := rPc_tail p.f p.y p.a 1 ⟨p.i, [], b0, true, false⟩
    refine ⟨q, ?_⟩
    rw [rPc, isE_t (e := mkE 2 false 0 p.i []) (c := 2) (n := 0) (m := false) rfl rfl rfl]
    exact h
theorem snd_pcl (p : Pc) : (pcl p).all snd1 = true := by
  have h : ∀ (n : Int) (s : Bs), snd1 (mkE 2 false n s []) = true := fun n s => snd_lone rfl (mk_els0 _ _ _ _)
  unfold pcl
  rw [List.all_append, List.all_append]
  have h2 : (p.a.map p1).all snd1 = true := by
    rw [List.all_map]
    exact List.all_eq_true.2 fun s _ => h 1 s
  rw [h2]
  cases p.x <;> cases p.y <;> simp [h]
theorem pc_iff (L : List Eo) : (L.all snd1 = true ∧ rPc L 0 pz = some (gPc L pz)) ↔ pcl (gPc L pz) = L := by
  constructor
  · rintro ⟨h1, h2⟩
    have := rPc_pcl L 0 pz _ h1 rfl (fun _ => ⟨rfl, rfl⟩) h2
    rw [this]
    rfl
  · intro h
    obtain ⟨q, hq⟩ := rPc_of (gPc L pz)
    have hs := snd_pcl (gPc L pz)
    rw [h] at hq hs
    exact ⟨hs, by rw [hq, rPc_g _ _ _ _ hq]⟩
theorem gPc_len : ∀ (L : List Eo) (p : Pc), (gPc L p).a.length ≤ p.a.length + L.length
  | [], p => by rw [gPc]; simp
  | x :: r, p => by
    rw [gPc]
    refine Nat.le_trans (gPc_len r _) ?_
    simp only [List.length_cons]
    split
    · simp only; omega
    · split
      · simp only [List.length_append, List.length_cons, List.length_nil]; omega
      · split
        · simp only; omega
        · omega
def tl (last : Int) (q : Mo) : List Eo :=
  (if last < 1 ∧ List.beq (bs q.rule) [] = false then [mkE 2 false 1 q.rule []] else []) ++ ((if last < 2 ∧ List.beq (bs q.name) [] = false then [mkE 2 false 2 q.name []] else []) ++ ((if last < 3 then [mkE 2 false 3 q.value []] else []) ++ (if last < 4 ∧ q.dn = true then [mkE 2 false 4 bff []] else [])))
theorem rMo_g : ∀ (L : List Eo) (last : Int) (v : Bool) (m q : Mo), rMo L last v m = some q → q = gMo L m
  | [], last, v, m, q, h => by
    rw [rMo] at h
    cases v
    · cases h
    · exact (Option.some.inj h).symm
  | x :: r, last, v, m, q, h => by
    rw [rMo] at h
    rw [gMo]
    split at h
    · split at h
      · rename_i c
        rw [if_pos c]
        split at h
        · cases h
        · exact rMo_g r _ _ _ q h
      · rename_i c1
        rw [if_neg c1]
        split at h
        · rename_i c
          rw [if_pos c]
          split at h
          · cases h
          · exact rMo_g r _ _ _ q h
        · rename_i c2
          rw [if_neg c2]
          split at h
          · rename_i c
            rw [if_pos c]
            exact rMo_g r _ _ _ q h
          · rename_i c3
            rw [if_neg c3]
            split at h
            · rename_i c
              simp only [Bool.and_eq_true, decide_eq_true_eq] at c
              rw [if_pos c.1]
              exact rMo_g r _ _ _ q h
            · cases h
    · cases h
theorem rMo_4 : ∀ (L : List Eo) (v : Bool) (m q : Mo), rMo L 4 v m = some q → L = [] ∧ v = true ∧ q = m
  | [], v, m, q, h => by
    rw [rMo] at h
    cases v
    · cases h
    · exact ⟨rfl, rfl, (Option.some.inj h).symm⟩
  | x :: r, v, m, q, h => by
    rw [rMo] at h
    split at h
    · rename_i c
      simp only [Bool.and_eq_true, decide_eq_true_eq] at c
      rw [if_neg (by omega), if_neg (by omega), if_neg (by omega), if_neg (by simp only [Bool.and_eq_true, decide_eq_true_eq]; omega)] at h
      cases h
    · cases h
theorem tl_r {last : Int} {q : Mo} (h : last < 1) (hr : List.beq (bs q.rule) [] = false) : tl last q = mkE 2 false 1 q.rule [] :: tl 1 q := by
  simp [tl, h, hr, show last < 2 by omega, show last < 3 by omega, show last < 4 by omega]
theorem tl_n {last : Int} {q : Mo} (h : last < 2) (h1 : ¬ (last < 1 ∧ List.beq (bs q.rule) [] = false)) (hn : List.beq (bs q.name) [] = false) : tl last q = mkE 2 false 2 q.name [] :: tl 2 q := by
  rw [tl, if_neg h1]
  simp [tl, h, hn, show last < 3 by omega, show last < 4 by omega]
theorem tl_v {last : Int} {q : Mo} (h : last < 3) (h1 : ¬ (last < 1 ∧ List.beq (bs q.rule) [] = false)) (h2 : ¬ (last < 2 ∧ List.beq (bs q.name) [] = false)) : tl last q = mkE 2 false 3 q.value [] :: tl 3 q := by
  rw [tl, if_neg h1, if_neg h2]
  simp [tl, h, show last < 4 by omega]
theorem tl_3 {last : Int} {q : Mo} (h : ¬ last < 3) : tl last q = if last < 4 ∧ q.dn = true then [mkE 2 false 4 bff []] else [] := by
  rw [tl, if_neg (by omega), if_neg (by omega), if_neg h]
  rfl
theorem tl_ne {last : Int} {q : Mo} (h : last < 3) : tl last q ≠ [] := by
  intro e
  unfold tl at e
  rw [if_pos h] at e
  simp at e
theorem sm1_text {x : Eo} (hc : cls x = 2) (hm : made x = false) (hx : els x = []) {n : Int} (hn : num x = n) (h4 : n ≠ 4) : sm1 x = mkE 2 false n (if n = 1 ∨ n = 2 then lowB (cont x) else cont x) [] := by
  unfold sm1
  rw [hc, hm, hx, hn, if_neg (by simp [h4])]
theorem smX_text {x : Eo} {r : List Eo} (h4 : num x ≠ 4) : smX (x :: r) = sm1 x :: smX r := by
  rw [smX, if_neg (by simp [h4])]
theorem rMo_tl : ∀ (L : List Eo) (last : Int) (v : Bool) (m q : Mo), (v = true → 3 ≤ last) → (last < 1 → m.rule = b0) → (last < 2 → m.name = b0) → (last < 4 → m.dn = false) → rMo L last v m = some q →
    smX L = tl last q ∧ (1 ≤ last → q.rule = m.rule) ∧ (2 ≤ last → q.name = m.name) ∧ (3 ≤ last → q.value = m.value)
  | [], last, v, m, q, i1, i2, i3, i4, h => by
    rw [rMo] at h
    cases v
    · cases h
    · have := i1 rfl
      rw [if_pos rfl] at h
      rw [← Option.some.inj h]
      refine ⟨?_, fun _ => rfl, fun _ => rfl, fun _ => rfl⟩
      rw [tl_3 (by omega), if_neg (by
        rintro ⟨a, b⟩
        rw [i4 a] at b
        cases b)]
      rfl
  | x :: r, last, v, m, q, i1, i2, i3, i4, h => by
    rw [rMo] at h
    split at h
    · rename_i c
      simp only [Bool.and_eq_true, decide_eq_true_eq, Bool.not_eq_true'] at c
      obtain ⟨⟨⟨hs, hc⟩, hm⟩, hlt⟩ := c
      have hx := lone hs hm
      split at h
      · rename_i c1
        split at h
        · cases h
        · rename_i hb
          have hb : List.beq (lowL (bs (cont x))) [] = false := by simpa using hb
          obtain ⟨j1, j2, j3, j4⟩ := rMo_tl r 1 v ⟨lowB (cont x), m.name, m.value, m.dn⟩ q (fun hv => by have := i1 hv; omega) (fun e => absurd e (by omega)) (fun _ => i3 (by omega)) (fun _ => i4 (by omega)) h
          have hr : q.rule = lowB (cont x) := j2 (by omega)
          refine ⟨?_, fun e => absurd e (by omega), fun e => absurd e (by omega), fun e => absurd e (by omega)⟩
          rw [tl_r (by omega) (by rw [hr]; exact hb), smX_text (by omega), j1, sm1_text hc hm hx c1 (by omega), hr]
          rfl
      · rename_i c1
        split at h
        · rename_i c2
          split at h
          · cases h
          · rename_i hb
            have hb : List.beq (lowL (bs (cont x))) [] = false := by simpa using hb
            obtain ⟨j1, j2, j3, j4⟩ := rMo_tl r 2 v ⟨m.rule, lowB (cont x), m.value, m.dn⟩ q (fun hv => by have := i1 hv; omega) (fun e => absurd e (by omega)) (fun e => absurd e (by omega)) (fun _ => i4 (by omega)) h
            have hr : q.name = lowB (cont x) := j3 (by omega)
            have hq : q.rule = m.rule := j2 (by omega)
            refine ⟨?_, fun _ => hq, fun e => absurd e (by omega), fun e => absurd e (by omega)⟩
            rw [tl_n (by omega) (by
              rintro ⟨a, b⟩
              rw [hq, i2 a] at b
              cases b) (by rw [hr]; exact hb), smX_text (by omega), j1, sm1_text hc hm hx c2 (by omega), hr]
            rfl
        · rename_i c2
          split at h
          · rename_i c3
            obtain ⟨j1, j2, j3, j4⟩ := rMo_tl r 3 true ⟨m.rule, m.name, cont x, m.dn⟩ q (fun _ => by omega) (fun e => absurd e (by omega)) (fun e => absurd e (by omega)) (fun _ => i4 (by omega)) h
            have hr : q.value = cont x := j4 (by omega)
            have hq : q.rule = m.rule := j2 (by omega)
            have hn : q.name = m.name := j3 (by omega)
            refine ⟨?_, fun _ => hq, fun _ => hn, fun e => absurd e (by omega)⟩
            rw [tl_v (by omega) (by
              rintro ⟨a, b⟩
              rw [hq, i2 a] at b
              cases b) (by
              rintro ⟨a, b⟩
              rw [hn, i3 a] at b
              cases b), smX_text (by omega), j1, sm1_text hc hm hx c3 (by omega), hr]
            rfl
          · rename_i c3
            split at h
            · rename_i c4
              simp only [Bool.and_eq_true, decide_eq_true_eq] at c4
              obtain ⟨e1, e2, e3⟩ := rMo_4 r v _ q h
              have := i1 e2
              subst e1
              rw [e3]
              refine ⟨?_, fun _ => rfl, fun _ => rfl, fun _ => rfl⟩
              rw [tl_3 (by omega)]
              cases hz : List.beq (bs (cont x)) [0]
              · rw [if_pos ⟨by omega, rfl⟩, smX, if_neg (by simp [hz])]
                unfold sm1
                rw [hc, hm, hx, c4.1, if_pos (by simp [c4.2, hz])]
                rfl
              · rw [if_neg (by rintro ⟨_, b⟩; cases b), smX, if_pos (by simp [c4.1, hz, hc, hm, hx])]
            · cases h
    · cases h
theorem rMo_of : ∀ (L : List Eo) (last : Int) (v : Bool) (m : Mo), last ≤ 3 → (last < 3 ∨ v = true) → smX L = tl last (gMo L m) → ∃ q, rMo L last v m = some q
  | [], last, v, m, hl, hv, h => by
    have h3 : ¬ last < 3 := fun e => tl_ne e h.symm
    have : v = true := by
      rcases hv with a | a
      · exact absurd a h3
      · exact a
    exact ⟨m, by rw [rMo, this]; rfl⟩
  | x :: r, last, v, m, hl, hv, h => by
    rw [smX] at h
    split at h
    · rename_i c
      simp only [Bool.and_eq_true, decide_eq_true_eq, Bool.not_eq_true', List.isEmpty_iff] at c
      obtain ⟨⟨⟨⟨⟨c1, c2⟩, c3⟩, c4⟩, c5⟩, c6⟩ := c
      have h3 : ¬ last < 3 := fun e => tl_ne e h.symm
      have hvt : v = true := by
        rcases hv with a | a
        · exact absurd a h3
        · exact a
      have hlen : (bs (cont x)).length = 1 := by
        have : bs (cont x) = [0] := eq_of_beq c3
        rw [this]
        rfl
      subst c1
      refine ⟨⟨m.rule, m.name, m.value, !(List.beq (bs (cont x)) [0])⟩, ?_⟩
      rw [rMo, if_pos (by simp [snd_lone c5 c6, c4, c5]; omega), if_neg (by omega), if_neg (by omega), if_neg (by omega), if_pos (by simp [c2, hlen]), rMo, hvt]
      rfl
    · have hx30 := els_le x
      rw [gMo] at h
      by_cases a1 : last < 1 ∧ List.beq (bs (gMo r (if num x = 1 then ⟨lowB (cont x), m.name, m.value, m.dn⟩ else if num x = 2 then ⟨m.rule, lowB (cont x), m.value, m.dn⟩ else if num x = 3 then ⟨m.rule, m.name, cont x, m.dn⟩ else if num x = 4 then ⟨m.rule, m.name, m.value, !(List.beq (bs (cont x)) [0])⟩ else m)).rule) [] = false
      · rw [tl_r a1.1 a1.2] at h
        obtain ⟨g1, g2⟩ := List.cons.inj h
        obtain ⟨k1, k2, k3, k4, k5⟩ := mkE_inj hx30 (by simp) g1
        rw [k3] at g2 k4 a1
        simp only [if_true, Int.reduceEq, decide_false, Bool.false_and, Bool.false_eq_true, if_false, true_or] at g2 k4 a1
        obtain ⟨q, hq⟩ := rMo_of r 1 v _ (by omega) (by rcases hv with a | a; exact .inl (by omega); exact .inr a) g2
        refine ⟨q, ?_⟩
        rw [rMo, if_pos (by simp [snd_lone k2 k5, k1, k2, k3]; omega), if_pos k3, if_neg (by
          have := a1.2
          rw [← k4] at this
          rw [show List.beq (lowL (bs (cont x))) [] = false from this]
          simp)]
        exact hq
      · by_cases a2 : last < 2 ∧ List.beq (bs (gMo r (if num x = 1 then ⟨lowB (cont x), m.name, m.value, m.dn⟩ else if num x = 2 then ⟨m.rule, lowB (cont x), m.value, m.dn⟩ else if num x = 3 then ⟨m.rule, m.name, cont x, m.dn⟩ else if num x = 4 then ⟨m.rule, m.name, m.value, !(List.beq (bs (cont x)) [0])⟩ else m)).name) [] = false
        · rw [tl_n a2.1 a1 a2.2] at h
          obtain ⟨g1, g2⟩ := List.cons.inj h
          obtain ⟨k1, k2, k3, k4, k5⟩ := mkE_inj hx30 (by simp) g1
          rw [k3] at g2 k4 a2
          simp only [if_true, Int.reduceEq, decide_false, Bool.false_and, Bool.false_eq_true, if_false, or_true, false_or] at g2 k4 a2
          obtain ⟨q, hq⟩ := rMo_of r 2 v _ (by omega) (by rcases hv with a | a; exact .inl (by omega); exact .inr a) g2
          refine ⟨q, ?_⟩
          rw [rMo, if_pos (by simp [snd_lone k2 k5, k1, k2, k3]; omega), if_neg (by omega), if_pos k3, if_neg (by
            have := a2.2
            rw [← k4] at this
            rw [show List.beq (lowL (bs (cont x))) [] = false from this]
            simp)]
          exact hq
        · by_cases a3 : last < 3
          · rw [tl_v a3 a1 a2] at h
            obtain ⟨g1, g2⟩ := List.cons.inj h
            obtain ⟨k1, k2, k3, k4, k5⟩ := mkE_inj hx30 (by simp) g1
            rw [k3] at g2 k4
            simp only [if_true, Int.reduceEq, decide_false, Bool.false_and, Bool.false_eq_true, if_false, or_false] at g2 k4
            obtain ⟨q, hq⟩ := rMo_of r 3 true _ (by omega) (.inr rfl) g2
            refine ⟨q, ?_⟩
            rw [rMo, if_pos (by simp [snd_lone k2 k5, k1, k2, k3]; omega), if_neg (by omega), if_neg (by omega), if_pos k3]
            exact hq
          · rw [tl_3 a3] at h
            have hvt : v = true := by
              rcases hv with a | a
              · exact absurd a a3
              · exact a
            by_cases a4 : last < 4 ∧ (gMo r (if num x = 1 then ⟨lowB (cont x), m.name, m.value, m.dn⟩ else if num x = 2 then ⟨m.rule, lowB (cont x), m.value, m.dn⟩ else if num x = 3 then ⟨m.rule, m.name, cont x, m.dn⟩ else if num x = 4 then ⟨m.rule, m.name, m.value, !(List.beq (bs (cont x)) [0])⟩ else m)).dn = true
            · rw [if_pos a4] at h
              obtain ⟨g1, g2⟩ := List.cons.inj h
              obtain ⟨k1, k2, k3, k4, k5⟩ := mkE_inj hx30 (by simp) g1
              rw [k3] at k4 a4
              simp only [if_true, Int.reduceEq, decide_true, Bool.true_and, Bool.false_eq_true, if_false, or_false] at k4 a4
              have hk : (bs (cont x)).length = 1 ∧ List.beq (bs (cont x)) [0] = false := by
                split at k4
                · rename_i t
                  simpa using t
                · rw [k4]
                  exact ⟨rfl, rfl⟩
              cases r with
              | cons y s =>
                rw [smX] at g2
                split at g2
                · rename_i d
                  simp only [Bool.and_eq_true, decide_eq_true_eq, Bool.not_eq_true', List.isEmpty_iff] at d
                  obtain ⟨⟨⟨⟨⟨d1, d2⟩, d3⟩, d4⟩, d5⟩, d6⟩ := d
                  subst d1
                  have := a4.2
                  rw [gMo, d2, gMo] at this
                  simp [d3] at this
                · cases g2
              | nil =>
                refine ⟨⟨m.rule, m.name, m.value, !(List.beq (bs (cont x)) [0])⟩, ?_⟩
                rw [rMo, if_pos (by simp [snd_lone k2 k5, k1, k2, k3]; omega), if_neg (by omega), if_neg (by omega), if_neg (by omega), if_pos (by simp [k3, hk.1]), rMo, hvt]
                rfl
            · rw [if_neg a4] at h
              cases h
def exl (q : Mo) : List Eo := (if List.beq (bs q.rule) [] then [] else [mkE 2 false 1 q.rule []]) ++ (if List.beq (bs q.name) [] then [] else [mkE 2 false 2 q.name []]) ++ [mkE 2 false 3 q.value []] ++ (if q.dn then [mkE 2 false 4 bff []] else [])
theorem exl_tl (q : Mo) : exl q = tl 0 q := by
  unfold exl tl
  cases List.beq (bs q.rule) [] <;> cases List.beq (bs q.name) [] <;> cases q.dn <;> simp
theorem mo_iff (L : List Eo) : rMo L 0 false mz = some (gMo L mz) ↔ exl (gMo L mz) = smX L := by
  rw [exl_tl]
  constructor
  · intro h
    exact (rMo_tl L 0 false mz _ (fun e => by cases e) (fun _ => rfl) (fun _ => rfl) (fun _ => rfl) h).1.symm
  · intro h
    obtain ⟨q, hq⟩ := rMo_of L 0 false mz (by omega) (.inl (by omega)) h.symm
    rw [hq, rMo_g _ _ _ _ _ hq]
theorem smX_len : ∀ L : List Eo, (smX L).length ≤ L.length
  | [] => Nat.le_refl _
  | x :: r => by
    rw [smX]
    split
    · exact Nat.zero_le _
    · simp only [List.length_cons]
      have := smX_len r
      omega
set_option maxRecDepth 10000
set_option maxHeartbeats 1000000
theorem mapO_eq {α β : Type} {f : α → Option β} {g : α → β} : ∀ {l : List α} {m : List β}, (∀ a ∈ l, ∀ b, f a = some b → b = g a) → mapO f l = some m → m = l.map g
  | [], m, _, h => (Option.some.inj h).symm
  | a :: r, m, hg, h => by
    rw [mapO] at h
    cases e : f a with
    | none => rw [e] at h; cases h
    | some b =>
      rw [e] at h
      cases q : mapO f r with
      | none => rw [q] at h; cases h
      | some t =>
        rw [q] at h
        rw [List.map_cons, ← hg a (by simp) b e, ← mapO_eq (fun a ha => hg a (by simp [ha])) q]
        exact (Option.some.inj h).symm
theorem read1_guess {e : Eo} {o : Option (List Fo)} {ks : List Fo} {f : Fo} (hk : ∀ k, o = some k → k = ks) (h : read1 e o = some f) : f = guess1 e ks := by
  unfold read1 at h
  unfold guess1
  split at h
  · by_cases k : num e = 0 ∨ num e = 1 ∨ num e = 2
    · rw [if_pos k] at h ⊢
      cases o with
      | none => cases h
      | some k =>
        rw [← hk k rfl]
        exact (Option.some.inj h).symm
    · rw [if_neg k] at h ⊢
      by_cases k7 : num e = 7
      · rw [if_pos k7] at h ⊢
        split at h
        · exact (Option.some.inj h).symm
        · cases h
      · rw [if_neg k7] at h ⊢
        by_cases k4 : num e = 4
        · rw [if_pos k4] at h ⊢
          split at h
          · rename_i a b he
            split at h
            · cases hp : rPc (els b) 0 pz with
              | none => rw [hp] at h; cases h
              | some p =>
                rw [hp] at h
                rw [← rPc_g _ _ _ _ hp]
                exact (Option.some.inj h).symm
            · cases h
          · cases h
        · rw [if_neg k4] at h ⊢
          by_cases k9 : num e = 9
          · rw [if_pos k9] at h ⊢
            cases hp : rMo (els e) 0 false mz with
            | none => rw [hp] at h; cases h
            | some p =>
              rw [hp] at h
              rw [← rMo_g _ _ _ _ _ hp]
              exact (Option.some.inj h).symm
          · rw [if_neg k9] at h ⊢
            split at h
            · rename_i a b he
              split at h
              · exact (Option.some.inj h).symm
              · cases h
            · cases h
  · cases h
theorem read_guess : ∀ (l : Nat) (e : Eo) (f : Fo), readO l e = some f → f = guessO l e
  | 0, e, f, h => by cases h
  | l + 1, e, f, h => by
    rw [readO] at h
    rw [guessO]
    exact read1_guess (fun k hk => mapO_eq (fun a _ b hb => read_guess l a b hb) hk) h
theorem pOne_ten {f : Fo} (h : pOne f = true) : (kind f = 0 ∨ kind f = 1 ∨ kind f = 2) ∨ kind f = 7 ∨ kind f = 4 ∨ kind f = 9 ∨ ((kind f = 3 ∨ kind f = 5 ∨ kind f = 6 ∨ kind f = 8) ∧ wnO f = true) := by
  by_cases k0 : kind f = 0
  · omega
  by_cases k1 : kind f = 1
  · omega
  by_cases k2 : kind f = 2
  · omega
  by_cases k4 : kind f = 4
  · omega
  by_cases k7 : kind f = 7
  · omega
  by_cases k9 : kind f = 9
  · omega
  unfold pOne at h
  simp only [k0, k1, k2, k4, k7, k9, if_false] at h
  refine .inr (.inr (.inr (.inr ?_)))
  by_cases k3 : kind f = 3
  · rw [if_pos k3] at h
    simp only [Bool.and_eq_true] at h
    exact ⟨.inl k3, h.1.2⟩
  rw [if_neg k3] at h
  by_cases k5 : kind f = 5
  · rw [if_pos k5] at h
    simp only [Bool.and_eq_true] at h
    exact ⟨.inr (.inl k5), h.1.2⟩
  rw [if_neg k5] at h
  by_cases k6 : kind f = 6
  · rw [if_pos k6] at h
    simp only [Bool.and_eq_true] at h
    exact ⟨.inr (.inr (.inl k6)), h.1.2⟩
  rw [if_neg k6] at h
  by_cases k8 : kind f = 8
  · rw [if_pos k8] at h
    simp only [Bool.and_eq_true] at h
    exact ⟨.inr (.inr (.inr k8)), h.1.2⟩
  rw [if_neg k8] at h
  cases h
theorem pOne_4 {f : Fo} (h : pOne f = true) (k : kind f = 4) : wnO f = true := by
  unfold pOne at h
  simp only [k, Int.reduceEq, if_false, if_true, Bool.and_eq_true] at h
  exact h.1.1.1.2
theorem allF_one {f : Fo} (h : allF f = true) : pOne f = true ∧ ∀ k ∈ kids f, allF k = true := by
  rw [allF_eq] at h
  simp only [Bool.and_eq_true, Bool.not_eq_true', List.any_eq_false, Bool.not_eq_true] at h
  refine ⟨h.1, fun k hk => ?_⟩
  have := h.2 k hk
  simpa using this
theorem foldmax_ge : ∀ (L : List Nat) (a : Nat), a ≤ L.foldl (fun a b => if a < b then b else a) a ∧ ∀ x ∈ L, x ≤ L.foldl (fun a b => if a < b then b else a) a
  | [], a => ⟨Nat.le_refl _, fun x hx => by cases hx⟩
  | y :: r, a => by
    obtain ⟨h1, h2⟩ := foldmax_ge r (if a < y then y else a)
    rw [List.foldl_cons]
    refine ⟨Nat.le_trans ?_ h1, fun x hx => ?_⟩
    · split <;> omega
    · rcases List.mem_cons.1 hx with rfl | hx
      · refine Nat.le_trans ?_ h1
        split <;> omega
      · exact h2 x hx
theorem dep_kids {l : Nat} {f : Fo} (h : dep (l + 1) f ≤ l + 1) : ∀ k ∈ kids f, dep l k ≤ l := by
  intro k hk
  rw [dep] at h
  have := (foldmax_ge ((kids f).map (dep l)) 0).2 (dep l k) (List.mem_map_of_mem hk)
  omega
theorem whole_nil {e : Eo} (h : els e = []) : whole e = true := by
  rw [whole_eq, h]
  rfl
theorem pcl_els (p : Pc) : ∀ x ∈ pcl p, els x = [] := by
  intro x hx
  unfold pcl at hx
  simp only [List.mem_append, List.mem_map] at hx
  rcases hx with (hx | ⟨s, _, rfl⟩) | hx
  · split at hx
    · rw [List.mem_singleton.1 hx]; exact mk_els0 _ _ _ _
    · cases hx
  · exact mk_els0 _ _ _ _
  · split at hx
    · rw [List.mem_singleton.1 hx]; exact mk_els0 _ _ _ _
    · cases hx
theorem rMo_lone : ∀ (L : List Eo) (last : Int) (v : Bool) (m q : Mo), rMo L last v m = some q → ∀ x ∈ L, snd1 x = true ∧ els x = []
  | [], last, v, m, q, h, x, hx => by cases hx
  | y :: r, last, v, m, q, h, x, hx => by
    rw [rMo] at h
    split at h
    · rename_i c
      simp only [Bool.and_eq_true, decide_eq_true_eq, Bool.not_eq_true'] at c
      obtain ⟨⟨⟨hs, hc⟩, hm⟩, hlt⟩ := c
      have hr : ∃ last v m, rMo r last v m = some q := by
        split at h
        · split at h
          · cases h
          · exact ⟨_, _, _, h⟩
        · split at h
          · split at h
            · cases h
            · exact ⟨_, _, _, h⟩
          · split at h
            · exact ⟨_, _, _, h⟩
            · split at h
              · exact ⟨_, _, _, h⟩
              · cases h
      obtain ⟨_, _, _, hr⟩ := hr
      rcases List.mem_cons.1 hx with rfl | hx
      · exact ⟨hs, lone hs hm⟩
      · exact rMo_lone r _ _ _ q hr x hx
    · cases h
theorem not_word {f : Fo} (h : wnO f = true) (hn : name f = b0) : False := by
  unfold wnO at h
  rw [hn] at h
  cases h
theorem low_e {a : Eo} (h1 : cls a = 0) (h2 : made a = false) (h3 : num a = 4) (h4 : els a = []) : mkE (cls a) (made a) (num a) (lowB (cont a)) (els a) = mkE 0 false 4 (lowB (cont a)) [] := by
  rw [h1, h2, h3, h4]
section
variable {e : Eo} {ks : List Fo} {o : Option (List Fo)} {ss : List Eo}
theorem law_7 (k : num e = 7) (hks : True) : (read1 e o = some (guess1 e ks) ∧ snd1 e = true ∧ whole e = true) ↔ laidE (guess1 e ks) = small1 e ss := by
  have k0 : ¬ (num e = 0 ∨ num e = 1 ∨ num e = 2) := by omega
  have hg : guess1 e ks = mkF 7 (lowB (cont e)) b0 b0 [] b0 false false b0 false [] := by
    unfold guess1
    rw [if_neg k0, if_pos k]
  have hs : small1 e ss = mkE (cls e) (made e) 7 (lowB (cont e)) (els e) := by
    unfold small1
    rw [if_neg k0, if_pos k, k]
  have hl : laidE (guess1 e ks) = mkE 2 false 7 (lowB (cont e)) [] := by
    rw [laidE_eq, hg, if_neg (by rw [mkf_kind]; omega), if_pos (mkf_kind ..)]
    rfl
  rw [hl, hs, hg]
  constructor
  · rintro ⟨h, -, -⟩
    unfold read1 at h
    rw [if_neg k0, if_pos k] at h
    split at h
    · rename_i c
      split at h
      · rename_i c2
        rw [c.1, c.2, List.isEmpty_iff.1 c2, k]
        rfl
      · cases h
    · cases h
  · intro h
    obtain ⟨h1, h2, -, -, h5⟩ := mkE_inj (by simp) (els_le e) h
    refine ⟨?_, snd_lone h2.symm h5.symm, whole_nil h5.symm⟩
    unfold read1
    rw [if_pos ⟨h1.symm, by rw [← h2, k]; rfl⟩, if_neg k0, if_pos k, ← h5]
    rfl
theorem law_9 (k : num e = 9) (hk : kids (guess1 e ks) = []) (he : (els e).length ≤ 1000) : (read1 e o = some (guess1 e ks) ∧ snd1 e = true ∧ whole e = true) ↔ laidE (guess1 e ks) = small1 e ss := by
  have k0 : ¬ (num e = 0 ∨ num e = 1 ∨ num e = 2) := by omega
  have k7 : ¬ num e = 7 := by omega
  have k4 : ¬ num e = 4 := by omega
  have hg : guess1 e ks = mkF 9 (gMo (els e) mz).name (gMo (els e) mz).value b0 [] b0 false false (gMo (els e) mz).rule (gMo (els e) mz).dn [] := by
    unfold guess1
    rw [if_neg k0, if_neg k7, if_neg k4, if_pos k]
  have hs : small1 e ss = mkE (cls e) (made e) 9 (cont e) (smX (els e)) := by
    unfold small1
    rw [if_neg k0, if_neg k7, if_pos k, k]
  have hl : laidE (guess1 e ks) = mkE 2 true 9 b0 (exl (gMo (els e) mz)) := by
    rw [laidE_eq, hg, if_neg (by rw [mkf_kind]; omega), if_neg (by rw [mkf_kind]; omega), if_neg (by rw [mkf_kind]; omega), if_pos (mkf_kind ..)]
    rfl
  rw [hl, hs, hg]
  have hm := mo_iff (els e)
  have hxl : (exl (gMo (els e) mz)).length ≤ 2 ^ 30 := by
    unfold exl
    simp only [List.length_append]
    split <;> split <;> split <;> simp
  constructor
  · rintro ⟨h, hsn, -⟩
    unfold read1 at h
    rw [if_neg k0, if_neg k7, if_neg k4, if_pos k] at h
    split at h
    · rename_i c
      have hme : made e = true := by rw [c.2, decide_eq_false k7]; rfl
      cases hr : rMo (els e) 0 false mz with
      | none => rw [hr] at h; cases h
      | some q =>
        have := rMo_g _ _ _ _ _ hr
        subst this
        rw [c.1, hme, filled hsn hme, ← hm.1 hr]
    · cases h
  · intro h
    obtain ⟨h1, h2, -, h4, h5⟩ := mkE_inj hxl (Nat.le_trans (smX_len _) (els_le e)) h
    have hr := hm.2 h5
    have hz := rMo_lone _ _ _ _ _ hr
    refine ⟨?_, snd_filled h2.symm h4.symm, ?_⟩
    · unfold read1
      rw [if_pos ⟨h1.symm, by rw [← h2, decide_eq_false k7]; rfl⟩, if_neg k0, if_neg k7, if_neg k4, if_pos k, hr]
      rfl
    · rw [whole_eq]
      simp only [Bool.and_eq_true, List.all_eq_true]
      exact ⟨fun x hx => (hz x hx).1, fun x hx => whole_nil (hz x hx).2⟩
end
set_option maxRecDepth 10000
set_option maxHeartbeats 1000000
theorem two_or {α : Type} (l : List α) : (∃ a b, l = [a, b]) ∨ (∀ a b, l ≠ [a, b]) := by
  match l with
  | [a, b] => exact .inl ⟨a, b, rfl⟩
  | [] => exact .inr (fun _ _ h => by cases h)
  | [a] => exact .inr (fun _ _ h => by cases h)
  | a :: b :: c :: r => exact .inr (fun _ _ h => by cases h)
section
variable {e : Eo} {ks : List Fo} {o : Option (List Fo)} {ss : List Eo}
theorem law_4 (k : num e = 4) (h1 : pOne (guess1 e ks) = true) (hsm : Sm e) : (read1 e o = some (guess1 e ks) ∧ snd1 e = true ∧ whole e = true) ↔ laidE (guess1 e ks) = small1 e ss := by
  have k0 : ¬ (num e = 0 ∨ num e = 1 ∨ num e = 2) := by omega
  have k7 : ¬ num e = 7 := by omega
  have k9 : ¬ num e = 9 := by omega
  rcases two_or (els e) with ⟨a, b, he⟩ | he
  · have hg : guess1 e ks = mkF 4 (lowB (cont a)) b0 (gPc (els b) pz).i (gPc (els b) pz).a (gPc (els b) pz).f (gPc (els b) pz).x (gPc (els b) pz).y b0 false [] := by
      unfold guess1
      rw [if_neg k0, if_neg k7, if_pos k, he]
    have hs : small1 e ss = mkE (cls e) (made e) 4 (cont e) [mkE (cls a) (made a) (num a) (lowB (cont a)) (els a), b] := by
      unfold small1
      rw [if_neg k0, if_neg k7, if_neg k9, he, k]
    have hlb : (els b).length ≤ 1000 := ((hsm.inv).2 b (by rw [he]; simp)).inv.1
    have hpa : (gPc (els b) pz).a.length ≤ 2 ^ 28 := by
      refine Nat.le_trans (gPc_len _ _) ?_
      show 0 + _ ≤ _
      omega
    have hpl : (pcl (gPc (els b) pz)).length ≤ 2 ^ 30 := by
      unfold pcl
      simp only [List.length_append, List.length_map]
      split <;> split <;> simp <;> omega
    have hl : laidE (guess1 e ks) = mkE 2 true 4 b0 [mkE 0 false 4 (lowB (cont a)) [], mkE 0 true 16 b0 (pcl (gPc (els b) pz))] := by
      rw [laidE_eq, hg, if_neg (by rw [mkf_kind]; omega), if_neg (by rw [mkf_kind]; omega), if_pos (mkf_kind ..)]
      unfold subE pcs pcl
      rw [mkf_any _ _ _ _ _ _ _ _ _ _ _ hpa]
      rfl
    rw [hl, hs, hg]
    have hpc := pc_iff (els b)
    constructor
    · rintro ⟨h, hsn, -⟩
      unfold read1 at h
      rw [if_neg k0, if_neg k7, if_pos k, he] at h
      split at h
      · rename_i c
        simp only at h
        have hme : made e = true := by rw [c.2, decide_eq_false k7]; rfl
        split at h
        · rename_i d
          simp only [Bool.and_eq_true] at d
          obtain ⟨⟨⟨⟨d1, d2⟩, d3⟩, d4⟩, d5⟩ := d
          obtain ⟨a1, a2, a3⟩ := isE_inv d5
          obtain ⟨b1, b2, b3⟩ := isE_inv d3
          cases hr : rPc (els b) 0 pz with
          | none => rw [hr] at h; cases h
          | some q =>
            have hq := rPc_g _ _ _ _ hr
            subst hq
            have := hpc.1 ⟨d4, hr⟩
            rw [this, low_e a1 a3 a2 (lone d1 a3), c.1, hme, filled hsn hme]
            congr 2
            congr 1
            exact Eo_ext b1.symm b3.symm b2.symm (by rw [filled d2 b3]; rfl) (mk_els _ _ _ _ _ (els_le b))
        · cases h
      · cases h
    · intro h
      obtain ⟨h1, h2, -, h4, h5⟩ := mkE_inj (by simp) (by simp) h
      obtain ⟨g1, g2⟩ := List.cons.inj h5
      obtain ⟨g3, -⟩ := List.cons.inj g2
      obtain ⟨a1, a2, a3, -, a5⟩ := mkE_inj (by simp) (els_le a) g1
      have b1 : (0 : Int) = cls b := congrArg cls g3
      have b2 : true = made b := congrArg made g3
      have b3 : (16 : Int) = num b := congrArg num g3
      have b4 : b0 = cont b := congrArg cont g3
      have b5 : pcl (gPc (els b) pz) = els b := by
        have := congrArg els g3
        rwa [mk_els _ _ _ _ _ hpl] at this
      obtain ⟨c1, c2⟩ := hpc.2 b5
      have sa : snd1 a = true := snd_lone a2.symm a5.symm
      have sb : snd1 b = true := snd_filled b2.symm b4.symm
      refine ⟨?_, snd_filled h2.symm h4.symm, ?_⟩
      · unfold read1
        rw [if_pos ⟨h1.symm, by rw [← h2, decide_eq_false k7]; rfl⟩, if_neg k0, if_neg k7, if_pos k, he]
        simp only
        rw [if_pos (by rw [sa, sb, isE_t b1.symm b3.symm b2.symm, c1, isE_t a1.symm a3.symm a2.symm]; rfl), c2]
        rfl
      · rw [whole_eq, he]
        simp only [List.all_cons, List.all_nil, sa, sb, Bool.true_and, Bool.and_true, whole_nil a5.symm]
        rw [whole_eq, c1, Bool.true_and]
        exact List.all_eq_true.2 fun x hx => whole_nil (pcl_els _ x (by rw [b5]; exact hx))
  · exfalso
    have hg : guess1 e ks = mkF 4 b0 b0 b0 [] b0 false false b0 false [] := by
      unfold guess1
      rw [if_neg k0, if_neg k7, if_pos k]
      split
      · rename_i a b q
        exact absurd q (he a b)
      · rfl
    rw [hg] at h1
    exact not_word (pOne_4 h1 rfl) rfl
theorem law_o (k0 : ¬ (num e = 0 ∨ num e = 1 ∨ num e = 2)) (k7 : ¬ num e = 7) (k4 : ¬ num e = 4) (k9 : ¬ num e = 9) (h1 : pOne (guess1 e ks) = true) : (read1 e o = some (guess1 e ks) ∧ snd1 e = true ∧ whole e = true) ↔ laidE (guess1 e ks) = small1 e ss := by
  rcases two_or (els e) with ⟨a, b, he⟩ | he
  · have hg : guess1 e ks = mkF (num e) (lowB (cont a)) (cont b) b0 [] b0 false false b0 false [] := by
      unfold guess1
      rw [if_neg k0, if_neg k7, if_neg k4, if_neg k9, he]
    have hs : small1 e ss = mkE (cls e) (made e) (num e) (cont e) [mkE (cls a) (made a) (num a) (lowB (cont a)) (els a), b] := by
      unfold small1
      rw [if_neg k0, if_neg k7, if_neg k9, he]
    have hl : laidE (guess1 e ks) = mkE 2 true (num e) b0 [mkE 0 false 4 (lowB (cont a)) [], mkE 0 false 4 (cont b) []] := by
      rw [laidE_eq, hg, if_neg (by rw [mkf_kind]; exact k0), if_neg (by rw [mkf_kind]; exact k7), if_neg (by rw [mkf_kind]; exact k4), if_neg (by rw [mkf_kind]; exact k9)]
      rfl
    rw [hl, hs, hg]
    constructor
    · rintro ⟨h, hsn, -⟩
      unfold read1 at h
      rw [if_neg k0, if_neg k7, if_neg k4, if_neg k9, he] at h
      split at h
      · rename_i c
        simp only at h
        have hme : made e = true := by rw [c.2, decide_eq_false k7]; rfl
        split at h
        · rename_i d
          simp only [Bool.and_eq_true] at d
          obtain ⟨⟨⟨d1, d2⟩, d3⟩, d5⟩ := d
          obtain ⟨a1, a2, a3⟩ := isE_inv d5
          obtain ⟨b1, b2, b3⟩ := isE_inv d3
          rw [low_e a1 a3 a2 (lone d1 a3), c.1, hme, filled hsn hme]
          congr 2
          congr 1
          exact Eo_ext b1.symm b3.symm b2.symm rfl (by rw [lone d2 b3]; exact mk_els0 _ _ _ _)
        · cases h
      · cases h
    · intro h
      obtain ⟨h1, h2, -, h4, h5⟩ := mkE_inj (by simp) (by simp) h
      obtain ⟨g1, g2⟩ := List.cons.inj h5
      obtain ⟨g3, -⟩ := List.cons.inj g2
      obtain ⟨a1, a2, a3, -, a5⟩ := mkE_inj (by simp) (els_le a) g1
      have b1 : (0 : Int) = cls b := congrArg cls g3
      have b2 : false = made b := congrArg made g3
      have b3 : (4 : Int) = num b := congrArg num g3
      have b5 : [] = els b := by
        have := congrArg els g3
        rwa [mk_els0] at this
      have sa : snd1 a = true := snd_lone a2.symm a5.symm
      have sb : snd1 b = true := snd_lone b2.symm b5.symm
      refine ⟨?_, snd_filled h2.symm h4.symm, ?_⟩
      · unfold read1
        rw [if_pos ⟨h1.symm, by rw [← h2, decide_eq_false k7]; rfl⟩, if_neg k0, if_neg k7, if_neg k4, if_neg k9, he]
        simp only
        rw [if_pos (by rw [sa, sb, isE_t b1.symm b3.symm b2.symm, isE_t a1.symm a3.symm a2.symm]; rfl)]
      · rw [whole_eq, he]
        simp only [List.all_cons, List.all_nil, sa, sb, Bool.true_and, Bool.and_true, whole_nil a5.symm, whole_nil b5.symm]
  · exfalso
    have hg : guess1 e ks = mkF (num e) b0 b0 b0 [] b0 false false b0 false [] := by
      unfold guess1
      rw [if_neg k0, if_neg k7, if_neg k4, if_neg k9]
      split
      · rename_i a b q
        exact absurd q (he a b)
      · rfl
    rw [hg] at h1
    rcases pOne_ten h1 with q | q | q | q | ⟨q, w⟩
    · exact k0 q
    · exact k7 q
    · exact k4 q
    · exact k9 q
    · exact not_word w rfl
theorem law_g (k0 : num e = 0 ∨ num e = 1 ∨ num e = 2) (l : Nat) (hsm : Sm e)
    (IH : ∀ x ∈ els e, (readO l x = some (guessO l x) ∧ snd1 x = true ∧ whole x = true) ↔ laidE (guessO l x) = smallO l x) :
    (read1 e (mapO (readO l) (els e)) = some (guess1 e ((els e).map (guessO l))) ∧ snd1 e = true ∧ whole e = true) ↔ laidE (guess1 e ((els e).map (guessO l))) = small1 e ((els e).map (smallO l)) := by
  have k7 : ¬ num e = 7 := by omega
  have hle := hsm.inv.1
  have hkl : ((els e).map (guessO l)).length ≤ 2 ^ 30 := by rw [List.length_map]; omega
  have hg : guess1 e ((els e).map (guessO l)) = mkF (num e) b0 b0 b0 [] b0 false false b0 false ((els e).map (guessO l)) := by
    unfold guess1
    rw [if_pos k0]
  have hs : small1 e ((els e).map (smallO l)) = mkE (cls e) (made e) (num e) (cont e) ((els e).map (smallO l)) := by
    unfold small1
    rw [if_pos k0]
  have hl : laidE (guess1 e ((els e).map (guessO l))) = mkE 2 true (num e) b0 (((els e).map (guessO l)).map laidE) := by
    rw [laidE_eq, hg, if_pos (by rw [mkf_kind]; exact k0), mkf_kids _ _ _ _ _ _ _ _ _ _ _ hkl]
    rfl
  rw [hl, hs, hg]
  constructor
  · rintro ⟨h, hsn, hw⟩
    rw [whole_eq] at hw
    simp only [Bool.and_eq_true, List.all_eq_true] at hw
    unfold read1 at h
    rw [if_pos k0] at h
    split at h
    · rename_i c
      have hme : made e = true := by rw [c.2, decide_eq_false k7]; rfl
      cases hm : mapO (readO l) (els e) with
      | none => rw [hm] at h; cases h
      | some m =>
        have hmap : ((els e).map (guessO l)).map laidE = (els e).map (smallO l) := by
          rw [List.map_map]
          refine List.map_congr_left fun x hx => ?_
          obtain ⟨b, hb⟩ := mapO_inv hm x hx
          have := read_guess l x b hb
          rw [this] at hb
          exact (IH x hx).1 ⟨hb, hw.1 x hx, hw.2 x hx⟩
        rw [hmap, c.1, hme, filled hsn hme]
    · cases h
  · intro h
    obtain ⟨h1, h2, -, h4, h5⟩ := mkE_inj (by simp only [List.length_map]; omega) (by simp only [List.length_map]; omega) h
    rw [List.map_map] at h5
    have h6 := List.map_inj_left.1 h5
    have h7 : ∀ x ∈ els e, readO l x = some (guessO l x) ∧ snd1 x = true ∧ whole x = true := fun x hx => (IH x hx).2 (h6 x hx)
    refine ⟨?_, snd_filled h2.symm h4.symm, ?_⟩
    · rw [mapO_some (fun x hx => (h7 x hx).1)]
      unfold read1
      rw [if_pos ⟨h1.symm, by rw [← h2, decide_eq_false k7]; rfl⟩, if_pos k0]
      rfl
    · rw [whole_eq]
      simp only [Bool.and_eq_true, List.all_eq_true]
      exact ⟨fun x hx => (h7 x hx).2.1, fun x hx => (h7 x hx).2.2⟩
end
theorem guess_kids {e : Eo} {ks : List Fo} (k0 : num e = 0 ∨ num e = 1 ∨ num e = 2) (h : ks.length ≤ 2 ^ 30) : kids (guess1 e ks) = ks := by
  unfold guess1
  rw [if_pos k0, mkf_kids _ _ _ _ _ _ _ _ _ _ _ h]
theorem law_read : ∀ (l : Nat) (e : Eo), Sm e → dep l (guessO l e) ≤ l → allF (guessO l e) = true → ((readO l e = some (guessO l e) ∧ snd1 e = true ∧ whole e = true) ↔ laidE (guessO l e) = smallO l e)
  | 0, e, hs, hd, ha => by
    rw [dep] at hd
    omega
  | l + 1, e, hs, hd, ha => by
    have hp := (allF_one ha).1
    by_cases k0 : num e = 0 ∨ num e = 1 ∨ num e = 2
    · refine law_g k0 l hs fun x hx => ?_
      have hk : kids (guessO (l + 1) e) = (els e).map (guessO l) := guess_kids k0 (by rw [List.length_map]; exact els_le e)
      have hm : guessO l x ∈ kids (guessO (l + 1) e) := by rw [hk]; exact List.mem_map_of_mem hx
      exact law_read l x (hs.inv.2 x hx) (dep_kids hd _ hm) ((allF_one ha).2 _ hm)
    · by_cases k7 : num e = 7
      · exact law_7 k7 trivial
      · by_cases k4 : num e = 4
        · exact law_4 k4 hp hs
        · by_cases k9 : num e = 9
          · refine law_9 k9 ?_ hs.inv.1
            unfold guess1
            rw [if_neg k0, if_neg k7, if_neg k4, if_pos k9, mkf_kids0]
          · exact law_o k0 k7 k4 k9 hp
noncomputable def readR (e : Eo) : Option Fo := match readO 8 e with
  | some f => if snd1 e && chkF f && whole e then some f else none
  | none => none
noncomputable def refR (e : Eo) : Option Fo := if chkF (guessO 8 e) && eqE (laidE (guessO 8 e)) (smallO 8 e) then some (guessO 8 e) else none
theorem read_ref (e : Eo) (hs : Sm e) : readR e = refR e := by
  unfold refR
  cases hc : chkF (guessO 8 e)
  · rw [Bool.false_and, if_neg (by simp)]
    unfold readR
    cases hr : readO 8 e with
    | none => rfl
    | some f =>
      rw [read_guess 8 e f hr]
      simp only
      rw [hc, if_neg (by simp)]
  · have hc' := hc
    unfold chkF at hc'
    simp only [Bool.and_eq_true, decide_eq_true_eq] at hc'
    have hl := law_read 8 e hs hc'.1.1 hc'.2
    by_cases h : laidE (guessO 8 e) = smallO 8 e
    · rw [eqE_t h]
      obtain ⟨h1, h2, h3⟩ := hl.2 h
      unfold readR
      rw [h1]
      simp only
      rw [h2, hc, h3]
      rfl
    · rw [eqE_f h, if_neg (by simp)]
      unfold readR
      cases hr : readO 8 e with
      | none => rfl
      | some f =>
        have hf := read_guess 8 e f hr
        subst hf
        simp only
        rw [hc, if_neg]
        intro q
        simp only [Bool.and_eq_true] at q
        exact h (hl.1 ⟨hr, q.1.1, q.2⟩)
end Go.L25
