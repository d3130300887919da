/- Layer 25: elements are laid as bytes, and taken out of them. Conditions: none. -/
import Derived.Test.YtjbaoopiffcigaaPF
import Derived.Test.YtjbaoopiffcigaaPJ
import Derived.Test.YtjbaoopiffcigaaSA
set_option linter.unusedVariables false
set_option linter.unusedSimpArgs false
namespace Go.L25
open Go Go.Eng Go.Proofs
open Nat (reduceShiftRight reduceAnd reduceEqDiff reduceLeDiff)
open Int (reduceToNat)
set_option maxRecDepth 10000
set_option maxHeartbeats 4000000
theorem t7a (f : Fo) (L : Int) : ∀ (r : List Bs) (j : Nat) (x : Int), x = j → (any f).drop j = r → 
    (∃ x', n7_18 ⟨[(1, .d (.lit (.int .i64 L))), (2, .ptr 0 1 0 0), (6, .d (.lit (.int .i64 x)))], [⟨11, [.d (.agg [.lit (.int .i64 (kind f)), .str (bs (name f)), .str (bs (value f)), .str (bs (ini f)), .sl (List.map encS (any f)), .str (bs (fin f)), .lit (.bool (hi f)), .lit (.bool (hf f)), .str (bs (rule f)), .lit (.bool (dn f)), .sl (List.map encO (kids f))])], false, false, false⟩]⟩ =
      some (.exit 0, ⟨[(1, .d (.lit (.int .i64 L))), (2, .ptr 0 1 0 0), (6, x'), (45, .d (.lit (.bool false)))], [⟨11, [.d (.agg [.lit (.int .i64 (kind f)), .str (bs (name f)), .str (bs (value f)), .str (bs (ini f)), .sl (List.map encS (any f)), .str (bs (fin f)), .lit (.bool (hi f)), .lit (.bool (hf f)), .str (bs (rule f)), .lit (.bool (dn f)), .sl (List.map encO (kids f))])], false, false, false⟩]⟩)) ∨
    n7_18 ⟨[(1, .d (.lit (.int .i64 L))), (2, .ptr 0 1 0 0), (6, .d (.lit (.int .i64 x)))], [⟨11, [.d (.agg [.lit (.int .i64 (kind f)), .str (bs (name f)), .str (bs (value f)), .str (bs (ini f)), .sl (List.map encS (any f)), .str (bs (fin f)), .lit (.bool (hi f)), .lit (.bool (hf f)), .str (bs (rule f)), .lit (.bool (dn f)), .sl (List.map encO (kids f))])], false, false, false⟩]⟩ =
      some (.ret, ⟨[(4, .d (.lit (.int .i64 (-1))))], [⟨11, [.d (.agg [.lit (.int .i64 (kind f)), .str (bs (name f)), .str (bs (value f)), .str (bs (ini f)), .sl (List.map encS (any f)), .str (bs (fin f)), .lit (.bool (hi f)), .lit (.bool (hf f)), .str (bs (rule f)), .lit (.bool (dn f)), .sl (List.map encO (kids f))])], false, false, false⟩]⟩) := by
  intro r
  induction r with
  | nil =>
    intro j x hx hd
    have hd := drop_nil hd
    have := any_28 f
    refine .inl ⟨.d (.lit (.int .i64 x)), ?_⟩
    rw [r_n7_18]
    simp -implicitDefEqProofs (maxSteps := 10000000) (disch := omega) only [go_sem, Int.reduceAdd, Int.reduceSub, Int.reduceMul, dec_t, dec_f, Nat.reduceBEq, Nat.reduceBNe, reduceShiftRight, reduceAnd, Nat.reduceAdd, Nat.reduceSub, reduceEqDiff, Nat.reduceLT, reduceLeDiff, reduceToNat, Int.reduceLT, Int.reduceLE, Int.reduceEq, reduceIte, reduceCtorEq]
    try rfl
  | cons c r ih =>
    intro j x hx hd
    obtain ⟨g1, g2, g3, g4⟩ := drop_cons hd
    have := any_28 f
    have hnat : Int.toNat x = j := by omega
    have hb := bs_le c
    by_cases h1 : 1000 < (bs c).length
    · refine .inr ?_
      clear ih
      rw [r_n7_18]
      simp -implicitDefEqProofs (maxSteps := 10000000) (disch := omega) only [go_sem, Int.reduceAdd, Int.reduceSub, Int.reduceMul, dec_t, dec_f, Nat.reduceBEq, Nat.reduceBNe, reduceShiftRight, reduceAnd, Nat.reduceAdd, Nat.reduceSub, reduceEqDiff, Nat.reduceLT, reduceLeDiff, reduceToNat, Int.reduceLT, Int.reduceLE, Int.reduceEq, reduceIte, reduceCtorEq, g2, hnat]
      try rfl
    · rcases ih (j + 1) (x + 1) (by omega) g3 with ⟨x', h⟩ | h
      · refine .inl ⟨x', ?_⟩
        clear ih
        rw [r_n7_18]
        simp -implicitDefEqProofs (maxSteps := 10000000) (disch := omega) only [go_sem, Int.reduceAdd, Int.reduceSub, Int.reduceMul, dec_t, dec_f, Nat.reduceBEq, Nat.reduceBNe, reduceShiftRight, reduceAnd, Nat.reduceAdd, Nat.reduceSub, reduceEqDiff, Nat.reduceLT, reduceLeDiff, reduceToNat, Int.reduceLT, Int.reduceLE, Int.reduceEq, reduceIte, reduceCtorEq, g2, hnat, h]
      · refine .inr ?_
        clear ih
        rw [r_n7_18]
        simp -implicitDefEqProofs (maxSteps := 10000000) (disch := omega) only [go_sem, Int.reduceAdd, Int.reduceSub, Int.reduceMul, dec_t, dec_f, Nat.reduceBEq, Nat.reduceBNe, reduceShiftRight, reduceAnd, Nat.reduceAdd, Nat.reduceSub, reduceEqDiff, Nat.reduceLT, reduceLeDiff, reduceToNat, Int.reduceLT, Int.reduceLE, Int.reduceEq, reduceIte, reduceCtorEq, g2, hnat, h]
theorem t7b (f : Fo) (IH : ∀ g ∈ kids f, ∀ l : Int, 0 ≤ l → l ≤ 150 → ∃ v : Int, -1 ≤ v ∧ v ≤ 150 ∧ pureCall C 7 [(.agg [.lit (.int .i64 (kind g)), .str (bs (name g)), .str (bs (value g)), .str (bs (ini g)), .sl (List.map encS (any g)), .str (bs (fin g)), .lit (.bool (hi g)), .lit (.bool (hf g)), .str (bs (rule g)), .lit (.bool (dn g)), .sl (List.map encO (kids g))]), .lit (.int .i64 l)] = some (lit v)) : ∀ (r : List Fo) (j : Nat) (x y : Int), x = j → (kids f).drop j = r → -1 ≤ y → y ≤ 150 →
    ∃ (v : Int) (x' : AV), -1 ≤ v ∧ v ≤ 150 ∧ n7_39 ⟨[(1, .d (.lit (.int .i64 y))), (2, .ptr 0 1 0 0), (7, .d (.lit (.int .i64 x)))], [⟨11, [.d (.agg [.lit (.int .i64 (kind f)), .str (bs (name f)), .str (bs (value f)), .str (bs (ini f)), .sl (List.map encS (any f)), .str (bs (fin f)), .lit (.bool (hi f)), .lit (.bool (hf f)), .str (bs (rule f)), .lit (.bool (dn f)), .sl (List.map encO (kids f))])], false, false, false⟩]⟩ =
      some (.exit 2, ⟨[(1, .d (.lit (.int .i64 v))), (2, .ptr 0 1 0 0), (7, x'), (64, .d (.lit (.bool false)))], [⟨11, [.d (.agg [.lit (.int .i64 (kind f)), .str (bs (name f)), .str (bs (value f)), .str (bs (ini f)), .sl (List.map encS (any f)), .str (bs (fin f)), .lit (.bool (hi f)), .lit (.bool (hf f)), .str (bs (rule f)), .lit (.bool (dn f)), .sl (List.map encO (kids f))])], false, false, false⟩]⟩) := by
  intro r
  induction r with
  | nil =>
    intro j x y hx hd hy hy'
    have hd := drop_nil hd
    have := kids_le f
    refine ⟨y, .d (.lit (.int .i64 x)), hy, hy', ?_⟩
    rw [r_n7_39]
    simp -implicitDefEqProofs (maxSteps := 10000000) (disch := omega) only [go_sem, Int.reduceAdd, Int.reduceSub, Int.reduceMul, dec_t, dec_f, Nat.reduceBEq, Nat.reduceBNe, reduceShiftRight, reduceAnd, Nat.reduceAdd, Nat.reduceSub, reduceEqDiff, Nat.reduceLT, reduceLeDiff, reduceToNat, Int.reduceLT, Int.reduceLE, Int.reduceEq, reduceIte, reduceCtorEq]
    try rfl
  | cons c r ih =>
    intro j x y hx hd hy hy'
    obtain ⟨g1, g2, g3, g4⟩ := drop_cons hd
    have := kids_le f
    have hnat : Int.toNat x = j := by omega
    by_cases h0 : 0 ≤ y
    · obtain ⟨v, hv, hv', hc⟩ := IH c g4 y h0 hy'
      obtain ⟨w, x', hw, hw', h⟩ := ih (j + 1) (x + 1) v (by omega) g3 hv hv'
      refine ⟨w, x', hw, hw', ?_⟩
      clear ih
      rw [r_n7_39]
      simp -implicitDefEqProofs (maxSteps := 10000000) (disch := omega) only [go_sem, Int.reduceAdd, Int.reduceSub, Int.reduceMul, dec_t, dec_f, Nat.reduceBEq, Nat.reduceBNe, reduceShiftRight, reduceAnd, Nat.reduceAdd, Nat.reduceSub, reduceEqDiff, Nat.reduceLT, reduceLeDiff, reduceToNat, Int.reduceLT, Int.reduceLE, Int.reduceEq, reduceIte, reduceCtorEq, g2, hnat, hc, h]
    · refine ⟨y, .d (.lit (.int .i64 x)), hy, hy', ?_⟩
      clear ih
      rw [r_n7_39]
      simp -implicitDefEqProofs (maxSteps := 10000000) (disch := omega) only [go_sem, Int.reduceAdd, Int.reduceSub, Int.reduceMul, dec_t, dec_f, Nat.reduceBEq, Nat.reduceBNe, reduceShiftRight, reduceAnd, Nat.reduceAdd, Nat.reduceSub, reduceEqDiff, Nat.reduceLT, reduceLeDiff, reduceToNat, Int.reduceLT, Int.reduceLE, Int.reduceEq, reduceIte, reduceCtorEq]
      try rfl
theorem t7 (f : Fo) (l : Int) (h0 : 0 ≤ l) (h1 : l ≤ 150) : ∃ v : Int, -1 ≤ v ∧ v ≤ 150 ∧ pureCall C 7 [(.agg [.lit (.int .i64 (kind f)), .str (bs (name f)), .str (bs (value f)), .str (bs (ini f)), .sl (List.map encS (any f)), .str (bs (fin f)), .lit (.bool (hi f)), .lit (.bool (hf f)), .str (bs (rule f)), .lit (.bool (dn f)), .sl (List.map encO (kids f))]), .lit (.int .i64 l)] = some (lit v) := by
  have IH : ∀ g ∈ kids f, ∀ l : Int, 0 ≤ l → l ≤ 150 → ∃ v : Int, -1 ≤ v ∧ v ≤ 150 ∧ pureCall C 7 [(.agg [.lit (.int .i64 (kind g)), .str (bs (name g)), .str (bs (value g)), .str (bs (ini g)), .sl (List.map encS (any g)), .str (bs (fin g)), .lit (.bool (hi g)), .lit (.bool (hf g)), .str (bs (rule g)), .lit (.bool (dn g)), .sl (List.map encO (kids g))]), .lit (.int .i64 l)] = some (lit v) := fun g hg l h0 h1 => t7 g l h0 h1
  obtain ⟨v, x1, hv, hv', hb⟩ := t7b f IH (kids f) 0 0 (l - 1) rfl rfl (by omega) (by omega)
  have q1 := bs_le (name f)
  have q2 := bs_le (value f)
  have q3 := bs_le (rule f)
  have q4 := bs_le (ini f)
  have q5 := bs_le (fin f)
  have q6 := any_28 f
  clear IH
  have stop : ∀ (P : pureCall C 7 [(.agg [.lit (.int .i64 (kind f)), .str (bs (name f)), .str (bs (value f)), .str (bs (ini f)), .sl (List.map encS (any f)), .str (bs (fin f)), .lit (.bool (hi f)), .lit (.bool (hf f)), .str (bs (rule f)), .lit (.bool (dn f)), .sl (List.map encO (kids f))]), .lit (.int .i64 l)] = some (lit (-1))), ∃ v : Int, -1 ≤ v ∧ v ≤ 150 ∧ pureCall C 7 [(.agg [.lit (.int .i64 (kind f)), .str (bs (name f)), .str (bs (value f)), .str (bs (ini f)), .sl (List.map encS (any f)), .str (bs (fin f)), .lit (.bool (hi f)), .lit (.bool (hf f)), .str (bs (rule f)), .lit (.bool (dn f)), .sl (List.map encO (kids f))]), .lit (.int .i64 l)] = some (lit v) := fun P => ⟨-1, by omega, by omega, P⟩
  by_cases hn : 3000 < (bs (name f)).length + (bs (value f)).length + (bs (rule f)).length + (bs (ini f)).length + (bs (fin f)).length
  · refine stop ?_
    rw [p7]
    simp -implicitDefEqProofs (maxSteps := 10000000) (disch := omega) only [go_sem, Int.reduceAdd, Int.reduceSub, Int.reduceMul, dec_t, dec_f, Nat.reduceBEq, Nat.reduceBNe, reduceShiftRight, reduceAnd, Nat.reduceAdd, Nat.reduceSub, reduceEqDiff, Nat.reduceLT, reduceLeDiff, reduceToNat, Int.reduceLT, Int.reduceLE, Int.reduceEq, reduceIte, reduceCtorEq]
    (first | done | rfl)
  · by_cases ha : 10 < (any f).length
    · refine stop ?_
      rw [p7]
      simp -implicitDefEqProofs (maxSteps := 10000000) (disch := omega) only [go_sem, Int.reduceAdd, Int.reduceSub, Int.reduceMul, dec_t, dec_f, Nat.reduceBEq, Nat.reduceBNe, reduceShiftRight, reduceAnd, Nat.reduceAdd, Nat.reduceSub, reduceEqDiff, Nat.reduceLT, reduceLeDiff, reduceToNat, Int.reduceLT, Int.reduceLE, Int.reduceEq, reduceIte, reduceCtorEq]
      (first | done | rfl)
    · rcases t7a f (l - 1) (any f) 0 0 rfl rfl with ⟨x', h⟩ | h
      · refine ⟨v, hv, hv', ?_⟩
        rw [p7]
        simp -implicitDefEqProofs (maxSteps := 10000000) (disch := omega) only [go_sem, Int.reduceAdd, Int.reduceSub, Int.reduceMul, dec_t, dec_f, Nat.reduceBEq, Nat.reduceBNe, reduceShiftRight, reduceAnd, Nat.reduceAdd, Nat.reduceSub, reduceEqDiff, Nat.reduceLT, reduceLeDiff, reduceToNat, Int.reduceLT, Int.reduceLE, Int.reduceEq, reduceIte, reduceCtorEq, h, hb]
        (first | done | rfl)
      · refine stop ?_
        rw [p7]
        simp -implicitDefEqProofs (maxSteps := 10000000) (disch := omega) only [go_sem, Int.reduceAdd, Int.reduceSub, Int.reduceMul, dec_t, dec_f, Nat.reduceBEq, Nat.reduceBNe, reduceShiftRight, reduceAnd, Nat.reduceAdd, Nat.reduceSub, reduceEqDiff, Nat.reduceLT, reduceLeDiff, reduceToNat, Int.reduceLT, Int.reduceLE, Int.reduceEq, reduceIte, reduceCtorEq, h]
        (first | done | rfl)
termination_by sz f
decreasing_by exact kids_lt hg
set_option maxRecDepth 10000
set_option maxHeartbeats 2000000
theorem ti65' : tiOf Try.prog 65 = some { k := TK.slice 5, size := 1, bytes := 24, zero := some (Value.slice none 0 0) } := by kernel_rfl
theorem ti67' : tiOf Try.prog 67 = some { k := TK.ptr, size := 1, bytes := 8, zero := some (Value.pointer none) } := by kernel_rfl
theorem ti69 : tiOf Try.prog 69 = some { k := TK.struct (some [(0, 1), (1, 1)]), size := 2, bytes := 32, zero := some (Value.agg #[Value.pointer none, Value.slice none 0 0]) } := by kernel_rfl
theorem ti71 : tiOf Try.prog 71 = some { k := TK.struct (some [(0, 2), (2, 1)]), size := 3, bytes := 40, zero := some (Value.agg #[Value.pointer none, Value.slice none 0 0, Value.bool false]) } := by kernel_rfl
theorem ti85 : tiOf Try.prog 85 = some { k := TK.int IntKind.u64, size := 1, bytes := 8, zero := some (Value.int IntKind.u64 0) } := by kernel_rfl
attribute [go_sem] ti65' ti67' ti69 ti71 ti85
theorem fdiv_pow (a : Int) (n : Nat) : a.fdiv (2 ^ n) = a / 2 ^ n := Int.fdiv_eq_ediv_of_nonneg _ (Int.le_of_lt (Int.pow_pos (by decide)))
theorem bi_shr6 (P : Program) (t : TypeId) (st : Store) (a : Int) : binV P t .shr st (.d (.lit (.int .i64 a))) (.d (.lit (.int .u64 6))) = some (.d (.lit (.int .i64 (a / 64)))) := by
  show some _ = some _
  rw [show min (6 : Int).toNat IntKind.i64.bits = 6 from rfl, fdiv_pow]; rfl
theorem bi_shr8 (P : Program) (t : TypeId) (st : Store) (a : Int) : binV P t .shr st (.d (.lit (.int .i64 a))) (.d (.lit (.int .u64 8))) = some (.d (.lit (.int .i64 (a / 256)))) := by
  show some _ = some _
  rw [show min (8 : Int).toNat IntKind.i64.bits = 8 from rfl, fdiv_pow]; rfl
theorem bi_shl6 (P : Program) (t : TypeId) (st : Store) (a : Int) : binV P t .shl st (.d (.lit (.int .i64 a))) (.d (.lit (.int .u64 6))) = some (.d (.lit (.int .i64 (IntKind.i64.wrap (a * 64))))) := rfl
theorem bi_shl8 (P : Program) (t : TypeId) (st : Store) (a : Int) : binV P t .shl st (.d (.lit (.int .i64 a))) (.d (.lit (.int .u64 8))) = some (.d (.lit (.int .i64 (IntKind.i64.wrap (a * 256))))) := rfl
theorem ofInt_toNat (w : Nat) (a : Int) (h : 0 ≤ a) (h2 : a.toNat < 2 ^ w) : (BitVec.ofInt w a).toNat = a.toNat := by
  rw [BitVec.toNat_ofInt, Int.emod_eq_of_lt h (by omega)]
theorem bi_or (P : Program) (t : TypeId) (st : Store) (a b : Int) (h : 0 ≤ a) (h1 : a < 1048576) (h2 : 0 ≤ b) (h3 : b < 1048576) : binV P t .or st (.d (.lit (.int .i64 a))) (.d (.lit (.int .i64 b))) = some (.d (.lit (.int .i64 (IntKind.i64.wrap ((a.toNat ||| b.toNat : Nat) : Int))))) := by
  rw [bi_gen (by simp) (by simp)]
  show some _ = some _
  rw [BitVec.toNat_or, ofInt_toNat _ _ h (by show _ < 2 ^ 64; omega), ofInt_toNat _ _ h2 (by show _ < 2 ^ 64; omega)]
theorem bi_or8 (P : Program) (t : TypeId) (st : Store) (a b : Int) (h : 0 ≤ a) (h1 : a < 256) (h2 : 0 ≤ b) (h3 : b < 256) : binV P t .or st (.d (.lit (.int .u8 a))) (.d (.lit (.int .u8 b))) = some (.d (.lit (.int .u8 (IntKind.u8.wrap ((a.toNat ||| b.toNat : Nat) : Int))))) := by
  rw [bi_gen (by simp) (by simp)]
  show some _ = some _
  rw [BitVec.toNat_or, ofInt_toNat _ _ h (by show _ < 2 ^ 8; omega), ofInt_toNat _ _ h2 (by show _ < 2 ^ 8; omega)]
theorem bi_and (P : Program) (t : TypeId) (st : Store) (a b : Int) (h : 0 ≤ a) (h1 : a < 1048576) (h2 : 0 ≤ b) (h3 : b < 1048576) : binV P t .and st (.d (.lit (.int .i64 a))) (.d (.lit (.int .i64 b))) = some (.d (.lit (.int .i64 (IntKind.i64.wrap ((a.toNat &&& b.toNat : Nat) : Int))))) := by
  rw [bi_gen (by simp) (by simp)]
  show some _ = some _
  rw [BitVec.toNat_and, ofInt_toNat _ _ h (by show _ < 2 ^ 64; omega), ofInt_toNat _ _ h2 (by show _ < 2 ^ 64; omega)]
attribute [go_sem] bi_shr6 bi_shr8 bi_shl6 bi_shl8 bi_or bi_or8 bi_and
theorem wr8 (n : Int) : IntKind.wrap .u8 n = n % 256 := by
  unfold IntKind.wrap
  simp only [show IntKind.u8.signed = false from rfl, Bool.false_and, Bool.false_eq_true, if_false]
  rfl
def lenB (n : Nat) : List UInt8 := if n < 128 then [UInt8.ofNat n] else if n < 256 then [129, UInt8.ofNat n] else [130, UInt8.ofNat (n / 256), UInt8.ofNat (n % 256)]
theorem u8of (n : Int) (h : 0 ≤ n) : UInt8.ofNat (n % 256).toNat = UInt8.ofNat n.toNat := by
  apply UInt8.toNat.inj
  rw [UInt8.toNat_ofNat', UInt8.toNat_ofNat']
  omega
theorem t63 (n : Int) (h0 : 0 ≤ n) (h1 : n < 65536) : pureCall C 63 [.lit (.int .i64 n)] = some (.one (.d (.str (lenB n.toNat)))) := by
  unfold lenB
  by_cases a : n < 128
  · rw [if_pos (by omega), p63]
    simp -implicitDefEqProofs (maxSteps := 10000000) (disch := omega) only [go_sem, Int.reduceAdd, Int.reduceSub, Int.reduceMul, dec_t, dec_f, Nat.reduceBEq, Nat.reduceBNe, reduceShiftRight, reduceAnd, Nat.reduceAdd, Nat.reduceSub, reduceEqDiff, Nat.reduceLT, reduceLeDiff, reduceToNat, Int.reduceLT, Int.reduceLE, Int.reduceEq, reduceIte, reduceCtorEq]
  by_cases b : n < 256
  · rw [if_neg (by omega), if_pos (by omega), p63]
    simp -implicitDefEqProofs (maxSteps := 10000000) (disch := omega) only [go_sem, Int.reduceAdd, Int.reduceSub, Int.reduceMul, dec_t, dec_f, Nat.reduceBEq, Nat.reduceBNe, reduceShiftRight, reduceAnd, Nat.reduceAdd, Nat.reduceSub, reduceEqDiff, Nat.reduceLT, reduceLeDiff, reduceToNat, Int.reduceLT, Int.reduceLE, Int.reduceEq, reduceIte, reduceCtorEq]
    rfl
  rw [if_neg (by omega), if_neg (by omega), p63]
  have e1 : ((n % 256).toNat : Nat) = n.toNat % 256 := by omega
  have e2 : ((n / 256 % 256).toNat : Nat) = n.toNat / 256 := by omega
  simp -implicitDefEqProofs (maxSteps := 10000000) (disch := omega) only [go_sem, Int.reduceAdd, Int.reduceSub, Int.reduceMul, dec_t, dec_f, Nat.reduceBEq, Nat.reduceBNe, reduceShiftRight, reduceAnd, Nat.reduceAdd, Nat.reduceSub, reduceEqDiff, Nat.reduceLT, reduceLeDiff, reduceToNat, Int.reduceLT, Int.reduceLE, Int.reduceEq, reduceIte, reduceCtorEq, wr8, e1, e2]
  rfl
theorem lenB_len (n : Nat) : (lenB n).length = if n < 128 then 1 else if n < 256 then 2 else 3 := by
  unfold lenB
  split
  · rfl
  · split <;> rfl
theorem t64 (s : List UInt8) (a n : Nat) (r : List UInt8) (h1 : s.length ≤ 2 ^ 30) (hn : n ≤ 4000) (h : s.drop a = lenB n ++ r) :
    pureCall C 64 [.str s, .lit (.int .i64 a)] = some (.tup (.d (.lit (.int .i64 n))) [.lit (.int .i64 ((a : Int) + ((lenB n).length : Nat))), .lit (.int .i64 0)]) := by
  have hl := congrArg List.length h
  rw [List.length_drop, List.length_append, lenB_len] at hl
  have hg : ∀ j, s[a + j]? = (lenB n ++ r)[j]? := fun j => by rw [← h, List.getElem?_drop]
  have h0 := hg 0
  have g1 := hg 1
  have g2 := hg 2
  clear hg
  have t63' := t63 n (by omega) (by omega)
  have lb := lenB_len n
  rw [Int.toNat_natCast] at t63'
  rw [lenB_len]
  unfold lenB at h0 g1 g2
  have i1 : Int.toNat (a : Int) = a := by omega
  have i2 : Int.toNat ((a : Int) + 1) = a + 1 := by omega
  have i3 : Int.toNat ((a : Int) + 1 + 1) = a + 2 := by omega
  by_cases c : n < 128
  · rw [if_pos c] at h0 hl ⊢
    simp only [List.cons_append, List.getElem?_cons_zero, Nat.add_zero] at h0
    have v : (UInt8.ofNat n).toNat = n := by rw [UInt8.toNat_ofNat']; omega
    rw [p64]
    simp -implicitDefEqProofs (maxSteps := 10000000) (disch := omega) only [go_sem, Int.reduceAdd, Int.reduceSub, Int.reduceMul, dec_t, dec_f, Nat.reduceBEq, Nat.reduceBNe, reduceShiftRight, reduceAnd, Nat.reduceAdd, Nat.reduceSub, reduceEqDiff, Nat.reduceLT, reduceLeDiff, reduceToNat, Int.reduceLT, Int.reduceLE, Int.reduceEq, reduceIte, reduceCtorEq, h0, v, i1]
    rfl
  by_cases d : n < 256
  · rw [if_neg c, if_pos d] at h0 hl lb g1 ⊢
    simp only [List.cons_append, List.getElem?_cons_zero, List.getElem?_cons_succ, Nat.add_zero] at h0 g1
    have v : (UInt8.ofNat n).toNat = n := by rw [UInt8.toNat_ofNat']; omega
    have v0 : (129 : UInt8).toNat = 129 := rfl
    rw [p64]
    simp -implicitDefEqProofs (maxSteps := 10000000) (disch := omega) only [go_sem, Int.reduceAdd, Int.reduceSub, Int.reduceMul, dec_t, dec_f, Nat.reduceBEq, Nat.reduceBNe, reduceShiftRight, reduceAnd, Nat.reduceAdd, Nat.reduceSub, reduceEqDiff, Nat.reduceLT, reduceLeDiff, reduceToNat, Int.reduceLT, Int.reduceLE, Int.reduceEq, reduceIte, reduceCtorEq, h0, g1, v, v0, i1, i2, t63', lb]
    rw [show (a : Int) + 1 + (((129 : Nat) : Int) - 128) = (a : Int) + ((2 : Nat) : Int) by omega]
  rw [if_neg c, if_neg d] at h0 hl lb g1 g2 ⊢
  simp only [List.cons_append, List.getElem?_cons_zero, List.getElem?_cons_succ, Nat.add_zero] at h0 g1 g2
  have v : (UInt8.ofNat (n / 256)).toNat = n / 256 := by rw [UInt8.toNat_ofNat']; omega
  have v1 : (UInt8.ofNat (n % 256)).toNat = n % 256 := by rw [UInt8.toNat_ofNat']; omega
  have v0 : (130 : UInt8).toNat = 130 := rfl
  have w : ((((n / 256 : Nat) : Int) * 256).toNat ||| n % 256) = n := by
    rw [show (((n / 256 : Nat) : Int) * 256).toNat = (n / 256) <<< 8 by rw [Nat.shiftLeft_eq]; omega, ← Nat.shiftLeft_add_eq_or_of_lt (by omega : n % 256 < 2 ^ 8), Nat.shiftLeft_eq]
    omega
  rw [p64]
  simp -implicitDefEqProofs (maxSteps := 10000000) (disch := omega) only [go_sem, Int.reduceAdd, Int.reduceSub, Int.reduceMul, dec_t, dec_f, Nat.reduceBEq, Nat.reduceBNe, reduceShiftRight, reduceAnd, Nat.reduceAdd, Nat.reduceSub, reduceEqDiff, Nat.reduceLT, reduceLeDiff, reduceToNat, Int.reduceLT, Int.reduceLE, Int.reduceEq, reduceIte, reduceCtorEq, h0, g1, g2, v, v0, v1, i1, i2, i3, w, t63', lb]
  rw [show (a : Int) + 1 + (((130 : Nat) : Int) - 128) = (a : Int) + ((3 : Nat) : Int) by omega]
set_option maxRecDepth 10000
set_option maxHeartbeats 2000000
def tgN (e : Eo) : Nat := ((cls e).toNat * 64 ||| (num e).toNat) ||| (if made e then 32 else 0)
def tagB (e : Eo) : UInt8 := UInt8.ofNat (tgN e)
noncomputable def encB (e : Eo) : List UInt8 :=
  let body := if made e then ((els e).attach.map fun k => encB k.1).flatten else bs (cont e)
  tagB e :: (lenB body.length ++ body)
termination_by szE e
decreasing_by exact els_lt k.2
noncomputable def bodyB (e : Eo) : List UInt8 := if made e then ((els e).map encB).flatten else bs (cont e)
theorem encB_eq (e : Eo) : encB e = tagB e :: (lenB (bodyB e).length ++ bodyB e) := by
  rw [encB]
  have : (els e).attach.map (fun k => encB k.1) = (els e).map encB := by
    conv => rhs; rw [← List.attach_map_subtype_val (els e), List.map_map]
    rfl
  rw [this]
  rfl
def San : Nat → Eo → Prop
  | 0, _ => False
  | l + 1, e => 0 ≤ cls e ∧ cls e ≤ 3 ∧ 0 ≤ num e ∧ num e ≤ 30 ∧ (made e = true → bs (cont e) = []) ∧ (made e = false → els e = []) ∧ ∀ g ∈ els e, San l g
theorem tg_fin : ∀ c : Fin 4, ∀ n : Fin 31, ∀ m : Bool, ((c.val * 64 ||| n.val) ||| (if m then 32 else 0)) < 256 ∧ ((c.val * 64 ||| n.val) ||| (if m then 32 else 0)) / 64 = c.val ∧ (((c.val * 64 ||| n.val) ||| (if m then 32 else 0)) &&& 31) = n.val ∧ (((c.val * 64 ||| n.val) ||| (if m then 32 else 0)) &&& 32) = (if m then 32 else 0) ∧ (c.val * 64 ||| n.val) < 256 := by decide +kernel
theorem tgN_fin {l : Nat} {e : Eo} (h : San (l + 1) e) : tgN e < 256 ∧ ((tgN e / 64 : Nat) : Int) = cls e ∧ ((tgN e &&& 31 : Nat) : Int) = num e ∧ (tgN e &&& 32) = (if made e then 32 else 0) ∧ ((cls e).toNat * 64 ||| (num e).toNat) < 256 := by
  obtain ⟨h1, h2, h3, h4, -⟩ := h
  have := tg_fin ⟨(cls e).toNat, by omega⟩ ⟨(num e).toNat, by omega⟩ (made e)
  obtain ⟨a, b, c, d, f⟩ := this
  refine ⟨a, ?_, ?_, d, f⟩
  · show ((((cls e).toNat * 64 ||| (num e).toNat ||| (if made e then 32 else 0)) / 64 : Nat) : Int) = _
    simp only at b
    rw [b]; omega
  · show (((((cls e).toNat * 64 ||| (num e).toNat) ||| (if made e then 32 else 0)) &&& 31 : Nat) : Int) = _
    simp only at c
    rw [c]; omega
theorem t40 (l : Nat) (hl : l + 1 ≤ 12) (e : Eo) (he : San (l + 1) e) (s : List UInt8) (a : Nat) (r : List UInt8) (hs : s.length ≤ 2 ^ 30) (h : s.drop a = encB e ++ r) (h4 : (encB e).length ≤ 4000)
    (IH : made e = true → pureCall C 65 [.str (bodyB e), .lit (.int .i64 l)] = some (.tup (bif (els e).isEmpty then .snil else .own 5 (List.map AV.d (List.map encE (els e))) true) [.lit (.int .i64 0)])) :
    pureCall C 40 [.str s, .lit (.int .i64 a), .lit (.int .i64 ((l : Int) + 1))] = some (.tup (.d (.agg [.lit (.int .i64 (cls e)), .lit (.bool (made e)), .lit (.int .i64 (num e)), .str (bs (cont e)), .sl (List.map encE (els e))])) [.lit (.int .i64 ((a : Int) + ((encB e).length : Nat))), .lit (.int .i64 0)]) := by
  obtain ⟨g1, g2, g3, g4, g5⟩ := tgN_fin he
  obtain ⟨e1, e2, e3, e4, e5, e6, e7⟩ := he
  rw [encB_eq] at h h4 ⊢
  have hl0 := congrArg List.length h
  simp only [List.length_drop, List.length_append, List.length_cons] at hl0
  have i0 : s[a]? = some (tagB e) := by
    have := congrArg (fun x => x[0]?) h
    simpa using this
  have iT : (tagB e).toNat = tgN e := by unfold tagB; rw [UInt8.toNat_ofNat']; omega
  have i1 : Int.toNat (a : Int) = a := by omega
  have h64 := t64 s (a + 1) (bodyB e).length (bodyB e ++ r) hs (by simp only [List.length_append, List.length_cons] at h4; omega) (by rw [← List.drop_drop, h]; simp)
  simp only [Int.natCast_add, Int.natCast_one, Int.cast_ofNat_Int] at h64
  have g2' : (tgN e : Int) / 64 = cls e := by rw [← g2]; omega
  have hb4 : (bodyB e).length ≤ 4000 := by simp only [List.length_append, List.length_cons] at h4; omega
  have hdr : s.drop (a + 1 + (lenB (bodyB e).length).length) = bodyB e ++ r := by
    rw [← List.drop_drop, ← List.drop_drop, h]; simp
  have hll := lenB_len (bodyB e).length
  have hsl : ∀ j k : Nat, j = a + 1 + (lenB (bodyB e).length).length → k = j + (bodyB e).length → List.take (k - j) (List.drop j s) = bodyB e := by
    intro j k hj hk
    subst hj; subst hk
    rw [hdr, Nat.add_sub_cancel_left, List.take_left]
  simp only [List.length_append, List.length_cons] at h4
  have hfin : (a : Int) + (((lenB (bodyB e).length).length + (bodyB e).length + 1 : Nat) : Int) = (a : Int) + 1 + ((lenB (bodyB e).length).length : Nat) + ((bodyB e).length : Nat) := by omega
  rw [List.length_cons, List.length_append, hfin]
  clear hfin h g2 hll
  cases hm : made e
  · have hbo : bodyB e = bs (cont e) := by unfold bodyB; rw [hm]; rfl
    simp only [hm, Bool.false_eq_true, if_false] at g4
    rw [e6 hm, ← hbo]
    rw [p40]
    simp -implicitDefEqProofs (maxSteps := 10000000) (disch := omega) only [go_sem, Int.reduceAdd, Int.reduceSub, Int.reduceMul, dec_t, dec_f, Nat.reduceBEq, Nat.reduceBNe, reduceShiftRight, reduceAnd, Nat.reduceAdd, Nat.reduceSub, reduceEqDiff, Nat.reduceLT, reduceLeDiff, reduceToNat, Int.reduceLT, Int.reduceLE, Int.reduceEq, reduceIte, reduceCtorEq, i0, iT, i1, g1, g2', g3, g4, h64, hsl]
    done
  · have hco := e5 hm
    replace IH := IH hm
    rw [show (l : Int) = (l : Int) + 1 - 1 by omega] at IH
    simp only [hm, if_true] at g4
    by_cases he : els e = []
    · have hbo : bodyB e = [] := by unfold bodyB; rw [hm, he]; rfl
      have hb0 : (bodyB e).length = 0 := by rw [hbo]; rfl
      rw [he] at IH
      simp only [List.isEmpty_nil, cond_true] at IH
      rw [he, hco]
      by_cases hl1 : l = 0
      · rw [p40]
        simp -implicitDefEqProofs (maxSteps := 10000000) (disch := omega) only [go_sem, Int.reduceAdd, Int.reduceSub, Int.reduceMul, dec_t, dec_f, Nat.reduceBEq, Nat.reduceBNe, reduceShiftRight, reduceAnd, Nat.reduceAdd, Nat.reduceSub, reduceEqDiff, Nat.reduceLT, reduceLeDiff, reduceToNat, Int.reduceLT, Int.reduceLE, Int.reduceEq, reduceIte, reduceCtorEq, i0, iT, i1, g1, g2', g3, g4, h64, hsl, IH]
        done
      · rw [p40]
        simp -implicitDefEqProofs (maxSteps := 10000000) (disch := omega) only [go_sem, Int.reduceAdd, Int.reduceSub, Int.reduceMul, dec_t, dec_f, Nat.reduceBEq, Nat.reduceBNe, reduceShiftRight, reduceAnd, Nat.reduceAdd, Nat.reduceSub, reduceEqDiff, Nat.reduceLT, reduceLeDiff, reduceToNat, Int.reduceLT, Int.reduceLE, Int.reduceEq, reduceIte, reduceCtorEq, i0, iT, i1, g1, g2', g3, g4, h64, hsl, IH]
        done
    · have h1 : 1 ≤ l := by
        cases l with
        | zero => cases hh : els e with
          | nil => exact absurd hh he
          | cons x y => exact (e7 x (by rw [hh]; simp)).elim
        | succ l => omega
      rw [emp_f he] at IH
      simp only [cond_false] at IH
      rw [hco, p40]
      simp -implicitDefEqProofs (maxSteps := 10000000) (disch := omega) only [go_sem, Int.reduceAdd, Int.reduceSub, Int.reduceMul, dec_t, dec_f, Nat.reduceBEq, Nat.reduceBNe, reduceShiftRight, reduceAnd, Nat.reduceAdd, Nat.reduceSub, reduceEqDiff, Nat.reduceLT, reduceLeDiff, reduceToNat, Int.reduceLT, Int.reduceLE, Int.reduceEq, reduceIte, reduceCtorEq, i0, iT, i1, g1, g2', g3, g4, h64, hsl, IH]
      done
def Ta (l : Nat) (e : Eo) : Prop := ∀ (s : List UInt8) (a : Nat) (r : List UInt8), s.length ≤ 2 ^ 30 → s.drop a = encB e ++ r → (encB e).length ≤ 4000 →
  pureCall C 40 [.str s, .lit (.int .i64 a), .lit (.int .i64 l)] = some (.tup (.d (.agg [.lit (.int .i64 (cls e)), .lit (.bool (made e)), .lit (.int .i64 (num e)), .str (bs (cont e)), .sl (List.map encE (els e))])) [.lit (.int .i64 ((a : Int) + ((encB e).length : Nat))), .lit (.int .i64 0)])
noncomputable def catB (L : List Eo) : List UInt8 := (L.map encB).flatten
theorem catB_app (a b : List Eo) : catB (a ++ b) = catB a ++ catB b := by unfold catB; rw [List.map_append, List.flatten_append]
theorem catB_one (e : Eo) : catB [e] = encB e := by unfold catB; simp
theorem catB_cons (e : Eo) (b : List Eo) : catB (e :: b) = encB e ++ catB b := rfl
theorem encB_pos (e : Eo) : 0 < (encB e).length := by rw [encB_eq]; simp
theorem t65k (l : Nat) (hl : l ≤ 12) (L : List Eo) (hL : (catB L).length ≤ 4000) (hL2 : L.length ≤ 2 ^ 29) (IH : ∀ e ∈ L, Ta l e) (J : D) :
   ∀ (r acc : List Eo) (x : Int), L = acc ++ r → acc.isEmpty = false → x = ((catB acc).length : Nat) → ∃ x', n65_8 ⟨[(0, .d (.str (catB L))), (1, .d (.lit (.int .i64 l))), (6, .sref 1 acc.length 5 0 acc.length), (7, .d (.lit (.int .i64 x)))], [⟨5, [.d J], false, false, false⟩, ⟨5, List.map AV.d (List.map encE acc), true, true, false⟩]⟩ = 
      some (.exit 0, ⟨[(0, .d (.str (catB L))), (1, .d (.lit (.int .i64 l))), (6, .sref 1 L.length 5 0 L.length), (7, x'), (14, .d (.lit (.bool false)))], [⟨5, [.d J], false, false, false⟩, ⟨5, List.map AV.d (List.map encE L), true, true, false⟩]⟩) := by
  intro r
  induction r with
  | nil =>
    intro acc x h0 he h1
    rw [List.append_nil] at h0
    subst h0
    refine ⟨.d (.lit (.int .i64 x)), ?_⟩
    rw [r_n65_8]
    simp -implicitDefEqProofs (maxSteps := 10000000) (disch := omega) only [go_sem, Int.reduceAdd, Int.reduceSub, Int.reduceMul, dec_t, dec_f, Nat.reduceBEq, Nat.reduceBNe, reduceShiftRight, reduceAnd, Nat.reduceAdd, Nat.reduceSub, reduceEqDiff, Nat.reduceLT, reduceLeDiff, reduceToNat, Int.reduceLT, Int.reduceLE, Int.reduceEq, reduceIte, reduceCtorEq, he]
    done
  | cons e r ih =>
    intro acc x h0 he h1
    have h2 : L = (acc ++ [e]) ++ r := by rw [h0]; simp
    have hlen : L.length = acc.length + (r.length + 1) := by rw [h0, List.length_append]; rfl
    have hln : (catB L).length = (catB acc).length + ((encB e).length + (catB r).length) := by rw [h0, catB_app, catB_cons, List.length_append, List.length_append]
    have hp := encB_pos e
    have hc := IH e (by rw [h0]; simp) (catB L) (catB acc).length (catB r) (by omega) (by rw [h0, catB_app, catB_cons, List.drop_left]) (by omega)
    obtain ⟨x', h⟩ := ih (acc ++ [e]) (x + ((encB e).length : Nat)) h2 (c_emp3 _ _ _) (by rw [catB_app, catB_one, List.length_append, h1]; omega)
    refine ⟨x', ?_⟩
    rw [← h1] at hc
    clear ih IH h0 h2
    rw [r_n65_8]
    simp -implicitDefEqProofs (maxSteps := 10000000) (disch := omega) only [go_sem, Int.reduceAdd, Int.reduceSub, Int.reduceMul, dec_t, dec_f, Nat.reduceBEq, Nat.reduceBNe, reduceShiftRight, reduceAnd, Nat.reduceAdd, Nat.reduceSub, reduceEqDiff, Nat.reduceLT, reduceLeDiff, reduceToNat, Int.reduceLT, Int.reduceLE, Int.reduceEq, reduceIte, reduceCtorEq] at h
    simp -implicitDefEqProofs (maxSteps := 10000000) (disch := omega) only [go_sem, Int.reduceAdd, Int.reduceSub, Int.reduceMul, dec_t, dec_f, Nat.reduceBEq, Nat.reduceBNe, reduceShiftRight, reduceAnd, Nat.reduceAdd, Nat.reduceSub, reduceEqDiff, Nat.reduceLT, reduceLeDiff, reduceToNat, Int.reduceLT, Int.reduceLE, Int.reduceEq, reduceIte, reduceCtorEq, he, hc, h]
    done
theorem t65 (l : Nat) (hl : l ≤ 12) (L : List Eo) (hL : (catB L).length ≤ 4000) (hL2 : L.length ≤ 2 ^ 29) (IH : ∀ e ∈ L, Ta l e) :
    pureCall C 65 [.str (catB L), .lit (.int .i64 l)] = some (.tup (bif L.isEmpty then .snil else .own 5 (List.map AV.d (List.map encE L)) true) [.lit (.int .i64 0)]) := by
  cases L with
  | nil =>
    rw [p65]
    have : catB [] = [] := rfl
    simp -implicitDefEqProofs (maxSteps := 10000000) (disch := omega) only [go_sem, Int.reduceAdd, Int.reduceSub, Int.reduceMul, dec_t, dec_f, Nat.reduceBEq, Nat.reduceBNe, reduceShiftRight, reduceAnd, Nat.reduceAdd, Nat.reduceSub, reduceEqDiff, Nat.reduceLT, reduceLeDiff, reduceToNat, Int.reduceLT, Int.reduceLE, Int.reduceEq, reduceIte, reduceCtorEq]
    rw [r_n65_8]
    simp -implicitDefEqProofs (maxSteps := 10000000) (disch := omega) only [go_sem, Int.reduceAdd, Int.reduceSub, Int.reduceMul, dec_t, dec_f, Nat.reduceBEq, Nat.reduceBNe, reduceShiftRight, reduceAnd, Nat.reduceAdd, Nat.reduceSub, reduceEqDiff, Nat.reduceLT, reduceLeDiff, reduceToNat, Int.reduceLT, Int.reduceLE, Int.reduceEq, reduceIte, reduceCtorEq, this]
    done
  | cons e r =>
    have hln : (catB (e :: r)).length = (encB e).length + (catB r).length := by rw [catB_cons, List.length_append]
    have hp := encB_pos e
    have hc := IH e (by simp) (catB (e :: r)) 0 (catB r) (by omega) (by rw [catB_cons]; rfl) (by omega)
    obtain ⟨x', h⟩ := t65k l hl (e :: r) hL hL2 IH (.agg [.lit (.int .i64 (cls e)), .lit (.bool (made e)), .lit (.int .i64 (num e)), .str (bs (cont e)), .sl (List.map encE (els e))]) r [e] ((encB e).length : Nat) rfl rfl (by rw [catB_one])
    clear IH
    simp only [Int.cast_ofNat_Int, Int.zero_add] at hc
    rw [p65]
    simp -implicitDefEqProofs (maxSteps := 10000000) (disch := omega) only [go_sem, Int.reduceAdd, Int.reduceSub, Int.reduceMul, dec_t, dec_f, Nat.reduceBEq, Nat.reduceBNe, reduceShiftRight, reduceAnd, Nat.reduceAdd, Nat.reduceSub, reduceEqDiff, Nat.reduceLT, reduceLeDiff, reduceToNat, Int.reduceLT, Int.reduceLE, Int.reduceEq, reduceIte, reduceCtorEq]
    rw [r_n65_8]
    simp -implicitDefEqProofs (maxSteps := 10000000) (disch := omega) only [go_sem, Int.reduceAdd, Int.reduceSub, Int.reduceMul, dec_t, dec_f, Nat.reduceBEq, Nat.reduceBNe, reduceShiftRight, reduceAnd, Nat.reduceAdd, Nat.reduceSub, reduceEqDiff, Nat.reduceLT, reduceLeDiff, reduceToNat, Int.reduceLT, Int.reduceLE, Int.reduceEq, reduceIte, reduceCtorEq] at h
    simp -implicitDefEqProofs (maxSteps := 10000000) (disch := omega) only [go_sem, Int.reduceAdd, Int.reduceSub, Int.reduceMul, dec_t, dec_f, Nat.reduceBEq, Nat.reduceBNe, reduceShiftRight, reduceAnd, Nat.reduceAdd, Nat.reduceSub, reduceEqDiff, Nat.reduceLT, reduceLeDiff, reduceToNat, Int.reduceLT, Int.reduceLE, Int.reduceEq, reduceIte, reduceCtorEq, hc, h]
    done
set_option maxRecDepth 10000
set_option maxHeartbeats 2000000
theorem catB_ge : ∀ L : List Eo, L.length ≤ (catB L).length
  | [] => Nat.zero_le _
  | e :: r => by
    have := encB_pos e
    have := catB_ge r
    rw [catB_cons, List.length_append, List.length_cons]
    omega
theorem catB_mem {e : Eo} : ∀ {L : List Eo}, e ∈ L → (encB e).length ≤ (catB L).length
  | a :: r, h => by
    rw [catB_cons, List.length_append]
    rcases List.mem_cons.1 h with rfl | h
    · omega
    · have := catB_mem h; omega
theorem take_all : ∀ (l : Nat), l ≤ 12 → ∀ e, San l e → Ta l e
  | 0, _, e, h => h.elim
  | l + 1, hl, e, h => by
    intro s a r hs hd h4
    have h' := h
    obtain ⟨-, -, -, -, -, -, h7⟩ := h'
    have := t40 l hl e h s a r hs hd h4 (fun hm => by
      have hb : bodyB e = catB (els e) := by unfold bodyB; rw [hm]; rfl
      rw [encB_eq, List.length_cons, List.length_append, hb] at h4
      have h5 := catB_ge (els e)
      rw [hb]
      exact t65 l (by omega) (els e) (by omega) (by omega) (fun g hg => take_all l (by omega) g (h7 g hg)))
    exact this
theorem t22 (e : Eo) (h : San 12 e) (h4 : (encB e).length ≤ 4000) : pureCall C 22 [.str (encB e), .lit (.int .i64 0)] = some (.tup (.d (.agg [.lit (.int .i64 (cls e)), .lit (.bool (made e)), .lit (.int .i64 (num e)), .str (bs (cont e)), .sl (List.map encE (els e))])) [.lit (.int .i64 ((encB e).length : Nat)), .lit (.int .i64 0)]) := by
  have := take_all 12 (Nat.le_refl _) e h (encB e) 0 [] (by omega) (by simp) h4
  simp only [Int.cast_ofNat_Int, Int.zero_add] at this
  rw [p22]
  simp -implicitDefEqProofs (maxSteps := 10000000) (disch := omega) only [go_sem, Int.reduceAdd, Int.reduceSub, Int.reduceMul, dec_t, dec_f, Nat.reduceBEq, Nat.reduceBNe, reduceShiftRight, reduceAnd, Nat.reduceAdd, Nat.reduceSub, reduceEqDiff, Nat.reduceLT, reduceLeDiff, reduceToNat, Int.reduceLT, Int.reduceLE, Int.reduceEq, reduceIte, reduceCtorEq, this]
  done
theorem t80 : ∀ (l : Nat) (e : Eo), San l e → ∀ left : Int, (l : Int) ≤ left → left ≤ 12 → ∃ v : Int, 1 ≤ v ∧ v ≤ l ∧ pureCall C 80 [(.agg [.lit (.int .i64 (cls e)), .lit (.bool (made e)), .lit (.int .i64 (num e)), .str (bs (cont e)), .sl (List.map encE (els e))]), .lit (.int .i64 left)] = some (lit v)
  | 0, e, h, _, _, _ => h.elim
  | l + 1, e, h, left, hl, hl2 => by
    obtain ⟨e1, e2, e3, e4, e5, e6, e7⟩ := h
    have hle := els_le e
    have key : ∀ (r : List Eo) (j : Nat) (x y : Int), x = j → (els e).drop j = r → 0 ≤ y → y ≤ l →
        ∃ (v : Int) (x' : AV), 0 ≤ v ∧ v ≤ l ∧ n80_16 ⟨[(1, .d (.lit (.int .i64 left))), (5, .d (.lit (.int .i64 y))), (11, .d (.sl (List.map encE (els e)))), (12, .d (.lit (.int .i64 ((els e).length : Nat)))), (13, .d (.lit (.int .i64 x)))], [⟨5, [.d (.agg [.lit (.int .i64 (cls e)), .lit (.bool (made e)), .lit (.int .i64 (num e)), .str (bs (cont e)), .sl (List.map encE (els e))])], false, false, false⟩]⟩ =
          some (.exit 0, ⟨[(1, .d (.lit (.int .i64 left))), (5, .d (.lit (.int .i64 v))), (11, .d (.sl (List.map encE (els e)))), (12, .d (.lit (.int .i64 ((els e).length : Nat)))), (13, x'), (14, .d (.lit (.bool false)))], [⟨5, [.d (.agg [.lit (.int .i64 (cls e)), .lit (.bool (made e)), .lit (.int .i64 (num e)), .str (bs (cont e)), .sl (List.map encE (els e))])], false, false, false⟩]⟩) := by
      intro r
      induction r with
      | nil =>
        intro j x y hx hd hy hy'
        have hd := drop_nil hd
        refine ⟨y, .d (.lit (.int .i64 x)), hy, hy', ?_⟩
        rw [r_n80_16]
        simp -implicitDefEqProofs (maxSteps := 10000000) (disch := omega) only [go_sem, Int.reduceAdd, Int.reduceSub, Int.reduceMul, dec_t, dec_f, Nat.reduceBEq, Nat.reduceBNe, reduceShiftRight, reduceAnd, Nat.reduceAdd, Nat.reduceSub, reduceEqDiff, Nat.reduceLT, reduceLeDiff, reduceToNat, Int.reduceLT, Int.reduceLE, Int.reduceEq, reduceIte, reduceCtorEq]
        done
      | cons c r ih =>
        intro j x y hx hd hy hy'
        obtain ⟨g1, g2, g3, g4⟩ := drop_cons hd
        have hnat : Int.toNat x = j := by omega
        obtain ⟨v, hv, hv', hc⟩ := t80 l c (e7 c g4) (left - 1) (by omega) (by omega)
        by_cases h0 : y < v
        · obtain ⟨w, x', hw, hw', h⟩ := ih (j + 1) (x + 1) v (by omega) g3 (by omega) hv'
          refine ⟨w, x', hw, hw', ?_⟩
          clear ih
          rw [r_n80_16]
          simp -implicitDefEqProofs (maxSteps := 10000000) (disch := omega) only [go_sem, Int.reduceAdd, Int.reduceSub, Int.reduceMul, dec_t, dec_f, Nat.reduceBEq, Nat.reduceBNe, reduceShiftRight, reduceAnd, Nat.reduceAdd, Nat.reduceSub, reduceEqDiff, Nat.reduceLT, reduceLeDiff, reduceToNat, Int.reduceLT, Int.reduceLE, Int.reduceEq, reduceIte, reduceCtorEq, g2, hnat, hc, h]
          done
        · obtain ⟨w, x', hw, hw', h⟩ := ih (j + 1) (x + 1) y (by omega) g3 (by omega) hy'
          refine ⟨w, x', hw, hw', ?_⟩
          clear ih
          rw [r_n80_16]
          simp -implicitDefEqProofs (maxSteps := 10000000) (disch := omega) only [go_sem, Int.reduceAdd, Int.reduceSub, Int.reduceMul, dec_t, dec_f, Nat.reduceBEq, Nat.reduceBNe, reduceShiftRight, reduceAnd, Nat.reduceAdd, Nat.reduceSub, reduceEqDiff, Nat.reduceLT, reduceLeDiff, reduceToNat, Int.reduceLT, Int.reduceLE, Int.reduceEq, reduceIte, reduceCtorEq, g2, hnat, hc, h]
          done
    obtain ⟨v, x', hv, hv', hk⟩ := key (els e) 0 0 0 rfl rfl (by omega) (by omega)
    refine ⟨v + 1, by omega, by omega, ?_⟩
    rw [p80]
    simp -implicitDefEqProofs (maxSteps := 10000000) (disch := omega) only [go_sem, Int.reduceAdd, Int.reduceSub, Int.reduceMul, dec_t, dec_f, Nat.reduceBEq, Nat.reduceBNe, reduceShiftRight, reduceAnd, Nat.reduceAdd, Nat.reduceSub, reduceEqDiff, Nat.reduceLT, reduceLeDiff, reduceToNat, Int.reduceLT, Int.reduceLE, Int.reduceEq, reduceIte, reduceCtorEq, hk]
    done
theorem t60 : ∀ (l : Nat) (e : Eo), San l e → pureCall C 60 [(.agg [.lit (.int .i64 (cls e)), .lit (.bool (made e)), .lit (.int .i64 (num e)), .str (bs (cont e)), .sl (List.map encE (els e))])] = some (tf true)
  | 0, e, h => h.elim
  | l + 1, e, h => by
    obtain ⟨e1, e2, e3, e4, e5, e6, e7⟩ := h
    have hle := els_le e
    have key : ∀ (r : List Eo) (j : Nat) (x : Int), x = j → (els e).drop j = r →
        ∃ (x' : AV), n60_22 ⟨[(42, .d (.sl (List.map encE (els e)))), (43, .d (.lit (.int .i64 ((els e).length : Nat)))), (44, .d (.lit (.int .i64 x)))], [⟨5, [.d (.agg [.lit (.int .i64 (cls e)), .lit (.bool (made e)), .lit (.int .i64 (num e)), .str (bs (cont e)), .sl (List.map encE (els e))])], false, false, false⟩]⟩ =
          some (.exit 0, ⟨[(42, .d (.sl (List.map encE (els e)))), (43, .d (.lit (.int .i64 ((els e).length : Nat)))), (44, x'), (45, .d (.lit (.bool false)))], [⟨5, [.d (.agg [.lit (.int .i64 (cls e)), .lit (.bool (made e)), .lit (.int .i64 (num e)), .str (bs (cont e)), .sl (List.map encE (els e))])], false, false, false⟩]⟩) := by
      intro r
      induction r with
      | nil =>
        intro j x hx hd
        have hd := drop_nil hd
        refine ⟨.d (.lit (.int .i64 x)), ?_⟩
        rw [r_n60_22]
        simp -implicitDefEqProofs (maxSteps := 10000000) (disch := omega) only [go_sem, Int.reduceAdd, Int.reduceSub, Int.reduceMul, dec_t, dec_f, Nat.reduceBEq, Nat.reduceBNe, reduceShiftRight, reduceAnd, Nat.reduceAdd, Nat.reduceSub, reduceEqDiff, Nat.reduceLT, reduceLeDiff, reduceToNat, Int.reduceLT, Int.reduceLE, Int.reduceEq, reduceIte, reduceCtorEq]
        done
      | cons c r ih =>
        intro j x hx hd
        obtain ⟨g1, g2, g3, g4⟩ := drop_cons hd
        have hnat : Int.toNat x = j := by omega
        have hc := t60 l c (e7 c g4)
        obtain ⟨x', h⟩ := ih (j + 1) (x + 1) (by omega) g3
        refine ⟨x', ?_⟩
        clear ih
        rw [r_n60_22]
        simp -implicitDefEqProofs (maxSteps := 10000000) (disch := omega) only [go_sem, Int.reduceAdd, Int.reduceSub, Int.reduceMul, dec_t, dec_f, Nat.reduceBEq, Nat.reduceBNe, reduceShiftRight, reduceAnd, Nat.reduceAdd, Nat.reduceSub, reduceEqDiff, Nat.reduceLT, reduceLeDiff, reduceToNat, Int.reduceLT, Int.reduceLE, Int.reduceEq, reduceIte, reduceCtorEq, g2, hnat, hc, h]
        done
    obtain ⟨x', hk⟩ := key (els e) 0 0 rfl rfl
    rw [p60]
    cases hm : made e
    · have h6 := e6 hm
      rw [hm, h6] at hk
      simp only [List.length_nil, List.map_nil] at hk
      rw [h6]
      simp -implicitDefEqProofs (maxSteps := 10000000) (disch := omega) only [go_sem, Int.reduceAdd, Int.reduceSub, Int.reduceMul, dec_t, dec_f, Nat.reduceBEq, Nat.reduceBNe, reduceShiftRight, reduceAnd, Nat.reduceAdd, Nat.reduceSub, reduceEqDiff, Nat.reduceLT, reduceLeDiff, reduceToNat, Int.reduceLT, Int.reduceLE, Int.reduceEq, reduceIte, reduceCtorEq, hk]
      done
    · have h5 := e5 hm
      rw [hm, h5] at hk
      rw [h5]
      simp -implicitDefEqProofs (maxSteps := 10000000) (disch := omega) only [go_sem, Int.reduceAdd, Int.reduceSub, Int.reduceMul, dec_t, dec_f, Nat.reduceBEq, Nat.reduceBNe, reduceShiftRight, reduceAnd, Nat.reduceAdd, Nat.reduceSub, reduceEqDiff, Nat.reduceLT, reduceLeDiff, reduceToNat, Int.reduceLT, Int.reduceLE, Int.reduceEq, reduceIte, reduceCtorEq, hk]
      done
theorem t59 (e : Eo) (h : San 12 e) : ∃ v : Int, 1 ≤ v ∧ v ≤ 12 ∧ pureCall C 59 [(.agg [.lit (.int .i64 (cls e)), .lit (.bool (made e)), .lit (.int .i64 (num e)), .str (bs (cont e)), .sl (List.map encE (els e))])] = some (lit v) := by
  obtain ⟨v, h1, h2, h3⟩ := t80 12 e h 12 (by omega) (by omega)
  refine ⟨v, h1, by omega, ?_⟩
  rw [p59]
  simp -implicitDefEqProofs (maxSteps := 10000000) (disch := omega) only [go_sem, Int.reduceAdd, Int.reduceSub, Int.reduceMul, dec_t, dec_f, Nat.reduceBEq, Nat.reduceBNe, reduceShiftRight, reduceAnd, Nat.reduceAdd, Nat.reduceSub, reduceEqDiff, Nat.reduceLT, reduceLeDiff, reduceToNat, Int.reduceLT, Int.reduceLE, Int.reduceEq, reduceIte, reduceCtorEq, h3]
  done
set_option maxRecDepth 10000
set_option maxHeartbeats 1000000
theorem gb_get {σ : Store} {a ep : Nat} {x : Blk} : getBlk σ a ep = some x ↔ σ[a]? = some x ∧ x.elems.length = ep := by
  unfold getBlk
  cases h : σ[a]? with
  | none => simp
  | some b =>
    simp only
    cases hb : b.elems.length == ep
    · simp only [cond_false]
      constructor
      · intro h; cases h
      · rintro ⟨h1, h2⟩
        cases h1
        rw [h2] at hb
        simp at hb
    · simp only [cond_true]
      constructor
      · intro h; cases h; exact ⟨rfl, by simpa using hb⟩
      · rintro ⟨h1, -⟩; exact h1
theorem gb_lt {σ : Store} {a ep : Nat} {x : Blk} (h : getBlk σ a ep = some x) : a < σ.length := by
  obtain ⟨h1, -⟩ := gb_get.1 h
  exact (List.getElem?_eq_some_iff.1 h1).1
theorem gb_set (σ : Store) (a ep : Nat) (x : Blk) (h : a < σ.length) : getBlk (σ.set a x) a ep = bif x.elems.length == ep then some x else none := by
  unfold getBlk
  rw [List.getElem?_set_self h]
theorem gb_set_ne (σ : Store) (a g ep : Nat) (x : Blk) (h : a ≠ g) : getBlk (σ.set a x) g ep = getBlk σ g ep := by
  unfold getBlk
  rw [List.getElem?_set_ne h]
theorem gb_app (σ r : Store) (a ep : Nat) (h : a < σ.length) : getBlk (σ ++ r) a ep = getBlk σ a ep := by
  unfold getBlk
  rw [List.getElem?_append_left h]
theorem gb_app2 (σ r : Store) (k ep : Nat) : getBlk (σ ++ r) (σ.length + k) ep = getBlk r k ep := by
  unfold getBlk
  rw [List.getElem?_append_right (Nat.le_add_right _ _), Nat.add_sub_cancel_left]
theorem gb_app0 (σ r : Store) (ep : Nat) : getBlk (σ ++ r) σ.length ep = getBlk r 0 ep := gb_app2 σ r 0 ep
theorem set_app (σ r : Store) (a : Nat) (x : Blk) (h : a < σ.length) : (σ ++ r).set a x = σ.set a x ++ r := List.set_append_left _ _ h
theorem set_app2 (σ r : Store) (k : Nat) (x : Blk) : (σ ++ r).set (σ.length + k) x = σ ++ r.set k x := by
  rw [List.set_append_right _ _ (Nat.le_add_right _ _), Nat.add_sub_cancel_left]
theorem set_app0 (σ r : Store) (x : Blk) : (σ ++ r).set σ.length x = σ ++ r.set 0 x := set_app2 σ r 0 x
theorem set_set (σ : Store) (a : Nat) (x y : Blk) : (σ.set a x).set a y = σ.set a y := List.set_set _
theorem gb_sapp (σ r : Store) (a ep : Nat) (x : Blk) (h : a < σ.length) : getBlk (σ.set a x ++ r) a ep = bif x.elems.length == ep then some x else none := by
  rw [gb_app _ _ _ _ (by rw [List.length_set]; exact h), gb_set _ _ _ _ h]
theorem set_sapp (σ r : Store) (a : Nat) (x y : Blk) (h : a < σ.length) : (σ.set a x ++ r).set a y = σ.set a y ++ r := by
  rw [set_app _ _ _ _ (by rw [List.length_set]; exact h), set_set]
theorem trim_same (σ : Store) (v : AV) : trimR σ.length (v, σ) = (v, σ) := by
  unfold trimR
  simp only [List.take_length, Bool.cond_self]
def pS (a : Nat) (u : Bool) : AV := bif u then .tptr 71 3 a 0 else .d (.lit (.pointer none))
theorem q81_n (σ : Store) (a : Nat) (P : AV) (b : Bool) (h : getBlk σ a 1 = some ⟨3, [.agg [P, .snil, .d (.lit (.bool b))]], false, false, false⟩) (hP : P = .tptr 71 3 a 0 ∨ P = .d (.lit (.pointer none))) :
    Option.map (trimR (List.length σ)) (C 81 [.tptr 71 3 a 0] σ) = some (.d (.lit (.int .i64 0)), σ) := by
  rw [q81]
  rcases hP with rfl | rfl <;> simp -implicitDefEqProofs (maxSteps := 10000000) (disch := omega) only [go_sem, Int.reduceAdd, Int.reduceSub, Int.reduceMul, dec_t, dec_f, Nat.reduceBEq, Nat.reduceBNe, reduceShiftRight, reduceAnd, Nat.reduceAdd, Nat.reduceSub, reduceEqDiff, Nat.reduceLT, reduceLeDiff, reduceToNat, Int.reduceLT, Int.reduceLE, Int.reduceEq, reduceIte, reduceCtorEq, h, List.take_length, Bool.cond_self]
theorem q81_s (σ : Store) (a : Nat) (P : AV) (b : Bool) (k n : Nat) (h : getBlk σ a 1 = some ⟨3, [.agg [P, .tsref 5 k n 1 n, .d (.lit (.bool b))]], false, false, false⟩) (hP : P = .tptr 71 3 a 0 ∨ P = .d (.lit (.pointer none))) :
    Option.map (trimR (List.length σ)) (C 81 [.tptr 71 3 a 0] σ) = some (.d (.lit (.int .i64 n)), σ) := by
  rw [q81]
  rcases hP with rfl | rfl <;> simp -implicitDefEqProofs (maxSteps := 10000000) (disch := omega) only [go_sem, Int.reduceAdd, Int.reduceSub, Int.reduceMul, dec_t, dec_f, Nat.reduceBEq, Nat.reduceBNe, reduceShiftRight, reduceAnd, Nat.reduceAdd, Nat.reduceSub, reduceEqDiff, Nat.reduceLT, reduceLeDiff, reduceToNat, Int.reduceLT, Int.reduceLE, Int.reduceEq, reduceIte, reduceCtorEq, h, List.take_length, Bool.cond_self]
theorem cv_prim {f : Nat} {p : List AV → Store → Option (AV × Store)} (h : X.prim f = some p) (call : Eng.Call) (wr : Bool) (args : List AV) (st : Store) : callV X call wr f args st = p args st := by
  unfold callV
  rw [h]
theorem q96_n (call : Eng.Call) (wr : Bool) (σ : Store) (a : Nat) (V : AV) (b : Bool) (h : getBlk σ a 1 = some ⟨3, [.agg [.d (.lit (.pointer none)), V, .d (.lit (.bool b))]], false, false, false⟩) (hc : V.cells = [V]) :
    callV X call wr 96 [.tptr 71 3 a 0] σ = some (.tup [], σ.set a ⟨3, [.agg [.tptr 71 3 a 0, V, .d (.lit (.bool b))]], false, false, false⟩) := by
  rw [cv_prim (p := primCopyCheck) rfl]
  unfold primCopyCheck ldPtr0 stPtr0
  simp only [h]
  have e1 : Go.Eng.part PTI.agg PTI.size 0 (.agg [.d (.lit (.pointer none)), V, .d (.lit (.bool b))]) = some (.d (.lit (.pointer none))) := rfl
  have e2 : setPart 0 (.tptr 71 3 a 0) (.agg [.d (.lit (.pointer none)), V, .d (.lit (.bool b))]) = some (.agg [.tptr 71 3 a 0, V, .d (.lit (.bool b))]) := rfl
  simp only [Option.bind_some, List.getElem?_cons_zero, e1, isNull, cond_true, AV.cells, e2, Option.map_some]
  rfl
theorem q96_s (call : Eng.Call) (wr : Bool) (σ : Store) (a : Nat) (V : AV) (b : Bool) (h : getBlk σ a 1 = some ⟨3, [.agg [.tptr 71 3 a 0, V, .d (.lit (.bool b))]], false, false, false⟩) :
    callV X call wr 96 [.tptr 71 3 a 0] σ = some (.tup [], σ) := by
  rw [cv_prim (p := primCopyCheck) rfl]
  unfold primCopyCheck ldPtr0
  simp only [h]
  have e1 : Go.Eng.part PTI.agg PTI.size 0 (.agg [.tptr 71 3 a 0, V, .d (.lit (.bool b))]) = some (.tptr 71 3 a 0) := rfl
  simp only [Option.bind_some, List.getElem?_cons_zero, e1, isNull, isSelf, cond_false, beq_self_eq_true, Bool.and_self, cond_true]
def u8s (l : List UInt8) : List AV := l.map fun c => .d (.lit (.int .u8 c.toNat))
theorem u8_fold (l : List UInt8) : List.map (fun (c : UInt8) => AV.d (.lit (.int .u8 c.toNat))) l = u8s l := rfl
theorem u8_len (l : List UInt8) : (u8s l).length = l.length := List.length_map _
theorem u8_app (l s : List UInt8) : u8s l ++ u8s s = u8s (l ++ s) := (List.map_append).symm
theorem u8_fit : ∀ l : List UInt8, fitL 1 (u8s l) = true
  | [] => rfl
  | c :: l => by
    show (_ && fitL 1 (u8s l)) = true
    rw [u8_fit l]; rfl
theorem u8_fz (σ : Store) : ∀ l : List UInt8, List.map (fzE σ) (u8s l) = u8s l
  | [] => rfl
  | c :: l => by
    show _ :: List.map (fzE σ) (u8s l) = _
    rw [u8_fz σ l]; rfl
theorem u8_emp (c : UInt8) (l : List UInt8) : (u8s (c :: l)).isEmpty = false := rfl
theorem below_get {n : Nat} : ∀ {σ : Store} {a : Nat} {x : Blk}, belowB n σ = true → σ[a]? = some x → AV.under1s n x.elems = true
  | b :: r, 0, x, h, hx => by
    simp only [List.getElem?_cons_zero, Option.some.injEq] at hx
    subst hx
    simp only [belowB, Bool.and_eq_true] at h
    exact h.1
  | b :: r, a + 1, x, h, hx => by
    simp only [belowB, Bool.and_eq_true] at h
    exact below_get h.2 (by simpa using hx)
theorem trim_len {n : Nat} {σ : Store} (h : σ.length = n) (v : AV) : trimR n (v, σ) = (v, σ) := by subst h; exact trim_same σ v
theorem nblt_self (n : Nat) : Nat.blt n n = false := Bool.eq_false_iff.2 (fun h => by have := Nat.le_of_ble_eq_true h; omega)
theorem trim_no {n a : Nat} {σ : Store} {x : Blk} (h : σ[a]? = some x) (ha : a < n) (hx : AV.under1s n x.elems = false) (v : AV) : trimR n (v, σ) = (v, σ) := by
  unfold trimR
  simp only
  have : belowB n (σ.take n) = false := by
    cases hb : belowB n (σ.take n) with
    | false => rfl
    | true =>
      have := below_get hb (show (σ.take n)[a]? = some x by rw [List.getElem?_take_of_lt ha, h])
      rw [hx] at this; cases this
  rw [this, Bool.and_false]; rfl
theorem cA_ni : constAV Value.nilIface = .d (.lit .nilIface) := rfl
theorem tr_of {n : Nat} {c : R} {v : AV} {σ : Store} (h : c = some (v, σ)) (ht : trimR n (v, σ) = (v, σ)) : Option.map (trimR n) c = some (v, σ) := by rw [h, Option.map_some, ht]
theorem q82_s (σ : Store) (a k : Nat) (b : Bool) (l s : List UInt8) (hl : (l ++ s).length ≤ 2 ^ 29) (ha : a ≠ k) (h : getBlk σ a 1 = some ⟨3, [.agg [.tptr 71 3 a 0, .tsref 5 k l.length 1 l.length, .d (.lit (.bool b))]], false, false, false⟩)
    (hk : getBlk σ k l.length = some ⟨1, u8s l, true, true, false⟩) :
    Option.map (trimR (List.length σ)) (C 82 [.tptr 71 3 a 0, .d (.str s)] σ) = some (.tup [.d (.lit (.int .i64 s.length)), .d (.lit .nilIface)], (σ.set k ⟨1, u8s (l ++ s), true, true, false⟩).set a ⟨3, [.agg [.tptr 71 3 a 0, .tsref 5 k (l.length + s.length) 1 (l.length + s.length), .d (.lit (.bool b))]], false, false, false⟩) := by
  have h9 := q96_s C false σ a _ _ h
  have hka : k ≠ a := fun e => ha e.symm
  rw [List.length_append] at hl
  refine tr_of ?_ (trim_len (by simp) _)
  rw [q82]
  simp -implicitDefEqProofs (maxSteps := 10000000) (disch := omega) only [go_sem, Int.reduceAdd, Int.reduceSub, Int.reduceMul, dec_t, dec_f, Nat.reduceBEq, Nat.reduceBNe, reduceShiftRight, reduceAnd, Nat.reduceAdd, Nat.reduceSub, reduceEqDiff, Nat.reduceLT, reduceLeDiff, reduceToNat, Int.reduceLT, Int.reduceLE, Int.reduceEq, reduceIte, reduceCtorEq, h, h9, hk, u8_fold, u8_fit, u8_len, u8_fz, u8_app, gb_set_ne, cA_ni]
theorem q82_z (σ : Store) (a : Nat) (P : AV) (b : Bool) (h : getBlk σ a 1 = some ⟨3, [.agg [P, .snil, .d (.lit (.bool b))]], false, false, false⟩) (hP : P = .tptr 71 3 a 0 ∨ P = .d (.lit (.pointer none))) :
    Option.map (trimR (List.length σ)) (C 82 [.tptr 71 3 a 0, .d (.str [])] σ) = some (.tup [.d (.lit (.int .i64 0)), .d (.lit .nilIface)], σ.set a ⟨3, [.agg [.tptr 71 3 a 0, .snil, .d (.lit (.bool b))]], false, false, false⟩) := by
  have hlt := gb_lt h
  refine tr_of ?_ (trim_len (by simp) _)
  rw [q82]
  rcases hP with rfl | rfl
  · have h9 := q96_s C false σ a _ _ h
    simp -implicitDefEqProofs (maxSteps := 10000000) (disch := omega) only [go_sem, Int.reduceAdd, Int.reduceSub, Int.reduceMul, dec_t, dec_f, Nat.reduceBEq, Nat.reduceBNe, reduceShiftRight, reduceAnd, Nat.reduceAdd, Nat.reduceSub, reduceEqDiff, Nat.reduceLT, reduceLeDiff, reduceToNat, Int.reduceLT, Int.reduceLE, Int.reduceEq, reduceIte, reduceCtorEq, h, h9, cA_ni]
    rfl
  · have h9 := q96_n C false σ a _ _ h rfl
    simp -implicitDefEqProofs (maxSteps := 10000000) (disch := omega) only [go_sem, Int.reduceAdd, Int.reduceSub, Int.reduceMul, dec_t, dec_f, Nat.reduceBEq, Nat.reduceBNe, reduceShiftRight, reduceAnd, Nat.reduceAdd, Nat.reduceSub, reduceEqDiff, Nat.reduceLT, reduceLeDiff, reduceToNat, Int.reduceLT, Int.reduceLE, Int.reduceEq, reduceIte, reduceCtorEq, h, h9, gb_set, set_set, cA_ni]
    rfl
theorem q82_n (σ : Store) (a : Nat) (P : AV) (b : Bool) (c : UInt8) (s : List UInt8) (hl : s.length ≤ 2 ^ 29) (h : getBlk σ a 1 = some ⟨3, [.agg [P, .snil, .d (.lit (.bool b))]], false, false, false⟩) (hP : P = .tptr 71 3 a 0 ∨ P = .d (.lit (.pointer none))) :
    Option.map (trimR (List.length σ)) (C 82 [.tptr 71 3 a 0, .d (.str (c :: s))] σ) = some (.tup [.d (.lit (.int .i64 ((s.length + 1 : Nat) : Int))), .d (.lit .nilIface)], σ.set a ⟨3, [.agg [.tptr 71 3 a 0, .tsref 5 σ.length (s.length + 1) 1 (s.length + 1), .d (.lit (.bool b))]], false, false, false⟩ ++ [⟨1, u8s (c :: s), true, true, false⟩]) := by
  have hlt := gb_lt h
  refine tr_of ?_ (trim_no (a := a) (by rw [List.getElem?_append_left (by simpa using hlt), List.getElem?_set_self hlt]) hlt (by simp [AV.under1s, AV.under1, nblt_self]) _)
  rw [q82]
  rcases hP with rfl | rfl
  · have h9 := q96_s C false σ a _ _ h
    simp -implicitDefEqProofs (maxSteps := 10000000) (disch := omega) only [go_sem, Int.reduceAdd, Int.reduceSub, Int.reduceMul, dec_t, dec_f, Nat.reduceBEq, Nat.reduceBNe, reduceShiftRight, reduceAnd, Nat.reduceAdd, Nat.reduceSub, reduceEqDiff, Nat.reduceLT, reduceLeDiff, reduceToNat, Int.reduceLT, Int.reduceLE, Int.reduceEq, reduceIte, reduceCtorEq, h, h9, u8_fold, u8_emp, u8_fit, u8_len, u8_fz, gb_app, set_app, cA_ni]
    done
  · have h9 := q96_n C false σ a _ _ h rfl
    simp -implicitDefEqProofs (maxSteps := 10000000) (disch := omega) only [go_sem, Int.reduceAdd, Int.reduceSub, Int.reduceMul, dec_t, dec_f, Nat.reduceBEq, Nat.reduceBNe, reduceShiftRight, reduceAnd, Nat.reduceAdd, Nat.reduceSub, reduceEqDiff, Nat.reduceLT, reduceLeDiff, reduceToNat, Int.reduceLT, Int.reduceLE, Int.reduceEq, reduceIte, reduceCtorEq, h, h9, u8_fold, u8_emp, u8_fit, u8_len, u8_fz, gb_sapp, set_sapp, gb_set, set_set, List.length_set, cA_ni]
    done
def Sh (σ : Store) (a : Nat) (b : Bool) (l : List UInt8) : Option Nat → Prop
  | none => l = [] ∧ ∃ P, (P = .tptr 71 3 a 0 ∨ P = .d (.lit (.pointer none))) ∧ getBlk σ a 1 = some ⟨3, [.agg [P, .snil, .d (.lit (.bool b))]], false, false, false⟩
  | some k => l ≠ [] ∧ a ≠ k ∧ getBlk σ a 1 = some ⟨3, [.agg [.tptr 71 3 a 0, .tsref 5 k l.length 1 l.length, .d (.lit (.bool b))]], false, false, false⟩ ∧ getBlk σ k l.length = some ⟨1, u8s l, true, true, false⟩
def Fr (σ σ' : Store) (a : Nat) (g g' : Option Nat) : Prop :=
  σ.length ≤ σ'.length ∧ (∀ i, i < σ.length → i ≠ a → g ≠ some i → σ'[i]? = σ[i]?) ∧ (g' = g ∨ (g = none ∧ ∃ k, g' = some k ∧ σ.length ≤ k))
theorem Sh.lt {σ a b l g} (h : Sh σ a b l g) : a < σ.length := by
  cases g with
  | none => obtain ⟨-, P, -, h⟩ := h; exact gb_lt h
  | some k => obtain ⟨-, -, h, -⟩ := h; exact gb_lt h
theorem Sh_n {σ : Store} {a : Nat} (h : a < σ.length) {P : AV} (hP : P = .tptr 71 3 a 0 ∨ P = .d (.lit (.pointer none))) (b : Bool) (r : Store) : Sh (σ.set a ⟨3, [.agg [P, .snil, .d (.lit (.bool b))]], false, false, false⟩ ++ r) a b [] none :=
  ⟨rfl, P, hP, by rw [gb_sapp _ _ _ _ _ h]; rfl⟩
theorem Sh_s {σ : Store} {a k : Nat} (h : a < σ.length) {l : List UInt8} (h0 : l ≠ []) (hak : a ≠ k) (b : Bool) (r : Store) (hk : getBlk (σ.set a ⟨3, [.agg [.tptr 71 3 a 0, .tsref 5 k l.length 1 l.length, .d (.lit (.bool b))]], false, false, false⟩ ++ r) k l.length = some ⟨1, u8s l, true, true, false⟩) :
    Sh (σ.set a ⟨3, [.agg [.tptr 71 3 a 0, .tsref 5 k l.length 1 l.length, .d (.lit (.bool b))]], false, false, false⟩ ++ r) a b l (some k) :=
  ⟨h0, hak, by rw [gb_sapp _ _ _ _ _ h]; rfl, hk⟩
theorem Fr_set (σ : Store) (a : Nat) (x : Blk) (r : Store) (g : Option Nat) : Fr σ (σ.set a x ++ r) a g g := by
  refine ⟨by simp, fun i hi hia _ => ?_, .inl rfl⟩
  rw [List.getElem?_append_left (by simpa using hi), List.getElem?_set_ne (fun e => hia e.symm)]
theorem Fr_set2 (σ : Store) (a k : Nat) (x y : Blk) (r : Store) : Fr σ ((σ.set k x).set a y ++ r) a (some k) (some k) := by
  refine ⟨by simp, fun i hi hia hk => ?_, .inl rfl⟩
  rw [List.getElem?_append_left (by simpa using hi), List.getElem?_set_ne (fun e => hia e.symm), List.getElem?_set_ne (fun e => hk (by rw [e]))]
theorem Fr_new (σ : Store) (a : Nat) (x : Blk) (r : Store) : Fr σ (σ.set a x ++ r) a none (some σ.length) := by
  obtain ⟨h1, h2, -⟩ := Fr_set σ a x r none
  exact ⟨h1, h2, .inr ⟨rfl, _, rfl, Nat.le_refl _⟩⟩
theorem q62_at {σ : Store} {a : Nat} {b : Bool} {l : List UInt8} {g : Option Nat} (h : Sh σ a b l g) (s : List UInt8) (hl : l.length ≤ 4000) (hs : s.length ≤ 2 ^ 30) :
    ∃ (σ' : Store) (l' : List UInt8) (g' : Option Nat), Option.map (trimR (List.length σ)) (C 62 [.tptr 71 3 a 0, .d (.str s)] σ) = some (.tup [], σ') ∧
      Sh σ' a (b || decide (4000 < l.length + s.length)) l' g' ∧ Fr σ σ' a g g' ∧ l'.length ≤ 4000 ∧ (b = false → l.length + s.length ≤ 4000 → l' = l ++ s) ∧ (b = true → l' = l) := by
  have hlt := h.lt
  cases g with
  | none =>
    obtain ⟨rfl, P, hP, hA⟩ := h
    have h81 := q81_n σ a P b hA hP
    rw [List.length_nil, Nat.zero_add]
    by_cases hb : b = true
    · subst hb
      refine ⟨σ.set a ⟨3, [.agg [P, .snil, .d (.lit (.bool true))]], false, false, false⟩ ++ [], [], none, tr_of ?_ (trim_len (by simp) _), Sh_n hlt hP _ _, Fr_set _ _ _ _ _, by simp, fun h => by simp at h, fun _ => rfl⟩
      rw [q62]
      rcases hP with rfl | rfl <;> (simp -implicitDefEqProofs (maxSteps := 10000000) (disch := omega) only [go_sem, Int.reduceAdd, Int.reduceSub, Int.reduceMul, dec_t, dec_f, Nat.reduceBEq, Nat.reduceBNe, reduceShiftRight, reduceAnd, Nat.reduceAdd, Nat.reduceSub, reduceEqDiff, Nat.reduceLT, reduceLeDiff, reduceToNat, Int.reduceLT, Int.reduceLE, Int.reduceEq, reduceIte, reduceCtorEq, hA, gb_set, set_set])
    · have hb : b = false := by simpa using hb
      subst hb
      by_cases hc : 4000 < s.length
      · rw [decide_eq_true hc]
        refine ⟨σ.set a ⟨3, [.agg [P, .snil, .d (.lit (.bool true))]], false, false, false⟩ ++ [], [], none, tr_of ?_ (trim_len (by simp) _), Sh_n hlt hP _ _, Fr_set _ _ _ _ _, by simp, fun _ h => by omega, fun _ => rfl⟩
        rw [q62]
        rcases hP with rfl | rfl <;> (simp -implicitDefEqProofs (maxSteps := 10000000) (disch := omega) only [go_sem, Int.reduceAdd, Int.reduceSub, Int.reduceMul, dec_t, dec_f, Nat.reduceBEq, Nat.reduceBNe, reduceShiftRight, reduceAnd, Nat.reduceAdd, Nat.reduceSub, reduceEqDiff, Nat.reduceLT, reduceLeDiff, reduceToNat, Int.reduceLT, Int.reduceLE, Int.reduceEq, reduceIte, reduceCtorEq, hA, h81, gb_set, set_set])
      · rw [decide_eq_false hc]
        have hg := gb_set σ a 1 ⟨3, [.agg [P, .snil, .d (.lit (.bool false))]], false, false, false⟩ hlt
        cases s with
        | nil =>
          have h82 := q82_z _ a P false hg hP
          refine ⟨σ.set a ⟨3, [.agg [.tptr 71 3 a 0, .snil, .d (.lit (.bool false))]], false, false, false⟩ ++ [], [], none, tr_of ?_ (trim_len (by simp) _), Sh_n hlt (.inl rfl) _ _, Fr_set _ _ _ _ _, by simp, fun _ _ => rfl, fun h => by simp at h⟩
          rw [q62]
          rcases hP with rfl | rfl <;> (simp -implicitDefEqProofs (maxSteps := 10000000) (disch := omega) only [go_sem, Int.reduceAdd, Int.reduceSub, Int.reduceMul, dec_t, dec_f, Nat.reduceBEq, Nat.reduceBNe, reduceShiftRight, reduceAnd, Nat.reduceAdd, Nat.reduceSub, reduceEqDiff, Nat.reduceLT, reduceLeDiff, reduceToNat, Int.reduceLT, Int.reduceLE, Int.reduceEq, reduceIte, reduceCtorEq, hA, h81, gb_set, set_set, h82])
        | cons c s =>
          simp only [List.length_cons] at hc hs
          have h82 := q82_n _ a P false c s (by omega) hg hP
          rw [List.length_set, set_set] at h82
          refine ⟨σ.set a ⟨3, [.agg [.tptr 71 3 a 0, .tsref 5 σ.length (c :: s).length 1 (c :: s).length, .d (.lit (.bool false))]], false, false, false⟩ ++ [⟨1, u8s (c :: s), true, true, false⟩], c :: s, some σ.length, tr_of ?_ (trim_no (a := a) (by rw [List.getElem?_append_left (by simpa using hlt), List.getElem?_set_self hlt]) hlt (by simp [AV.under1s, AV.under1, nblt_self]) _),
            Sh_s hlt (by simp) (by omega) _ _ (by
              have := gb_app0 (σ.set a ⟨3, [.agg [.tptr 71 3 a 0, .tsref 5 σ.length (c :: s).length 1 (c :: s).length, .d (.lit (.bool false))]], false, false, false⟩) [⟨1, u8s (c :: s), true, true, false⟩] (c :: s).length
              rw [List.length_set] at this
              rw [this, gb_0, u8_len, beq_self_eq_true]; rfl), Fr_new _ _ _ _, by simp only [List.length_cons]; omega, fun _ _ => rfl, fun h => by simp at h⟩
          rw [q62]
          rcases hP with rfl | rfl <;> (simp -implicitDefEqProofs (maxSteps := 10000000) (disch := omega) only [go_sem, Int.reduceAdd, Int.reduceSub, Int.reduceMul, dec_t, dec_f, Nat.reduceBEq, Nat.reduceBNe, reduceShiftRight, reduceAnd, Nat.reduceAdd, Nat.reduceSub, reduceEqDiff, Nat.reduceLT, reduceLeDiff, reduceToNat, Int.reduceLT, Int.reduceLE, Int.reduceEq, reduceIte, reduceCtorEq, hA, h81, gb_set, set_set, List.length_set, h82])
  | some k =>
    obtain ⟨h0, hak, hA, hK⟩ := h
    have h81 := q81_s σ a _ b k l.length hA (.inl rfl)
    have hka : k ≠ a := fun e => hak e.symm
    by_cases hb : b = true
    · subst hb
      refine ⟨σ.set a ⟨3, [.agg [.tptr 71 3 a 0, .tsref 5 k l.length 1 l.length, .d (.lit (.bool true))]], false, false, false⟩ ++ [], l, some k, tr_of ?_ (trim_len (by simp) _), Sh_s hlt h0 hak _ _ (by rw [List.append_nil, gb_set_ne _ _ _ _ _ hak, hK]), Fr_set _ _ _ _ _, hl, fun h => by simp at h, fun _ => rfl⟩
      rw [q62]
      simp -implicitDefEqProofs (maxSteps := 10000000) (disch := omega) only [go_sem, Int.reduceAdd, Int.reduceSub, Int.reduceMul, dec_t, dec_f, Nat.reduceBEq, Nat.reduceBNe, reduceShiftRight, reduceAnd, Nat.reduceAdd, Nat.reduceSub, reduceEqDiff, Nat.reduceLT, reduceLeDiff, reduceToNat, Int.reduceLT, Int.reduceLE, Int.reduceEq, reduceIte, reduceCtorEq, hA, gb_set, set_set]
    · have hb : b = false := by simpa using hb
      subst hb
      by_cases hc : 4000 < l.length + s.length
      · rw [decide_eq_true hc]
        refine ⟨σ.set a ⟨3, [.agg [.tptr 71 3 a 0, .tsref 5 k l.length 1 l.length, .d (.lit (.bool true))]], false, false, false⟩ ++ [], l, some k, tr_of ?_ (trim_len (by simp) _), Sh_s hlt h0 hak _ _ (by rw [List.append_nil, gb_set_ne _ _ _ _ _ hak, hK]), Fr_set _ _ _ _ _, hl, fun _ h => by omega, fun _ => rfl⟩
        rw [q62]
        simp -implicitDefEqProofs (maxSteps := 10000000) (disch := omega) only [go_sem, Int.reduceAdd, Int.reduceSub, Int.reduceMul, dec_t, dec_f, Nat.reduceBEq, Nat.reduceBNe, reduceShiftRight, reduceAnd, Nat.reduceAdd, Nat.reduceSub, reduceEqDiff, Nat.reduceLT, reduceLeDiff, reduceToNat, Int.reduceLT, Int.reduceLE, Int.reduceEq, reduceIte, reduceCtorEq, hA, h81, gb_set, set_set]
      · rw [decide_eq_false hc]
        have hg := gb_set σ a 1 ⟨3, [.agg [.tptr 71 3 a 0, .tsref 5 k l.length 1 l.length, .d (.lit (.bool false))]], false, false, false⟩ hlt
        have hK' := gb_set_ne σ a k l.length ⟨3, [.agg [.tptr 71 3 a 0, .tsref 5 k l.length 1 l.length, .d (.lit (.bool false))]], false, false, false⟩ hak
        rw [hK] at hK'
        have h82 := q82_s _ a k false l s (by rw [List.length_append]; omega) hak hg hK'
        have hc2 : ∀ x y z : Blk, ((σ.set a x).set k y).set a z = (σ.set k y).set a z := by
          intro x y z
          rw [List.set_comm _ _ hak, set_set]
        rw [hc2] at h82
        refine ⟨(σ.set k ⟨1, u8s (l ++ s), true, true, false⟩).set a ⟨3, [.agg [.tptr 71 3 a 0, .tsref 5 k (l ++ s).length 1 (l ++ s).length, .d (.lit (.bool false))]], false, false, false⟩ ++ [], l ++ s, some k, tr_of ?_ (trim_len (by simp) _), Sh_s (by simpa using hlt) (by simp [h0]) hak _ _ (by
          rw [List.append_nil, gb_set_ne _ _ _ _ _ hak, gb_set _ _ _ _ (gb_lt hK), u8_len, beq_self_eq_true]; rfl), Fr_set2 _ _ _ _ _ _, by rw [List.length_append]; omega, fun _ _ => rfl, fun h => by simp at h⟩
        rw [q62]
        simp -implicitDefEqProofs (maxSteps := 10000000) (disch := omega) only [go_sem, Int.reduceAdd, Int.reduceSub, Int.reduceMul, dec_t, dec_f, Nat.reduceBEq, Nat.reduceBNe, reduceShiftRight, reduceAnd, Nat.reduceAdd, Nat.reduceSub, reduceEqDiff, Nat.reduceLT, reduceLeDiff, reduceToNat, Int.reduceLT, Int.reduceLE, Int.reduceEq, reduceIte, reduceCtorEq, hA, h81, gb_set, set_set, h82]
set_option maxRecDepth 10000
set_option maxHeartbeats 1000000
theorem Fr.trans {σ τ υ : Store} {a : Nat} {g g1 g2 : Option Nat} (h : Fr σ τ a g g1) (h2 : Fr τ υ a g1 g2) : Fr σ υ a g g2 := by
  obtain ⟨a1, a2, a3⟩ := h
  obtain ⟨b1, b2, b3⟩ := h2
  refine ⟨by omega, fun i hi hia hg => ?_, ?_⟩
  · rw [b2 i (by omega) hia ?_, a2 i hi hia hg]
    rcases a3 with rfl | ⟨rfl, k, rfl, hk⟩
    · exact hg
    · intro e; cases e; omega
  · rcases a3 with rfl | ⟨rfl, k, rfl, hk⟩
    · rcases b3 with rfl | ⟨rfl, k, rfl, hk⟩
      · exact .inl rfl
      · exact .inr ⟨rfl, k, rfl, by omega⟩
    · rcases b3 with rfl | ⟨h, _⟩
      · exact .inr ⟨rfl, k, rfl, hk⟩
      · cases h
theorem t63m (n : Nat) : ∃ (m : Int) (L : List UInt8), 0 ≤ m ∧ m ≤ 65535 ∧ (m = n ∧ L = lenB n ∨ 65535 < n ∧ m = 65535) ∧ L.length = (lenB n).length ∧ pureCall C 63 [.lit (.int .i64 m)] = some (.one (.d (.str L))) := by
  by_cases h : n ≤ 65535
  · exact ⟨n, lenB n, by omega, by omega, .inl ⟨rfl, rfl⟩, rfl, t63 n (by omega) (by omega)⟩
  · refine ⟨65535, _, by omega, by omega, .inr ⟨by omega, rfl⟩, ?_, t63 65535 (by omega) (by omega)⟩
    rw [lenB_len, lenB_len, if_neg (by decide), if_neg (by decide), if_neg (by omega), if_neg (by omega)]
theorem t38t {σ : Store} {a : Nat} {b : Bool} {l : List UInt8} {g : Option Nat} (h : Sh σ a b l g) (hl : l.length ≤ 4000) (tg : Int) (h0 : 0 ≤ tg) (h1 : tg < 256) (body : List UInt8) (hb : body.length ≤ 2 ^ 30) :
    ∃ (σ' : Store) (l' : List UInt8) (g' : Option Nat), n38_41 ⟨[(0, .tptr 71 3 a 0), (4, .d (.lit (.int .u8 tg))), (5, .d (.str body))], σ⟩ = some (.norm, ⟨[], σ'⟩) ∧
      (∀ A B, n38_41 ⟨[(0, .tptr 71 3 a 0), (3, A), (4, .d (.lit (.int .u8 tg))), (5, .d (.str body)), (23, B)], σ⟩ = some (.norm, ⟨[], σ'⟩)) ∧
      Sh σ' a (b || decide (4000 < l.length + 1 + (lenB body.length).length + body.length)) l' g' ∧ Fr σ σ' a g g' ∧ l'.length ≤ 4000 ∧ (b = false → l.length + 1 + (lenB body.length).length + body.length ≤ 4000 → l' = l ++ (UInt8.ofNat tg.toNat :: (lenB body.length ++ body))) := by
  obtain ⟨m, L, m0, m1, hm, ml, h63⟩ := t63m body.length
  obtain ⟨τ, l1, g1, c1, s1, f1, le1, e1, n1⟩ := q62_at h [UInt8.ofNat tg.toNat] hl (by simp)
  obtain ⟨υ, l2, g2, c2, s2, f2, le2, e2, n2⟩ := q62_at s1 L le1 (by rw [ml, lenB_len]; split <;> (try split) <;> omega)
  obtain ⟨φ, l3, g3, c3, s3, f3, le3, e3, n3⟩ := q62_at s2 body le2 hb
  have c4 : n38_41 ⟨[(0, .tptr 71 3 a 0), (4, .d (.lit (.int .u8 tg))), (5, .d (.str body))], σ⟩ = some (.norm, ⟨[], φ⟩) := by
    clear s1 f1 e1 n1 s2 f2 e2 n2 s3 f3 e3 n3
    rcases hm with ⟨rfl, hL⟩ | ⟨hm, rfl⟩
    · clear hL
      simp -implicitDefEqProofs (maxSteps := 10000000) (disch := omega) only [go_sem, Int.reduceAdd, Int.reduceSub, Int.reduceMul, dec_t, dec_f, Nat.reduceBEq, Nat.reduceBNe, reduceShiftRight, reduceAnd, Nat.reduceAdd, Nat.reduceSub, reduceEqDiff, Nat.reduceLT, reduceLeDiff, reduceToNat, Int.reduceLT, Int.reduceLE, Int.reduceEq, reduceIte, reduceCtorEq, c1, c2, c3, h63]
    · simp -implicitDefEqProofs (maxSteps := 10000000) (disch := omega) only [go_sem, Int.reduceAdd, Int.reduceSub, Int.reduceMul, dec_t, dec_f, Nat.reduceBEq, Nat.reduceBNe, reduceShiftRight, reduceAnd, Nat.reduceAdd, Nat.reduceSub, reduceEqDiff, Nat.reduceLT, reduceLeDiff, reduceToNat, Int.reduceLT, Int.reduceLE, Int.reduceEq, reduceIte, reduceCtorEq, c1, c2, c3, h63]
  have c5 : ∀ A B, n38_41 ⟨[(0, .tptr 71 3 a 0), (3, A), (4, .d (.lit (.int .u8 tg))), (5, .d (.str body)), (23, B)], σ⟩ = some (.norm, ⟨[], φ⟩) := by
    clear s1 f1 e1 n1 s2 f2 e2 n2 s3 f3 e3 n3 c4
    intro A B
    rcases hm with ⟨rfl, hL⟩ | ⟨hm, rfl⟩
    · clear hL
      simp -implicitDefEqProofs (maxSteps := 10000000) (disch := omega) only [go_sem, Int.reduceAdd, Int.reduceSub, Int.reduceMul, dec_t, dec_f, Nat.reduceBEq, Nat.reduceBNe, reduceShiftRight, reduceAnd, Nat.reduceAdd, Nat.reduceSub, reduceEqDiff, Nat.reduceLT, reduceLeDiff, reduceToNat, Int.reduceLT, Int.reduceLE, Int.reduceEq, reduceIte, reduceCtorEq, c1, c2, c3, h63]
    · simp -implicitDefEqProofs (maxSteps := 10000000) (disch := omega) only [go_sem, Int.reduceAdd, Int.reduceSub, Int.reduceMul, dec_t, dec_f, Nat.reduceBEq, Nat.reduceBNe, reduceShiftRight, reduceAnd, Nat.reduceAdd, Nat.reduceSub, reduceEqDiff, Nat.reduceLT, reduceLeDiff, reduceToNat, Int.reduceLT, Int.reduceLE, Int.reduceEq, reduceIte, reduceCtorEq, c1, c2, c3, h63]
  refine ⟨φ, l3, g3, c4, c5, ?_, (f1.trans f2).trans f3, le3, ?_⟩
  · have : (b || decide (4000 < l.length + [UInt8.ofNat tg.toNat].length) || decide (4000 < l1.length + L.length) || decide (4000 < l2.length + body.length)) = (b || decide (4000 < l.length + 1 + (lenB body.length).length + body.length)) := by
      cases b with
      | true => rfl
      | false =>
        simp only [Bool.false_or, List.length_singleton] at e1 e2 ⊢
        rw [Bool.eq_iff_iff]
        simp only [Bool.or_eq_true, decide_eq_true_eq]
        by_cases d1 : 4000 < l.length + 1
        · exact ⟨fun _ => by omega, fun _ => .inl (.inl d1)⟩
        · have w1 := e1 trivial (by omega)
          have q1 : l1.length = l.length + 1 := by rw [w1]; simp
          by_cases d2 : 4000 < l1.length + L.length
          · exact ⟨fun _ => by omega, fun _ => .inl (.inr d2)⟩
          · have w2 := e2 (decide_eq_false d1) (by omega)
            have q2 : l2.length = l1.length + L.length := by rw [w2]; simp
            exact ⟨fun _ => by omega, fun _ => .inr (by omega)⟩
    rw [← this]
    exact s3
  · intro hbf hle
    subst hbf
    rcases hm with ⟨-, hL⟩ | ⟨hm, -⟩
    · subst hL
      simp only [Bool.false_or, List.length_singleton] at e1 e2 e3
      have w1 := e1 trivial (by omega)
      have q1 : l1.length = l.length + 1 := by rw [w1]; simp
      have w2 := e2 (decide_eq_false (by omega)) (by omega)
      have q2 : l2.length = l1.length + (lenB body.length).length := by rw [w2]; simp
      have w3 := e3 (by rw [decide_eq_false (by omega), decide_eq_false (by omega)]; rfl) (by omega)
      rw [w3, w2, w1]
      simp
    · omega
theorem bytes8_u8 : ∀ l : List UInt8, bytes8 (u8s l) = some l
  | [] => rfl
  | c :: l => by
    show (bif decide (((UInt8.ofNat ((c.toNat : Int)).toNat).toNat : Int) = (c.toNat : Int)) then (bytes8 (u8s l)).map (UInt8.ofNat ((c.toNat : Int)).toNat :: ·) else none) = _
    rw [bytes8_u8 l, Int.toNat_natCast, UInt8.ofNat_toNat, decide_eq_true rfl]
    rfl
theorem q39_at {σ : Store} {a : Nat} {b : Bool} {l : List UInt8} {g : Option Nat} (h : Sh σ a b l g) (hl : l.length ≤ 4000) (call : Eng.Call) (wr : Bool) : callV X call wr 39 [.tptr 71 3 a 0] σ = some (.d (.str l), σ) := by
  rw [cv_prim (p := primString) rfl]
  unfold primString ldPtr0
  cases g with
  | none =>
    obtain ⟨rfl, P, hP, hA⟩ := h
    simp only [hA]
    rcases hP with rfl | rfl <;> rfl
  | some k =>
    obtain ⟨h0, hak, hA, hK⟩ := h
    simp only [hA]
    have e1 : Go.Eng.part STI.agg STI.size 1 (.agg [.tptr 71 3 a 0, .tsref 5 k l.length 1 l.length, .d (.lit (.bool b))]) = some (.tsref 5 k l.length 1 l.length) := rfl
    simp only [Option.bind_some, List.getElem?_cons_zero, e1, hK, beq_self_eq_true, cond_true]
    have e2 : Nat.ble l.length 1073741824 = true := by rw [Nat.ble_eq]; omega
    have e3 : (l.length == 0) = false := by simpa using h0
    rw [u8_len, beq_self_eq_true, e2, e3, bytes8_u8]
    rfl
set_option maxRecDepth 10000
set_option maxHeartbeats 1000000
theorem gb_congr {σ τ : Store} {i ep : Nat} (h : τ[i]? = σ[i]?) : getBlk τ i ep = getBlk σ i ep := by
  unfold getBlk
  rw [h]
theorem Sh.row_lt {σ a b l k} (h : Sh σ a b l (some k)) : k < σ.length := gb_lt h.2.2.2
theorem Sh.mono {σ τ : Store} {a : Nat} {b : Bool} {l : List UInt8} {g : Option Nat} (h : Sh σ a b l g) (ha : τ[a]? = σ[a]?) (hg : ∀ k, g = some k → τ[k]? = σ[k]?) : Sh τ a b l g := by
  cases g with
  | none => obtain ⟨h1, P, h2, h3⟩ := h; exact ⟨h1, P, h2, by rw [gb_congr ha, h3]⟩
  | some k => obtain ⟨h1, h2, h3, h4⟩ := h; exact ⟨h1, h2, by rw [gb_congr ha, h3], by rw [gb_congr (hg k rfl), h4]⟩
theorem Sh.app {σ : Store} {a : Nat} {b : Bool} {l : List UInt8} {g : Option Nat} (h : Sh σ a b l g) (r : Store) : Sh (σ ++ r) a b l g :=
  h.mono (List.getElem?_append_left h.lt) (fun k hk => by subst hk; exact List.getElem?_append_left h.row_lt)
theorem Fr_app (σ r : Store) (a : Nat) (g : Option Nat) : Fr σ (σ ++ r) a g g :=
  ⟨by simp, fun i hi _ _ => List.getElem?_append_left hi, .inl rfl⟩
theorem blt_lt {a n : Nat} (h : Nat.blt a n = true) : a < n := Nat.le_of_ble_eq_true h
theorem Sh.take {σ : Store} {a n : Nat} {b : Bool} {l : List UInt8} {g : Option Nat} (h : Sh σ a b l g) (ha : a < n) (hb : belowB n (σ.take n) = true) : Sh (σ.take n) a b l g := by
  have e1 : (σ.take n)[a]? = σ[a]? := List.getElem?_take_of_lt ha
  refine h.mono e1 (fun k hk => ?_)
  subst hk
  obtain ⟨-, -, h3, -⟩ := h
  have h5 := below_get hb (by rw [e1]; exact (gb_get.1 h3).1)
  have : k < n := by
    simp only [AV.under1s, AV.under1, Bool.and_eq_true] at h5
    exact blt_lt h5.1.2.1
  exact List.getElem?_take_of_lt this
theorem Fr.take {σ τ : Store} {a : Nat} {b : Bool} {l : List UInt8} {g g' : Option Nat} (h : Fr σ τ a g g') (hs : Sh (τ.take σ.length) a b l g') : Fr σ (τ.take σ.length) a g g' := by
  obtain ⟨h1, h2, h3⟩ := h
  refine ⟨by rw [List.length_take]; omega, fun i hi hia hg => by rw [List.getElem?_take_of_lt hi, h2 i hi hia hg], ?_⟩
  rcases h3 with h3 | ⟨rfl, k, rfl, hk⟩
  · exact .inl h3
  · have := hs.row_lt
    rw [List.length_take] at this
    omega
theorem trim_Sh {σ τ : Store} {a : Nat} {b : Bool} {l : List UInt8} {g g' : Option Nat} (h : Fr σ τ a g g') (hs : Sh τ a b l g') (ha : a < σ.length) : ∃ υ, trimR σ.length (.tup [], τ) = (.tup [], υ) ∧ Sh υ a b l g' ∧ Fr σ υ a g g' := by
  unfold trimR
  cases hb : belowB σ.length (τ.take σ.length) with
  | true =>
    have := hs.take ha hb
    exact ⟨τ.take σ.length, by simp only [AV.under1, AV.under1s, hb, Bool.and_self, cond_true], this, h.take this⟩
  | false => exact ⟨τ, by simp only [hb, Bool.and_false, cond_false], hs, h⟩
def Lay (e : Eo) : Prop := ∀ (σ : Store) (a : Nat) (b : Bool) (l : List UInt8) (g : Option Nat), Sh σ a b l g → l.length ≤ 4000 →
  ∃ (σ' : Store) (l' : List UInt8) (g' : Option Nat), C 38 [.tptr 71 3 a 0, .d (.agg [.lit (.int .i64 (cls e)), .lit (.bool (made e)), .lit (.int .i64 (num e)), .str (bs (cont e)), .sl (List.map encE (els e))])] σ = some (.tup [], σ') ∧ Sh σ' a (b || decide (4000 < l.length + (encB e).length)) l' g' ∧ Fr σ σ' a g g' ∧ l'.length ≤ 4000 ∧ (b = false → l.length + (encB e).length ≤ 4000 → l' = l ++ encB e)
theorem t38k (e : Eo) (a c : Nat) (tg : AV) (htg : ∀ n, AV.under1 n tg = true) (IH : ∀ g ∈ els e, Lay g) (hle : (els e).length ≤ 2 ^ 30) : ∀ (r acc : List Eo) (x : Int) (τ : Store) (li : List UInt8) (gi : Option Nat), els e = acc ++ r → x = (acc.length : Nat) → a < List.length τ →
    Sh τ c (decide (4000 < (catB acc).length)) li gi → li.length ≤ 4000 → ((catB acc).length ≤ 4000 → li = catB acc) →
    ∃ (τ' : Store) (li' : List UInt8) (gi' : Option Nat) (x' : AV), n38_24 ⟨[(0, .tptr 71 3 a 0), (4, tg), (6, .tptr 71 3 c 0), (27, .d (.sl (List.map encE (els e)))), (28, .d (.lit (.int .i64 ((els e).length : Nat)))), (29, .d (.lit (.int .i64 x)))], τ⟩ =
      some (.exit 0, ⟨[(0, .tptr 71 3 a 0), (4, tg), (6, .tptr 71 3 c 0), (27, .d (.sl (List.map encE (els e)))), (28, .d (.lit (.int .i64 ((els e).length : Nat)))), (29, x'), (30, .d (.lit (.bool false)))], τ'⟩) ∧
      Sh τ' c (decide (4000 < (catB (els e)).length)) li' gi' ∧ Fr τ τ' c gi gi' ∧ li'.length ≤ 4000 ∧ ((catB (els e)).length ≤ 4000 → li' = catB (els e)) := by
  intro r
  induction r with
  | nil =>
    intro acc x τ li gi h0 hx ha hs hl hi
    rw [List.append_nil] at h0
    rw [← h0] at hs hi hx
    refine ⟨τ, li, gi, .d (.lit (.int .i64 x)), ?_, hs, ⟨Nat.le_refl _, fun _ _ _ _ => rfl, .inl rfl⟩, hl, hi⟩
    rw [r_n38_24]
    simp -implicitDefEqProofs (maxSteps := 10000000) (disch := omega) only [go_sem, Int.reduceAdd, Int.reduceSub, Int.reduceMul, dec_t, dec_f, Nat.reduceBEq, Nat.reduceBNe, reduceShiftRight, reduceAnd, Nat.reduceAdd, Nat.reduceSub, reduceEqDiff, Nat.reduceLT, reduceLeDiff, reduceToNat, Int.reduceLT, Int.reduceLE, Int.reduceEq, reduceIte, reduceCtorEq]
    done
  | cons d r ih =>
    intro acc x τ li gi h0 hx ha hs hl hi
    have hc := hs.lt
    have hlen : (els e).length = acc.length + (r.length + 1) := by rw [h0, List.length_append]; rfl
    have hget : (els e)[acc.length]? = some d := by rw [h0]; simp
    have hnat : Int.toNat x = acc.length := by omega
    obtain ⟨τ2, l2, g2, c2, s2, f2, k2, e2⟩ := IH d (by rw [h0]; simp) _ _ _ _ _ (hs.app [⟨5, [.d (.agg [.lit (.int .i64 (cls d)), .lit (.bool (made d)), .lit (.int .i64 (num d)), .str (bs (cont d)), .sl (List.map encE (els d))])], false, false, false⟩]) hl
    obtain ⟨τ3, c3, s3, f3⟩ := trim_Sh f2 s2 (by rw [List.length_append]; omega)
    have f3' := (Fr_app τ [⟨5, [.d (.agg [.lit (.int .i64 (cls d)), .lit (.bool (made d)), .lit (.int .i64 (num d)), .str (bs (cont d)), .sl (List.map encE (els d))])], false, false, false⟩] c gi).trans f3
    have hcat : (catB (acc ++ [d])).length = (catB acc).length + (encB d).length := by rw [catB_app, catB_one, List.length_append]
    have hbig : (decide (4000 < (catB acc).length) || decide (4000 < li.length + (encB d).length)) = decide (4000 < (catB (acc ++ [d])).length) := by
      rw [Bool.eq_iff_iff]
      simp only [Bool.or_eq_true, decide_eq_true_eq]
      by_cases q : 4000 < (catB acc).length
      · exact ⟨fun _ => by omega, fun _ => .inl q⟩
      · have := hi (by omega)
        rw [this]
        exact ⟨fun _ => by omega, fun _ => .inr (by omega)⟩
    have e3 : (catB (acc ++ [d])).length ≤ 4000 → l2 = catB (acc ++ [d]) := by
      intro q
      have w := hi (by omega)
      rw [e2 (decide_eq_false (by omega)) (by rw [w]; omega), w, catB_app, catB_one]
    rw [hbig] at s3
    have c4 : Option.map (trimR (List.length τ + 1)) (C 38 [.tptr 71 3 c 0, .d (.agg [.lit (.int .i64 (cls d)), .lit (.bool (made d)), .lit (.int .i64 (num d)), .str (bs (cont d)), .sl (List.map encE (els d))])] (τ ++ [⟨5, [.d (.agg [.lit (.int .i64 (cls d)), .lit (.bool (made d)), .lit (.int .i64 (num d)), .str (bs (cont d)), .sl (List.map encE (els d))])], false, false, false⟩])) = some (.tup [], τ3) := by
      rw [List.length_append] at c3
      rw [c2, Option.map_some]
      exact congrArg some c3
    clear c2 c3
    cases hB : belowB (List.length τ) (List.take (List.length τ) τ3) with
    | true =>
      have s4 := s3.take hc hB
      have f4 := f3'.take s4
      obtain ⟨τ', li', gi', x', h1, h2, h3, h4, h5⟩ := ih (acc ++ [d]) (x + 1) (τ3.take (List.length τ)) l2 g2 (by rw [h0]; simp) (by rw [List.length_append, hx]; rfl) (by have := f4.1; omega) s4 k2 e3
      refine ⟨τ', li', gi', x', ?_, h2, f4.trans h3, h4, h5⟩
      clear ih IH
      rw [r_n38_24]
      simp -implicitDefEqProofs (maxSteps := 10000000) (disch := omega) only [go_sem, Int.reduceAdd, Int.reduceSub, Int.reduceMul, dec_t, dec_f, Nat.reduceBEq, Nat.reduceBNe, reduceShiftRight, reduceAnd, Nat.reduceAdd, Nat.reduceSub, reduceEqDiff, Nat.reduceLT, reduceLeDiff, reduceToNat, Int.reduceLT, Int.reduceLE, Int.reduceEq, reduceIte, reduceCtorEq, hget, hnat, gb_app0, set_app0, c4, hB, h1, htg]
      done
    | false =>
      obtain ⟨τ', li', gi', x', h1, h2, h3, h4, h5⟩ := ih (acc ++ [d]) (x + 1) τ3 l2 g2 (by rw [h0]; simp) (by rw [List.length_append, hx]; rfl) (by have := f3'.1; omega) s3 k2 e3
      refine ⟨τ', li', gi', x', ?_, h2, f3'.trans h3, h4, h5⟩
      clear ih IH
      rw [r_n38_24]
      simp -implicitDefEqProofs (maxSteps := 10000000) (disch := omega) only [go_sem, Int.reduceAdd, Int.reduceSub, Int.reduceMul, dec_t, dec_f, Nat.reduceBEq, Nat.reduceBNe, reduceShiftRight, reduceAnd, Nat.reduceAdd, Nat.reduceSub, reduceEqDiff, Nat.reduceLT, reduceLeDiff, reduceToNat, Int.reduceLT, Int.reduceLE, Int.reduceEq, reduceIte, reduceCtorEq, hget, hnat, gb_app0, set_app0, c4, hB, h1, htg]
      done
theorem t38m {τ : Store} {a c : Nat} {bi : Bool} {l li : List UInt8} {g gi : Option Nat} (h : Sh τ a false l g) (hc : Sh τ c bi li gi) (hac : a ≠ c) (h1 : gi ≠ some a) (hl : li.length ≤ 4000) (tg A B D E : AV) :
    ∃ τ' : Store, n38_37 ⟨[(0, .tptr 71 3 a 0), (4, tg), (6, .tptr 71 3 c 0), (27, A), (28, B), (29, D), (30, E)], τ⟩ = some (.norm, ⟨[(0, .tptr 71 3 a 0), (4, tg), (5, .d (.str li))], τ'⟩) ∧ Sh τ' a bi l g ∧ Fr τ τ' a g g := by
  have hlt := h.lt
  have hbig : ∃ P V, getBlk τ c 1 = some ⟨3, [.agg [P, V, .d (.lit (.bool bi))]], false, false, false⟩ ∧ P.cells = [P] ∧ V.cells = [V] := by
    cases gi with
    | none => obtain ⟨-, P, hP, h⟩ := hc; exact ⟨P, _, h, by rcases hP with rfl | rfl <;> rfl, rfl⟩
    | some k => obtain ⟨-, -, h, -⟩ := hc; exact ⟨_, _, h, rfl, rfl⟩
  obtain ⟨Pc, Vc, hC, hc1, hc2⟩ := hbig
  have hset : ∀ x, Sh (τ.set a x) c bi li gi := fun x => hc.mono (List.getElem?_set_ne hac) (fun k hk => List.getElem?_set_ne (fun e => h1 (by rw [hk, e])))
  cases g with
  | none =>
    obtain ⟨rfl, P, hP, hA⟩ := h
    refine ⟨τ.set a ⟨3, [.agg [P, .snil, .d (.lit (.bool bi))]], false, false, false⟩ ++ [], ?_, Sh_n hlt hP _ _, Fr_set _ _ _ _ _⟩
    have h39 := q39_at (hset ⟨3, [.agg [P, .snil, .d (.lit (.bool bi))]], false, false, false⟩) hl C false
    rcases hP with rfl | rfl <;> (simp -implicitDefEqProofs (maxSteps := 10000000) (disch := omega) only [go_sem, Int.reduceAdd, Int.reduceSub, Int.reduceMul, dec_t, dec_f, Nat.reduceBEq, Nat.reduceBNe, reduceShiftRight, reduceAnd, Nat.reduceAdd, Nat.reduceSub, reduceEqDiff, Nat.reduceLT, reduceLeDiff, reduceToNat, Int.reduceLT, Int.reduceLE, Int.reduceEq, reduceIte, reduceCtorEq, hA, hC, hc1, hc2, h39])
  | some k =>
    obtain ⟨h0, hak, hA, hK⟩ := h
    refine ⟨τ.set a ⟨3, [.agg [.tptr 71 3 a 0, .tsref 5 k l.length 1 l.length, .d (.lit (.bool bi))]], false, false, false⟩ ++ [], ?_, Sh_s hlt h0 hak _ _ (by rw [List.append_nil, gb_set_ne _ _ _ _ _ hak, hK]), Fr_set _ _ _ _ _⟩
    have h39 := q39_at (hset ⟨3, [.agg [.tptr 71 3 a 0, .tsref 5 k l.length 1 l.length, .d (.lit (.bool bi))]], false, false, false⟩) hl C false
    simp -implicitDefEqProofs (maxSteps := 10000000) (disch := omega) only [go_sem, Int.reduceAdd, Int.reduceSub, Int.reduceMul, dec_t, dec_f, Nat.reduceBEq, Nat.reduceBNe, reduceShiftRight, reduceAnd, Nat.reduceAdd, Nat.reduceSub, reduceEqDiff, Nat.reduceLT, reduceLeDiff, reduceToNat, Int.reduceLT, Int.reduceLE, Int.reduceEq, reduceIte, reduceCtorEq, hA, hC, hc1, hc2, h39]
theorem q38_at : ∀ (lv : Nat) (e : Eo), San lv e → Lay e
  | 0, e, h => h.elim
  | lv + 1, e, h => by
    intro σ a b l g hs hl
    obtain ⟨-, -, -, -, g5⟩ := tgN_fin h
    obtain ⟨e1, e2, e3, e4, e5, e6, e7⟩ := h
    have hlt := hs.lt
    have hgb : ∃ P V, getBlk σ a 1 = some ⟨3, [.agg [P, V, .d (.lit (.bool b))]], false, false, false⟩ ∧ P.cells = [P] ∧ V.cells = [V] := by
      cases g with
      | none => obtain ⟨-, P, hP, h⟩ := hs; exact ⟨P, _, h, by rcases hP with rfl | rfl <;> rfl, rfl⟩
      | some k => obtain ⟨-, -, h, -⟩ := hs; exact ⟨_, _, h, rfl, rfl⟩
    obtain ⟨P, V, hA, hP, hV⟩ := hgb
    have hle := els_le e
    by_cases hb : b = true
    · subst hb
      refine ⟨σ ++ [⟨5, [.d (.agg [.lit (.int .i64 (cls e)), .lit (.bool (made e)), .lit (.int .i64 (num e)), .str (bs (cont e)), .sl (List.map encE (els e))])], false, false, false⟩], l, g, ?_, hs.app _, Fr_app _ _ _ _, hl, fun h => by cases h⟩
      rw [q38]
      simp -implicitDefEqProofs (maxSteps := 10000000) (disch := omega) only [go_sem, Int.reduceAdd, Int.reduceSub, Int.reduceMul, dec_t, dec_f, Nat.reduceBEq, Nat.reduceBNe, reduceShiftRight, reduceAnd, Nat.reduceAdd, Nat.reduceSub, reduceEqDiff, Nat.reduceLT, reduceLeDiff, reduceToNat, Int.reduceLT, Int.reduceLE, Int.reduceEq, reduceIte, reduceCtorEq, hA, hP, hV, gb_app]
      done
    · have hb : b = false := by simpa using hb
      subst hb
      have hor : (cls e * 64).toNat ||| (num e).toNat = (cls e).toNat * 64 ||| (num e).toNat := by rw [show (cls e * 64).toNat = (cls e).toNat * 64 by omega]
      have htB : tagB e = UInt8.ofNat (((cls e).toNat * 64 ||| (num e).toNat) ||| (if made e then 32 else 0)) := rfl
      generalize ((cls e).toNat * 64 ||| (num e).toNat) = T at g5 hor htB
      cases hm : made e
      · simp only [hm, Bool.false_eq_true, if_false, Nat.or_zero] at htB
        have hbo : bodyB e = bs (cont e) := by unfold bodyB; rw [hm]; rfl
        have hbl := bs_le (cont e)
        obtain ⟨σ', l', g', -, h1, h2, h3, h4, h5⟩ := t38t (hs.app [⟨5, [.d (.agg [.lit (.int .i64 (cls e)), .lit (.bool (made e)), .lit (.int .i64 (num e)), .str (bs (cont e)), .sl (List.map encE (els e))])], false, false, false⟩]) hl (T : Int) (by omega) (by omega) (bodyB e) (by rw [hbo]; exact hbl)
        have hen : (encB e).length = 1 + (lenB (bodyB e).length).length + (bodyB e).length := by rw [encB_eq, List.length_cons, List.length_append]; omega
        refine ⟨σ', l', g', ?_, ?_, (Fr_app _ _ _ _).trans h3, h4, ?_⟩
        · rw [hm, hbo] at h1
          rw [q38]
          simp -implicitDefEqProofs (maxSteps := 10000000) (disch := omega) only [go_sem, Int.reduceAdd, Int.reduceSub, Int.reduceMul, dec_t, dec_f, Nat.reduceBEq, Nat.reduceBNe, reduceShiftRight, reduceAnd, Nat.reduceAdd, Nat.reduceSub, reduceEqDiff, Nat.reduceLT, reduceLeDiff, reduceToNat, Int.reduceLT, Int.reduceLE, Int.reduceEq, reduceIte, reduceCtorEq, ↓h1, hA, hP, hV, gb_app, gb_app0, hor]
          done
        · rw [hen, show l.length + (1 + (lenB (bodyB e).length).length + (bodyB e).length) = l.length + 1 + (lenB (bodyB e).length).length + (bodyB e).length by omega]
          exact h2
        · intro _ hq
          rw [h5 rfl (by omega), encB_eq, htB, Int.toNat_natCast]
      · have g6 : T ||| 32 < 256 := Nat.or_lt_two_pow (n := 8) g5 (by decide)
        simp only [hm, if_true] at htB
        have hbo : bodyB e = catB (els e) := by unfold bodyB; rw [hm]; rfl
        have hen : (encB e).length = 1 + (lenB (bodyB e).length).length + (bodyB e).length := by rw [encB_eq, List.length_cons, List.length_append]; omega
        have hco := e5 hm
        have hsz : Sh (σ ++ [⟨5, [.d (.agg [.lit (.int .i64 (cls e)), .lit (.bool (made e)), .lit (.int .i64 (num e)), .str (bs (cont e)), .sl (List.map encE (els e))])], false, false, false⟩, ⟨3, [.agg [.d (.lit (.pointer none)), .snil, .d (.lit (.bool false))]], false, false, false⟩]) (List.length σ + 1) (decide (4000 < (catB []).length)) [] none :=
          ⟨rfl, _, .inr rfl, by rw [gb_app2]; rfl⟩
        obtain ⟨τ, li, gi, x', k1, k2, k3, k4, k5⟩ := t38k e a (List.length σ + 1) (.d (.lit (.int .u8 ((T ||| 32 : Nat) : Int)))) (fun _ => rfl) (fun g hg => q38_at lv g (e7 g hg)) hle (els e) [] 0 _ [] none rfl rfl (by rw [List.length_append]; omega) hsz (by simp) (fun _ => rfl)
        have hfix : ∀ i, i < List.length σ → τ[i]? = σ[i]? := fun i hi => by
          rw [k3.2.1 i (by rw [List.length_append]; omega) (by omega) (by simp), List.getElem?_append_left hi]
        have hso : Sh τ a false l g := hs.mono (hfix a hlt) (fun k hk => hfix k (by subst hk; exact hs.row_lt))
        have hgi : gi ≠ some a := by
          rcases k3.2.2 with h | ⟨-, k, h, hk⟩
          · rw [h]; simp
          · rw [h]; rw [List.length_append] at hk; intro hh; cases hh; omega
        obtain ⟨υ, m1, m2, m3⟩ := t38m hso k2 (by omega) hgi k4 (.d (.lit (.int .u8 ((T ||| 32 : Nat) : Int)))) (.d (.sl (List.map encE (els e)))) (.d (.lit (.int .i64 ((els e).length : Nat)))) x' (.d (.lit (.bool false)))
        obtain ⟨σ', l', g', h1, -, h2, h3, h4, h5⟩ := t38t m2 hl ((T ||| 32 : Nat) : Int) (by omega) (by omega) li (by omega)
        have fτ : Fr σ τ a g g := ⟨by have := k3.1; rw [List.length_append] at this; omega, fun i hi _ _ => hfix i hi, .inl rfl⟩
        refine ⟨σ', l', g', ?_, ?_, (fτ.trans m3).trans h3, h4, ?_⟩
        · rw [hm, hco] at k1
          clear hsz k2 k3 k4 k5 hso m2 m3 h2 h3 h4 h5 fτ hfix
          rw [q38, hco]
          simp -implicitDefEqProofs (maxSteps := 10000000) (disch := omega) only [go_sem, Int.reduceAdd, Int.reduceSub, Int.reduceMul, dec_t, dec_f, Nat.reduceBEq, Nat.reduceBNe, reduceShiftRight, reduceAnd, Nat.reduceAdd, Nat.reduceSub, reduceEqDiff, Nat.reduceLT, reduceLeDiff, reduceToNat, Int.reduceLT, Int.reduceLE, Int.reduceEq, reduceIte, reduceCtorEq, ↓h1, ↓m1, ↓k1, hA, hP, hV, gb_app, gb_app0, gb_app2, hor, List.append_assoc]
          done
        · have : (decide (4000 < (catB (els e)).length) || decide (4000 < l.length + 1 + (lenB li.length).length + li.length)) = (false || decide (4000 < l.length + (encB e).length)) := by
            rw [Bool.eq_iff_iff]
            simp only [Bool.or_eq_true, decide_eq_true_eq, Bool.false_or]
            rw [hen, hbo]
            by_cases q : 4000 < (catB (els e)).length
            · exact ⟨fun _ => by omega, fun _ => .inl q⟩
            · have w := k5 (by omega)
              rw [w]
              exact ⟨fun _ => by omega, fun _ => .inr (by omega)⟩
          rw [← this]
          exact h2
        · intro _ hq
          rw [hen, hbo] at hq
          have w := k5 (by omega)
          rw [w] at h5
          rw [h5 (decide_eq_false (by omega)) (by omega), encB_eq, htB, Int.toNat_natCast, hbo]
set_option maxRecDepth 10000
set_option maxHeartbeats 1000000
theorem Sh.big {σ : Store} {a : Nat} {b : Bool} {l : List UInt8} {g : Option Nat} (h : Sh σ a b l g) : ∃ P V, getBlk σ a 1 = some ⟨3, [.agg [P, V, .d (.lit (.bool b))]], false, false, false⟩ ∧ P.cells = [P] ∧ V.cells = [V] := by
  cases g with
  | none => obtain ⟨-, P, hP, h⟩ := h; exact ⟨P, _, h, by rcases hP with rfl | rfl <;> rfl, rfl⟩
  | some k => obtain ⟨-, -, h, -⟩ := h; exact ⟨_, _, h, rfl, rfl⟩
theorem lay_new (lv : Nat) (e : Eo) (h : San lv e) (x : Blk) : ∃ (τ : Store) (l : List UInt8) (g : Option Nat), Option.map (trimR (0 + 1 + 1)) (C 38 [.tptr 71 3 1 0, .d (.agg [.lit (.int .i64 (cls e)), .lit (.bool (made e)), .lit (.int .i64 (num e)), .str (bs (cont e)), .sl (List.map encE (els e))])] [x, ⟨3, [.agg [.d (.lit (.pointer none)), .snil, .d (.lit (.bool false))]], false, false, false⟩]) = some (.tup [], τ) ∧
    Sh τ 1 (decide (4000 < (encB e).length)) l g ∧ l.length ≤ 4000 ∧ ((encB e).length ≤ 4000 → l = encB e) := by
  have hs : Sh [x, ⟨3, [.agg [.d (.lit (.pointer none)), .snil, .d (.lit (.bool false))]], false, false, false⟩] 1 false [] none := ⟨rfl, _, .inr rfl, rfl⟩
  obtain ⟨σ', l', g', c, s, f, k, n⟩ := q38_at lv e h _ _ _ _ _ hs (by simp)
  obtain ⟨τ, c3, s3, f3⟩ := trim_Sh f s (by simp)
  simp only [List.length_nil, Nat.zero_add, Bool.false_or, List.nil_append] at s3 n
  refine ⟨τ, l', g', ?_, s3, k, n trivial⟩
  rw [c, Option.map_some]
  exact congrArg some c3
theorem t61 (e : Eo) (h : San 12 e) : ∃ s, pureCall C 61 [(.agg [.lit (.int .i64 (cls e)), .lit (.bool (made e)), .lit (.int .i64 (num e)), .str (bs (cont e)), .sl (List.map encE (els e))])] = some (.tup (.d (.str s)) [.lit (.bool (!decide (4000 < (encB e).length)))]) := by
  obtain ⟨τ, l, g, c, s, k, n⟩ := lay_new 12 e h ⟨5, [.d (.agg [.lit (.int .i64 (cls e)), .lit (.bool (made e)), .lit (.int .i64 (num e)), .str (bs (cont e)), .sl (List.map encE (els e))])], false, false, false⟩
  simp only [Nat.reduceAdd] at c
  obtain ⟨P, V, hA, hP, hV⟩ := s.big
  have h39 := q39_at s k C false
  have h39' := q39_at s k noCall false
  have x1 : X.pure 39 = true := rfl
  have x2 : X.prim 39 = some primString := rfl
  refine ⟨l, ?_⟩
  rw [p61]
  simp -implicitDefEqProofs (maxSteps := 10000000) (disch := omega) only [go_sem, Int.reduceAdd, Int.reduceSub, Int.reduceMul, dec_t, dec_f, Nat.reduceBEq, Nat.reduceBNe, reduceShiftRight, reduceAnd, Nat.reduceAdd, Nat.reduceSub, reduceEqDiff, Nat.reduceLT, reduceLeDiff, reduceToNat, Int.reduceLT, Int.reduceLE, Int.reduceEq, reduceIte, reduceCtorEq, c, h39, h39', hA, hP, hV, x1, x2]
  done
theorem t37 (e : Eo) (h : San 12 e) : pureCall C 37 [(.agg [.lit (.int .i64 (cls e)), .lit (.bool (made e)), .lit (.int .i64 (num e)), .str (bs (cont e)), .sl (List.map encE (els e))])] = some (.one (.d (.lit (.int .i64 (if 4000 < (encB e).length then 3 else 0))))) := by
  obtain ⟨v, h1, h2, h59⟩ := t59 e h
  have h60 := t60 12 e h
  obtain ⟨s, h61⟩ := t61 e h
  by_cases q : 4000 < (encB e).length
  · rw [decide_eq_true q] at h61
    rw [if_pos q, p37]
    simp -implicitDefEqProofs (maxSteps := 10000000) (disch := omega) only [go_sem, Int.reduceAdd, Int.reduceSub, Int.reduceMul, dec_t, dec_f, Nat.reduceBEq, Nat.reduceBNe, reduceShiftRight, reduceAnd, Nat.reduceAdd, Nat.reduceSub, reduceEqDiff, Nat.reduceLT, reduceLeDiff, reduceToNat, Int.reduceLT, Int.reduceLE, Int.reduceEq, reduceIte, reduceCtorEq, h59, h60, h61]
    done
  · rw [decide_eq_false q] at h61
    rw [if_neg q, p37]
    simp -implicitDefEqProofs (maxSteps := 10000000) (disch := omega) only [go_sem, Int.reduceAdd, Int.reduceSub, Int.reduceMul, dec_t, dec_f, Nat.reduceBEq, Nat.reduceBNe, reduceShiftRight, reduceAnd, Nat.reduceAdd, Nat.reduceSub, reduceEqDiff, Nat.reduceLT, reduceLeDiff, reduceToNat, Int.reduceLT, Int.reduceLE, Int.reduceEq, reduceIte, reduceCtorEq, h59, h60, h61]
    done
theorem lay_new0 (lv : Nat) (e : Eo) (h : San lv e) (x : Blk) : ∃ (τ : Store) (l : List UInt8) (g : Option Nat), Option.map (trimR 2) (C 38 [.tptr 71 3 0 0, .d (.agg [.lit (.int .i64 (cls e)), .lit (.bool (made e)), .lit (.int .i64 (num e)), .str (bs (cont e)), .sl (List.map encE (els e))])] [⟨3, [.agg [.d (.lit (.pointer none)), .snil, .d (.lit (.bool false))]], false, false, false⟩, x]) = some (.tup [], τ) ∧
    Sh τ 0 (decide (4000 < (encB e).length)) l g ∧ l.length ≤ 4000 ∧ ((encB e).length ≤ 4000 → l = encB e) := by
  have hs : Sh [⟨3, [.agg [.d (.lit (.pointer none)), .snil, .d (.lit (.bool false))]], false, false, false⟩, x] 0 false [] none := ⟨rfl, _, .inr rfl, rfl⟩
  obtain ⟨σ', l', g', c, s, f, k, n⟩ := q38_at lv e h _ _ _ _ _ hs (by simp)
  obtain ⟨τ, c3, s3, f3⟩ := trim_Sh f s (by simp)
  simp only [List.length_nil, Nat.zero_add, Bool.false_or, List.nil_append] at s3 n
  refine ⟨τ, l', g', ?_, s3, k, n trivial⟩
  rw [c, Option.map_some]
  exact congrArg some c3
theorem t21 (e : Eo) (h : San 12 e) : pureCall C 21 [.sl [(.agg [.lit (.int .i64 (cls e)), .lit (.bool (made e)), .lit (.int .i64 (num e)), .str (bs (cont e)), .sl (List.map encE (els e))])]] = some (.tup (.d (.str (if 4000 < (encB e).length then [] else encB e))) [.lit (.int .i64 (if 4000 < (encB e).length then 3 else 0))]) := by
  have h37 := t37 e h
  by_cases q : 4000 < (encB e).length
  · rw [if_pos q] at h37
    rw [if_pos q, if_pos q, p21]
    simp -implicitDefEqProofs (maxSteps := 10000000) (disch := omega) only [go_sem, Int.reduceAdd, Int.reduceSub, Int.reduceMul, dec_t, dec_f, Nat.reduceBEq, Nat.reduceBNe, reduceShiftRight, reduceAnd, Nat.reduceAdd, Nat.reduceSub, reduceEqDiff, Nat.reduceLT, reduceLeDiff, reduceToNat, Int.reduceLT, Int.reduceLE, Int.reduceEq, reduceIte, reduceCtorEq, h37]
    rw [r_n21_6]
    simp -implicitDefEqProofs (maxSteps := 10000000) (disch := omega) only [go_sem, Int.reduceAdd, Int.reduceSub, Int.reduceMul, dec_t, dec_f, Nat.reduceBEq, Nat.reduceBNe, reduceShiftRight, reduceAnd, Nat.reduceAdd, Nat.reduceSub, reduceEqDiff, Nat.reduceLT, reduceLeDiff, reduceToNat, Int.reduceLT, Int.reduceLE, Int.reduceEq, reduceIte, reduceCtorEq, h37]
    done
  · rw [if_neg q] at h37
    rw [if_neg q, if_neg q, p21]
    obtain ⟨τ, l, g, c, s, k, n⟩ := lay_new0 12 e h ⟨5, [.d (.agg [.lit (.int .i64 (cls e)), .lit (.bool (made e)), .lit (.int .i64 (num e)), .str (bs (cont e)), .sl (List.map encE (els e))])], false, false, false⟩
    rw [decide_eq_false q] at s
    replace n := n (by omega)
    subst n
    have l1 := s.lt
    simp -implicitDefEqProofs (maxSteps := 10000000) (disch := omega) only [go_sem, Int.reduceAdd, Int.reduceSub, Int.reduceMul, dec_t, dec_f, Nat.reduceBEq, Nat.reduceBNe, reduceShiftRight, reduceAnd, Nat.reduceAdd, Nat.reduceSub, reduceEqDiff, Nat.reduceLT, reduceLeDiff, reduceToNat, Int.reduceLT, Int.reduceLE, Int.reduceEq, reduceIte, reduceCtorEq, h37]
    rw [r_n21_6]
    simp -implicitDefEqProofs (maxSteps := 10000000) (disch := omega) only [go_sem, Int.reduceAdd, Int.reduceSub, Int.reduceMul, dec_t, dec_f, Nat.reduceBEq, Nat.reduceBNe, reduceShiftRight, reduceAnd, Nat.reduceAdd, Nat.reduceSub, reduceEqDiff, Nat.reduceLT, reduceLeDiff, reduceToNat, Int.reduceLT, Int.reduceLE, Int.reduceEq, reduceIte, reduceCtorEq, h37]
    rw [r_n21_6]
    simp -implicitDefEqProofs (maxSteps := 10000000) (disch := omega) only [go_sem, Int.reduceAdd, Int.reduceSub, Int.reduceMul, dec_t, dec_f, Nat.reduceBEq, Nat.reduceBNe, reduceShiftRight, reduceAnd, Nat.reduceAdd, Nat.reduceSub, reduceEqDiff, Nat.reduceLT, reduceLeDiff, reduceToNat, Int.reduceLT, Int.reduceLE, Int.reduceEq, reduceIte, reduceCtorEq, h37]
    rw [r_n21_33]
    cases hB : belowB 1 (List.take 1 τ) with
    | true =>
      have s' := s.take (by omega) hB
      obtain ⟨P, V, hA, hP, hV⟩ := s'.big
      have h39 := q39_at s' k C false
      simp -implicitDefEqProofs (maxSteps := 10000000) (disch := omega) only [go_sem, Int.reduceAdd, Int.reduceSub, Int.reduceMul, dec_t, dec_f, Nat.reduceBEq, Nat.reduceBNe, reduceShiftRight, reduceAnd, Nat.reduceAdd, Nat.reduceSub, reduceEqDiff, Nat.reduceLT, reduceLeDiff, reduceToNat, Int.reduceLT, Int.reduceLE, Int.reduceEq, reduceIte, reduceCtorEq, h37, c, hB]
      rw [r_n21_33]
      simp -implicitDefEqProofs (maxSteps := 10000000) (disch := omega) only [go_sem, Int.reduceAdd, Int.reduceSub, Int.reduceMul, dec_t, dec_f, Nat.reduceBEq, Nat.reduceBNe, reduceShiftRight, reduceAnd, Nat.reduceAdd, Nat.reduceSub, reduceEqDiff, Nat.reduceLT, reduceLeDiff, reduceToNat, Int.reduceLT, Int.reduceLE, Int.reduceEq, reduceIte, reduceCtorEq, h39, hA, hP, hV]
      done
    | false =>
      obtain ⟨P, V, hA, hP, hV⟩ := s.big
      have h39 := q39_at s k C false
      simp -implicitDefEqProofs (maxSteps := 10000000) (disch := omega) only [go_sem, Int.reduceAdd, Int.reduceSub, Int.reduceMul, dec_t, dec_f, Nat.reduceBEq, Nat.reduceBNe, reduceShiftRight, reduceAnd, Nat.reduceAdd, Nat.reduceSub, reduceEqDiff, Nat.reduceLT, reduceLeDiff, reduceToNat, Int.reduceLT, Int.reduceLE, Int.reduceEq, reduceIte, reduceCtorEq, h37, c, hB]
      rw [r_n21_33]
      simp -implicitDefEqProofs (maxSteps := 10000000) (disch := omega) only [go_sem, Int.reduceAdd, Int.reduceSub, Int.reduceMul, dec_t, dec_f, Nat.reduceBEq, Nat.reduceBNe, reduceShiftRight, reduceAnd, Nat.reduceAdd, Nat.reduceSub, reduceEqDiff, Nat.reduceLT, reduceLeDiff, reduceToNat, Int.reduceLT, Int.reduceLE, Int.reduceEq, reduceIte, reduceCtorEq, h39, hA, hP, hV]
      done
end Go.L25
