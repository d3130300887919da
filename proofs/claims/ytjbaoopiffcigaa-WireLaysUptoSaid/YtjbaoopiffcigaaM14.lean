/- Layer 25: the document's pieces. Conditions: none. -/
import Derived.Test.YtjbaoopiffcigaaM13
set_option linter.unusedVariables false
set_option linter.unusedSimpArgs false
namespace Go.L25
open Go Go.Eng Go.Proofs
set_option pp.deepTerms false
set_option pp.deepTerms.threshold 9
set_option maxRecDepth 10000

theorem beq_b0 (l : List UInt8) (hl : l.length ≤ 2 ^ 30) : (Int.ofNat l.length = 0) = (List.beq [] l = true) := by
  rw [n_ofNat]
  cases l with
  | nil => exact propext ⟨fun _ => rfl, fun _ => rfl⟩
  | cons a r => exact propext ⟨fun h => by simp at h; omega, fun h => by cases h⟩
theorem t97k (i : Bs) (a : List Bs) (e : Bs) (hi hf : Bool) (ha : a.length ≤ 2 ^ 30) : ∀ (r' : List Bs) (j : Nat) (x : Int), x = j → a.drop j = r' →
    ∃ x', n97_28 ⟨[(1, .ptr 0 1 0 0), (4, .d (.lit (.int .i64 x)))], [⟨5, [.d (.agg [.str (bs i), .sl (a.map encS), .str (bs e), .lit (.bool hi), .lit (.bool hf)])], false, false, false⟩]⟩ =
      some (if r'.any (fun s => List.beq [] (bs s)) then (.ret, ⟨[(2, .d (.lit (.int .i64 2)))], [⟨5, [.d (.agg [.str (bs i), .sl (a.map encS), .str (bs e), .lit (.bool hi), .lit (.bool hf)])], false, false, false⟩]⟩)
        else (.exit 0, ⟨[(1, .ptr 0 1 0 0), (4, x'), (46, .d (.lit (.bool false)))], [⟨5, [.d (.agg [.str (bs i), .sl (a.map encS), .str (bs e), .lit (.bool hi), .lit (.bool hf)])], false, false, false⟩]⟩)) := by
  intro r'
  induction r' with
  | nil =>
    intro j x hx hd
    have hd := drop_nil hd
    refine ⟨.d (.lit (.int .i64 x)), ?_⟩
    rw [r_n97_28]
    conv => cbv
    repeat (simp (disch := ((try simp only [n_ofNat, n_add, n_sub, n_mul, n_nadd, n_nsub]); omega)) only [decide_true, decide_false, if_true, if_false, ite_true, ite_false, lt_00, le_of, decide_eq_true_eq, Bool.decide_eq_true, Bool.true_eq, Bool.false_eq_true, reduceIte, not_true_eq_false, not_false_eq_true, lt_t, lt_f, le_t, le_f, wrap_i64, blt_t, blt_f, ble_t, ble_f, ieq_t, ieq_f, Int.reduceToNat, Int.reduceOfNat]; try (conv => cbv))
    try rfl
  | cons c' r' ih =>
    intro j x hx hd
    obtain ⟨g1, g2, g3, g4⟩ := drop_cons hd
    have hnat : Int.toNat x = j := by omega
    obtain ⟨x', h⟩ := ih (j + 1) (Int.add x 1) (by rw [n_add]; omega) g3
    have hl := bs_le c'
    have he := beq_b0 (bs c') hl
    cases hs : List.beq [] (bs c') with
    | true =>
      rw [hs] at he
      refine ⟨.undef, ?_⟩
      rw [r_n97_28, show ((c' :: r').any fun s => List.beq [] (bs s)) = true by simp [hs]]
      clear ih h
      conv => cbv
      repeat (simp (disch := ((try simp only [n_ofNat, n_add, n_sub, n_mul, n_nadd, n_nsub]); omega)) only [decide_true, decide_false, if_true, if_false, ite_true, ite_false, lt_00, le_of, decide_eq_true_eq, Bool.decide_eq_true, Bool.true_eq, Bool.false_eq_true, reduceIte, not_true_eq_false, not_false_eq_true, lt_t, lt_f, le_t, le_f, wrap_i64, blt_t, blt_f, ble_t, ble_f, ieq_t, ieq_f, Int.reduceToNat, Int.reduceOfNat, g2, hnat, he]; try (conv => cbv))
      try rfl
    | false =>
      rw [hs] at he
      refine ⟨x', ?_⟩
      rw [r_n97_28, show ((c' :: r').any fun s => List.beq [] (bs s)) = r'.any (fun s => List.beq [] (bs s)) by simp [hs]]
      clear ih
      generalize (r'.any fun s => List.beq [] (bs s)) = w at h ⊢
      conv at h => cbv
      conv => cbv
      repeat (simp (disch := ((try simp only [n_ofNat, n_add, n_sub, n_mul, n_nadd, n_nsub]); omega)) only [decide_true, decide_false, if_true, if_false, ite_true, ite_false, lt_00, le_of, decide_eq_true_eq, Bool.decide_eq_true, Bool.true_eq, Bool.false_eq_true, reduceIte, not_true_eq_false, not_false_eq_true, lt_t, lt_f, le_t, le_f, wrap_i64, blt_t, blt_f, ble_t, ble_f, ieq_t, ieq_f, Int.reduceToNat, Int.reduceOfNat, g2, hnat, he]; try (conv => cbv))
      simp only [h]

set_option maxHeartbeats 8000000 in
theorem t97 (i : Bs) (a : List Bs) (e : Bs) (hi hf : Bool) (ha : a.length ≤ 2 ^ 30) : pureCall C 97 [.agg [.str (bs i), .sl (a.map encS), .str (bs e), .lit (.bool hi), .lit (.bool hf)]] = some (lit (if pcOk i a e hi hf then 0 else 2)) := by
  obtain ⟨x', h⟩ := t97k i a e hi hf ha a 0 0 rfl rfl
  have h1 := bs_le i
  have h2 := bs_le e
  unfold pcOk
  rw [p97]
  generalize (a.any fun s => List.beq [] (bs s)) = w at h ⊢
  generalize bs i = i at h h1 ⊢
  generalize bs e = e at h h2 ⊢
  by_cases h6 : a.length ≤ 6
  · rw [show decide (a.length ≤ 6) = true by simpa using h6]
    cases i <;> cases e <;> cases a <;> cases hi <;> cases hf <;> cases w <;> simp only [List.length_cons, List.length_nil] at h6 ha h1 h2 <;> (conv at h => cbv) <;> (conv => cbv) <;> (repeat (simp (disch := ((try simp only [n_ofNat, n_add, n_sub, n_mul, n_nadd, n_nsub]); omega)) only [decide_true, decide_false, if_true, if_false, ite_true, ite_false, lt_00, le_of, decide_eq_true_eq, Bool.decide_eq_true, Bool.true_eq, Bool.false_eq_true, reduceIte, not_true_eq_false, not_false_eq_true, lt_t, lt_f, le_t, le_f, wrap_i64, blt_t, blt_f, ble_t, ble_f, ieq_t, ieq_f, Int.reduceToNat, Int.reduceOfNat, h]; try (conv => cbv))) <;> (first | done | exact True.intro | rfl)
  · rw [show decide (a.length ≤ 6) = false by simpa using h6]
    clear h
    cases i <;> cases e <;> cases a <;> cases hi <;> cases hf <;> simp only [List.length_cons, List.length_nil] at h6 ha h1 h2 <;> first | omega | ((conv => cbv) <;> (repeat (simp (disch := ((try simp only [n_ofNat, n_add, n_sub, n_mul, n_nadd, n_nsub]); omega)) only [decide_true, decide_false, if_true, if_false, ite_true, ite_false, lt_00, le_of, decide_eq_true_eq, Bool.decide_eq_true, Bool.true_eq, Bool.false_eq_true, reduceIte, not_true_eq_false, not_false_eq_true, lt_t, lt_f, le_t, le_f, wrap_i64, blt_t, blt_f, ble_t, ble_f, ieq_t, ieq_f, Int.reduceToNat, Int.reduceOfNat]; try (conv => cbv))) <;> (first | done | exact True.intro | rfl))

theorem t90k (i : Bs) (a : List Bs) (e : Bs) (hi hf : Bool) (ha : a.length ≤ 2 ^ 30) : ∀ (r' : List Bs) (j : Nat) (x : Int), x = j → a.drop j = r' →
    ∃ x', n90_14 ⟨[(1, .ptr 0 1 0 0), (3, .d (.lit (.int .i64 x)))], [⟨5, [.d (.agg [.str (bs i), .sl (a.map encS), .str (bs e), .lit (.bool hi), .lit (.bool hf)])], false, false, false⟩]⟩ =
      some (if r'.any (fun s => decide (400 < (bs s).length)) then (.ret, ⟨[(2, .d (.lit (.bool false)))], [⟨5, [.d (.agg [.str (bs i), .sl (a.map encS), .str (bs e), .lit (.bool hi), .lit (.bool hf)])], false, false, false⟩]⟩)
        else (.exit 0, ⟨[(1, .ptr 0 1 0 0), (3, x'), (23, .d (.lit (.bool false)))], [⟨5, [.d (.agg [.str (bs i), .sl (a.map encS), .str (bs e), .lit (.bool hi), .lit (.bool hf)])], false, false, false⟩]⟩)) := by
  intro r'
  induction r' with
  | nil =>
    intro j x hx hd
    have hd := drop_nil hd
    refine ⟨.d (.lit (.int .i64 x)), ?_⟩
    rw [r_n90_14]
    conv => cbv
    repeat (simp (disch := ((try simp only [n_ofNat, n_add, n_sub, n_mul, n_nadd, n_nsub]); omega)) only [decide_true, decide_false, if_true, if_false, ite_true, ite_false, lt_00, le_of, decide_eq_true_eq, Bool.decide_eq_true, Bool.true_eq, Bool.false_eq_true, reduceIte, not_true_eq_false, not_false_eq_true, lt_t, lt_f, le_t, le_f, wrap_i64, blt_t, blt_f, ble_t, ble_f, ieq_t, ieq_f, Int.reduceToNat, Int.reduceOfNat]; try (conv => cbv))
    try rfl
  | cons c' r' ih =>
    intro j x hx hd
    obtain ⟨g1, g2, g3, g4⟩ := drop_cons hd
    have hnat : Int.toNat x = j := by omega
    obtain ⟨x', h⟩ := ih (j + 1) (Int.add x 1) (by rw [n_add]; omega) g3
    have hl := bs_le c'
    by_cases hs : 400 < (bs c').length
    · refine ⟨.undef, ?_⟩
      rw [r_n90_14, show ((c' :: r').any fun s => decide (400 < (bs s).length)) = true by simp [hs]]
      clear ih h
      conv => cbv
      repeat (simp (disch := ((try simp only [n_ofNat, n_add, n_sub, n_mul, n_nadd, n_nsub]); omega)) only [decide_true, decide_false, if_true, if_false, ite_true, ite_false, lt_00, le_of, decide_eq_true_eq, Bool.decide_eq_true, Bool.true_eq, Bool.false_eq_true, reduceIte, not_true_eq_false, not_false_eq_true, lt_t, lt_f, le_t, le_f, wrap_i64, blt_t, blt_f, ble_t, ble_f, ieq_t, ieq_f, Int.reduceToNat, Int.reduceOfNat, g2, hnat]; try (conv => cbv))
      try rfl
    · refine ⟨x', ?_⟩
      rw [r_n90_14, show ((c' :: r').any fun s => decide (400 < (bs s).length)) = r'.any (fun s => decide (400 < (bs s).length)) by simp [hs]]
      clear ih
      generalize (r'.any fun s => decide (400 < (bs s).length)) = w at h ⊢
      conv at h => cbv
      conv => cbv
      repeat (simp (disch := ((try simp only [n_ofNat, n_add, n_sub, n_mul, n_nadd, n_nsub]); omega)) only [decide_true, decide_false, if_true, if_false, ite_true, ite_false, lt_00, le_of, decide_eq_true_eq, Bool.decide_eq_true, Bool.true_eq, Bool.false_eq_true, reduceIte, not_true_eq_false, not_false_eq_true, lt_t, lt_f, le_t, le_f, wrap_i64, blt_t, blt_f, ble_t, ble_f, ieq_t, ieq_f, Int.reduceToNat, Int.reduceOfNat, g2, hnat]; try (conv => cbv))
      simp only [h]
/-- Pieces that may be, and are short. -/
theorem t90 (i : Bs) (a : List Bs) (e : Bs) (hi hf : Bool) (ha : a.length ≤ 2 ^ 30) : pureCall C 90 [.agg [.str (bs i), .sl (a.map encS), .str (bs e), .lit (.bool hi), .lit (.bool hf)]] = some (tf (pcOk i a e hi hf && pShort i a e)) := by
  obtain ⟨x', h⟩ := t90k i a e hi hf ha a 0 0 rfl rfl
  have h1 := bs_le i
  have h2 := bs_le e
  have h97 := t97 i a e hi hf ha
  unfold pShort
  rw [p90]
  generalize (a.any fun s => decide (400 < (bs s).length)) = w at h ⊢
  cases hp : pcOk i a e hi hf
  · rw [hp] at h97
    simp only [Bool.false_and]
    conv => cbv
    repeat (simp (disch := ((try simp only [n_ofNat, n_add, n_sub, n_mul, n_nadd, n_nsub]); omega)) only [decide_true, decide_false, if_true, if_false, ite_true, ite_false, lt_00, le_of, decide_eq_true_eq, Bool.decide_eq_true, Bool.true_eq, Bool.false_eq_true, reduceIte, not_true_eq_false, not_false_eq_true, lt_t, lt_f, le_t, le_f, wrap_i64, blt_t, blt_f, ble_t, ble_f, ieq_t, ieq_f, Int.reduceToNat, Int.reduceOfNat, h97]; try (conv => cbv))
    (first | done | exact True.intro | rfl)
  · rw [hp] at h97
    by_cases q1 : 400 < (bs i).length
    · rw [show decide (400 < (bs i).length) = true by simpa using q1]
      simp only [Bool.not_true, Bool.false_and, Bool.and_false]
      conv => cbv
      repeat (simp (disch := ((try simp only [n_ofNat, n_add, n_sub, n_mul, n_nadd, n_nsub]); omega)) only [decide_true, decide_false, if_true, if_false, ite_true, ite_false, lt_00, le_of, decide_eq_true_eq, Bool.decide_eq_true, Bool.true_eq, Bool.false_eq_true, reduceIte, not_true_eq_false, not_false_eq_true, lt_t, lt_f, le_t, le_f, wrap_i64, blt_t, blt_f, ble_t, ble_f, ieq_t, ieq_f, Int.reduceToNat, Int.reduceOfNat, h97]; try (conv => cbv))
      (first | done | exact True.intro | rfl)
    · rw [show decide (400 < (bs i).length) = false by simpa using q1]
      by_cases q2 : 400 < (bs e).length
      · rw [show decide (400 < (bs e).length) = true by simpa using q2]
        conv => cbv
        repeat (simp (disch := ((try simp only [n_ofNat, n_add, n_sub, n_mul, n_nadd, n_nsub]); omega)) only [decide_true, decide_false, if_true, if_false, ite_true, ite_false, lt_00, le_of, decide_eq_true_eq, Bool.decide_eq_true, Bool.true_eq, Bool.false_eq_true, reduceIte, not_true_eq_false, not_false_eq_true, lt_t, lt_f, le_t, le_f, wrap_i64, blt_t, blt_f, ble_t, ble_f, ieq_t, ieq_f, Int.reduceToNat, Int.reduceOfNat, h97]; try (conv => cbv))
        (first | done | exact True.intro | rfl)
      · rw [show decide (400 < (bs e).length) = false by simpa using q2]
        conv at h => cbv
        conv => cbv
        repeat (simp (disch := ((try simp only [n_ofNat, n_add, n_sub, n_mul, n_nadd, n_nsub]); omega)) only [decide_true, decide_false, if_true, if_false, ite_true, ite_false, lt_00, le_of, decide_eq_true_eq, Bool.decide_eq_true, Bool.true_eq, Bool.false_eq_true, reduceIte, not_true_eq_false, not_false_eq_true, lt_t, lt_f, le_t, le_f, wrap_i64, blt_t, blt_f, ble_t, ble_f, ieq_t, ieq_f, Int.reduceToNat, Int.reduceOfNat, h97, h]; try (conv => cbv))
        cases w <;> (conv => cbv) <;> (first | done | exact True.intro | rfl)
end Go.L25
