/- Layer 25: the law WireLays in the evaluator. Conditions: none. -/
import Derived.Test.YtjbaoopiffcigaaM11
import Derived.Test.YtjbaoopiffcigaaM16
import Derived.Test.YtjbaoopiffcigaaM17
import Derived.Test.YtjbaoopiffcigaaM19
import Derived.Test.YtjbaoopiffcigaaM20
import Derived.Test.YtjbaoopiffcigaaK1
set_option linter.unusedVariables false
set_option linter.unusedSimpArgs false
namespace Go.L25
open Go Go.Eng Go.Proofs
set_option pp.deepTerms false
set_option pp.deepTerms.threshold 9
set_option maxRecDepth 10000

theorem t10 (f : Fo) : pureCall C 10 [(.agg [.lit (.int .i64 (kind f)), .str (bs (name f)), .str (bs (value f)), .str (bs (ini f)), .sl (List.map encS (any f)), .str (bs (fin f)), .lit (.bool (hi f)), .lit (.bool (hf f)), .str (bs (rule f)), .lit (.bool (dn f)), .sl (List.map encO (kids f))])] = some (layR f) := by
  unfold layR
  cases b : chkF f
  · rw [p10]
    conv => cbv
    (repeat (simp (disch := ((try simp only [n_ofNat, n_add, n_sub, n_mul, n_nadd, n_nsub]); omega)) only [decide_true, decide_false, if_true, if_false, ite_true, ite_false, lt_00, le_of, decide_eq_true_eq, Bool.decide_eq_true, Bool.true_eq, Bool.false_eq_true, reduceIte, not_true_eq_false, not_false_eq_true, c_nadd0, c_tk2, lt_t, lt_f, le_t, le_f, wrap_i64, blt_t, blt_f, ble_t, ble_f, ieq_t, ieq_f, Int.reduceToNat, Int.reduceOfNat, b]; try (conv => cbv)))
    (first | done | exact True.intro | rfl)
  · have hc := t25 f
    rw [encE_eq] at hc
    rw [p10]
    conv => cbv
    (repeat (simp (disch := ((try simp only [n_ofNat, n_add, n_sub, n_mul, n_nadd, n_nsub]); omega)) only [decide_true, decide_false, if_true, if_false, ite_true, ite_false, lt_00, le_of, decide_eq_true_eq, Bool.decide_eq_true, Bool.true_eq, Bool.false_eq_true, reduceIte, not_true_eq_false, not_false_eq_true, c_nadd0, c_tk2, lt_t, lt_f, le_t, le_f, wrap_i64, blt_t, blt_f, ble_t, ble_f, ieq_t, ieq_f, Int.reduceToNat, Int.reduceOfNat, b, hc]; try (conv => cbv)))
    (first | done | exact True.intro | rfl)

theorem t3 (f : Fo) : pureCall C 3 [(.agg [.lit (.int .i64 (kind f)), .str (bs (name f)), .str (bs (value f)), .str (bs (ini f)), .sl (List.map encS (any f)), .str (bs (fin f)), .lit (.bool (hi f)), .lit (.bool (hf f)), .str (bs (rule f)), .lit (.bool (dn f)), .sl (List.map encO (kids f))])] = some (tf true) := by
  obtain ⟨v, hv, hv', h7⟩ := t7 f 150 (by omega) (by omega)
  have h8 := t8
  have h9 := t9 f
  have h10 := t10 f
  by_cases h0 : v < 0
  · rw [p3]
    conv => cbv
    (repeat (simp (disch := ((try simp only [n_ofNat, n_add, n_sub, n_mul, n_nadd, n_nsub]); omega)) only [decide_true, decide_false, if_true, if_false, ite_true, ite_false, lt_00, le_of, decide_eq_true_eq, Bool.decide_eq_true, Bool.true_eq, Bool.false_eq_true, reduceIte, not_true_eq_false, not_false_eq_true, c_nadd0, c_tk2, lt_t, lt_f, le_t, le_f, wrap_i64, blt_t, blt_f, ble_t, ble_f, ieq_t, ieq_f, Int.reduceToNat, Int.reduceOfNat, h7, h8]; try (conv => cbv)))
    (first | done | exact True.intro | rfl)
  · have hq : eqE (laidE f) (laidE f) = true := eqE_t rfl
    have hz : pureCall C 11 [.agg [.lit (.int .i64 0), .lit (.bool false), .lit (.int .i64 0), .str [], .sl []], .agg [.lit (.int .i64 0), .lit (.bool false), .lit (.int .i64 0), .str [], .sl []]] = some (tf true) := by
      have h := t11 zE zE
      rw [eqE_t rfl] at h
      exact h
    unfold layR at h9 h10
    cases b : chkF f
    · rw [b] at h9 h10
      simp only [Bool.false_eq_true, if_false] at h9 h10
      conv at h9 => cbv
      conv at h10 => cbv
      rw [p3]
      conv => cbv
      (repeat (simp (disch := ((try simp only [n_ofNat, n_add, n_sub, n_mul, n_nadd, n_nsub]); omega)) only [decide_true, decide_false, if_true, if_false, ite_true, ite_false, lt_00, le_of, decide_eq_true_eq, Bool.decide_eq_true, Bool.true_eq, Bool.false_eq_true, reduceIte, not_true_eq_false, not_false_eq_true, c_nadd0, c_tk2, lt_t, lt_f, le_t, le_f, wrap_i64, blt_t, blt_f, ble_t, ble_f, ieq_t, ieq_f, Int.reduceToNat, Int.reduceOfNat, h7, h8, h9, h10, hz]; try (conv => cbv)))
      (first | done | exact True.intro | rfl)
    · rw [b] at h9 h10
      simp only [if_true] at h9 h10
      conv at h9 => cbv
      conv at h10 => cbv
      rw [p3]
      conv => cbv
      (repeat (simp (disch := ((try simp only [n_ofNat, n_add, n_sub, n_mul, n_nadd, n_nsub]); omega)) only [decide_true, decide_false, if_true, if_false, ite_true, ite_false, lt_00, le_of, decide_eq_true_eq, Bool.decide_eq_true, Bool.true_eq, Bool.false_eq_true, reduceIte, not_true_eq_false, not_false_eq_true, c_nadd0, c_tk2, lt_t, lt_f, le_t, le_f, wrap_i64, blt_t, blt_f, ble_t, ble_f, ieq_t, ieq_f, Int.reduceToNat, Int.reduceOfNat, h7, h8, h9, h10, hq]; try (conv => cbv)))
      (first | done | exact True.intro | rfl)
end Go.L25
