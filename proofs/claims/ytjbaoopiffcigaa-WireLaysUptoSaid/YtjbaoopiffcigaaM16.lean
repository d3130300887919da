/- Layer 25: the document's check of filters. Conditions: none. -/
import Derived.Test.YtjbaoopiffcigaaM15
import Derived.Test.YtjbaoopiffcigaaM12
import Derived.Test.YtjbaoopiffcigaaM7
set_option linter.unusedVariables false
set_option linter.unusedSimpArgs false
namespace Go.L25
open Go Go.Eng Go.Proofs
set_option pp.deepTerms false
set_option pp.deepTerms.threshold 9
set_option maxRecDepth 10000

theorem t47 (f : Fo) : pureCall C 47 [(.agg [.lit (.int .i64 (kind f)), .str (bs (name f)), .str (bs (value f)), .str (bs (ini f)), .sl (List.map encS (any f)), .str (bs (fin f)), .lit (.bool (hi f)), .lit (.bool (hf f)), .str (bs (rule f)), .lit (.bool (dn f)), .sl (List.map encO (kids f))])] = some (tf (allF f)) := by
  have IH : ∀ g ∈ kids f, pureCall C 47 [(.agg [.lit (.int .i64 (kind g)), .str (bs (name g)), .str (bs (value g)), .str (bs (ini g)), .sl (List.map encS (any g)), .str (bs (fin g)), .lit (.bool (hi g)), .lit (.bool (hf g)), .str (bs (rule g)), .lit (.bool (dn g)), .sl (List.map encO (kids g))])] = some (tf (allF g)) := fun g hg => t47 g
  have hkl := kids_le f
  have key : ∀ (r : List Fo) (j : Nat) (x : Int), x = j → (kids f).drop j = r →
      ∃ x', n47_6 ⟨[(1, .ptr 0 1 0 0), (3, .d (.lit (.int .i64 x)))], [⟨11, [.d (.agg [.lit (.int .i64 (kind f)), .str (bs (name f)), .str (bs (value f)), .str (bs (ini f)), .sl (List.map encS (any f)), .str (bs (fin f)), .lit (.bool (hi f)), .lit (.bool (hf f)), .str (bs (rule f)), .lit (.bool (dn f)), .sl (List.map encO (kids f))])], false, false, false⟩]⟩ =
        some (if r.any (fun k => !allF k) then (.ret, ⟨[(2, .d (.lit (.bool false)))], [⟨11, [.d (.agg [.lit (.int .i64 (kind f)), .str (bs (name f)), .str (bs (value f)), .str (bs (ini f)), .sl (List.map encS (any f)), .str (bs (fin f)), .lit (.bool (hi f)), .lit (.bool (hf f)), .str (bs (rule f)), .lit (.bool (dn f)), .sl (List.map encO (kids f))])], false, false, false⟩]⟩)
          else (.exit 0, ⟨[(1, .ptr 0 1 0 0), (3, x'), (8, .d (.lit (.bool false)))], [⟨11, [.d (.agg [.lit (.int .i64 (kind f)), .str (bs (name f)), .str (bs (value f)), .str (bs (ini f)), .sl (List.map encS (any f)), .str (bs (fin f)), .lit (.bool (hi f)), .lit (.bool (hf f)), .str (bs (rule f)), .lit (.bool (dn f)), .sl (List.map encO (kids f))])], false, false, false⟩]⟩)) := by
    intro r
    induction r with
    | nil =>
      intro j x hx hd
      have hd := drop_nil hd
      refine ⟨.d (.lit (.int .i64 x)), ?_⟩
      rw [r_n47_6]
      conv => cbv
      repeat (simp (disch := ((try simp only [n_ofNat, n_add, n_sub, n_mul, n_nadd, n_nsub]); omega)) only [decide_true, decide_false, if_true, if_false, ite_true, ite_false, lt_00, le_of, decide_eq_true_eq, Bool.decide_eq_true, Bool.true_eq, Bool.false_eq_true, reduceIte, not_true_eq_false, not_false_eq_true, lt_t, lt_f, le_t, le_f, wrap_i64, blt_t, blt_f, ble_t, ble_f, ieq_t, ieq_f, Int.reduceToNat, Int.reduceOfNat]; try (conv => cbv))
      try rfl
    | cons g r ih =>
      intro j x hx hd
      obtain ⟨g1, g2, g3, g4⟩ := drop_cons hd
      have hnat : Int.toNat x = j := by omega
      have hc := IH g g4
      obtain ⟨x', h⟩ := ih (j + 1) (Int.add x 1) (by rw [n_add]; omega) g3
      cases hs : allF g with
      | false =>
        rw [hs] at hc
        refine ⟨.undef, ?_⟩
        rw [r_n47_6, show ((g :: r).any fun k => !allF k) = true by simp [hs]]
        clear ih h
        conv => cbv
        repeat (simp (disch := ((try simp only [n_ofNat, n_add, n_sub, n_mul, n_nadd, n_nsub]); omega)) only [decide_true, decide_false, if_true, if_false, ite_true, ite_false, lt_00, le_of, decide_eq_true_eq, Bool.decide_eq_true, Bool.true_eq, Bool.false_eq_true, reduceIte, not_true_eq_false, not_false_eq_true, lt_t, lt_f, le_t, le_f, wrap_i64, blt_t, blt_f, ble_t, ble_f, ieq_t, ieq_f, Int.reduceToNat, Int.reduceOfNat, g2, hnat, hc]; try (conv => cbv))
        try rfl
      | true =>
        rw [hs] at hc
        refine ⟨x', ?_⟩
        rw [r_n47_6, show ((g :: r).any fun k => !allF k) = r.any (fun k => !allF k) by simp [hs]]
        clear ih
        generalize (r.any fun k => !allF k) = w at h ⊢
        conv at h => cbv
        conv => cbv
        repeat (simp (disch := ((try simp only [n_ofNat, n_add, n_sub, n_mul, n_nadd, n_nsub]); omega)) only [decide_true, decide_false, if_true, if_false, ite_true, ite_false, lt_00, le_of, decide_eq_true_eq, Bool.decide_eq_true, Bool.true_eq, Bool.false_eq_true, reduceIte, not_true_eq_false, not_false_eq_true, lt_t, lt_f, le_t, le_f, wrap_i64, blt_t, blt_f, ble_t, ble_f, ieq_t, ieq_f, Int.reduceToNat, Int.reduceOfNat, g2, hnat, hc]; try (conv => cbv))
        simp only [h]
  obtain ⟨x', h⟩ := key (kids f) 0 0 rfl rfl
  have h72 := t72 f
  rw [rOne_eq] at h72
  rw [p47, allF_eq]
  generalize ((kids f).any fun k => !allF k) = w at h ⊢
  generalize pOne f = w2 at h72 ⊢
  conv at h => cbv
  cases w
  · cases w2 <;> (conv => cbv) <;> (repeat (simp (disch := ((try simp only [n_ofNat, n_add, n_sub, n_mul, n_nadd, n_nsub]); omega)) only [decide_true, decide_false, if_true, if_false, ite_true, ite_false, lt_00, le_of, decide_eq_true_eq, Bool.decide_eq_true, Bool.true_eq, Bool.false_eq_true, reduceIte, not_true_eq_false, not_false_eq_true, lt_t, lt_f, le_t, le_f, wrap_i64, blt_t, blt_f, ble_t, ble_f, ieq_t, ieq_f, Int.reduceToNat, Int.reduceOfNat, h, h72]; try (conv => cbv))) <;> (first | done | exact True.intro | rfl)
  · cases w2 <;> (conv => cbv) <;> (repeat (simp (disch := ((try simp only [n_ofNat, n_add, n_sub, n_mul, n_nadd, n_nsub]); omega)) only [decide_true, decide_false, if_true, if_false, ite_true, ite_false, lt_00, le_of, decide_eq_true_eq, Bool.decide_eq_true, Bool.true_eq, Bool.false_eq_true, reduceIte, not_true_eq_false, not_false_eq_true, lt_t, lt_f, le_t, le_f, wrap_i64, blt_t, blt_f, ble_t, ble_f, ieq_t, ieq_f, Int.reduceToNat, Int.reduceOfNat, h, h72]; try (conv => cbv))) <;> (first | done | exact True.intro | rfl)
termination_by sz f
decreasing_by exact kids_lt hg

@[cbv_eval] theorem t24 (f : Fo) : pureCall C 24 [(.agg [.lit (.int .i64 (kind f)), .str (bs (name f)), .str (bs (value f)), .str (bs (ini f)), .sl (List.map encS (any f)), .str (bs (fin f)), .lit (.bool (hi f)), .lit (.bool (hf f)), .str (bs (rule f)), .lit (.bool (dn f)), .sl (List.map encO (kids f))])] = some (lit (if chkF f then 0 else 240)) := by
  have h45 := t45 f
  have h46 := t46 f
  have h47 := t47 f
  unfold chkF
  rw [p24]
  by_cases q1 : dep 8 f ≤ 8 <;> by_cases q2 : cnt8 f ≤ 60 <;> simp only [q1, q2, decide_true, decide_false] <;> cases b3 : allF f <;> rw [b3] at h47 <;> (conv => cbv) <;> (repeat (simp (disch := ((try simp only [n_ofNat, n_add, n_sub, n_mul, n_nadd, n_nsub]); omega)) only [decide_true, decide_false, if_true, if_false, ite_true, ite_false, lt_00, le_of, decide_eq_true_eq, Bool.decide_eq_true, Bool.true_eq, Bool.false_eq_true, reduceIte, not_true_eq_false, not_false_eq_true, lt_t, lt_f, le_t, le_f, wrap_i64, blt_t, blt_f, ble_t, ble_f, ieq_t, ieq_f, Int.reduceToNat, Int.reduceOfNat, h45, h46, h47]; try (conv => cbv))) <;> (first | done | exact True.intro | rfl)
end Go.L25
