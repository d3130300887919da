/- Layer 25: the counting of filters, and words. Conditions: none. -/
import Derived.Test.YtjbaoopiffcigaaM2
set_option linter.unusedVariables false
set_option linter.unusedSimpArgs false
namespace Go.L25
open Go Go.Eng Go.Proofs
set_option pp.deepTerms false
set_option pp.deepTerms.threshold 9
set_option maxRecDepth 10000

theorem t54 : ∀ (l : Nat) (f : Fo), l ≤ 100 → pureCall C 54 [(.agg [.lit (.int .i64 (kind f)), .str (bs (name f)), .str (bs (value f)), .str (bs (ini f)), .sl (List.map encS (any f)), .str (bs (fin f)), .lit (.bool (hi f)), .lit (.bool (hf f)), .str (bs (rule f)), .lit (.bool (dn f)), .sl (List.map encO (kids f))]), .lit (.int .i64 l)] = some (lit (dep l f))
  | 0, f, hl => by
    have e : dep 0 f = 1 := rfl
    rw [p54, e]
    conv => cbv
    rw [r_n54_8]
    conv => cbv
    by_cases h : Int.lt 0 (Int.ofNat (kids f).length)
    · repeat (simp only [decide_true, decide_false, if_true, if_false, ite_true, ite_false, lt_00, le_of, decide_eq_true_eq, Bool.decide_eq_true, Bool.true_eq, Bool.false_eq_true, reduceIte, not_true_eq_false, not_false_eq_true, h]; try (conv => cbv))
      (first | done | exact True.intro | rfl)
    · repeat (simp only [decide_true, decide_false, if_true, if_false, ite_true, ite_false, lt_00, le_of, decide_eq_true_eq, Bool.decide_eq_true, Bool.true_eq, Bool.false_eq_true, reduceIte, not_true_eq_false, not_false_eq_true, h]; try (conv => cbv))
      (first | done | exact True.intro | rfl)
  | l + 1, f, hl => by
    have hkl := kids_le f
    have key : ∀ (r : List Fo) (j b : Nat) (x y : Int), x = j → y = b → b ≤ l + 1 → (kids f).drop j = r →
        ∃ x', n54_8 ⟨[(1, .d (.lit (.int .i64 (l + 1 : Nat)))), (2, .ptr 0 1 0 0), (5, .d (.lit (.int .i64 y))), (6, .d (.lit (.int .i64 x)))], [⟨11, [.d (.agg [.lit (.int .i64 (kind f)), .str (bs (name f)), .str (bs (value f)), .str (bs (ini f)), .sl (List.map encS (any f)), .str (bs (fin f)), .lit (.bool (hi f)), .lit (.bool (hf f)), .str (bs (rule f)), .lit (.bool (dn f)), .sl (List.map encO (kids f))])], false, false, false⟩]⟩ =
          some (.exit 0, ⟨[(1, .d (.lit (.int .i64 (l + 1 : Nat)))), (2, .ptr 0 1 0 0), (5, .d (.lit (.int .i64 ((r.map (dep l)).foldl (fun a b => if a < b then b else a) b : Nat)))), (6, x'), (15, .d (.lit (.bool false)))], [⟨11, [.d (.agg [.lit (.int .i64 (kind f)), .str (bs (name f)), .str (bs (value f)), .str (bs (ini f)), .sl (List.map encS (any f)), .str (bs (fin f)), .lit (.bool (hi f)), .lit (.bool (hf f)), .str (bs (rule f)), .lit (.bool (dn f)), .sl (List.map encO (kids f))])], false, false, false⟩]⟩) := by
      intro r
      induction r with
      | nil =>
        intro j b x y hx hy hb hd
        have hd := drop_nil hd
        refine ⟨.d (.lit (.int .i64 x)), ?_⟩
        simp only [List.map_nil, List.foldl_nil]
        subst hy
        rw [r_n54_8]
        conv => cbv
        repeat (simp (disch := ((try simp only [n_ofNat, n_add, n_sub, n_mul, n_nadd, n_nsub]); omega)) only [decide_true, decide_false, if_true, if_false, ite_true, ite_false, lt_00, le_of, decide_eq_true_eq, Bool.decide_eq_true, Bool.true_eq, Bool.false_eq_true, reduceIte, not_true_eq_false, not_false_eq_true, lt_t, lt_f, le_t, le_f, wrap_i64, blt_t, blt_f, ble_t, ble_f, ieq_t, ieq_f, Int.reduceToNat, Int.reduceOfNat]; try (conv => cbv))
        (first | done | exact True.intro | rfl)
      | cons g r ih =>
        intro j b x y hx hy hb hd
        obtain ⟨g1, g2, g3, g4⟩ := drop_cons hd
        have hnat : Int.toNat x = j := by omega
        have hc := t54 l g (by omega)
        have hd' := dep_le l g
        have hw : IntKind.wrap .i64 (Int.sub (Int.ofNat (l.add 1)) 1) = ((l : Nat) : Int) := by
          rw [show Int.sub (Int.ofNat (l.add 1)) 1 = ((l : Nat) : Int) by show ((l + 1 : Nat) : Int) - 1 = l; omega]
          exact wrap_i64 (by omega) (by omega)
        rw [List.map_cons, List.foldl_cons]
        by_cases hq : b < dep l g
        · rw [if_pos hq]
          obtain ⟨x', h⟩ := ih (j + 1) (dep l g) (Int.add x 1) (dep l g : Nat) (by rw [n_add]; omega) rfl (by omega) g3
          refine ⟨x', ?_⟩
          rw [r_n54_8]
          generalize List.foldl _ (dep l g) _ = w at h ⊢
          conv at h => cbv
          conv => cbv
          repeat (simp (disch := ((try simp only [n_ofNat, n_add, n_sub, n_mul, n_nadd, n_nsub]); omega)) only [decide_true, decide_false, if_true, if_false, ite_true, ite_false, lt_00, le_of, decide_eq_true_eq, Bool.decide_eq_true, Bool.true_eq, Bool.false_eq_true, reduceIte, not_true_eq_false, not_false_eq_true, lt_t, lt_f, le_t, le_f, wrap_i64, blt_t, blt_f, ble_t, ble_f, ieq_t, ieq_f, Int.reduceToNat, Int.reduceOfNat, g2, hnat, hc, hw]; try (conv => cbv))
          simp only [h]
        · rw [if_neg hq]
          obtain ⟨x', h⟩ := ih (j + 1) b (Int.add x 1) y (by rw [n_add]; omega) hy (by omega) g3
          refine ⟨x', ?_⟩
          rw [r_n54_8]
          generalize List.foldl _ b _ = w at h ⊢
          conv at h => cbv
          conv => cbv
          repeat (simp (disch := ((try simp only [n_ofNat, n_add, n_sub, n_mul, n_nadd, n_nsub]); omega)) only [decide_true, decide_false, if_true, if_false, ite_true, ite_false, lt_00, le_of, decide_eq_true_eq, Bool.decide_eq_true, Bool.true_eq, Bool.false_eq_true, reduceIte, not_true_eq_false, not_false_eq_true, lt_t, lt_f, le_t, le_f, wrap_i64, blt_t, blt_f, ble_t, ble_f, ieq_t, ieq_f, Int.reduceToNat, Int.reduceOfNat, g2, hnat, hc, hw]; try (conv => cbv))
          simp only [h]
    obtain ⟨x', h⟩ := key (kids f) 0 0 0 0 rfl rfl (by omega) rfl
    have hle := dep_le (l + 1) f
    rw [p54]
    simp only [dep] at hle ⊢
    generalize List.foldl _ 0 _ = w at h hle ⊢
    conv at h => cbv
    conv => cbv
    simp only [h]
    conv => cbv
    have : IntKind.wrap .i64 (Int.add (Int.ofNat w) 1) = Int.ofNat (w.add 1) := wrap_i64 (x := ((w + 1 : Nat) : Int)) (by omega) (by omega)
    try rw [this]
    (first | done | exact True.intro | rfl)

@[cbv_eval] theorem t34 (f : Fo) : pureCall C 34 [(.agg [.lit (.int .i64 (kind f)), .str (bs (name f)), .str (bs (value f)), .str (bs (ini f)), .sl (List.map encS (any f)), .str (bs (fin f)), .lit (.bool (hi f)), .lit (.bool (hf f)), .str (bs (rule f)), .lit (.bool (dn f)), .sl (List.map encO (kids f))])] = some (lit (dep 8 f)) := by
  have h : pureCall C 54 [(.agg [.lit (.int .i64 (kind f)), .str (bs (name f)), .str (bs (value f)), .str (bs (ini f)), .sl (List.map encS (any f)), .str (bs (fin f)), .lit (.bool (hi f)), .lit (.bool (hf f)), .str (bs (rule f)), .lit (.bool (dn f)), .sl (List.map encO (kids f))]), .lit (.int .i64 8)] = some (lit (dep 8 f)) := t54 8 f (by omega)
  rw [p34]
  conv => cbv
  repeat (simp only [decide_true, decide_false, if_true, if_false, ite_true, ite_false, lt_00, le_of, decide_eq_true_eq, Bool.decide_eq_true, Bool.true_eq, Bool.false_eq_true, reduceIte, not_true_eq_false, not_false_eq_true, h]; try (conv => cbv))
  (first | done | exact True.intro | rfl)

theorem t55 (f : Fo) (q : Nat) (hq : q ≤ 61) : pureCall C 55 [(.agg [.lit (.int .i64 (kind f)), .str (bs (name f)), .str (bs (value f)), .str (bs (ini f)), .sl (List.map encS (any f)), .str (bs (fin f)), .lit (.bool (hi f)), .lit (.bool (hf f)), .str (bs (rule f)), .lit (.bool (dn f)), .sl (List.map encO (kids f))]), .lit (.int .i64 q)] = some (lit (par f q)) := by
  have IH : ∀ g ∈ kids f, ∀ q : Nat, q ≤ 61 → pureCall C 55 [(.agg [.lit (.int .i64 (kind g)), .str (bs (name g)), .str (bs (value g)), .str (bs (ini g)), .sl (List.map encS (any g)), .str (bs (fin g)), .lit (.bool (hi g)), .lit (.bool (hf g)), .str (bs (rule g)), .lit (.bool (dn g)), .sl (List.map encO (kids g))]), .lit (.int .i64 q)] = some (lit (par g q)) := fun g hg q hq => t55 g q hq
  have hkl := kids_le f
  have key : ∀ (r : List Fo) (j m : Nat) (x y : Int), x = j → y = m → (kids f).drop j = r → m ≤ 62 →
      ∃ x', n55_8 ⟨[(1, .d (.lit (.int .i64 y))), (2, .ptr 0 1 0 0), (5, .d (.lit (.int .i64 x)))], [⟨11, [.d (.agg [.lit (.int .i64 (kind f)), .str (bs (name f)), .str (bs (value f)), .str (bs (ini f)), .sl (List.map encS (any f)), .str (bs (fin f)), .lit (.bool (hi f)), .lit (.bool (hf f)), .str (bs (rule f)), .lit (.bool (dn f)), .sl (List.map encO (kids f))])], false, false, false⟩]⟩ =
        some (.exit 0, ⟨[(1, .d (.lit (.int .i64 (pars r m)))), (2, .ptr 0 1 0 0), (5, x'), (16, .d (.lit (.bool false)))], [⟨11, [.d (.agg [.lit (.int .i64 (kind f)), .str (bs (name f)), .str (bs (value f)), .str (bs (ini f)), .sl (List.map encS (any f)), .str (bs (fin f)), .lit (.bool (hi f)), .lit (.bool (hf f)), .str (bs (rule f)), .lit (.bool (dn f)), .sl (List.map encO (kids f))])], false, false, false⟩]⟩) := by
    intro r
    induction r with
    | nil =>
      intro j m x y hx hy hd hm
      have hd := drop_nil hd
      refine ⟨.d (.lit (.int .i64 x)), ?_⟩
      rw [show pars [] m = m from rfl]
      subst hy
      rw [r_n55_8]
      conv => cbv
      repeat (simp (disch := ((try simp only [n_ofNat, n_add, n_sub, n_mul, n_nadd, n_nsub]); omega)) only [decide_true, decide_false, if_true, if_false, ite_true, ite_false, lt_00, le_of, decide_eq_true_eq, Bool.decide_eq_true, Bool.true_eq, Bool.false_eq_true, reduceIte, not_true_eq_false, not_false_eq_true, lt_t, lt_f, le_t, le_f, wrap_i64, blt_t, blt_f, ble_t, ble_f, ieq_t, ieq_f, Int.reduceToNat, Int.reduceOfNat]; try (conv => cbv))
      (first | done | exact True.intro | rfl)
    | cons g r ih =>
      intro j m x y hx hy hd hm
      obtain ⟨g1, g2, g3, g4⟩ := drop_cons hd
      have hnat : Int.toNat x = j := by omega
      by_cases h2 : m ≤ 60
      · have hc := IH g g4 m (by omega)
        rw [← hy] at hc
        rw [show pars (g :: r) m = pars r (par g m) by simp only [pars, List.foldl_cons, if_pos h2]]
        obtain ⟨x', h⟩ := ih (j + 1) (par g m) (Int.add x 1) (par g m) (by rw [n_add]; omega) rfl g3 (by have := par_le g m; omega)
        refine ⟨x', ?_⟩
        rw [r_n55_8]
        conv at h => cbv
        conv => cbv
        repeat (simp (disch := ((try simp only [n_ofNat, n_add, n_sub, n_mul, n_nadd, n_nsub]); omega)) only [decide_true, decide_false, if_true, if_false, ite_true, ite_false, lt_00, le_of, decide_eq_true_eq, Bool.decide_eq_true, Bool.true_eq, Bool.false_eq_true, reduceIte, not_true_eq_false, not_false_eq_true, lt_t, lt_f, le_t, le_f, wrap_i64, blt_t, blt_f, ble_t, ble_f, ieq_t, ieq_f, Int.reduceToNat, Int.reduceOfNat, g2, hnat, hc]; try (conv => cbv))
        simp only [h]
      · have e : ∀ l : List Fo, pars l m = m := by
          intro l
          induction l with
          | nil => rfl
          | cons a l ihl => simp only [pars, List.foldl_cons, if_neg h2] at ihl ⊢; exact ihl
        refine ⟨.d (.lit (.int .i64 x)), ?_⟩
        rw [e]
        subst hy
        rw [r_n55_8]
        conv => cbv
        repeat (simp (disch := ((try simp only [n_ofNat, n_add, n_sub, n_mul, n_nadd, n_nsub]); omega)) only [decide_true, decide_false, if_true, if_false, ite_true, ite_false, lt_00, le_of, decide_eq_true_eq, Bool.decide_eq_true, Bool.true_eq, Bool.false_eq_true, reduceIte, not_true_eq_false, not_false_eq_true, lt_t, lt_f, le_t, le_f, wrap_i64, blt_t, blt_f, ble_t, ble_f, ieq_t, ieq_f, Int.reduceToNat, Int.reduceOfNat]; try (conv => cbv))
        (first | done | exact True.intro | rfl)
  obtain ⟨x', h⟩ := key (kids f) 0 (q + 1) 0 ((q + 1 : Nat) : Int) rfl rfl rfl (by omega)
  have hw : IntKind.wrap .i64 (Int.add (Int.ofNat q) 1) = ((q + 1 : Nat) : Int) := wrap_i64 (x := ((q + 1 : Nat) : Int)) (by omega) (by omega)
  rw [p55, par_eq]
  generalize pars (kids f) (q + 1) = w at h ⊢
  conv at h => cbv
  by_cases hb : 61 < w
  · rw [show min w 61 = 61 by omega]
    conv => cbv
    simp only [hw]
    conv => cbv
    simp only [h]
    conv => cbv
    repeat (simp (disch := ((try simp only [n_ofNat, n_add, n_sub, n_mul, n_nadd, n_nsub]); omega)) only [decide_true, decide_false, if_true, if_false, ite_true, ite_false, lt_00, le_of, decide_eq_true_eq, Bool.decide_eq_true, Bool.true_eq, Bool.false_eq_true, reduceIte, not_true_eq_false, not_false_eq_true, lt_t, lt_f, le_t, le_f, wrap_i64, blt_t, blt_f, ble_t, ble_f, ieq_t, ieq_f, Int.reduceToNat, Int.reduceOfNat]; try (conv => cbv))
    (first | done | exact True.intro | rfl)
  · rw [show min w 61 = w by omega]
    conv => cbv
    simp only [hw]
    conv => cbv
    simp only [h]
    conv => cbv
    repeat (simp (disch := ((try simp only [n_ofNat, n_add, n_sub, n_mul, n_nadd, n_nsub]); omega)) only [decide_true, decide_false, if_true, if_false, ite_true, ite_false, lt_00, le_of, decide_eq_true_eq, Bool.decide_eq_true, Bool.true_eq, Bool.false_eq_true, reduceIte, not_true_eq_false, not_false_eq_true, lt_t, lt_f, le_t, le_f, wrap_i64, blt_t, blt_f, ble_t, ble_f, ieq_t, ieq_f, Int.reduceToNat, Int.reduceOfNat]; try (conv => cbv))
    (first | done | exact True.intro | rfl)
termination_by sz f
decreasing_by exact kids_lt hg

noncomputable def cnt8 (f : Fo) : Nat := if 8 < dep 8 f then 61 else par f 0
attribute [cbv_opaque] cnt8
@[cbv_eval] theorem t35 (f : Fo) : pureCall C 35 [(.agg [.lit (.int .i64 (kind f)), .str (bs (name f)), .str (bs (value f)), .str (bs (ini f)), .sl (List.map encS (any f)), .str (bs (fin f)), .lit (.bool (hi f)), .lit (.bool (hf f)), .str (bs (rule f)), .lit (.bool (dn f)), .sl (List.map encO (kids f))])] = some (lit (cnt8 f)) := by
  have h2 : pureCall C 55 [(.agg [.lit (.int .i64 (kind f)), .str (bs (name f)), .str (bs (value f)), .str (bs (ini f)), .sl (List.map encS (any f)), .str (bs (fin f)), .lit (.bool (hi f)), .lit (.bool (hf f)), .str (bs (rule f)), .lit (.bool (dn f)), .sl (List.map encO (kids f))]), .lit (.int .i64 0)] = some (.one (.d (.lit (.int .i64 (par f 0))))) := t55 f 0 (by omega)
  rw [p35]
  by_cases hd : 8 < dep 8 f
  · rw [show cnt8 f = 61 from if_pos hd]
    conv => cbv
    repeat (simp (disch := ((try simp only [n_ofNat, n_add, n_sub, n_mul, n_nadd, n_nsub]); omega)) only [decide_true, decide_false, if_true, if_false, ite_true, ite_false, lt_00, le_of, decide_eq_true_eq, Bool.decide_eq_true, Bool.true_eq, Bool.false_eq_true, reduceIte, not_true_eq_false, not_false_eq_true, lt_t, lt_f, le_t, le_f, wrap_i64, blt_t, blt_f, ble_t, ble_f, ieq_t, ieq_f, Int.reduceToNat, Int.reduceOfNat]; try (conv => cbv))
    (first | done | exact True.intro | rfl)
  · rw [show cnt8 f = par f 0 from if_neg hd]
    conv => cbv
    repeat (simp (disch := ((try simp only [n_ofNat, n_add, n_sub, n_mul, n_nadd, n_nsub]); omega)) only [decide_true, decide_false, if_true, if_false, ite_true, ite_false, lt_00, le_of, decide_eq_true_eq, Bool.decide_eq_true, Bool.true_eq, Bool.false_eq_true, reduceIte, not_true_eq_false, not_false_eq_true, lt_t, lt_f, le_t, le_f, wrap_i64, blt_t, blt_f, ble_t, ble_f, ieq_t, ieq_f, Int.reduceToNat, Int.reduceOfNat, h2]; try (conv => cbv))
    (first | done | exact True.intro | rfl)
end Go.L25
