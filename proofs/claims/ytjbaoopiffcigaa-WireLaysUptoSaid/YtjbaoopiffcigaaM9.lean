/- Layer 25: the making of elements. Conditions: none. -/
import Derived.Test.YtjbaoopiffcigaaM8
import Derived.Test.YtjbaoopiffcigaaG2
set_option linter.unusedVariables false
set_option linter.unusedSimpArgs false
namespace Go.L25
open Go Go.Eng Go.Proofs
set_option pp.deepTerms false
set_option pp.deepTerms.threshold 20
set_option maxRecDepth 10000
attribute [cbv_eval] q83 q84 q85 q86 q87 q66 p67 p69 q68 q41


theorem t42 (s : Bs) : pureCall C 42 [.lit (.int .i64 0), .lit (.int .i64 4), .str (bs s)] = some (.one (.d (encE (mkE 0 false 4 s [])))) := by
  rw [p42]
  conv => cbv


@[cbv_eval] theorem t42b (s : Bs) : pureCall C 42 [.lit (.int .i64 2), .lit (.int .i64 0), .str (bs s)] = some (.one (.d (encE (mkE 2 false 0 s [])))) := by
  rw [p42]; conv => cbv
@[cbv_eval] theorem t42c (s : Bs) : pureCall C 42 [.lit (.int .i64 2), .lit (.int .i64 1), .str (bs s)] = some (.one (.d (encE (mkE 2 false 1 s [])))) := by
  rw [p42]; conv => cbv
@[cbv_eval] theorem t42d (s : Bs) : pureCall C 42 [.lit (.int .i64 2), .lit (.int .i64 2), .str (bs s)] = some (.one (.d (encE (mkE 2 false 2 s [])))) := by
  rw [p42]; conv => cbv
@[cbv_eval] theorem t42e (s : Bs) : pureCall C 42 [.lit (.int .i64 2), .lit (.int .i64 3), .str (bs s)] = some (.one (.d (encE (mkE 2 false 3 s [])))) := by
  rw [p42]; conv => cbv
@[cbv_eval] theorem t42f (s : Bs) : pureCall C 42 [.lit (.int .i64 2), .lit (.int .i64 7), .str (bs s)] = some (.one (.d (encE (mkE 2 false 7 s [])))) := by
  rw [p42]; conv => cbv
attribute [cbv_eval] t42

def p1 (s : Bs) : Eo := mkE 2 false 1 s []
def pcs (f : Fo) : List Eo := (if hi f then [mkE 2 false 0 (ini f) []] else []) ++ (any f).map p1 ++ (if hf f then [mkE 2 false 2 (fin f) []] else [])
def subE (f : Fo) : Eo := mkE 2 true 4 b0 [mkE 0 false 4 (name f) [], mkE 0 true 16 b0 (pcs f)]
attribute [cbv_opaque] pcs

theorem t43k (f : Fo)   : ∀ (r' : List Bs) (acc : List Eo) (j : Nat) (x : Int), x = j → acc.length + r'.length ≤ 2 ^ 29 → (any f).drop j = r' →
      ∃ x', n43_12 ⟨[(1, .ptr 0 1 0 0), (2, .ptr 1 1 0 0), (3, .ptr 2 1 0 0), (4, .fn 68 [.ptr 2 1 0 0]), (20, .d (.sl (List.map encS (any f)))), (21, .d (.lit (.int .i64 (Int.ofNat (any f).length)))), (22, .d (.lit (.int .i64 x)))],
          [⟨11, [.d (.agg [.lit (.int .i64 (kind f)), .str (bs (name f)), .str (bs (value f)), .str (bs (ini f)), .sl (List.map encS (any f)), .str (bs (fin f)), .lit (.bool (hi f)), .lit (.bool (hf f)), .str (bs (rule f)), .lit (.bool (dn f)), .sl (List.map encO (kids f))])], false, false, false⟩, ⟨5, [.agg [.d (.lit (.int .i64 0)), .d (.lit (.bool false)), .d (.lit (.int .i64 0)), .d (.str []), .snil]], false, false, false⟩,
           ⟨1, [.sref 3 acc.length (bif acc.isEmpty then 0 else 5) 0 acc.length], false, false, false⟩, ⟨bif acc.isEmpty then 0 else 5, List.map AV.d (List.map encE acc), true, false, acc.isEmpty⟩]⟩ =
        some (.exit 0, ⟨[(1, .ptr 0 1 0 0), (2, .ptr 1 1 0 0), (3, .ptr 2 1 0 0), (4, .fn 68 [.ptr 2 1 0 0]), (20, .d (.sl (List.map encS (any f)))), (21, .d (.lit (.int .i64 (Int.ofNat (any f).length)))), (22, x'), (23, .d (.lit (.bool false)))],
          [⟨11, [.d (.agg [.lit (.int .i64 (kind f)), .str (bs (name f)), .str (bs (value f)), .str (bs (ini f)), .sl (List.map encS (any f)), .str (bs (fin f)), .lit (.bool (hi f)), .lit (.bool (hf f)), .str (bs (rule f)), .lit (.bool (dn f)), .sl (List.map encO (kids f))])], false, false, false⟩, ⟨5, [.agg [.d (.lit (.int .i64 0)), .d (.lit (.bool false)), .d (.lit (.int .i64 0)), .d (.str []), .snil]], false, false, false⟩,
           ⟨1, [.sref 3 (List.append acc (r'.map p1)).length (bif (List.append acc (r'.map p1)).isEmpty then 0 else 5) 0 (List.append acc (r'.map p1)).length], false, false, false⟩, ⟨bif (List.append acc (r'.map p1)).isEmpty then 0 else 5, List.map AV.d (List.map encE (List.append acc (r'.map p1))), true, false, (List.append acc (r'.map p1)).isEmpty⟩]⟩) := by
  intro r'
  induction r' with
  | nil =>
    intro acc j x hx hl hd
    have hd := drop_nil hd
    have hl2 := any_28 f
    refine ⟨.d (.lit (.int .i64 x)), ?_⟩
    rw [r_n43_12, show List.append acc (List.map p1 []) = acc from List.append_nil _]
    cases he : acc.isEmpty
    · conv => cbv
      repeat (simp (disch := ((try simp only [n_ofNat, n_add, n_sub, n_mul, n_nadd, n_nsub]); omega)) only [decide_true, decide_false, if_true, if_false, ite_true, ite_false, lt_00, le_of, decide_eq_true_eq, Bool.decide_eq_true, Bool.true_eq, Bool.false_eq_true, reduceIte, not_true_eq_false, not_false_eq_true, c_nadd0, c_tk2, lt_t, lt_f, le_t, le_f, wrap_i64, blt_t, blt_f, ble_t, ble_f, ieq_t, ieq_f, Int.reduceToNat, Int.reduceOfNat, he]; try (conv => cbv))
      (first | done | exact True.intro | rfl)
    · have : acc = [] := List.isEmpty_iff.1 he
      subst this
      conv => cbv
      repeat (simp (disch := ((try simp only [n_ofNat, n_add, n_sub, n_mul, n_nadd, n_nsub]); omega)) only [decide_true, decide_false, if_true, if_false, ite_true, ite_false, lt_00, le_of, decide_eq_true_eq, Bool.decide_eq_true, Bool.true_eq, Bool.false_eq_true, reduceIte, not_true_eq_false, not_false_eq_true, c_nadd0, c_tk2, lt_t, lt_f, le_t, le_f, wrap_i64, blt_t, blt_f, ble_t, ble_f, ieq_t, ieq_f, Int.reduceToNat, Int.reduceOfNat]; try (conv => cbv))
      (first | done | exact True.intro | rfl)
  | cons a' r' ih =>
    intro acc j x hx hl hd
    simp only [List.length_cons] at hl
    obtain ⟨g1, g2, g3, -⟩ := drop_cons hd
    have hl2 := any_28 f
    have hnat : Int.toNat x = j := by omega
    obtain ⟨x', h⟩ := ih (List.append acc [p1 a']) (j + 1) (Int.add x 1) (by rw [n_add]; omega) (by show (acc ++ [p1 a']).length + _ ≤ _; rw [List.length_append]; simp only [List.length_cons, List.length_nil]; omega) g3
    refine ⟨x', ?_⟩
    rw [r_n43_12]
    rw [show List.append (List.append acc [p1 a']) (List.map p1 r') = List.append acc (List.map p1 (a' :: r')) from List.append_assoc acc [p1 a'] _] at h
    generalize List.append acc (List.map p1 (a' :: r')) = w at h ⊢
    cases he : acc.isEmpty
    · conv => cbv
      conv at h => cbv
      repeat (simp (disch := ((try simp only [n_ofNat, n_add, n_sub, n_mul, n_nadd, n_nsub]); omega)) only [decide_true, decide_false, if_true, if_false, ite_true, ite_false, lt_00, le_of, decide_eq_true_eq, Bool.decide_eq_true, Bool.true_eq, Bool.false_eq_true, reduceIte, not_true_eq_false, not_false_eq_true, c_nadd0, c_tk2, lt_t, lt_f, le_t, le_f, wrap_i64, blt_t, blt_f, ble_t, ble_f, ieq_t, ieq_f, Int.reduceToNat, Int.reduceOfNat, he, g2, hnat]; try (conv => cbv))
      simp only [h]
    · have : acc = [] := List.isEmpty_iff.1 he
      subst this
      conv => cbv
      conv at h => cbv
      repeat (simp (disch := ((try simp only [n_ofNat, n_add, n_sub, n_mul, n_nadd, n_nsub]); omega)) only [decide_true, decide_false, if_true, if_false, ite_true, ite_false, lt_00, le_of, decide_eq_true_eq, Bool.decide_eq_true, Bool.true_eq, Bool.false_eq_true, reduceIte, not_true_eq_false, not_false_eq_true, c_nadd0, c_tk2, lt_t, lt_f, le_t, le_f, wrap_i64, blt_t, blt_f, ble_t, ble_f, ieq_t, ieq_f, Int.reduceToNat, Int.reduceOfNat, g2, hnat]; try (conv => cbv))
      simp only [h]
theorem pcs_le (f : Fo) : (pcs f).length ≤ 2 ^ 30 := by
  have := any_28 f
  unfold pcs
  simp only [List.length_append, List.length_map]
  split <;> split <;> simp <;> omega
@[cbv_eval] theorem mk_pcs (f : Fo) : els (mkE 0 true 16 b0 (pcs f)) = pcs f := mk_els _ _ _ _ _ (pcs_le f)

theorem t43 (f : Fo) : pureCall C 43 [(.agg [.lit (.int .i64 (kind f)), .str (bs (name f)), .str (bs (value f)), .str (bs (ini f)), .sl (List.map encS (any f)), .str (bs (fin f)), .lit (.bool (hi f)), .lit (.bool (hf f)), .str (bs (rule f)), .lit (.bool (dn f)), .sl (List.map encO (kids f))])] = some (.one (.d (encE (subE f)))) := by
  have hl := any_28 f
  rw [p43]
  cases b1 : hi f
  · obtain ⟨x', h⟩ := t43k f (any f) [] 0 0 rfl (by simp; omega) rfl
    have hp : pcs f = List.append (List.append [] (List.map p1 (any f))) (if hf f then [mkE 2 false 2 (fin f) []] else []) := by unfold pcs; rw [b1]; rfl
    have hw : (List.append [] (List.map p1 (any f))).length ≤ 2 ^ 28 := by show (List.map p1 (any f)).length ≤ _; simpa using hl
    rw [b1] at h
    generalize List.append [] (List.map p1 (any f)) = w at h hp hw
    conv at h => cbv
    cases b2 : hf f
    · have hp : pcs f = w := by rw [hp, b2]; exact List.append_nil _
      rw [b2] at h
      cases he : w.isEmpty
      · conv => cbv
        repeat (simp (disch := ((try simp only [n_ofNat, n_add, n_sub, n_mul, n_nadd, n_nsub]); omega)) only [decide_true, decide_false, if_true, if_false, ite_true, ite_false, lt_00, le_of, decide_eq_true_eq, Bool.decide_eq_true, Bool.true_eq, Bool.false_eq_true, reduceIte, not_true_eq_false, not_false_eq_true, c_nadd0, c_tk2, lt_t, lt_f, le_t, le_f, wrap_i64, blt_t, blt_f, ble_t, ble_f, ieq_t, ieq_f, Int.reduceToNat, Int.reduceOfNat, b1, b2, he, h, hp]; try (conv => cbv))
        (first | done | exact True.intro | rfl)
      · have : w = [] := List.isEmpty_iff.1 he
        subst this
        conv => cbv
        repeat (simp (disch := ((try simp only [n_ofNat, n_add, n_sub, n_mul, n_nadd, n_nsub]); omega)) only [decide_true, decide_false, if_true, if_false, ite_true, ite_false, lt_00, le_of, decide_eq_true_eq, Bool.decide_eq_true, Bool.true_eq, Bool.false_eq_true, reduceIte, not_true_eq_false, not_false_eq_true, c_nadd0, c_tk2, lt_t, lt_f, le_t, le_f, wrap_i64, blt_t, blt_f, ble_t, ble_f, ieq_t, ieq_f, Int.reduceToNat, Int.reduceOfNat, b1, b2, h, hp]; try (conv => cbv))
        (first | done | exact True.intro | rfl)
    · have hp : pcs f = List.append w [mkE 2 false 2 (fin f) []] := by rw [hp, b2]; rfl
      rw [b2] at h
      cases he : w.isEmpty
      · conv => cbv
        repeat (simp (disch := ((try simp only [n_ofNat, n_add, n_sub, n_mul, n_nadd, n_nsub]); omega)) only [decide_true, decide_false, if_true, if_false, ite_true, ite_false, lt_00, le_of, decide_eq_true_eq, Bool.decide_eq_true, Bool.true_eq, Bool.false_eq_true, reduceIte, not_true_eq_false, not_false_eq_true, c_nadd0, c_tk2, lt_t, lt_f, le_t, le_f, wrap_i64, blt_t, blt_f, ble_t, ble_f, ieq_t, ieq_f, Int.reduceToNat, Int.reduceOfNat, b1, b2, he, h, hp]; try (conv => cbv))
        (first | done | exact True.intro | rfl)
      · have : w = [] := List.isEmpty_iff.1 he
        subst this
        conv => cbv
        repeat (simp (disch := ((try simp only [n_ofNat, n_add, n_sub, n_mul, n_nadd, n_nsub]); omega)) only [decide_true, decide_false, if_true, if_false, ite_true, ite_false, lt_00, le_of, decide_eq_true_eq, Bool.decide_eq_true, Bool.true_eq, Bool.false_eq_true, reduceIte, not_true_eq_false, not_false_eq_true, c_nadd0, c_tk2, lt_t, lt_f, le_t, le_f, wrap_i64, blt_t, blt_f, ble_t, ble_f, ieq_t, ieq_f, Int.reduceToNat, Int.reduceOfNat, b1, b2, h, hp]; try (conv => cbv))
        (first | done | exact True.intro | rfl)
  · obtain ⟨x', h⟩ := t43k f (any f) [mkE 2 false 0 (ini f) []] 0 0 rfl (by simp; omega) rfl
    have hp : pcs f = List.append (List.append [mkE 2 false 0 (ini f) []] (List.map p1 (any f))) (if hf f then [mkE 2 false 2 (fin f) []] else []) := by unfold pcs; rw [b1]; rfl
    have hw : (List.append [mkE 2 false 0 (ini f) []] (List.map p1 (any f))).length ≤ 2 ^ 29 := by show ([_] ++ List.map p1 (any f)).length ≤ _; simp; omega
    rw [b1] at h
    generalize List.append [mkE 2 false 0 (ini f) []] (List.map p1 (any f)) = w at h hp hw
    conv at h => cbv
    cases b2 : hf f
    · have hp : pcs f = w := by rw [hp, b2]; exact List.append_nil _
      rw [b2] at h
      cases he : w.isEmpty
      · conv => cbv
        repeat (simp (disch := ((try simp only [n_ofNat, n_add, n_sub, n_mul, n_nadd, n_nsub]); omega)) only [decide_true, decide_false, if_true, if_false, ite_true, ite_false, lt_00, le_of, decide_eq_true_eq, Bool.decide_eq_true, Bool.true_eq, Bool.false_eq_true, reduceIte, not_true_eq_false, not_false_eq_true, c_nadd0, c_tk2, lt_t, lt_f, le_t, le_f, wrap_i64, blt_t, blt_f, ble_t, ble_f, ieq_t, ieq_f, Int.reduceToNat, Int.reduceOfNat, b1, b2, he, h, hp]; try (conv => cbv))
        (first | done | exact True.intro | rfl)
      · have : w = [] := List.isEmpty_iff.1 he
        subst this
        conv => cbv
        repeat (simp (disch := ((try simp only [n_ofNat, n_add, n_sub, n_mul, n_nadd, n_nsub]); omega)) only [decide_true, decide_false, if_true, if_false, ite_true, ite_false, lt_00, le_of, decide_eq_true_eq, Bool.decide_eq_true, Bool.true_eq, Bool.false_eq_true, reduceIte, not_true_eq_false, not_false_eq_true, c_nadd0, c_tk2, lt_t, lt_f, le_t, le_f, wrap_i64, blt_t, blt_f, ble_t, ble_f, ieq_t, ieq_f, Int.reduceToNat, Int.reduceOfNat, b1, b2, h, hp]; try (conv => cbv))
        (first | done | exact True.intro | rfl)
    · have hp : pcs f = List.append w [mkE 2 false 2 (fin f) []] := by rw [hp, b2]; rfl
      rw [b2] at h
      cases he : w.isEmpty
      · conv => cbv
        repeat (simp (disch := ((try simp only [n_ofNat, n_add, n_sub, n_mul, n_nadd, n_nsub]); omega)) only [decide_true, decide_false, if_true, if_false, ite_true, ite_false, lt_00, le_of, decide_eq_true_eq, Bool.decide_eq_true, Bool.true_eq, Bool.false_eq_true, reduceIte, not_true_eq_false, not_false_eq_true, c_nadd0, c_tk2, lt_t, lt_f, le_t, le_f, wrap_i64, blt_t, blt_f, ble_t, ble_f, ieq_t, ieq_f, Int.reduceToNat, Int.reduceOfNat, b1, b2, he, h, hp]; try (conv => cbv))
        (first | done | exact True.intro | rfl)
      · have : w = [] := List.isEmpty_iff.1 he
        subst this
        conv => cbv
        repeat (simp (disch := ((try simp only [n_ofNat, n_add, n_sub, n_mul, n_nadd, n_nsub]); omega)) only [decide_true, decide_false, if_true, if_false, ite_true, ite_false, lt_00, le_of, decide_eq_true_eq, Bool.decide_eq_true, Bool.true_eq, Bool.false_eq_true, reduceIte, not_true_eq_false, not_false_eq_true, c_nadd0, c_tk2, lt_t, lt_f, le_t, le_f, wrap_i64, blt_t, blt_f, ble_t, ble_f, ieq_t, ieq_f, Int.reduceToNat, Int.reduceOfNat, b1, b2, h, hp]; try (conv => cbv))
        (first | done | exact True.intro | rfl)
end Go.L25
