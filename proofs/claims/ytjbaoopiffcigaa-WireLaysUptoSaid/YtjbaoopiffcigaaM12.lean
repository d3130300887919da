/- Layer 25: the document's counting of filters. Conditions: none. -/
import Derived.Test.YtjbaoopiffcigaaM3
import Derived.Test.YtjbaoopiffcigaaG3
set_option linter.unusedVariables false
set_option linter.unusedSimpArgs false
namespace Go.L25
open Go Go.Eng Go.Proofs
set_option pp.deepTerms false
set_option pp.deepTerms.threshold 9
set_option maxRecDepth 10000

theorem t70 : ∀ (l : Nat) (f : Fo), l ≤ 100 → pureCall C 70 [(.agg [.lit (.int .i64 (kind f)), .str (bs (name f)), .str (bs (value f)), .str (bs (ini f)), .sl (List.map encS (any f)), .str (bs (fin f)), .lit (.bool (hi f)), .lit (.bool (hf f)), .str (bs (rule f)), .lit (.bool (dn f)), .sl (List.map encO (kids f))]), .lit (.int .i64 (l + 1 : Nat))] = some (lit (dep l f))
  | 0, f, hl => by
    have e : dep 0 f = 1 := rfl
    have hk := kids_le f
    rw [p70, e]
    conv => cbv
    rw [r_n70_8]
    conv => cbv
    by_cases h : Int.lt 0 (Int.ofNat (kids f).length)
    · repeat (simp (disch := ((try simp only [n_ofNat, n_add, n_sub, n_mul, n_nadd, n_nsub]); omega)) only [decide_true, decide_false, if_true, if_false, ite_true, ite_false, lt_00, le_of, decide_eq_true_eq, Bool.decide_eq_true, Bool.true_eq, Bool.false_eq_true, reduceIte, not_true_eq_false, not_false_eq_true, lt_t, lt_f, le_t, le_f, wrap_i64, blt_t, blt_f, ble_t, ble_f, ieq_t, ieq_f, Int.reduceToNat, Int.reduceOfNat, h]; try (conv => cbv))
      (first | done | exact True.intro | rfl)
    · repeat (simp (disch := ((try simp only [n_ofNat, n_add, n_sub, n_mul, n_nadd, n_nsub]); omega)) only [decide_true, decide_false, if_true, if_false, ite_true, ite_false, lt_00, le_of, decide_eq_true_eq, Bool.decide_eq_true, Bool.true_eq, Bool.false_eq_true, reduceIte, not_true_eq_false, not_false_eq_true, lt_t, lt_f, le_t, le_f, wrap_i64, blt_t, blt_f, ble_t, ble_f, ieq_t, ieq_f, Int.reduceToNat, Int.reduceOfNat, h]; try (conv => cbv))
      (first | done | exact True.intro | rfl)
  | l + 1, f, hl => by
    have hkl := kids_le f
    have key : ∀ (r : List Fo) (j b : Nat) (x y : Int), x = j → y = b → b ≤ l + 1 → (kids f).drop j = r →
        ∃ x', n70_8 ⟨[(1, .d (.lit (.int .i64 (l + 1 + 1 : Nat)))), (2, .ptr 0 1 0 0), (5, .d (.lit (.int .i64 y))), (6, .d (.lit (.int .i64 x)))], [⟨11, [.d (.agg [.lit (.int .i64 (kind f)), .str (bs (name f)), .str (bs (value f)), .str (bs (ini f)), .sl (List.map encS (any f)), .str (bs (fin f)), .lit (.bool (hi f)), .lit (.bool (hf f)), .str (bs (rule f)), .lit (.bool (dn f)), .sl (List.map encO (kids f))])], false, false, false⟩]⟩ =
          some (.exit 0, ⟨[(1, .d (.lit (.int .i64 (l + 1 + 1 : Nat)))), (2, .ptr 0 1 0 0), (5, .d (.lit (.int .i64 ((r.map (dep l)).foldl (fun a b => if a < b then b else a) b : Nat)))), (6, x'), (16, .d (.lit (.bool false)))], [⟨11, [.d (.agg [.lit (.int .i64 (kind f)), .str (bs (name f)), .str (bs (value f)), .str (bs (ini f)), .sl (List.map encS (any f)), .str (bs (fin f)), .lit (.bool (hi f)), .lit (.bool (hf f)), .str (bs (rule f)), .lit (.bool (dn f)), .sl (List.map encO (kids f))])], false, false, false⟩]⟩) := by
      intro r
      induction r with
      | nil =>
        intro j b x y hx hy hb hd
        have hd := drop_nil hd
        refine ⟨.d (.lit (.int .i64 x)), ?_⟩
        simp only [List.map_nil, List.foldl_nil]
        subst hy
        rw [r_n70_8]
        conv => cbv
        repeat (simp (disch := ((try simp only [n_ofNat, n_add, n_sub, n_mul, n_nadd, n_nsub]); omega)) only [decide_true, decide_false, if_true, if_false, ite_true, ite_false, lt_00, le_of, decide_eq_true_eq, Bool.decide_eq_true, Bool.true_eq, Bool.false_eq_true, reduceIte, not_true_eq_false, not_false_eq_true, lt_t, lt_f, le_t, le_f, wrap_i64, blt_t, blt_f, ble_t, ble_f, ieq_t, ieq_f, Int.reduceToNat, Int.reduceOfNat]; try (conv => cbv))
        (first | done | exact True.intro | rfl)
      | cons g r ih =>
        intro j b x y hx hy hb hd
        obtain ⟨g1, g2, g3, g4⟩ := drop_cons hd
        have hnat : Int.toNat x = j := by omega
        have hc := t70 l g (by omega)
        have hd' := dep_le l g
        have hw : IntKind.wrap .i64 (Int.sub (Int.ofNat ((l.add 1).add 1)) 1) = ((l + 1 : Nat) : Int) := by
          rw [show Int.sub (Int.ofNat ((l.add 1).add 1)) 1 = ((l + 1 : Nat) : Int) by show ((l + 1 + 1 : Nat) : Int) - 1 = (l + 1 : Nat); omega]
          exact wrap_i64 (by omega) (by omega)
        rw [List.map_cons, List.foldl_cons]
        by_cases hq : b < dep l g
        · rw [if_pos hq]
          obtain ⟨x', h⟩ := ih (j + 1) (dep l g) (Int.add x 1) (dep l g : Nat) (by rw [n_add]; omega) rfl (by omega) g3
          refine ⟨x', ?_⟩
          rw [r_n70_8]
          generalize List.foldl _ (dep l g) _ = w at h ⊢
          conv at h => cbv
          conv => cbv
          repeat (simp (disch := ((try simp only [n_ofNat, n_add, n_sub, n_mul, n_nadd, n_nsub]); omega)) only [decide_true, decide_false, if_true, if_false, ite_true, ite_false, lt_00, le_of, decide_eq_true_eq, Bool.decide_eq_true, Bool.true_eq, Bool.false_eq_true, reduceIte, not_true_eq_false, not_false_eq_true, lt_t, lt_f, le_t, le_f, wrap_i64, blt_t, blt_f, ble_t, ble_f, ieq_t, ieq_f, Int.reduceToNat, Int.reduceOfNat, g2, hnat, hc, hw]; try (conv => cbv))
          simp only [h]
        · rw [if_neg hq]
          obtain ⟨x', h⟩ := ih (j + 1) b (Int.add x 1) y (by rw [n_add]; omega) hy (by omega) g3
          refine ⟨x', ?_⟩
          rw [r_n70_8]
          generalize List.foldl _ b _ = w at h ⊢
          conv at h => cbv
          conv => cbv
          repeat (simp (disch := ((try simp only [n_ofNat, n_add, n_sub, n_mul, n_nadd, n_nsub]); omega)) only [decide_true, decide_false, if_true, if_false, ite_true, ite_false, lt_00, le_of, decide_eq_true_eq, Bool.decide_eq_true, Bool.true_eq, Bool.false_eq_true, reduceIte, not_true_eq_false, not_false_eq_true, lt_t, lt_f, le_t, le_f, wrap_i64, blt_t, blt_f, ble_t, ble_f, ieq_t, ieq_f, Int.reduceToNat, Int.reduceOfNat, g2, hnat, hc, hw]; try (conv => cbv))
          simp only [h]
    obtain ⟨x', h⟩ := key (kids f) 0 0 0 0 rfl rfl (by omega) rfl
    have hle := dep_le (l + 1) f
    rw [p70]
    simp only [dep] at hle ⊢
    generalize List.foldl _ 0 _ = w at h hle ⊢
    conv at h => cbv
    conv => cbv
    simp only [h]
    conv => cbv
    have : IntKind.wrap .i64 (Int.add (Int.ofNat w) 1) = Int.ofNat (w.add 1) := wrap_i64 (x := ((w + 1 : Nat) : Int)) (by omega) (by omega)
    try rw [this]
    (first | done | exact True.intro | rfl)

@[cbv_eval] theorem t45 (f : Fo) : pureCall C 45 [(.agg [.lit (.int .i64 (kind f)), .str (bs (name f)), .str (bs (value f)), .str (bs (ini f)), .sl (List.map encS (any f)), .str (bs (fin f)), .lit (.bool (hi f)), .lit (.bool (hf f)), .str (bs (rule f)), .lit (.bool (dn f)), .sl (List.map encO (kids f))])] = some (lit (dep 8 f)) := by
  have h : pureCall C 70 [(.agg [.lit (.int .i64 (kind f)), .str (bs (name f)), .str (bs (value f)), .str (bs (ini f)), .sl (List.map encS (any f)), .str (bs (fin f)), .lit (.bool (hi f)), .lit (.bool (hf f)), .str (bs (rule f)), .lit (.bool (dn f)), .sl (List.map encO (kids f))]), .lit (.int .i64 9)] = some (lit (dep 8 f)) := t70 8 f (by omega)
  rw [p45]
  conv => cbv
  repeat (simp only [decide_true, decide_false, if_true, if_false, ite_true, ite_false, lt_00, le_of, decide_eq_true_eq, Bool.decide_eq_true, Bool.true_eq, Bool.false_eq_true, reduceIte, not_true_eq_false, not_false_eq_true, h]; try (conv => cbv))
  (first | done | exact True.intro | rfl)

noncomputable def cnt (f : Fo) : Nat := min ((kids f).attach.foldl (fun n k => if n < 61 then n + cnt k.1 else n) 1) 61
termination_by sz f
decreasing_by exact kids_lt k.2
noncomputable def cnts (l : List Fo) (n : Nat) : Nat := l.foldl (fun n k => if n < 61 then n + cnt k else n) n
attribute [cbv_opaque] cnt cnts
theorem cnt_eq (f : Fo) : cnt f = min (cnts (kids f) 1) 61 := by
  rw [cnt, cnts]
  congr 1
  exact List.foldl_attach (l := kids f) (f := fun n k => if n < 61 then n + cnt k else n) (b := 1)
theorem cnt_le (f : Fo) : cnt f ≤ 61 := by rw [cnt_eq]; omega
theorem cnts_hi : ∀ (l : List Fo) (n : Nat), 61 ≤ n → cnts l n = n
  | [], n, _ => rfl
  | k :: r, n, h => by
    show cnts r (if n < 61 then n + cnt k else n) = n
    rw [if_neg (by omega)]
    exact cnts_hi r n h
theorem pars_hi : ∀ (l : List Fo) (n : Nat), 61 ≤ n → pars l n = n
  | [], n, _ => rfl
  | k :: r, n, h => by
    show pars r (if n ≤ 60 then par k n else n) = n
    rw [if_neg (by omega)]
    exact pars_hi r n h
/-- The two ways of counting agree. -/
theorem par_cnt (f : Fo) (n : Nat) (hn : n ≤ 61) : par f n = min (n + cnt f) 61 := by
  have hs : ∀ (l : List Fo), (∀ g ∈ l, g ∈ kids f) → ∀ m c : Nat, 1 ≤ c → m = n + c → min (pars l m) 61 = min (n + min (cnts l c) 61) 61 := by
    intro l
    induction l with
    | nil => intro _ m c hc hm; show min m 61 = min (n + min c 61) 61; omega
    | cons k r ih =>
      intro hk m c hc hm
      have hr := ih fun g hg => hk g (by simp [hg])
      show min (pars r (if m ≤ 60 then par k m else m)) 61 = min (n + min (cnts r (if c < 61 then c + cnt k else c)) 61) 61
      have mono : ∀ (l : List Fo) (a : Nat), a ≤ cnts l a := by
        intro l
        induction l with
        | nil => intro a; exact Nat.le_refl _
        | cons k l ih =>
          intro a
          show a ≤ cnts l (if a < 61 then a + cnt k else a)
          refine Nat.le_trans ?_ (ih _)
          split <;> omega
      by_cases h1 : m ≤ 60
      · rw [if_pos h1, if_pos (show c < 61 by omega), par_cnt k m (by omega)]
        by_cases h2 : m + cnt k ≤ 61
        · rw [show min (m + cnt k) 61 = m + cnt k by omega]
          exact hr (m + cnt k) (c + cnt k) (by omega) (by omega)
        · rw [show min (m + cnt k) 61 = 61 by omega, pars_hi r 61 (by omega)]
          have := mono r (c + cnt k)
          omega
      · rw [if_neg h1]
        rw [pars_hi r m (by omega)]
        have h3 : c ≤ (if c < 61 then c + cnt k else c) := by split <;> omega
        have := mono r (if c < 61 then c + cnt k else c)
        omega
  rw [par_eq, cnt_eq]
  exact hs (kids f) (fun g hg => hg) (n + 1) 1 (by omega) rfl
termination_by sz f
decreasing_by exact kids_lt (hk k (by simp))

theorem t71 (f : Fo) : pureCall C 71 [(.agg [.lit (.int .i64 (kind f)), .str (bs (name f)), .str (bs (value f)), .str (bs (ini f)), .sl (List.map encS (any f)), .str (bs (fin f)), .lit (.bool (hi f)), .lit (.bool (hf f)), .str (bs (rule f)), .lit (.bool (dn f)), .sl (List.map encO (kids f))])] = some (lit (cnt f)) := by
  have IH : ∀ g ∈ kids f, pureCall C 71 [(.agg [.lit (.int .i64 (kind g)), .str (bs (name g)), .str (bs (value g)), .str (bs (ini g)), .sl (List.map encS (any g)), .str (bs (fin g)), .lit (.bool (hi g)), .lit (.bool (hf g)), .str (bs (rule g)), .lit (.bool (dn g)), .sl (List.map encO (kids g))])] = some (lit (cnt g)) := fun g hg => t71 g
  have hkl := kids_le f
  have key : ∀ (r : List Fo) (j m : Nat) (x y : Int), x = j → y = m → (kids f).drop j = r → m ≤ 130 →
      ∃ x', n71_8 ⟨[(1, .ptr 0 1 0 0), (3, .d (.lit (.int .i64 y))), (4, .d (.lit (.int .i64 x)))], [⟨11, [.d (.agg [.lit (.int .i64 (kind f)), .str (bs (name f)), .str (bs (value f)), .str (bs (ini f)), .sl (List.map encS (any f)), .str (bs (fin f)), .lit (.bool (hi f)), .lit (.bool (hf f)), .str (bs (rule f)), .lit (.bool (dn f)), .sl (List.map encO (kids f))])], false, false, false⟩]⟩ =
        some (.exit 0, ⟨[(1, .ptr 0 1 0 0), (3, .d (.lit (.int .i64 (cnts r m)))), (4, x'), (13, .d (.lit (.bool false)))], [⟨11, [.d (.agg [.lit (.int .i64 (kind f)), .str (bs (name f)), .str (bs (value f)), .str (bs (ini f)), .sl (List.map encS (any f)), .str (bs (fin f)), .lit (.bool (hi f)), .lit (.bool (hf f)), .str (bs (rule f)), .lit (.bool (dn f)), .sl (List.map encO (kids f))])], false, false, false⟩]⟩) := by
    intro r
    induction r with
    | nil =>
      intro j m x y hx hy hd hm
      have hd := drop_nil hd
      refine ⟨.d (.lit (.int .i64 x)), ?_⟩
      rw [show cnts [] m = m from rfl]
      subst hy
      rw [r_n71_8]
      conv => cbv
      repeat (simp (disch := ((try simp only [n_ofNat, n_add, n_sub, n_mul, n_nadd, n_nsub]); omega)) only [decide_true, decide_false, if_true, if_false, ite_true, ite_false, lt_00, le_of, decide_eq_true_eq, Bool.decide_eq_true, Bool.true_eq, Bool.false_eq_true, reduceIte, not_true_eq_false, not_false_eq_true, lt_t, lt_f, le_t, le_f, wrap_i64, blt_t, blt_f, ble_t, ble_f, ieq_t, ieq_f, Int.reduceToNat, Int.reduceOfNat]; try (conv => cbv))
      (first | done | exact True.intro | rfl)
    | cons g r ih =>
      intro j m x y hx hy hd hm
      obtain ⟨g1, g2, g3, g4⟩ := drop_cons hd
      have hnat : Int.toNat x = j := by omega
      by_cases h2 : m < 61
      · have hc := IH g g4
        have hcl := cnt_le g
        rw [show cnts (g :: r) m = cnts r (m + cnt g) by simp only [cnts, List.foldl_cons, if_pos h2]]
        obtain ⟨x', h⟩ := ih (j + 1) (m + cnt g) (Int.add x 1) (Int.add y (Int.ofNat (cnt g))) (by rw [n_add]; omega) (by rw [n_add, n_ofNat]; omega) g3 (by omega)
        refine ⟨x', ?_⟩
        rw [r_n71_8]
        generalize cnts r (m + cnt g) = w at h ⊢
        conv at h => cbv
        conv => cbv
        repeat (simp (disch := ((try simp only [n_ofNat, n_add, n_sub, n_mul, n_nadd, n_nsub]); omega)) only [decide_true, decide_false, if_true, if_false, ite_true, ite_false, lt_00, le_of, decide_eq_true_eq, Bool.decide_eq_true, Bool.true_eq, Bool.false_eq_true, reduceIte, not_true_eq_false, not_false_eq_true, lt_t, lt_f, le_t, le_f, wrap_i64, blt_t, blt_f, ble_t, ble_f, ieq_t, ieq_f, Int.reduceToNat, Int.reduceOfNat, g2, hnat, hc]; try (conv => cbv))
        simp only [h]
      · refine ⟨.d (.lit (.int .i64 x)), ?_⟩
        rw [cnts_hi _ _ (by omega)]
        subst hy
        rw [r_n71_8]
        conv => cbv
        repeat (simp (disch := ((try simp only [n_ofNat, n_add, n_sub, n_mul, n_nadd, n_nsub]); omega)) only [decide_true, decide_false, if_true, if_false, ite_true, ite_false, lt_00, le_of, decide_eq_true_eq, Bool.decide_eq_true, Bool.true_eq, Bool.false_eq_true, reduceIte, not_true_eq_false, not_false_eq_true, lt_t, lt_f, le_t, le_f, wrap_i64, blt_t, blt_f, ble_t, ble_f, ieq_t, ieq_f, Int.reduceToNat, Int.reduceOfNat]; try (conv => cbv))
        (first | done | exact True.intro | rfl)
  obtain ⟨x', h⟩ := key (kids f) 0 1 0 1 rfl rfl rfl (by omega)
  rw [p71, cnt_eq]
  generalize cnts (kids f) 1 = w at h ⊢
  conv at h => cbv
  by_cases hb : 61 < w
  · rw [show min w 61 = 61 by omega]
    conv => cbv
    simp only [h]
    conv => cbv
    repeat (simp (disch := ((try simp only [n_ofNat, n_add, n_sub, n_mul, n_nadd, n_nsub]); omega)) only [decide_true, decide_false, if_true, if_false, ite_true, ite_false, lt_00, le_of, decide_eq_true_eq, Bool.decide_eq_true, Bool.true_eq, Bool.false_eq_true, reduceIte, not_true_eq_false, not_false_eq_true, lt_t, lt_f, le_t, le_f, wrap_i64, blt_t, blt_f, ble_t, ble_f, ieq_t, ieq_f, Int.reduceToNat, Int.reduceOfNat]; try (conv => cbv))
    (first | done | exact True.intro | rfl)
  · rw [show min w 61 = w by omega]
    conv => cbv
    simp only [h]
    conv => cbv
    repeat (simp (disch := ((try simp only [n_ofNat, n_add, n_sub, n_mul, n_nadd, n_nsub]); omega)) only [decide_true, decide_false, if_true, if_false, ite_true, ite_false, lt_00, le_of, decide_eq_true_eq, Bool.decide_eq_true, Bool.true_eq, Bool.false_eq_true, reduceIte, not_true_eq_false, not_false_eq_true, lt_t, lt_f, le_t, le_f, wrap_i64, blt_t, blt_f, ble_t, ble_f, ieq_t, ieq_f, Int.reduceToNat, Int.reduceOfNat]; try (conv => cbv))
    (first | done | exact True.intro | rfl)
termination_by sz f
decreasing_by exact kids_lt hg

@[cbv_eval] theorem t46 (f : Fo) : pureCall C 46 [(.agg [.lit (.int .i64 (kind f)), .str (bs (name f)), .str (bs (value f)), .str (bs (ini f)), .sl (List.map encS (any f)), .str (bs (fin f)), .lit (.bool (hi f)), .lit (.bool (hf f)), .str (bs (rule f)), .lit (.bool (dn f)), .sl (List.map encO (kids f))])] = some (lit (cnt8 f)) := by
  have h2 : pureCall C 71 [(.agg [.lit (.int .i64 (kind f)), .str (bs (name f)), .str (bs (value f)), .str (bs (ini f)), .sl (List.map encS (any f)), .str (bs (fin f)), .lit (.bool (hi f)), .lit (.bool (hf f)), .str (bs (rule f)), .lit (.bool (dn f)), .sl (List.map encO (kids f))])] = some (.one (.d (.lit (.int .i64 (par f 0))))) := by
    rw [par_cnt f 0 (by omega), t71 f, show min (0 + cnt f) 61 = cnt f by have := cnt_le f; omega]
    rfl
  rw [p46]
  by_cases hd : 8 < dep 8 f
  · rw [show cnt8 f = 61 from if_pos hd]
    conv => cbv
    repeat (simp (disch := ((try simp only [n_ofNat, n_add, n_sub, n_mul, n_nadd, n_nsub]); omega)) only [decide_true, decide_false, if_true, if_false, ite_true, ite_false, lt_00, le_of, decide_eq_true_eq, Bool.decide_eq_true, Bool.true_eq, Bool.false_eq_true, reduceIte, not_true_eq_false, not_false_eq_true, lt_t, lt_f, le_t, le_f, wrap_i64, blt_t, blt_f, ble_t, ble_f, ieq_t, ieq_f, Int.reduceToNat, Int.reduceOfNat]; try (conv => cbv))
    (first | done | exact True.intro | rfl)
  · rw [show cnt8 f = par f 0 from if_neg hd]
    conv => cbv
    repeat (simp (disch := ((try simp only [n_ofNat, n_add, n_sub, n_mul, n_nadd, n_nsub]); omega)) only [decide_true, decide_false, if_true, if_false, ite_true, ite_false, lt_00, le_of, decide_eq_true_eq, Bool.decide_eq_true, Bool.true_eq, Bool.false_eq_true, reduceIte, not_true_eq_false, not_false_eq_true, lt_t, lt_f, le_t, le_f, wrap_i64, blt_t, blt_f, ble_t, ble_f, ieq_t, ieq_f, Int.reduceToNat, Int.reduceOfNat, h2]; try (conv => cbv))
    (first | done | exact True.intro | rfl)
end Go.L25
