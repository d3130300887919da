/- The engine, part 23: code and calls. Conditions: none. -/
import Derived.Test.YtjbaoopiffcigaaE27
set_option linter.unusedVariables false
set_option linter.unusedSimpArgs false
namespace Go.Eng

/-! ### what is checked of a code -/
def codeOk (X : Ctx) (an : Ann) (nt : Nat) : Code → Bool
  | .region id ops dr => dstsOk nt ops.toList && (!dr || drawOkR X an id ops)
  | .seq a b => codeOk X an nt a && codeOk X an nt b
  | .cond _ a b => codeOk X an nt a && codeOk X an nt b
  | .block _ a => codeOk X an nt a
  | .loop a => codeOk X an nt a
  | .scope a => codeOk X an nt a
  | _ => true

theorem findLabel_ok {X : Ctx} {an : Ann} {nt : Nat} : ∀ (c : Code) (l : Nat) (rest : Code), codeOk X an nt c = true → findLabel c l = some rest → codeOk X an nt rest = true
  | .seq a b, l, rest, h, hf => by
    simp only [codeOk, Bool.and_eq_true] at h
    simp only [findLabel] at hf
    split at hf
    · rename_i r hr
      cases hf
      simp only [codeOk, Bool.and_eq_true]
      exact ⟨findLabel_ok a l _ h.1 hr, h.2⟩
    · exact findLabel_ok b l rest h.2 hf
  | .label l', l, rest, h, hf => by
    simp only [findLabel] at hf
    split at hf
    · cases hf; rfl
    · cases hf
  | .skip, l, rest, h, hf => by simp [findLabel] at hf
  | .region .., l, rest, h, hf => by simp [findLabel] at hf
  | .cond .., l, rest, h, hf => by simp [findLabel] at hf
  | .block .., l, rest, h, hf => by simp [findLabel] at hf
  | .loop .., l, rest, h, hf => by simp [findLabel] at hf
  | .scope .., l, rest, h, hf => by simp [findLabel] at hf
  | .exit .., l, rest, h, hf => by simp [findLabel] at hf
  | .goto .., l, rest, h, hf => by simp [findLabel] at hf
  | .ret .., l, rest, h, hf => by simp [findLabel] at hf
  | .rangeFunc .., l, rest, h, hf => by simp [findLabel] at hf

/-! ### trimming -/
theorem look_under {n : Nat} : ∀ (t : List (Nat × AV)) (x : Nat), belowT n t = true → (look t x).under1 n = true
  | [], x, _ => rfl
  | (j, v) :: r, x, h => by
    simp only [belowT, Bool.and_eq_true] at h
    simp only [look]
    cases hj : (j == x) with
    | true => simpa [hj] using h.1
    | false => simpa [hj] using look_under r x h.2

theorem trimS_sound {k : Keep} {nt : Nat} {M : Mem} {m1 : Nat → Option (Nat × Nat)} {s1 : S} {a : Act} {w1 : World} (hS : Stp k M ⟨m1, s1.st, w1⟩) (hR : Rel k nt m1 s1 a w1) {n0 : Nat} (hn : M.st.length = n0) :
    ∃ m', Rel k nt m' (trimS n0 s1) a w1 ∧ Stp k M ⟨m', (trimS n0 s1).st, w1⟩ := by
  unfold trimS
  by_cases hc : (belowT n0 s1.t && belowB n0 (s1.st.take n0)) = true
  · simp only [hc, cond_true]
    simp only [Bool.and_eq_true] at hc
    have h1 := trim_stp hS hn hc.2
    exact ⟨_, ⟨h1.inv, hR.tmp.size, fun n => RepA.trim (M := ⟨m1, s1.st, w1⟩) n0 _ _ (look_under _ _ hc.1) (hR.tmp.rep n), hR.tmp.defers⟩, h1⟩
  · simp only [Bool.eq_false_iff.2 hc, cond_false]
    exact ⟨m1, hR, hS⟩

theorem headS_sound {k : Keep} {nt : Nat} {M : Mem} {m1 : Nat → Option (Nat × Nat)} {s1 : S} {a : Act} {w1 : World} (hS : Stp k M ⟨m1, s1.st, w1⟩) (hR : Rel k nt m1 s1 a w1) (an : Ann) (c : Code) {n0 : Nat} (hn : M.st.length = n0) :
    ∃ m', Rel k nt m' (headS an c n0 s1) a w1 ∧ Stp k M ⟨m', (headS an c n0 s1).st, w1⟩ := by
  unfold headS
  split
  · exact trimS_sound (s1 := ⟨keepT _ s1.t, s1.st⟩) hS ⟨hR.inv, hR.tmp.keep _⟩ hn
  · exact ⟨m1, hR, hS⟩

/-! ### code -/
def Ex.out : Ex → Exit
  | .norm => .normal
  | .exit id => .exit id
  | .goto l => .goto l
  | .ret => .ret

def After (X : Ctx) (k : Keep) (nt : Nat) (m : Nat → Option (Nat × Nat)) (s : S) (w : World) (e : Ex) (s' : S) (Q : Exit → Act → World → Prop) : Prop :=
  ∀ m' a' w', Rel k nt m' s' a' w' → Stp k ⟨m, s.st, w⟩ ⟨m', s'.st, w'⟩ → Q e.out a' w'

theorem run_sound {X : Ctx} {an : Ann} {call : Call} (hC : CallOk X call) (hP : PrimOk X) (hmix : X.P.follows .mixedOrders = true) {k : Keep} {nt : Nat} : ∀ n : Nat,
    (∀ c m s a w e s' Q, codeOk X an nt c = true → Rel k nt m s a w → runF X an call n c s = some (e, s') → After X k nt m s w e s' Q → c.wp X.P Q a w) ∧
    (∀ c m s a w e s' Q, codeOk X an nt c = true → Rel k nt m s a w → runF X an call n (.loop c) s = some (e, s') → After X k nt m s w e s' Q → Code.rounds X.P c Q n a w) := by
  intro n
  induction n with
  | zero => exact ⟨fun c m s a w e s' Q _ _ h _ => (by simp [runF] at h), fun c m s a w e s' Q _ _ h _ => (by simp [runF] at h)⟩
  | succ n ih =>
    obtain ⟨ih1, ih2⟩ := ih
    have loop : ∀ c m s a w e s' Q, codeOk X an nt c = true → Rel k nt m s a w → runF X an call (n + 1) (.loop c) s = some (e, s') → After X k nt m s w e s' Q → Code.rounds X.P c Q (n + 1) a w := by
      intro c m s a w e s' Q hk hR h hQ
      simp only [runF] at h
      obtain ⟨⟨e1, s1⟩, h1, h2⟩ := Option.bind_eq_some_iff.1 h
      rw [rounds_succ]
      refine ih1 c m s a w e1 s1 _ hk hR h1 fun m1 a1 w1 hR1 hS1 => ?_
      cases e1 with
      | norm =>
        simp only [Ex.out, Exit.then]
        obtain ⟨m2, hR2, hS2⟩ := headS_sound hS1 hR1 an c rfl
        refine ih2 c m2 _ a1 w1 e s' Q hk hR2 h2 fun m' a' w' hR' hS' => hQ m' a' w' hR' (hS2.trans hS')
      | exit id => simp only [Option.some.injEq, Prod.mk.injEq] at h2; obtain ⟨rfl, rfl⟩ := h2; exact hQ m1 a1 w1 hR1 hS1
      | goto l => simp only [Option.some.injEq, Prod.mk.injEq] at h2; obtain ⟨rfl, rfl⟩ := h2; exact hQ m1 a1 w1 hR1 hS1
      | ret => simp only [Option.some.injEq, Prod.mk.injEq] at h2; obtain ⟨rfl, rfl⟩ := h2; exact hQ m1 a1 w1 hR1 hS1
    refine ⟨?_, loop⟩
    intro c m s a w e s' Q hk hR h hQ
    cases c with
    | skip => simp only [runF, Option.some.injEq, Prod.mk.injEq] at h; obtain ⟨rfl, rfl⟩ := h; exact wp_skip (hQ m a w hR (Stp.refl hR.inv))
    | label l => simp only [runF, Option.some.injEq, Prod.mk.injEq] at h; obtain ⟨rfl, rfl⟩ := h; exact wp_label (hQ m a w hR (Stp.refl hR.inv))
    | exit l => simp only [runF, Option.some.injEq, Prod.mk.injEq] at h; obtain ⟨rfl, rfl⟩ := h; exact wp_exit (hQ m a w hR (Stp.refl hR.inv))
    | goto l => simp only [runF, Option.some.injEq, Prod.mk.injEq] at h; obtain ⟨rfl, rfl⟩ := h; exact wp_goto (hQ m a w hR (Stp.refl hR.inv))
    | ret => simp only [runF, Option.some.injEq, Prod.mk.injEq] at h; obtain ⟨rfl, rfl⟩ := h; exact wp_ret (hQ m a w hR (Stp.refl hR.inv))
    | region id ops dr =>
      simp only [runF] at h
      obtain ⟨s1, h1, h2⟩ := Option.map_eq_some_iff.1 h
      simp only [Prod.mk.injEq] at h2
      obtain ⟨rfl, rfl⟩ := h2
      simp only [codeOk, Bool.and_eq_true] at hk
      have hQ' : ∀ m' a' w', Rel k nt m' s1 a' w' → Stp k ⟨m, s.st, w⟩ ⟨m', s1.st, w'⟩ → Q .normal a' w' := fun m' a' w' h1 h2 => hQ m' a' w' (h1.behind an id) (by rw [behindS_st]; exact h2)
      cases dr with
      | false => exact region_sound hC hP hk.1 hR (regionE_steps h1) hQ'
      | true => exact draw_sound hC hP hk.1 (by simpa using hk.2) hmix hR h1 hQ'
    | seq x y =>
      simp only [runF] at h
      obtain ⟨⟨e1, s1⟩, h1, h2⟩ := Option.bind_eq_some_iff.1 h
      simp only [codeOk, Bool.and_eq_true] at hk
      refine wp_seq (ih1 x m s a w e1 s1 _ hk.1 hR h1 fun m1 a1 w1 hR1 hS1 => ?_)
      cases e1 with
      | norm => exact ih1 y m1 s1 a1 w1 e s' Q hk.2 hR1 h2 fun m' a' w' hR' hS' => hQ m' a' w' hR' (hS1.trans hS')
      | exit id => simp only [Option.some.injEq, Prod.mk.injEq] at h2; obtain ⟨rfl, rfl⟩ := h2; exact hQ m1 a1 w1 hR1 hS1
      | goto l => simp only [Option.some.injEq, Prod.mk.injEq] at h2; obtain ⟨rfl, rfl⟩ := h2; exact hQ m1 a1 w1 hR1 hS1
      | ret => simp only [Option.some.injEq, Prod.mk.injEq] at h2; obtain ⟨rfl, rfl⟩ := h2; exact hQ m1 a1 w1 hR1 hS1
    | cond x y z =>
      simp only [runF] at h
      obtain ⟨t, ht, h1⟩ := Option.bind_eq_some_iff.1 h
      simp only [codeOk, Bool.and_eq_true] at hk
      have hx := hR.tmp.opv x
      have hb : opv s.t x = .d (.lit (.bool t)) := by
        revert ht
        cases hv : opv s.t x with
        | d y => cases y with
          | lit v => cases v <;> simp [asB]
          | _ => simp [asB]
        | _ => simp [asB]
      rw [hb] at hx
      refine wp_cond hx.2 ?_
      cases t with
      | true => exact ih1 y m s a w e s' Q hk.1 hR h1 hQ
      | false => exact ih1 z m s a w e s' Q hk.2 hR h1 hQ
    | block id x =>
      simp only [runF] at h
      obtain ⟨⟨e1, s1⟩, h1, h2⟩ := Option.map_eq_some_iff.1 h
      simp only [codeOk] at hk
      refine wp_block (ih1 x m s a w e1 s1 _ hk hR h1 fun m1 a1 w1 hR1 hS1 => ?_)
      cases e1 with
      | exit j =>
        simp only [Ex.out, Exit.inBlock]
        simp only at h2
        by_cases hj : j = id
        · subst hj
          simp only [beq_self_eq_true, cond_true, Prod.mk.injEq] at h2
          obtain ⟨rfl, rfl⟩ := h2
          rw [if_pos rfl]
          exact hQ m1 a1 w1 hR1 hS1
        · simp only [show (j == id) = false by simpa using hj, cond_false, Prod.mk.injEq] at h2
          obtain ⟨rfl, rfl⟩ := h2
          rw [if_neg hj]
          exact hQ m1 a1 w1 hR1 hS1
      | norm => simp only [Prod.mk.injEq] at h2; obtain ⟨rfl, rfl⟩ := h2; exact hQ m1 a1 w1 hR1 hS1
      | goto l => simp only [Prod.mk.injEq] at h2; obtain ⟨rfl, rfl⟩ := h2; exact hQ m1 a1 w1 hR1 hS1
      | ret => simp only [Prod.mk.injEq] at h2; obtain ⟨rfl, rfl⟩ := h2; exact hQ m1 a1 w1 hR1 hS1
    | loop x => exact wp_loop_rounds (n + 1) (loop x m s a w e s' Q (by simpa only [codeOk] using hk) hR h hQ)
    | scope x =>
      simp only [runF] at h
      obtain ⟨⟨e1, s1⟩, h1, h2⟩ := Option.bind_eq_some_iff.1 h
      simp only [codeOk] at hk
      have str : ∀ e1, (∀ l, e1 ≠ .goto l) → runF X an call n x s = some (e1, s1) → (e1, s1) = (e, s') → (Code.scope x).wp X.P Q a w := by
        intro e1 hne h1 he
        cases he
        refine wp_scope_straight (ih1 x m s a w _ _ _ hk hR h1 fun m1 a1 w1 hR1 hS1 => ?_)
        have := hQ m1 a1 w1 hR1 hS1
        revert this hne
        cases e with
        | goto l => exact fun hne _ => absurd rfl (hne l)
        | _ => exact fun _ h => h
      cases e1 with
      | goto l =>
        simp only at h2
        split at h2
        · rename_i rest hf
          obtain ⟨⟨e2, s2⟩, h3, h4⟩ := Option.bind_eq_some_iff.1 h2
          refine wp_scope_jumps l (fun a1 w1 => ∃ m1, Rel k nt m1 s1 a1 w1 ∧ Stp k ⟨m, s.st, w⟩ ⟨m1, s1.st, w1⟩) (fun _ _ => 0) hf (ih1 x m s a w _ _ _ hk hR h1 fun m1 a1 w1 hR1 hS1 => ⟨rfl, m1, hR1, hS1⟩) ?_
          rintro a1 w1 ⟨m1, hR1, hS1⟩
          refine ih1 rest m1 s1 a1 w1 e2 s2 _ (findLabel_ok x l rest hk hf) hR1 h3 fun m2 a2 w2 hR2 hS2 => ?_
          cases e2 with
          | goto l => cases h4
          | norm => simp only [Option.some.injEq, Prod.mk.injEq] at h4; obtain ⟨rfl, rfl⟩ := h4; exact hQ m2 a2 w2 hR2 (hS1.trans hS2)
          | exit l => simp only [Option.some.injEq, Prod.mk.injEq] at h4; obtain ⟨rfl, rfl⟩ := h4; exact hQ m2 a2 w2 hR2 (hS1.trans hS2)
          | ret => simp only [Option.some.injEq, Prod.mk.injEq] at h4; obtain ⟨rfl, rfl⟩ := h4; exact hQ m2 a2 w2 hR2 (hS1.trans hS2)
        · cases h2
      | norm => exact str .norm (fun l h => by cases h) h1 (by simpa using h2)
      | exit l => exact str (.exit l) (fun l h => by cases h) h1 (by simpa using h2)
      | ret => exact str .ret (fun l h => by cases h) h1 (by simpa using h2)
    | _ => simp [runF] at h

/-! ### calls -/
theorem look_args : ∀ (vs : List AV) (n x : Nat), look (argsT n vs) x = if n ≤ x then (vs[x - n]?).getD .undef else .undef
  | [], n, x => by simp [argsT, look]
  | v :: r, n, x => by
    simp only [argsT, look]
    cases hj : (n == x) with
    | true =>
      have := eq_of_beq hj
      subst this
      simp
    | false =>
      have hne : n ≠ x := by simpa using hj
      simp only [cond_false, look_args r (n + 1) x]
      by_cases hle : n ≤ x
      · rw [if_pos (by omega), if_pos hle, show x - n = (x - (n + 1)) + 1 by omega]; simp
      · rw [if_neg (by omega), if_neg hle]

theorem resAll_sound {P : Program} {k : Keep} {m : Nat → Option (Nat × Nat)} {nt : Nat} {s : S} {a : Act} {w : World} (hR : Rel k nt m s a w) : ∀ (l : List ResultVar) (vs : List AV), resAll P s l = some vs →
    ∃ us : List Value, (l.mapM (m := Sem) fun | .tmp t => pure (a.tmps.getD t undef) | .cell b t => do loadVar t (← asAddr (a.tmps.getD b undef))).run P w = .ok us w ∧ RepAs k ⟨m, s.st, w⟩ vs us
  | [], vs, h => by
    simp only [resAll] at h
    cases h
    exact ⟨[], by simp, rfl⟩
  | r :: l, vs, h => by
    simp only [resAll] at h
    obtain ⟨v, hv, h1⟩ := Option.bind_eq_some_iff.1 h
    obtain ⟨vs', h2, rfl⟩ := Option.map_eq_some_iff.1 h1
    obtain ⟨us, g1, g2⟩ := resAll_sound hR l vs' h2
    cases r with
    | tmp t =>
      simp only [resV] at hv
      cases hv
      refine ⟨a.tmps.getD t undef :: us, ?_, _, _, rfl, hR.tmp.rep t, g2⟩
      simp only [List.mapM_cons, Sem.run_bind, Sem.run_pure, Result.andThen_ok, g1]
    | cell b t =>
      simp only [resV] at hv
      obtain ⟨i, hi, hld⟩ := Option.bind_eq_some_iff.1 hv
      obtain ⟨ad, vr, e1, e2, e3⟩ := ldPtr_sound (P := P) (M := ⟨m, s.st, w⟩) hR.inv (fun _ _ h => h) hi (hR.tmp.rep b) hld
      refine ⟨vr :: us, ?_, _, _, rfl, e3, g2⟩
      simp only at e2
      have e3 : (asAddr (a.tmps.getD b undef)).run P w = .ok ad w := by rw [e1]; rfl
      simp only [List.mapM_cons, Sem.run_bind, Sem.run_pure, e3, Result.andThen_ok]
      rw [e2]
      simp only [Result.andThen_ok]
      have g1' := g1
      rw [g1']
      rfl

theorem resE_sound {P : Program} {k : Keep} {m : Nat → Option (Nat × Nat)} {nt : Nat} {s : S} {a : Act} {w : World} (hR : Rel k nt m s a w) {fn : Func} {v : AV} (h : resE P fn s = some v) :
    ∃ u, (results fn a.tmps).run P w = .ok u w ∧ RepA k ⟨m, s.st, w⟩ v u := by
  unfold resE at h
  obtain ⟨vs, h1, h2⟩ := Option.map_eq_some_iff.1 h
  obtain ⟨us, g1, g2⟩ := resAll_sound hR _ _ h1
  have run : (results fn a.tmps).run P w = .ok (if h : us.toArray.size = 1 then us.toArray[0] else .tuple us.toArray) w := by
    unfold results
    rw [Array.mapM_eq_mapM_toList]
    simp only [Sem.run_bind, Sem.run_map]
    have g1' := g1
    rw [show ∀ f f' : ResultVar → Sem Value, f = f' → (fn.results.toList.mapM f).run P w = (fn.results.toList.mapM f').run P w from fun f f' h => by rw [h]]
    rw [g1']
    simp only [Result.andThen_ok, Sem.run_pure]
    funext x
    cases x <;> rfl
  refine ⟨_, run, ?_⟩
  cases vs with
  | nil =>
    cases g2
    subst h2
    exact ⟨[], rfl, rfl⟩
  | cons x r =>
    obtain ⟨u, t, rfl, hx, hr⟩ := g2
    cases r with
    | nil => cases hr; subst h2; exact hx
    | cons y r =>
      obtain ⟨u2, t2, rfl, hy, hr⟩ := hr
      subst h2
      exact ⟨_, rfl, _, _, rfl, hx, _, _, rfl, hy, hr⟩

/-- What is checked of a function. -/
def funcOk (X : Ctx) (f : FuncId) : Bool :=
  match X.P.funcs[f]? with
  | some fn => (match fn.body with
    | some c => codeOk X (X.ann f) fn.ntmps c && !(fn.name == "runtime.NumGoroutine")
    | none => false)
  | none => false

def CtxOk (X : Ctx) : Prop := ∀ f, X.use f = true → funcOk X f = true

theorem call_sound {X : Ctx} (hX : CtxOk X) (hP : PrimOk X) (hmix : X.P.follows .mixedOrders = true) : ∀ n, CallOk X (callN X n)
  | 0 => fun f args st v st' h => by simp [callN] at h
  | n + 1 => fun f args st v st' h => by
    simp only [callN] at h
    cases hu : X.use f with
    | false => rw [hu] at h; simp at h
    | true =>
      rw [hu] at h
      simp only [cond_true] at h
      have hok := hX f hu
      unfold funcOk at hok
      split at h
      · rename_i fn hf
        rw [hf] at hok
        simp only at hok
        split at h
        · rename_i c hb
          rw [hb] at hok
          simp only [Bool.and_eq_true, Bool.not_eq_true'] at hok
          obtain ⟨⟨e, s1⟩, h1, h2⟩ := Option.bind_eq_some_iff.1 h
          refine ⟨⟨fn, hf, hok.2, by rw [hb]; rfl⟩, fun k m w vs hI hA => ?_⟩
          have hR : Rel k fn.ntmps m ⟨argsT 0 args, st⟩ { tmps := vs.toArray ++ Array.replicate (fn.ntmps - vs.toArray.size) undef, defers := [] } w := by
            refine ⟨hI, by simp; omega, fun x => ?_, rfl⟩
            rw [look_args]
            simp only [Nat.zero_le, if_true, Nat.sub_zero]
            obtain ⟨hl, hv⟩ := (RepAs.iff args vs).1 hA
            cases hx : args[x]? with
            | none => trivial
            | some y =>
              have hlt := (List.getElem?_eq_some_iff.1 hx).1
              obtain ⟨u, hu⟩ : ∃ u, vs[x]? = some u := ⟨_, List.getElem?_eq_getElem (by omega)⟩
              have : (vs.toArray ++ Array.replicate (fn.ntmps - vs.toArray.size) undef).getD x undef = u := by
                rw [Array.getD_eq_getD_getElem?, Array.getElem?_append_left (by simp; omega)]
                simp [hu]
              simp only [this]
              exact hv x y u hx hu
          refine calls_of_wp hf hb ((run_sound (call_sound hX hP hmix n) hP hmix n).1 c m _ _ w e s1 _ hok.1 hR h1 fun m' a' w' hR' hS' => ?_)
          cases e with
          | norm =>
            obtain ⟨r, hr, h3⟩ := Option.map_eq_some_iff.1 h2
            cases h3
            obtain ⟨u, g1, g2⟩ := resE_sound hR' hr
            exact ⟨hR'.tmp.defers, u, g1, m', u, rfl, g2, hS'⟩
          | ret =>
            obtain ⟨r, hr, h3⟩ := Option.map_eq_some_iff.1 h2
            cases h3
            obtain ⟨u, g1, g2⟩ := resE_sound hR' hr
            exact ⟨hR'.tmp.defers, u, g1, m', u, rfl, g2, hS'⟩
          | _ => cases h2
        · cases h
      · cases h

end Go.Eng
