/- The engine, part 17: one step of a region; a region in the order of the text. Conditions: none. -/
import Derived.Test.YtjbaoopiffcigaaE16
set_option linter.unusedVariables false
set_option linter.unusedSimpArgs false
namespace Go.Eng

/-- The abstract state and the machine's. -/
structure Rel (k : Keep) (nt : Nat) (m : Nat → Option (Nat × Nat)) (s : S) (a : Act) (w : World) : Prop where
  inv : Inv k ⟨m, s.st, w⟩
  tmp : RepT k ⟨m, s.st, w⟩ nt s.t a

theorem yielded_some {ops : Array Oper} {tmps : Array Value} {j d : Nat} (hd : (ops[j]?).bind (·.dst) = some d) {b : Bool} (h : tmps.getD d undef = .bool b) : yielded ops tmps j = some b := by
  unfold yielded
  rw [hd]
  simp only [Option.bind_some]
  have : tmps[d]? = some (.bool b) := by
    rw [Array.getD_eq_getD_getElem?] at h
    cases ht : tmps[d]? with
    | none => rw [ht] at h; cases h
    | some u => rw [ht] at h; simp at h; rw [h]
  rw [this]

theorem yielded_none {ops : Array Oper} {tmps : Array Value} {j d : Nat} (hd : (ops[j]?).bind (·.dst) = some d) (h : tmps.getD d undef = .tuple #[]) : yielded ops tmps j = none := by
  unfold yielded
  rw [hd]
  simp only [Option.bind_some]
  cases ht : tmps[d]? with
  | none => rfl
  | some u =>
    rw [Array.getD_eq_getD_getElem?, ht] at h
    simp at h
    rw [h]

/-- Is an operation run, or passed by? -/
theorem guard_spec {k : Keep} {M : Mem} {nt : Nat} {t : List (Nat × AV)} {a : Act} (hT : RepT k M nt t a) {ops : Array Oper} {o : Oper} :
    (o.guard = none → Region.wanted o (yielded ops a.tmps) = true) ∧
    ∀ j want d, o.guard = some (j, want) → (ops[j]?).bind (·.dst) = some d →
      (∀ b, look t d = .d (.lit (.bool b)) → Region.wanted o (yielded ops a.tmps) = (b == want)) ∧ (look t d = .tup [] → Region.wanted o (yielded ops a.tmps) = false) := by
  refine ⟨fun h => by unfold Region.wanted; rw [h], fun j want d h hd => ⟨fun b hb => ?_, fun hb => ?_⟩⟩
  · have := hT.rep d
    rw [hb] at this
    unfold Region.wanted
    rw [h]
    simp only [yielded_some hd this.2]
    cases b <;> cases want <;> rfl
  · have := hT.rep d
    rw [hb] at this
    obtain ⟨cs, e, hcs⟩ := this
    have : cs = [] := hcs
    subst this
    unfold Region.wanted
    rw [h]
    simp only [yielded_none hd e]
    rfl

theorem RepA.undef' (k : Keep) (M : Mem) : RepA k M (.tup []) undef := ⟨[], rfl, rfl⟩

theorem stepO_sound {X : Ctx} {an : Ann} {call : Call} (hC : CallOk X call) (hP : PrimOk X) {k : Keep} {nt : Nat} {m : Nat → Option (Nat × Nat)} {s s' : S} {a : Act} {w : World} (hR : Rel k nt m s a w)
    {ops : Array Oper} {i : Nat} {o : Oper} (ho : ops[i]? = some o) (hd : ∀ d, o.dst = some d → d < nt) (h : stepO X an call ops o s = some s') {K : Act → World → Prop} {Q : Exit → Act → World → Prop}
    (hn : ∀ m' a' w', Rel k nt m' s' a' w' → Stp k ⟨m, s.st, w⟩ ⟨m', s'.st, w'⟩ → K a' w') : wpOp X.P ops Q i K a w := by
  have run : ∀ v st, opE X an call o (opv s.t) s.st = some (v, st) → s' = ⟨putD s.t o.dst v, st⟩ → o.wp X.P a w K Q := by
    intro v st he hs
    subst hs
    refine opE_any hC hP hR.inv (fun x => hR.tmp.opv x) he (fun m' w' u h1 h2 => hn m' _ w' ⟨h2.inv, ?_⟩ h2)
    exact (hR.tmp.evo h2.evo).put hd h1
  have skip : s' = ⟨putD s.t o.dst (.tup []), s.st⟩ → K (a.put o.dst undef) w := by
    intro hs
    subst hs
    exact hn m _ w ⟨hR.inv, hR.tmp.put hd (RepA.undef' _ _)⟩ (Stp.refl hR.inv)
  obtain ⟨g1, g2⟩ := guard_spec hR.tmp (ops := ops) (o := o)
  unfold wpOp
  rw [ho]
  simp only
  unfold stepO at h
  split at h
  · rename_i hg
    rw [g1 hg]
    obtain ⟨⟨v, st⟩, he, hs⟩ := Option.map_eq_some_iff.1 h
    simp only [if_true]
    exact .inl (run v st he hs.symm)
  · rename_i j want hg
    split at h
    · cases h
    · rename_i d hdj
      obtain ⟨q1, q2⟩ := g2 j want d hg hdj
      split at h
      · rename_i b hb
        rw [q1 b hb]
        cases hbw : (b == want) with
        | true =>
          simp only [hbw, cond_true] at h
          obtain ⟨⟨v, st⟩, he, hs⟩ := Option.map_eq_some_iff.1 h
          simp only [if_true]
          exact .inl (run v st he hs.symm)
        | false =>
          simp only [hbw, cond_false, Option.some.injEq] at h
          simp only [Bool.false_eq_true, if_false]
          exact skip h.symm
      · rename_i hb
        rw [q2 hb]
        simp only [Option.some.injEq] at h
        simp only [Bool.false_eq_true, if_false]
        exact skip h.symm
      · cases h

def dstsOk (nt : Nat) (ops : List Oper) : Bool := ops.all fun o => match o.dst with | some d => Nat.blt d nt | none => true

theorem steps_sound {X : Ctx} {an : Ann} {call : Call} (hC : CallOk X call) (hP : PrimOk X) {k : Keep} {nt : Nat} {ops : Array Oper} (hd : dstsOk nt ops.toList = true) {Q : Exit → Act → World → Prop} :
    ∀ (n i : Nat) (m : Nat → Option (Nat × Nat)) (s s' : S) (a : Act) (w : World), i + n = ops.size → Rel k nt m s a w → stepsO X an call ops (ops.toList.drop i) s = some s' →
      (∀ m' a' w', Rel k nt m' s' a' w' → Stp k ⟨m, s.st, w⟩ ⟨m', s'.st, w'⟩ → Q .normal a' w') → wpOps X.P ops Q (List.range' i n) a w := by
  intro n
  induction n with
  | zero =>
    intro i m s s' a w hi hR h hQ
    rw [List.drop_of_length_le (by simp; omega)] at h
    simp only [stepsO] at h
    cases h
    exact hQ m a w hR (Stp.refl hR.inv)
  | succ n ih =>
    intro i m s s' a w hi hR h hQ
    have hlt : i < ops.size := by omega
    have hget : ops[i]? = some ops[i] := Array.getElem?_eq_getElem hlt
    have hdrop : ops.toList.drop i = ops[i] :: ops.toList.drop (i + 1) := by rw [List.drop_eq_getElem_cons (by simpa using hlt)]; simp
    rw [hdrop] at h
    simp only [stepsO] at h
    obtain ⟨s1, h1, h2⟩ := Option.bind_eq_some_iff.1 h
    rw [List.range'_succ, wpOps_cons]
    have hdi : ∀ d, ops[i].dst = some d → d < nt := fun d e => by
      have := List.all_eq_true.1 hd ops[i] (by simp)
      rw [e] at this
      exact Nat.le_of_ble_eq_true this
    exact stepO_sound hC hP hR hget hdi h1 (fun m1 a1 w1 hR1 hS1 => ih (i + 1) m1 s1 s' a1 w1 (by omega) hR1 h2 (fun m' a' w' hR' hS' => hQ m' a' w' hR' (hS1.trans hS')))

theorem Rel.behind {k : Keep} {nt : Nat} {m : Nat → Option (Nat × Nat)} {s : S} {a : Act} {w : World} (h : Rel k nt m s a w) (an : Ann) (id : Nat) : Rel k nt m (behindS an id s) a w := by
  unfold behindS
  split
  · exact ⟨h.inv, h.tmp.keep _⟩
  · exact h

theorem behindS_st (an : Ann) (id : Nat) (s : S) : (behindS an id s).st = s.st := by unfold behindS; split <;> rfl

theorem region_sound {X : Ctx} {an : Ann} {call : Call} (hC : CallOk X call) (hP : PrimOk X) {k : Keep} {nt : Nat} {ops : Array Oper} (hd : dstsOk nt ops.toList = true) {Q : Exit → Act → World → Prop} {id : Nat}
    {m : Nat → Option (Nat × Nat)} {s s' : S} {a : Act} {w : World} (hR : Rel k nt m s a w) (h : stepsO X an call ops ops.toList s = some s')
    (hQ : ∀ m' a' w', Rel k nt m' s' a' w' → Stp k ⟨m, s.st, w⟩ ⟨m', s'.st, w'⟩ → Q .normal a' w') : (Code.region id ops false).wp X.P Q a w := by
  refine wp_region ?_
  rw [List.range_eq_range']
  exact steps_sound hC hP hd ops.size 0 m s s' a w (by omega) hR (by simpa using h) hQ

end Go.Eng
