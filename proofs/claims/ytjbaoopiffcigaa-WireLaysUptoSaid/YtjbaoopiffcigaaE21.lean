/- The engine, part 21: regions whose order is drawn, the theorem. Conditions: none. -/
import Derived.Test.YtjbaoopiffcigaaE20
set_option linter.unusedVariables false
set_option linter.unusedSimpArgs false
namespace Go.Eng

theorem stepQ_sound {X : Ctx} {an : Ann} {call : Call} (hC : CallOk X call) {k : Keep} {nt : Nat} {m : Nat → Option (Nat × Nat)} {stE st st' : Store} {T T' : List (Nat × AV)} {a : Act} {w : World}
    (hI : Inv k ⟨m, stE, w⟩) (hT : RepT k ⟨m, stE, w⟩ nt T a) {ops : Array Oper} {i : Nat} {o : Oper} (ho : ops[i]? = some o) (hq : quietO X o.op = true) (hd : ∀ d, o.dst = some d → d < nt)
    (h : stepO X an call ops o ⟨T, st⟩ = some ⟨T', st'⟩) (hpre0 : Pre st stE) (hpre : Pre st' stE) (hno : ∀ i, st.length ≤ i → i < st'.length → m i = none) {K : Act → World → Prop} {Q : Exit → Act → World → Prop}
    (hn : ∀ m' a' w', Inv k ⟨m', stE, w'⟩ → RepT k ⟨m', stE, w'⟩ nt T' a' → Stp k ⟨m, stE, w⟩ ⟨m', stE, w'⟩ → (∀ i, (i < st.length ∨ st'.length ≤ i) → m' i = m i) → K a' w') : wpOp X.P ops Q i K a w := by
  have run : ∀ v st1, opE X an call o (opv T) st = some (v, st1) → (⟨T', st'⟩ : S) = ⟨putD T o.dst v, st1⟩ → o.wp X.P a w K Q := by
    intro v st1 he hs
    cases hs
    exact opE_quiet (M := ⟨m, stE, w⟩) hC hI hq (fun x => hT.opv x) he hpre0 hpre hno (fun m' w' u h1 h2 h3 => hn m' _ w' h2.inv ((hT.evo h2.evo).put hd h1) h2 h3)
  have skip : (⟨T', st'⟩ : S) = ⟨putD T o.dst (.tup []), st⟩ → K (a.put o.dst undef) w := by
    intro hs
    cases hs
    exact hn m _ w hI (hT.put hd (RepA.undef' _ _)) (Stp.refl hI) (fun _ _ => rfl)
  obtain ⟨g1, g2⟩ := guard_spec hT (ops := ops) (o := o)
  unfold wpOp
  rw [ho]
  simp only
  unfold stepO at h
  split at h
  · rename_i hg
    rw [g1 hg]
    obtain ⟨⟨v, st1⟩, he, hs⟩ := Option.map_eq_some_iff.1 h
    simp only [if_true]
    exact .inl (run v st1 he hs.symm)
  · rename_i j want hg
    split at h
    · cases h
    · rename_i d hdj
      obtain ⟨q1, q2⟩ := g2 j want d hg hdj
      split at h
      · rename_i b hb
        rw [q1 b hb]
        cases hbw : (b == want) with
        | true =>
          simp only [hbw, cond_true] at h
          obtain ⟨⟨v, st1⟩, he, hs⟩ := Option.map_eq_some_iff.1 h
          simp only [if_true]
          exact .inl (run v st1 he hs.symm)
        | false =>
          simp only [hbw, cond_false, Option.some.injEq] at h
          simp only [Bool.false_eq_true, if_false]
          exact skip h.symm
      · rename_i hb
        rw [q2 hb]
        simp only [Option.some.injEq] at h
        simp only [Bool.false_eq_true, if_false]
        exact skip h.symm
      · cases h

theorem run_seq {X : Ctx} {an : Ann} {call : Call} {ops : Array Oper} : ∀ (n i : Nat) (s s' : S), i + n = ops.size → stepsO X an call ops (ops.toList.drop i) s = some s' →
    ∃ σ : Nat → S, σ i = s ∧ σ ops.size = s' ∧ ∀ (j : Nat) o, i ≤ j → ops[j]? = some o → stepO X an call ops o (σ j) = some (σ (j + 1))
  | 0, i, s, s', hi, h => by
    rw [List.drop_of_length_le (by simp; omega)] at h
    simp only [stepsO] at h
    cases h
    refine ⟨fun _ => s, rfl, rfl, fun j o hj ho => ?_⟩
    have := (Array.getElem?_eq_some_iff.1 ho).1; omega
  | n + 1, i, s, s', hi, h => by
    have hlt : i < ops.size := by omega
    have hdrop : ops.toList.drop i = ops[i] :: ops.toList.drop (i + 1) := by rw [List.drop_eq_getElem_cons (by simpa using hlt)]; simp
    rw [hdrop] at h
    simp only [stepsO] at h
    obtain ⟨s1, h1, h2⟩ := Option.bind_eq_some_iff.1 h
    obtain ⟨σ, g1, g2, g3⟩ := run_seq n (i + 1) s1 s' (by omega) h2
    refine ⟨fun j => if j = i then s else σ j, by simp, ?_, fun j o hj ho => ?_⟩
    · simp only; rw [if_neg (by omega)]; exact g2
    · by_cases e : j = i
      · subst e
        rw [Array.getElem?_eq_getElem hlt] at ho; cases ho
        simp only [if_true]
        rw [if_neg (by omega), g1]; exact h1
      · simp only
        rw [if_neg e, if_neg (by omega)]; exact g3 j o (by omega) ho

def cnt (L : Nat → Bool) : Nat → Nat
  | 0 => 0
  | n + 1 => cnt L n + (if L n = true then 0 else 1)

theorem cnt_set (L : Nat → Bool) (i : Nat) (hL : L i = false) : ∀ n, (i < n → cnt (fun j => j == i || L j) n + 1 = cnt L n) ∧ (n ≤ i → cnt (fun j => j == i || L j) n = cnt L n)
  | 0 => ⟨fun h => by omega, fun _ => rfl⟩
  | n + 1 => by
    obtain ⟨h1, h2⟩ := cnt_set L i hL n
    refine ⟨fun h => ?_, fun h => ?_⟩
    · simp only [cnt]
      by_cases e : n = i
      · subst e
        rw [h2 (Nat.le_refl _)]
        simp [hL]
      · have := h1 (by omega)
        have e' : (n == i) = false := by simpa using e
        simp only [e', Bool.false_or]
        omega
    · simp only [cnt]
      rw [h2 (by omega)]
      have e' : (n == i) = false := by simp; omega
      simp only [e', Bool.false_or]

theorem cnt_zero (L : Nat → Bool) : ∀ n, cnt L n = 0 → ∀ j, j < n → L j = true
  | 0, _, j, h => by omega
  | n + 1, h, j, hj => by
    simp only [cnt] at h
    by_cases hn : L n = true
    · by_cases e : j = n
      · subst e; exact hn
      · exact cnt_zero L n (by omega) j (by omega)
    · rw [if_neg hn] at h; omega

end Go.Eng
