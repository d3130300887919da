/- The engine, part 20: regions whose order is drawn, each order. Conditions: none. -/
import Derived.Test.YtjbaoopiffcigaaE19
set_option linter.unusedVariables false
set_option linter.unusedSimpArgs false
namespace Go.Eng

/-- Temporaries behind a set of operations. -/
def TT (ops : Array Oper) (V : Nat → AV) (L : Nat → Bool) (t0 : List (Nat × AV)) : Nat → List (Nat × AV)
  | 0 => t0
  | i + 1 => if L i = true then putD (TT ops V L t0 i) ((ops[i]?).bind (·.dst)) (V i) else TT ops V L t0 i

theorem look_putD (t : List (Nat × AV)) (d : Option Nat) (v : AV) (x : Nat) : look (putD t d v) x = if d = some x then v else look t x := by
  cases d with
  | none => simp [putD]
  | some k =>
    simp only [putD, look_upd, Option.some.injEq]

theorem look_TT (ops : Array Oper) (V : Nat → AV) (L L' : Nat → Bool) (t0 : List (Nat × AV)) (x : Nat) : ∀ n, (∀ j, j < n → (ops[j]?).bind (·.dst) = some x → L j = L' j) → look (TT ops V L t0 n) x = look (TT ops V L' t0 n) x
  | 0, _ => rfl
  | n + 1, h => by
    have ih := look_TT ops V L L' t0 x n (fun j hj => h j (by omega))
    simp only [TT]
    by_cases hd : (ops[n]?).bind (·.dst) = some x
    · rw [h n (by omega) hd]
      split <;> simp only [look_putD, hd, if_true, ih]
    · have e1 : ∀ t, look (putD t ((ops[n]?).bind (·.dst)) (V n)) x = look t x := fun t => by rw [look_putD, if_neg hd]
      split <;> split <;> simp only [e1, ih]

theorem RepT.ext {k : Keep} {M : Mem} {nt : Nat} {t t' : List (Nat × AV)} {a : Act} (h : RepT k M nt t a) (he : ∀ x, look t' x = look t x) : RepT k M nt t' a :=
  ⟨h.size, fun n => by rw [he]; exact h.rep n, h.defers⟩

theorem least (p : Nat → Bool) (n : Nat) : ∀ d s, s + d = n → ∃ q, s ≤ q ∧ q ≤ n ∧ (q = n ∨ p q = true) ∧ ∀ l, s ≤ l → l < q → p l = false
  | 0, s, h => ⟨s, Nat.le_refl _, by omega, .inl (by omega), fun l h1 h2 => by omega⟩
  | d + 1, s, h => by
    cases hp : p s with
    | true => exact ⟨s, Nat.le_refl _, by omega, .inr hp, fun l h1 h2 => by omega⟩
    | false =>
      obtain ⟨q, h1, h2, h3, h4⟩ := least p n d (s + 1) (by omega)
      exact ⟨q, by omega, h2, h3, fun l h5 h6 => by
        by_cases e : l = s
        · subst e; exact hp
        · exact h4 l (by omega) h6⟩

theorem bare_quiet {X : Ctx} {an : Ann} {o : Oper} (h : bareO an o = true) : quietO X o.op = true := by
  obtain ⟨dst, op, type, pos, after, guard⟩ := o
  cases op <;> simp only [bareO] at h <;> try (first | rfl | (cases h; done))
  rename_i c
  obtain ⟨callee, args, types⟩ := c
  cases callee with
  | builtin b => cases b <;> simp only at h <;> first | rfl | (cases h; done)
  | _ => cases h

def AtSpec (X : Ctx) (an : Ann) (call : Call) (ops : Array Oper) (o : Oper) (s s1 : S) (T : List (Nat × AV)) : Prop :=
  ∃ v, s1.t = putD s.t o.dst v ∧ stepO X an call ops o ⟨T, s.st⟩ = some ⟨putD T o.dst v, s1.st⟩ ∧ (quietO X o.op = true → Ext s.st s1.st) ∧
    (bareO an o = true → s1.st = s.st ∧ ∀ st2, stepO X an call ops o ⟨T, st2⟩ = some ⟨putD T o.dst v, st2⟩)

/-- A step at other temporaries that read the same. -/
theorem stepO_at {X : Ctx} {an : Ann} {call : Call} {ops : Array Oper} {o : Oper} {s s1 : S} (h : stepO X an call ops o s = some s1) {T : List (Nat × AV)} (hT : ∀ x ∈ o.looksAt ops, look T x = look s.t x) : AtSpec X an call ops o s s1 T := by
  have hop : ∀ x ∈ o.op.operands, opv T x = opv s.t x := fun x hx => by
    cases x with
    | tmp n =>
      refine hT n ?_
      unfold Oper.looksAt
      exact List.mem_append.2 (.inl (List.mem_filterMap.2 ⟨.tmp n, by simpa using hx, rfl⟩))
    | _ => rfl
  have run : ∀ v st, opE X an call o (opv s.t) s.st = some (v, st) → s1 = ⟨putD s.t o.dst v, st⟩ → (∀ st2 r, opE X an call o (opv T) st2 = r → stepO X an call ops o ⟨T, st2⟩ = r.map fun (v, st) => ⟨putD T o.dst v, st⟩) → AtSpec X an call ops o s s1 T := fun v st he hs hrun => by
    subst hs
    have he' : ∀ st2, opE X an call o (opv T) st2 = opE X an call o (opv s.t) st2 := fun st2 => opE_congr hop
    refine ⟨v, rfl, ?_, fun hq => quiet_ext hq he, fun hb => ?_⟩
    · rw [hrun s.st _ rfl, he', he]; rfl
    · obtain ⟨b1, b2, b3⟩ := bare_spec hb he
      exact ⟨b2, fun st2 => by rw [hrun st2 _ rfl, he', b3 st2]; rfl⟩
  have skip : s1 = ⟨putD s.t o.dst (.tup []), s.st⟩ → (∀ st2, stepO X an call ops o ⟨T, st2⟩ = some ⟨putD T o.dst (.tup []), st2⟩) → AtSpec X an call ops o s s1 T := fun hs hrun => by
    subst hs
    exact ⟨.tup [], rfl, hrun s.st, fun _ => Ext.refl _, fun hb => ⟨rfl, hrun⟩⟩
  unfold stepO at h
  split at h
  · rename_i hg
    obtain ⟨⟨v, st⟩, he, hs⟩ := Option.map_eq_some_iff.1 h
    exact run v st he hs.symm (fun st2 r hr => by unfold stepO; rw [hg]; simp only; rw [hr])
  · rename_i j want hg
    split at h
    · cases h
    · rename_i d hdj
      have hld : look T d = look s.t d := hT d (by
        unfold Oper.looksAt
        rw [hg]
        simp only
        rw [hdj]
        simp)
      split at h
      · rename_i b hb
        cases hbw : (b == want) with
        | true =>
          simp only [hbw, cond_true] at h
          obtain ⟨⟨v, st⟩, he, hs⟩ := Option.map_eq_some_iff.1 h
          exact run v st he hs.symm (fun st2 r hr => by unfold stepO; rw [hg]; simp only; rw [hdj]; simp only; rw [hld, hb]; simp only [hbw, cond_true]; rw [hr])
        | false =>
          simp only [hbw, cond_false, Option.some.injEq] at h
          exact skip h.symm (fun st2 => by unfold stepO; rw [hg]; simp only; rw [hdj]; simp only; rw [hld, hb]; simp only [hbw, cond_false])
      · rename_i hb
        simp only [Option.some.injEq] at h
        exact skip h.symm (fun st2 => by unfold stepO; rw [hg]; simp only; rw [hdj]; simp only; rw [hld, hb])
      · cases h

end Go.Eng
