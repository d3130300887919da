/- The engine, part 24: the limit over all fuels, and its equations. Conditions: none. -/
import Derived.Test.YtjbaoopiffcigaaE23
set_option linter.unusedVariables false
set_option linter.unusedSimpArgs false
namespace Go.Eng

def Le (c c' : Call) : Prop := ∀ f args st r, c f args st = some r → c' f args st = some r

theorem Le.refl (c : Call) : Le c c := fun _ _ _ _ h => h
theorem Le.trans {a b c : Call} (h : Le a b) (g : Le b c) : Le a c := fun f args st r e => g _ _ _ _ (h _ _ _ _ e)

/-- A call operation asks the callee at one place. -/
theorem callV_one (X : Ctx) (call : Call) (wr : Bool) (f : FuncId) (args : List AV) (st : Store) : ∃ g as sg, ∀ call' : Call, call' g as sg = call g as sg → callV X call' wr f args st = callV X call wr f args st := by
  cases hp : X.prim f with
  | some p => exact ⟨f, args, st, fun call' _ => by unfold callV; rw [hp]⟩
  | none =>
    cases hu : X.pure f with
    | false => exact ⟨f, args, st, fun call' h => by unfold callV; simp only [hp, hu, cond_false, h]⟩
    | true =>
      cases h1 : fzAll (fz false st 6) args with
      | some ds => exact ⟨f, ds.map .d, [], fun call' h => by unfold callV; simp only [hp, hu, cond_true, h1, pureCall, h]⟩
      | none =>
        cases h2 : fzAll (fz true st 6) args with
        | none => exact ⟨f, args, st, fun call' _ => by unfold callV; simp only [hp, hu, cond_true, h1, h2, Option.bind_none]⟩
        | some ds => exact ⟨f, ds.map .d, [], fun call' h => by unfold callV; simp only [hp, hu, cond_true, h1, h2, pureCall, h, Option.bind_some]⟩

theorem opE_one (X : Ctx) (an : Ann) (call : Call) (o : Oper) (ρ : Operand → AV) (st : Store) : ∃ g as sg, ∀ call' : Call, call' g as sg = call g as sg → opE X an call' o ρ st = opE X an call o ρ st := by
  obtain ⟨dst, op, type, pos, after, guard⟩ := o
  cases op with
  | call c =>
    obtain ⟨callee, args, types⟩ := c
    cases callee with
    | value x =>
      cases ht : targetOf (ρ x) with
      | none => exact ⟨0, [], [], fun call' _ => by unfold opE; simp only [ht, Option.bind_none]⟩
      | some p =>
        obtain ⟨g, cap⟩ := p
        obtain ⟨g1, as, sg, h⟩ := callV_one X call (flagOf an.wr dst) g (args.toList.map ρ ++ cap) st
        exact ⟨g1, as, sg, fun call' h' => by unfold opE; simp only [ht, Option.bind_some]; exact h call' h'⟩
    | _ => exact ⟨0, [], [], fun call' _ => rfl⟩
  | _ => exact ⟨0, [], [], fun call' _ => rfl⟩

theorem opE_mono {X : Ctx} {an : Ann} {call call' : Call} (hl : Le call call') {o : Oper} {ρ : Operand → AV} {st : Store} {r : AV × Store} (h : opE X an call o ρ st = some r) : opE X an call' o ρ st = some r := by
  -- by the place at which the callee is asked: it answers there, or the answer is not used
  have key : ∀ wr f args st r, callV X call wr f args st = some r → callV X call' wr f args st = some r := by
    intro wr f args st r h
    unfold callV at h ⊢
    split at h
    · rename_i p hp; exact h
    · rename_i hp
      cases hu : X.pure f with
      | false =>
        rw [hu] at h
        simp only [cond_false] at h ⊢
        obtain ⟨q, h1, h2⟩ := Option.map_eq_some_iff.1 h
        rw [hl _ _ _ _ h1]; simp [h2]
      | true =>
        rw [hu] at h
        simp only [cond_true] at h ⊢
        have pm : ∀ ds pr, pureCall call f ds = some pr → pureCall call' f ds = some pr := fun ds pr h => by
          unfold pureCall at h ⊢
          obtain ⟨q, h1, h2⟩ := Option.bind_eq_some_iff.1 h
          rw [hl _ _ _ _ h1]; exact h2
        split at h
        · obtain ⟨q, h1, h2⟩ := Option.map_eq_some_iff.1 h
          rw [pm _ _ h1]; simp [h2]
        · obtain ⟨ds, h1, h2⟩ := Option.bind_eq_some_iff.1 h
          obtain ⟨q, h3, h4⟩ := Option.bind_eq_some_iff.1 h2
          rw [h1]
          simp only [Option.bind_some]
          rw [pm _ _ h3]
          exact h4
  obtain ⟨dst, op, type, pos, after, guard⟩ := o
  cases op with
  | call c =>
    obtain ⟨callee, args, types⟩ := c
    cases callee with
    | value x =>
      unfold opE at h ⊢
      simp only at h ⊢
      obtain ⟨p, h1, h2⟩ := Option.bind_eq_some_iff.1 h
      rw [h1]
      exact key _ _ _ _ _ h2
    | _ => exact h
  | _ => exact h

theorem stepO_mono {X : Ctx} {an : Ann} {call call' : Call} (hl : Le call call') {ops : Array Oper} {o : Oper} {s s' : S} (h : stepO X an call ops o s = some s') : stepO X an call' ops o s = some s' := by
  unfold stepO at h ⊢
  split at h
  · rename_i hg
    obtain ⟨q, h1, h2⟩ := Option.map_eq_some_iff.1 h
    rw [opE_mono hl h1]; simp [h2]
  · rename_i j want hg
    split at h
    · cases h
    · rename_i d hd
      simp only [hd] at h ⊢
      split at h
      · rename_i b hb
        cases hbw : (b == want) with
        | true =>
          simp only [hbw, cond_true] at h ⊢
          obtain ⟨q, h1, h2⟩ := Option.map_eq_some_iff.1 h
          rw [opE_mono hl h1]; simp [h2]
        | false => simp only [hbw, cond_false] at h ⊢; exact h
      · rename_i hb
        exact h
      · cases h

theorem stepsO_mono {X : Ctx} {an : Ann} {call call' : Call} (hl : Le call call') {ops : Array Oper} : ∀ (l : List Oper) (s s' : S), stepsO X an call ops l s = some s' → stepsO X an call' ops l s = some s'
  | [], s, s', h => h
  | o :: r, s, s', h => by
    simp only [stepsO] at h ⊢
    obtain ⟨s1, h1, h2⟩ := Option.bind_eq_some_iff.1 h
    rw [stepO_mono hl h1]
    exact stepsO_mono hl r s1 s' h2

theorem regionE_mono {X : Ctx} {an : Ann} {call call' : Call} (hl : Le call call') {id : Nat} {ops : Array Oper} {s s' : S} (h : regionE X an call id ops s = some s') : regionE X an call' id ops s = some s' := by
  unfold regionE at h ⊢
  split at h
  · exact stepsO_mono hl _ _ _ h
  · obtain ⟨s1, h1, h2⟩ := Option.bind_eq_some_iff.1 h
    rw [stepsO_mono hl _ _ _ h1]
    simp only [Option.bind_some]
    rename_i p _
    cases ht : tailOk X an ops (ops.toList.drop p) s1 with
    | true => rw [ht] at h2; simp only [cond_true] at h2 ⊢; exact stepsO_mono hl _ _ _ h2
    | false => rw [ht] at h2; cases h2

theorem runF_mono {X : Ctx} {an : Ann} {call call' : Call} (hl : Le call call') : ∀ (n n' : Nat) (c : Code) (s : S) (r : Ex × S), n ≤ n' → runF X an call n c s = some r → runF X an call' n' c s = some r
  | 0, n', c, s, r, hn, h => by simp [runF] at h
  | n + 1, 0, c, s, r, hn, h => by omega
  | n + 1, n' + 1, c, s, r, hn, h => by
    have ih := fun c s r h => runF_mono (X := X) (an := an) hl n n' c s r (by omega) h
    cases c with
    | region id ops dr =>
      simp only [runF] at h ⊢
      obtain ⟨q, h1, h2⟩ := Option.map_eq_some_iff.1 h
      rw [regionE_mono hl h1]; simp [h2]
    | seq x y =>
      simp only [runF] at h ⊢
      obtain ⟨⟨e, q⟩, h1, h2⟩ := Option.bind_eq_some_iff.1 h
      rw [ih _ _ _ h1]
      simp only [Option.bind_some]
      cases e with
      | norm => exact ih _ _ _ h2
      | _ => exact h2
    | cond x y z =>
      simp only [runF] at h ⊢
      obtain ⟨q, h1, h2⟩ := Option.bind_eq_some_iff.1 h
      rw [h1]
      simp only [Option.bind_some]
      cases q with
      | true => exact ih _ _ _ h2
      | false => exact ih _ _ _ h2
    | block id x =>
      simp only [runF] at h ⊢
      obtain ⟨q, h1, h2⟩ := Option.map_eq_some_iff.1 h
      rw [ih _ _ _ h1]
      simp only [Option.map_some, h2]
    | loop x =>
      simp only [runF] at h ⊢
      obtain ⟨⟨e, q⟩, h1, h2⟩ := Option.bind_eq_some_iff.1 h
      rw [ih _ _ _ h1]
      simp only [Option.bind_some]
      cases e with
      | norm => exact ih _ _ _ h2
      | _ => exact h2
    | scope x =>
      simp only [runF] at h ⊢
      obtain ⟨⟨e, q⟩, h1, h2⟩ := Option.bind_eq_some_iff.1 h
      rw [ih _ _ _ h1]
      simp only [Option.bind_some]
      cases e with
      | goto l =>
        simp only at h2 ⊢
        split at h2
        · rename_i rest hf
          obtain ⟨q2, h3, h4⟩ := Option.bind_eq_some_iff.1 h2
          rw [ih _ _ _ h3]
          exact h4
        · cases h2
      | _ => exact h2
    | _ => simpa only [runF] using h

theorem callN_le (X : Ctx) : ∀ n, Le (callN X n) (callN X (n + 1))
  | 0 => fun f args st r h => by simp [callN] at h
  | n + 1 => fun f args st r h => by
    rw [callN] at h ⊢
    cases hu : X.use f with
    | false => rw [hu] at h; simp at h
    | true =>
      rw [hu] at h
      simp only [cond_true] at h ⊢
      split at h
      · rename_i fn hf
        split at h
        · rename_i c hb
          obtain ⟨q, h1, h2⟩ := Option.bind_eq_some_iff.1 h
          rw [runF_mono (callN_le X n) n (n + 1) c _ q (by omega) h1]
          exact h2
        · cases h
      · cases h

theorem callN_mono (X : Ctx) {n m : Nat} (h : n ≤ m) : Le (callN X n) (callN X m) := by
  obtain ⟨d, rfl⟩ := Nat.le.dest h
  clear h
  induction d with
  | zero => exact Le.refl _
  | succ d ih => exact ih.trans (callN_le X _)

/-! ### the limit -/
open Classical in
noncomputable def lim {α : Type} (g : Nat → Option α) : Option α := if h : ∃ n, (g n).isSome = true then g h.choose else none

def Up {α : Type} (g : Nat → Option α) : Prop := ∀ n m r, n ≤ m → g n = some r → g m = some r

theorem lim_iff {α : Type} {g : Nat → Option α} (hg : Up g) {r : α} : lim g = some r ↔ ∃ n, g n = some r := by
  unfold lim
  constructor
  · intro h
    split at h
    · rename_i h1; exact ⟨_, h⟩
    · cases h
  · rintro ⟨n, hn⟩
    have h1 : ∃ n, (g n).isSome = true := ⟨n, by rw [hn]; rfl⟩
    rw [dif_pos h1]
    obtain ⟨q, hq⟩ := Option.isSome_iff_exists.1 h1.choose_spec
    rw [hq]
    have a := hg _ (max n h1.choose) _ (by omega) hq
    have b := hg _ (max n h1.choose) _ (by omega) hn
    rw [a] at b
    exact b

noncomputable def callL (X : Ctx) : Call := fun f args st => lim fun n => callN X n f args st

noncomputable def runL (X : Ctx) (an : Ann) (c : Code) (s : S) : Option (Ex × S) := lim fun n => runF X an (callN X n) n c s

theorem callL_iff {X : Ctx} {f : FuncId} {args : List AV} {st : Store} {r : AV × Store} : callL X f args st = some r ↔ ∃ n, callN X n f args st = some r :=
  lim_iff fun n m r h e => callN_mono X h _ _ _ _ e

theorem runL_iff {X : Ctx} {an : Ann} {c : Code} {s : S} {r : Ex × S} : runL X an c s = some r ↔ ∃ n, runF X an (callN X n) n c s = some r :=
  lim_iff fun n m r h e => runF_mono (callN_mono X h) n m _ _ _ h e

theorem callN_callL (X : Ctx) (n : Nat) : Le (callN X n) (callL X) := fun f args st r h => callL_iff.2 ⟨n, h⟩

theorem stepO_lim {X : Ctx} {an : Ann} {ops : Array Oper} {o : Oper} {s s' : S} (h : stepO X an (callL X) ops o s = some s') : ∃ n, stepO X an (callN X n) ops o s = some s' := by
  obtain ⟨g, as, sg, h1⟩ := opE_one X an (callL X) o (opv s.t) s.st
  have h2 : ∃ n, callN X n g as sg = callL X g as sg := by
    cases hc : callL X g as sg with
    | some r => exact callL_iff.1 hc
    | none =>
      refine ⟨0, ?_⟩
      cases hq : callN X 0 g as sg with
      | none => rfl
      | some r => rw [callL_iff.2 ⟨0, hq⟩] at hc; cases hc
  obtain ⟨n, hn⟩ := h2
  refine ⟨n, ?_⟩
  unfold stepO at h ⊢
  rw [h1 _ hn]
  exact h

theorem stepsO_lim {X : Ctx} {an : Ann} {ops : Array Oper} : ∀ (l : List Oper) (s s' : S), stepsO X an (callL X) ops l s = some s' → ∃ n, stepsO X an (callN X n) ops l s = some s'
  | [], s, s', h => ⟨0, h⟩
  | o :: r, s, s', h => by
    simp only [stepsO] at h ⊢
    obtain ⟨s1, h1, h2⟩ := Option.bind_eq_some_iff.1 h
    obtain ⟨n1, g1⟩ := stepO_lim h1
    obtain ⟨n2, g2⟩ := stepsO_lim r s1 s' h2
    refine ⟨max n1 n2, ?_⟩
    rw [stepO_mono (callN_mono X (by omega : n1 ≤ max n1 n2)) g1]
    exact stepsO_mono (callN_mono X (by omega : n2 ≤ max n1 n2)) r s1 s' g2

theorem opt_ext {α : Type} {a b : Option α} (h : ∀ r, a = some r ↔ b = some r) : a = b := by
  cases a with
  | none =>
    cases b with
    | none => rfl
    | some r => have := (h r).2 rfl; cases this
  | some r => exact ((h r).1 rfl).symm

section eqs
variable {X : Ctx} {an : Ann}

theorem up {n m : Nat} {c : Code} {s : S} {r : Ex × S} (h : n ≤ m) (e : runF X an (callN X n) n c s = some r) : runF X an (callN X m) m c s = some r := runF_mono (callN_mono X h) n m _ _ _ h e

theorem regionE_lim {X : Ctx} {an : Ann} {id : Nat} {ops : Array Oper} {s s' : S} (h : regionE X an (callL X) id ops s = some s') : ∃ n, regionE X an (callN X n) id ops s = some s' := by
  unfold regionE at h ⊢
  split at h
  · exact stepsO_lim _ _ _ h
  · obtain ⟨s1, h1, h2⟩ := Option.bind_eq_some_iff.1 h
    obtain ⟨n1, g1⟩ := stepsO_lim _ _ _ h1
    rename_i p _
    cases ht : tailOk X an ops (ops.toList.drop p) s1 with
    | true =>
      rw [ht] at h2
      simp only [cond_true] at h2
      obtain ⟨n2, g2⟩ := stepsO_lim _ _ _ h2
      refine ⟨max n1 n2, ?_⟩
      rw [stepsO_mono (callN_mono X (Nat.le_max_left n1 n2)) _ _ _ g1]
      simp only [Option.bind_some]
      rw [ht]
      simp only [cond_true]
      exact stepsO_mono (callN_mono X (Nat.le_max_right n1 n2)) _ _ _ g2
    | false => rw [ht] at h2; cases h2

theorem runL_regionE (id : Nat) (ops : Array Oper) (dr : Bool) (s : S) : runL X an (.region id ops dr) s = (regionE X an (callL X) id ops s).map fun s' => (.norm, behindS an id s') := by
  refine opt_ext fun r => ?_
  rw [runL_iff]
  constructor
  · rintro ⟨n, h⟩
    cases n with
    | zero => simp [runF] at h
    | succ n =>
      simp only [runF] at h
      obtain ⟨q, h1, h2⟩ := Option.map_eq_some_iff.1 h
      rw [regionE_mono (callN_callL X _) h1]; simp [h2]
  · intro h
    obtain ⟨q, h1, h2⟩ := Option.map_eq_some_iff.1 h
    obtain ⟨n, hn⟩ := regionE_lim h1
    refine ⟨n + 1, ?_⟩
    simp only [runF]
    rw [regionE_mono (callN_le X n) hn]; simp [h2]

theorem runL_region (id : Nat) (ops : Array Oper) (dr : Bool) (s : S) (hd : assocN an.dyn id = none) : runL X an (.region id ops dr) s = (stepsO X an (callL X) ops ops.toList s).map fun s' => (.norm, behindS an id s') := by
  rw [runL_regionE]
  unfold regionE
  rw [hd]

theorem runL_seq (a b : Code) (s : S) : runL X an (.seq a b) s = (runL X an a s).bind fun r => match r.1 with
    | .norm => runL X an b r.2
    | e => some (e, r.2) := by
  refine opt_ext fun r => ?_
  rw [runL_iff]
  constructor
  · rintro ⟨n, h⟩
    cases n with
    | zero => simp [runF] at h
    | succ n =>
      simp only [runF] at h
      obtain ⟨⟨e, q⟩, h1, h2⟩ := Option.bind_eq_some_iff.1 h
      rw [runL_iff.2 ⟨n + 1, runF_mono (Le.refl _) n (n + 1) _ _ _ (by omega) h1⟩]
      simp only [Option.bind_some]
      cases e with
      | norm => exact runL_iff.2 ⟨n + 1, runF_mono (Le.refl _) n (n + 1) _ _ _ (by omega) h2⟩
      | _ => exact h2
  · intro h
    obtain ⟨⟨e, q⟩, h1, h2⟩ := Option.bind_eq_some_iff.1 h
    obtain ⟨n, hn⟩ := runL_iff.1 h1
    have other : (match (e, q).1 with | .norm => none | e => some (e, q)) = some r → ∃ n, runF X an (callN X n) n (.seq a b) s = some r := fun h2 => by
      refine ⟨n + 1, ?_⟩
      simp only [runF]
      rw [runF_mono (callN_mono X (by omega)) n n _ _ _ (by omega) hn]
      cases e with
      | norm => cases h2
      | _ => exact h2
    cases e with
    | norm =>
      obtain ⟨m, hm⟩ := runL_iff.1 h2
      refine ⟨max n m + 1, ?_⟩
      simp only [runF]
      rw [runF_mono (callN_mono X (by omega)) n (max n m) _ _ _ (by omega) hn]
      exact runF_mono (callN_mono X (by omega)) m (max n m) _ _ _ (by omega) hm
    | _ => exact other h2

theorem runL_cond (c : Operand) (a b : Code) (s : S) : runL X an (.cond c a b) s = (asB (opv s.t c)).bind fun t => bif t then runL X an a s else runL X an b s := by
  refine opt_ext fun r => ?_
  rw [runL_iff]
  constructor
  · rintro ⟨n, h⟩
    cases n with
    | zero => simp [runF] at h
    | succ n =>
      simp only [runF] at h
      obtain ⟨t, h1, h2⟩ := Option.bind_eq_some_iff.1 h
      rw [h1]
      cases t with
      | true => exact runL_iff.2 ⟨n + 1, runF_mono (Le.refl _) n (n + 1) _ _ _ (by omega) h2⟩
      | false => exact runL_iff.2 ⟨n + 1, runF_mono (Le.refl _) n (n + 1) _ _ _ (by omega) h2⟩
  · intro h
    obtain ⟨t, h1, h2⟩ := Option.bind_eq_some_iff.1 h
    cases t with
    | true =>
      obtain ⟨n, hn⟩ := runL_iff.1 h2
      exact ⟨n + 1, by simp only [runF, h1]; exact runF_mono (callN_mono X (by omega)) n n _ _ _ (by omega) hn⟩
    | false =>
      obtain ⟨n, hn⟩ := runL_iff.1 h2
      exact ⟨n + 1, by simp only [runF, h1]; exact runF_mono (callN_mono X (by omega)) n n _ _ _ (by omega) hn⟩

theorem runL_block (id : Nat) (a : Code) (s : S) : runL X an (.block id a) s = (runL X an a s).map fun r => match r.1 with
    | .exit j => bif j == id then (.norm, r.2) else (.exit j, r.2)
    | e => (e, r.2) := by
  refine opt_ext fun r => ?_
  rw [runL_iff]
  constructor
  · rintro ⟨n, h⟩
    cases n with
    | zero => simp [runF] at h
    | succ n =>
      simp only [runF] at h
      obtain ⟨⟨e, q⟩, h1, h2⟩ := Option.map_eq_some_iff.1 h
      rw [runL_iff.2 ⟨n + 1, runF_mono (Le.refl _) n (n + 1) _ _ _ (by omega) h1⟩, Option.map_some, ← h2]; cases e <;> rfl
  · intro h
    obtain ⟨⟨e, q⟩, h1, h2⟩ := Option.map_eq_some_iff.1 h
    obtain ⟨n, hn⟩ := runL_iff.1 h1
    exact ⟨n + 1, by simp only [runF]; rw [runF_mono (callN_mono X (by omega)) n n _ _ _ (by omega) hn, Option.map_some, ← h2]; cases e <;> rfl⟩

theorem runL_loop (a : Code) (s : S) : runL X an (.loop a) s = (runL X an a s).bind fun r => match r.1 with
    | .norm => runL X an (.loop a) (headS an a s.st.length r.2)
    | e => some (e, r.2) := by
  refine opt_ext fun r => ?_
  rw [runL_iff]
  constructor
  · rintro ⟨n, h⟩
    cases n with
    | zero => simp [runF] at h
    | succ n =>
      simp only [runF] at h
      obtain ⟨⟨e, q⟩, h1, h2⟩ := Option.bind_eq_some_iff.1 h
      rw [runL_iff.2 ⟨n + 1, runF_mono (Le.refl _) n (n + 1) _ _ _ (by omega) h1⟩]
      simp only [Option.bind_some]
      cases e with
      | norm => exact runL_iff.2 ⟨n + 1, runF_mono (Le.refl _) n (n + 1) _ _ _ (by omega) h2⟩
      | _ => exact h2
  · intro h
    obtain ⟨⟨e, q⟩, h1, h2⟩ := Option.bind_eq_some_iff.1 h
    obtain ⟨n, hn⟩ := runL_iff.1 h1
    have other : (match (e, q).1 with | .norm => none | e => some (e, q)) = some r → ∃ n, runF X an (callN X n) n (.loop a) s = some r := fun h2 => by
      refine ⟨n + 1, ?_⟩
      simp only [runF]
      rw [runF_mono (callN_mono X (by omega)) n n _ _ _ (by omega) hn]
      cases e with
      | norm => cases h2
      | _ => exact h2
    cases e with
    | norm =>
      obtain ⟨m, hm⟩ := runL_iff.1 h2
      refine ⟨max n m + 1, ?_⟩
      simp only [runF]
      rw [runF_mono (callN_mono X (by omega)) n (max n m) _ _ _ (by omega) hn]
      exact runF_mono (callN_mono X (by omega)) m (max n m) _ _ _ (by omega) hm
    | _ => exact other h2

theorem runL_scope (a : Code) (s : S) : runL X an (.scope a) s = (runL X an a s).bind fun r => match r.1 with
    | .goto l => (match findLabel a l with
      | some rest => (runL X an rest r.2).bind fun r => match r.1 with
        | .goto _ => none
        | e => some (e, r.2)
      | none => none)
    | e => some (e, r.2) := by
  refine opt_ext fun r => ?_
  rw [runL_iff]
  constructor
  · rintro ⟨n, h⟩
    cases n with
    | zero => simp [runF] at h
    | succ n =>
      simp only [runF] at h
      obtain ⟨⟨e, q⟩, h1, h2⟩ := Option.bind_eq_some_iff.1 h
      rw [runL_iff.2 ⟨n + 1, runF_mono (Le.refl _) n (n + 1) _ _ _ (by omega) h1⟩]
      simp only [Option.bind_some]
      cases e with
      | goto l =>
        simp only at h2 ⊢
        split at h2
        · rename_i rest hf
          obtain ⟨q2, h3, h4⟩ := Option.bind_eq_some_iff.1 h2
          simp only [hf]
          rw [runL_iff.2 ⟨n + 1, runF_mono (Le.refl _) n (n + 1) _ _ _ (by omega) h3⟩]
          exact h4
        · cases h2
      | _ => exact h2
  · intro h
    obtain ⟨⟨e, q⟩, h1, h2⟩ := Option.bind_eq_some_iff.1 h
    obtain ⟨n, hn⟩ := runL_iff.1 h1
    have other : (match (e, q).1 with | .goto _ => none | e => some (e, q)) = some r → ∃ n, runF X an (callN X n) n (.scope a) s = some r := fun h2 => by
      refine ⟨n + 1, ?_⟩
      simp only [runF]
      rw [runF_mono (callN_mono X (by omega)) n n _ _ _ (by omega) hn]
      cases e with
      | goto l => cases h2
      | _ => exact h2
    cases e with
    | goto l =>
      simp only at h2
      split at h2
      · rename_i rest hf
        obtain ⟨q2, h3, h4⟩ := Option.bind_eq_some_iff.1 h2
        obtain ⟨m, hm⟩ := runL_iff.1 h3
        refine ⟨max n m + 1, ?_⟩
        simp only [runF]
        rw [runF_mono (callN_mono X (by omega)) n (max n m) _ _ _ (by omega) hn]
        simp only [Option.bind_some, hf]
        rw [runF_mono (callN_mono X (by omega)) m (max n m) _ _ _ (by omega) hm]
        exact h4
      · cases h2
    | _ => exact other h2

theorem runL_flat {c : Code} {r : S → Ex × S} (h : ∀ call n s, runF X an call (n + 1) c s = some (r s)) (s : S) : runL X an c s = some (r s) := runL_iff.2 ⟨1, h _ 0 s⟩
theorem runL_skip (s : S) : runL X an .skip s = some (.norm, s) := runL_flat (r := fun s => (.norm, s)) (fun _ _ _ => by simp only [runF]) s
theorem runL_label (l : Nat) (s : S) : runL X an (.label l) s = some (.norm, s) := runL_flat (r := fun s => (.norm, s)) (fun _ _ _ => by simp only [runF]) s
theorem runL_exit (l : Nat) (s : S) : runL X an (.exit l) s = some (.exit l, s) := runL_flat (r := fun s => (.exit l, s)) (fun _ _ _ => by simp only [runF]) s
theorem runL_goto (l : Nat) (s : S) : runL X an (.goto l) s = some (.goto l, s) := runL_flat (r := fun s => (.goto l, s)) (fun _ _ _ => by simp only [runF]) s
theorem runL_ret (s : S) : runL X an .ret s = some (.ret, s) := runL_flat (r := fun s => (.ret, s)) (fun _ _ _ => by simp only [runF]) s

theorem callL_eq {f : FuncId} {fn : Func} {c : Code} (hu : X.use f = true) (hf : X.P.funcs[f]? = some fn) (hb : fn.body = some c) (args : List AV) (st : Store) :
    callL X f args st = (runL X (X.ann f) c ⟨argsT 0 args, st⟩).bind (bodyE X fn) := by
  refine opt_ext fun r => ?_
  rw [callL_iff]
  constructor
  · rintro ⟨n, h⟩
    cases n with
    | zero => simp [callN] at h
    | succ n =>
      simp only [callN, hu, cond_true, hf, hb] at h
      obtain ⟨q, h1, h2⟩ := Option.bind_eq_some_iff.1 h
      rw [runL_iff.2 ⟨n, h1⟩]
      exact h2
  · intro h
    obtain ⟨q, h1, h2⟩ := Option.bind_eq_some_iff.1 h
    obtain ⟨n, hn⟩ := runL_iff.1 h1
    exact ⟨n + 1, by simp only [callN, hu, cond_true, hf, hb, hn]; exact h2⟩
end eqs

theorem callL_sound {X : Ctx} (hX : CtxOk X) (hP : PrimOk X) (hmix : X.P.follows .mixedOrders = true) : CallOk X (callL X) := by
  intro f args st v st' h
  obtain ⟨n, hn⟩ := callL_iff.1 h
  exact call_sound hX hP hmix n f args st v st' hn

end Go.Eng
