/- The engine, part 27: drawn regions whose last operations are apart. Conditions: none. -/
import Derived.Test.YtjbaoopiffcigaaE22
set_option linter.unusedVariables false
set_option linter.unusedSimpArgs false
namespace Go.Eng

def appB (B : Nat → Option (Nat × Blk)) (i : Nat) (st : Store) : Store :=
  match B i with
  | some (loc, b) => st.set loc b
  | none => st

def SSt (B : Nat → Option (Nat × Blk)) (L : Nat → Bool) (st0 : Store) : Nat → Store
  | 0 => st0
  | i + 1 => if L i = true then appB B i (SSt B L st0 i) else SSt B L st0 i

theorem get_app {B : Nat → Option (Nat × Blk)} {i loc : Nat} (st : Store) (h : ∀ b, B i ≠ some (loc, b)) : (appB B i st)[loc]? = st[loc]? := by
  unfold appB
  split
  · rename_i l b hB
    rw [List.getElem?_set_ne (fun e => h b (by rw [hB, e]))]
  · rfl

theorem get_SSt {B : Nat → Option (Nat × Blk)} {L : Nat → Bool} {st0 : Store} {loc : Nat} : ∀ n, (∀ j, j < n → L j = true → ∀ b, B j ≠ some (loc, b)) → (SSt B L st0 n)[loc]? = st0[loc]?
  | 0, _ => rfl
  | n + 1, h => by
    have ih := get_SSt (st0 := st0) n fun j hj => h j (by omega)
    simp only [SSt]
    by_cases hL : L n = true
    · rw [if_pos hL, get_app _ (h n (by omega) hL), ih]
    · rw [if_neg hL, ih]

theorem app_comm {B : Nat → Option (Nat × Blk)} {i j : Nat} (h : ∀ l b l' b', B i = some (l, b) → B j = some (l', b') → l ≠ l') (st : Store) : appB B i (appB B j st) = appB B j (appB B i st) := by
  unfold appB
  cases hBi : B i with
  | none => rfl
  | some x =>
    cases hBj : B j with
    | none => rfl
    | some y =>
      obtain ⟨l, b⟩ := x
      obtain ⟨l', b'⟩ := y
      exact List.set_comm _ _ (fun e => h l b l' b' hBi hBj e.symm)

theorem SSt_add {B : Nat → Option (Nat × Blk)} {L : Nat → Bool} {st0 : Store} {i : Nat} (hL : L i = false) : ∀ n, (∀ j, j < n → j ≠ i → ∀ l b l' b', B i = some (l, b) → B j = some (l', b') → l ≠ l') →
    (i < n → SSt B (fun j => j == i || L j) st0 n = appB B i (SSt B L st0 n)) ∧ (n ≤ i → SSt B (fun j => j == i || L j) st0 n = SSt B L st0 n)
  | 0, _ => ⟨fun h => by omega, fun _ => rfl⟩
  | n + 1, h => by
    obtain ⟨h1, h2⟩ := SSt_add hL n fun j hj => h j (by omega)
    refine ⟨fun hin => ?_, fun hin => ?_⟩
    · simp only [SSt]
      by_cases e : n = i
      · subst e
        rw [h2 (Nat.le_refl _)]
        simp [hL]
      · have e' : (n == i) = false := by simpa using e
        simp only [e', Bool.false_or]
        rw [h1 (by omega)]
        by_cases hn : L n = true
        · rw [if_pos hn, if_pos hn]
          exact (app_comm (h n (by omega) e) _).symm
        · rw [if_neg hn, if_neg hn]
    · simp only [SSt]
      have e' : (n == i) = false := by simp; omega
      simp only [e', Bool.false_or]
      rw [h2 (by omega)]

theorem tail_sound {X : Ctx} {an : Ann} {call : Call} (hC : CallOk X call) (hP : PrimOk X) {k : Keep} {nt : Nat} {ops : Array Oper} (hd : dstsOk nt ops.toList = true) {p : Nat} (hok : drawOk X an ops p = true)
    {σ : Nat → S} {V : Nat → AV} (hV : ∀ (j : Nat) o, ops[j]? = some o → (σ (j + 1)).t = putD (σ j).t o.dst (V j)) {R : Nat → Nat → Prop} {B : Nat → Option (Nat × Blk)} (hB : ∀ i, i < p → B i = none)
    (hspec : ∀ (i : Nat) o, p ≤ i → ops[i]? = some o → (σ (i + 1)).st = appB B i (σ i).st ∧ ∀ T st2, (∀ x ∈ o.looksAt ops, look T x = look (σ i).t x) → (∀ loc, R i loc → st2[loc]? = (σ i).st[loc]?) →
      stepO X an call ops o ⟨T, st2⟩ = some ⟨putD T o.dst (V i), appB B i st2⟩)
    (hw : ∀ i loc b, B i = some (loc, b) → R i loc) (hap : ∀ i j, p ≤ i → p ≤ j → i < ops.size → j < ops.size → i ≠ j → ∀ loc b, B j = some (loc, b) → ¬ R i loc)
    {m0 : Nat → Option (Nat × Nat)} {w0 : World} {Q : Exit → Act → World → Prop}
    (hQ : ∀ m' a' w', Rel k nt m' (σ ops.size) a' w' → Stp k ⟨m0, (σ p).st, w0⟩ ⟨m', (σ ops.size).st, w'⟩ → Q .normal a' w') (hpn : p ≤ ops.size) :
    ∀ (fuel : Nat) (listed : Array Bool) m' a' w', listed.size = ops.size → Closed ops (fun j => listed.getD j true) → (∀ j, j < p → listed.getD j true = true) → cnt (fun j => listed.getD j true) ops.size = fuel →
      Rel k nt m' ⟨TT ops V (fun j => listed.getD j true) (σ 0).t ops.size, SSt B (fun j => listed.getD j true) (σ p).st ops.size⟩ a' w' → Stp k ⟨m0, (σ p).st, w0⟩ ⟨m', SSt B (fun j => listed.getD j true) (σ p).st ops.size, w'⟩ →
      wpAny X.P .any ops Q fuel listed a' w' := by
  have hdst : ∀ (j : Nat) o, ops[j]? = some o → ∀ d, o.dst = some d → d < nt := fun j o ho d e => by
    have := List.all_eq_true.1 hd o (by simpa using Array.mem_of_getElem? ho)
    rw [e] at this
    exact Nat.le_of_ble_eq_true this
  have noready : ∀ (listed : Array Bool), listed.size = ops.size → Region.ready .any ops listed = [] → ∀ j, j < ops.size → listed.getD j true = true := by
    intro listed hsz hr
    have hall : ∀ n j, j < n → j < ops.size → listed.getD j true = true := by
      intro n
      induction n with
      | zero => intro j hj; omega
      | succ n ihn =>
        intro j hj hjs
        cases hL : listed.getD j true with
        | true => rfl
        | false =>
          exfalso
          obtain ⟨o, ho⟩ : ∃ o, ops[j]? = some o := ⟨_, Array.getElem?_eq_getElem hjs⟩
          have : j ∈ Region.ready .any ops listed := mem_ready.2 ⟨hL, o, ho, fun e he hb => by
            have hlt := drawOk_edge hok ho he hb
            have := ihn e.on (by omega) (by omega)
            rw [Array.getD_eq_getD_getElem?] at this ⊢
            rw [Array.getElem?_eq_getElem (by omega)] at this ⊢
            simpa using this⟩
          rw [hr] at this
          cases this
    exact fun j hj => hall (j + 1) j (by omega) hj
  have atσ : ∀ d, p + d ≤ ops.size → ∀ loc, (∀ j, p ≤ j → j < p + d → ∀ b, B j ≠ some (loc, b)) → (σ (p + d)).st[loc]? = (σ p).st[loc]? := by
    intro d
    induction d with
    | zero => intro _ _ _; rfl
    | succ d ihd =>
      intro h loc hl
      obtain ⟨o, ho⟩ : ∃ o, ops[p + d]? = some o := ⟨_, Array.getElem?_eq_getElem (by omega)⟩
      rw [show p + (d + 1) = p + d + 1 by omega, (hspec (p + d) o (by omega) ho).1, get_app _ (hl (p + d) (by omega) (by omega)), ihd (by omega) loc fun j h1 h2 => hl j h1 (by omega)]
  have fin : ∀ (listed : Array Bool) m' a' w', (∀ j, j < ops.size → listed.getD j true = true) →
      Rel k nt m' ⟨TT ops V (fun j => listed.getD j true) (σ 0).t ops.size, SSt B (fun j => listed.getD j true) (σ p).st ops.size⟩ a' w' → Stp k ⟨m0, (σ p).st, w0⟩ ⟨m', SSt B (fun j => listed.getD j true) (σ p).st ops.size, w'⟩ → Q .normal a' w' := by
    intro listed m' a' w' hall hR hS
    have e2 : SSt B (fun j => listed.getD j true) (σ p).st ops.size = (σ ops.size).st := by
      have hlow : ∀ n, n ≤ p → SSt B (fun j => listed.getD j true) (σ p).st n = (σ p).st := by
        intro n
        induction n with
        | zero => intro _; rfl
        | succ n ihn =>
          intro h
          simp only [SSt]
          rw [ihn (by omega)]
          unfold appB
          rw [hB n (by omega)]
          simp
      have hup : ∀ d, p + d ≤ ops.size → SSt B (fun j => listed.getD j true) (σ p).st (p + d) = (σ (p + d)).st := by
        intro d
        induction d with
        | zero => intro _; exact hlow p (Nat.le_refl _)
        | succ d ihd =>
          intro h
          obtain ⟨o, ho⟩ : ∃ o, ops[p + d]? = some o := ⟨_, Array.getElem?_eq_getElem (by omega)⟩
          rw [show p + (d + 1) = p + d + 1 by omega]
          simp only [SSt]
          rw [if_pos (hall (p + d) (by omega)), ihd (by omega)]
          exact (hspec (p + d) o (by omega) ho).1.symm
      have := hup (ops.size - p) (by omega)
      rwa [show p + (ops.size - p) = ops.size by omega] at this
    rw [e2] at hR hS
    refine hQ m' a' w' ⟨hR.inv, hR.tmp.ext fun x => ?_⟩ hS
    have e1 : (σ ops.size).t = TT ops V (fun j => decide (j < ops.size)) (σ 0).t ops.size := by
      rw [TT_lt ops V σ hV ops.size ops.size (Nat.le_refl _), Nat.min_self]
    rw [e1]
    refine look_TT _ _ _ _ _ _ _ fun j hj _ => ?_
    simp only [hj, decide_true]
    rw [hall j hj]
  intro fuel
  induction fuel with
  | zero =>
    intro listed m' a' w' hsz hcl hlow hcnt hR hS
    have hall := cnt_zero _ _ hcnt
    refine ⟨?_, fin listed m' a' w' hall hR hS⟩
    rw [List.eq_nil_iff_forall_not_mem]
    intro j hj
    obtain ⟨h1, o, ho, _⟩ := mem_ready.1 hj
    have h2 := hall j (Array.getElem?_eq_some_iff.1 ho).1
    try simp only at h2
    rw [h1] at h2; cases h2
  | succ fuel ih =>
    intro listed m' a' w' hsz hcl hlow hcnt hR hS
    refine ⟨fun hr => fin listed m' a' w' (noready listed hsz hr) hR hS, fun i hi => ?_⟩
    obtain ⟨hLi, o, ho, hready⟩ := mem_ready.1 hi
    have hin : i < ops.size := (Array.getElem?_eq_some_iff.1 ho).1
    have hpi : p ≤ i := by
      rcases Nat.lt_or_ge i p with h | h
      · have := hlow i h; rw [hLi] at this; cases this
      · exact h
    have hrd : ∃ o, ops[i]? = some o ∧ ∀ e ∈ o.after, Region.binds .any e = true → listed.getD e.on true = true := ⟨o, ho, fun e he hb => by
      have := hready e he hb
      have hlt := drawOk_edge hok ho he hb
      rw [Array.getD_eq_getD_getElem?, Array.getElem?_eq_getElem (by omega)] at this ⊢
      simpa using this⟩
    have toI : ∀ j, Reach ops j i → listed.getD j true = true := fun j hr => hcl.reach hr hrd
    have fromI : ∀ j, Reach ops i j → j < ops.size → listed.getD j true = false := fun j hr hj => by
      cases hL : listed.getD j true with
      | false => rfl
      | true =>
        obtain ⟨y, hy⟩ : ∃ o, ops[j]? = some o := ⟨_, Array.getElem?_eq_getElem hj⟩
        have := hcl.reach hr ⟨y, hy, fun e he hb => hcl j y e hy hL he hb⟩
        try simp only at this
        rw [hLi] at this; cases this
    have shsym : ∀ a b : Oper, shares ops a b = true → shares ops b a = true := by
      intro a b hs
      unfold shares at hs ⊢
      cases ha : a.dst with
      | none =>
        cases hb : b.dst with
        | none => rw [ha, hb] at hs; simp at hs
        | some e => rw [ha, hb] at hs; simpa using hs
      | some d =>
        cases hb : b.dst with
        | none => rw [ha, hb] at hs; simpa using hs
        | some e =>
          rw [ha, hb] at hs
          simp only [Bool.or_eq_true, beq_iff_eq, Option.some.injEq] at hs ⊢
          rcases hs with (h1 | h1) | h1
          · exact .inr h1
          · exact .inl (.inr h1.symm)
          · exact .inl (.inl h1)
    have side : ∀ j y, j ≠ i → j < ops.size → ops[j]? = some y → (shares ops y o = true ∨ shares ops o y = true) → listed.getD j true = decide (j < i) := by
      intro j y hne hjn hy hsh
      have hsh : shares ops y o = true := hsh.elim id (shsym _ _)
      rcases Nat.lt_or_gt_of_ne hne with hlt | hgt
      · simp only [hlt, decide_true]
        rcases Nat.lt_or_ge j p with h | h
        · exact hlow j h
        · rcases drawOk_share hok hlt h hy ho with h1 | h1
          · rw [hsh] at h1; cases h1
          · exact toI j h1
      · have : ¬ j < i := by omega
        simp only [this, decide_false]
        rcases drawOk_share hok hgt hpi ho hy with h1 | h1
        · rw [shsym _ _ hsh] at h1; cases h1
        · exact fromI j h1 hjn
    have eσi : (σ i).t = TT ops V (fun j => decide (j < i)) (σ 0).t ops.size := by
      rw [TT_lt ops V σ hV i ops.size (Nat.le_refl _), show min ops.size i = i by omega]
    have eσi1 : (σ (i + 1)).t = TT ops V (fun j => decide (j < i + 1)) (σ 0).t ops.size := by
      rw [TT_lt ops V σ hV (i + 1) ops.size (Nat.le_refl _), show min ops.size (i + 1) = i + 1 by omega]
    generalize hT : TT ops V (fun j => listed.getD j true) (σ 0).t ops.size = T
    have hLT : ∀ x ∈ o.looksAt ops, look T x = look (σ i).t x := by
      intro x hx
      rw [eσi, ← hT]
      refine look_TT _ _ _ _ _ _ _ fun j hj hdj => ?_
      by_cases hji : j = i
      · subst hji; rw [hLi]; simp
      · obtain ⟨y, hy⟩ : ∃ o, ops[j]? = some o := ⟨_, Array.getElem?_eq_getElem hj⟩
        rw [hy] at hdj
        simp only [Option.bind_some] at hdj
        refine side j y hji hj hy (.inl ?_)
        unfold shares
        rw [hdj]
        simp [hx]
    have hst2 : ∀ loc, R i loc → (SSt B (fun j => listed.getD j true) (σ p).st ops.size)[loc]? = (σ i).st[loc]? := by
      intro loc hloc
      rw [get_SSt ops.size (fun j hj hL b hb => ?_)]
      · have := atσ (i - p) (by omega) loc (fun j h1 h2 b hb => hap i j hpi h1 hin (by omega) (by omega) loc b hb hloc)
        rw [show p + (i - p) = i by omega] at this
        exact this.symm
      · rcases Nat.lt_or_ge j p with h | h
        · rw [hB j h] at hb; cases hb
        · by_cases hji : j = i
          · subst hji; rw [hLi] at hL; cases hL
          · exact hap i j hpi h hin hj (fun e => hji e.symm) loc b hb hloc
    have hstep := (hspec i o hpi ho).2 T _ hLT hst2
    have eL' : (fun j => (listed.setIfInBounds i true).getD j true) = (fun j => j == i || listed.getD j true) := by
      funext j
      by_cases hji : j = i
      · subst hji
        rw [Array.getD_eq_getD_getElem?]
        simp [hsz, hin]
      · rw [getD_set_ne true (fun e => hji e.symm)]
        simp [hji]
    have hsz' : (listed.setIfInBounds i true).size = ops.size := by simpa using hsz
    have hcnt' : cnt (fun j => (listed.setIfInBounds i true).getD j true) ops.size = fuel := by
      rw [eL']
      have := (cnt_set (fun j => listed.getD j true) i hLi ops.size).1 hin
      omega
    have hT' : ∀ x, look (TT ops V (fun j => j == i || listed.getD j true) (σ 0).t ops.size) x = look (putD T o.dst (V i)) x := by
      intro x
      rw [look_putD]
      by_cases hx : o.dst = some x
      · rw [if_pos hx]
        have e2 : look (TT ops V (fun j => j == i || listed.getD j true) (σ 0).t ops.size) x = look (TT ops V (fun j => decide (j < i + 1)) (σ 0).t ops.size) x := by
          refine look_TT _ _ _ _ _ _ _ fun j hj hdj => ?_
          by_cases hji : j = i
          · subst hji; simp
          · obtain ⟨y, hy⟩ : ∃ o, ops[j]? = some o := ⟨_, Array.getElem?_eq_getElem hj⟩
            rw [hy] at hdj
            simp only [Option.bind_some] at hdj
            have := side j y hji hj hy (.inl (by unfold shares; rw [hdj, hx]; simp))
            simp only [this, show (j == i) = false by simpa using hji, Bool.false_or]
            have : j < i ↔ j < i + 1 := by omega
            simp only [this]
        rw [e2, ← eσi1, hV i o ho, look_putD, if_pos hx]
      · rw [if_neg hx, ← hT]
        refine look_TT _ _ _ _ _ _ _ fun j hj hdj => ?_
        by_cases hji : j = i
        · subst hji
          rw [ho] at hdj
          exact absurd hdj hx
        · simp [hji]
    have hclosed' : Closed ops (fun j => j == i || listed.getD j true) := by
      intro j y e hy hj he hb
      simp only [Bool.or_eq_true, beq_iff_eq] at hj ⊢
      rcases hj with rfl | hj
      · obtain ⟨o', ho', hall⟩ := hrd
        rw [hy] at ho'; cases ho'
        exact .inr (hall e he hb)
      · exact .inr (hcl j y e hy hj he hb)
    have hSS := (SSt_add (B := B) (L := fun j => listed.getD j true) (st0 := (σ p).st) hLi ops.size (fun j hj hji l b l' b' hb hb2 e => by
      rcases Nat.lt_or_ge j p with h | h
      · rw [hB j h] at hb2; cases hb2
      · exact hap i j hpi h hin hj (fun e => hji e.symm) l' b' hb2 (e ▸ hw i l b hb))).1 hin
    rw [hT] at hR
    refine stepO_sound hC hP hR ho (hdst i o ho) hstep (fun m2 a2 w2 hR2 hS2 => ?_)
    refine ih (listed.setIfInBounds i true) m2 a2 w2 hsz' (by rw [eL']; exact hclosed') (fun j hj => ?_) hcnt' ?_ ?_
    · rw [getD_set_ne true (by omega : i ≠ j)]; exact hlow j hj
    · rw [eL', hSS]
      exact ⟨hR2.inv, hR2.tmp.ext hT'⟩
    · rw [eL', hSS]
      exact hS.trans hS2

theorem opE_noCall {X : Ctx} {an : Ann} {call call' : Call} {o : Oper} {s : S} {acc : Acc} (h : accO X an o s = some acc) : opE X an call o (opv s.t) s.st = opE X an call' o (opv s.t) s.st := by
  obtain ⟨dst, op, type, pos, after, guard⟩ := o
  unfold accO at h
  cases hg : guard with
  | some g => rw [hg] at h; simp at h
  | none =>
    rw [hg] at h
    simp only [Option.isNone_none, Bool.not_true, cond_false] at h
    cases op with
    | call c =>
      obtain ⟨callee, args, types⟩ := c
      cases callee with
      | builtin b => rfl
      | value f =>
        cases f with
        | func f =>
          simp only at h
          cases hp : X.prim f with
          | none => rw [hp] at h; simp at h
          | some p =>
            unfold opE
            simp only
            have e1 : opv s.t (.func f) = .fn f [] := rfl
            rw [e1]
            simp only [targetOf, Option.bind_some]
            unfold callV
            rw [hp]
        | _ => simp at h
      | _ => simp at h
    | _ => rfl

theorem accO_guard {X : Ctx} {an : Ann} {o : Oper} {s : S} {acc : Acc} (h : accO X an o s = some acc) : o.guard = none := by
  unfold accO at h
  cases hg : o.guard with
  | some g => rw [hg] at h; simp at h
  | none => rfl

theorem stepO_plain {X : Ctx} {an : Ann} {call : Call} {ops : Array Oper} {o : Oper} (hg : o.guard = none) (s : S) : stepO X an call ops o s = (opE X an call o (opv s.t) s.st).map fun (v, st) => ⟨putD s.t o.dst v, st⟩ := by
  unfold stepO
  rw [hg]

theorem stepO_noCall {X : Ctx} {an : Ann} {call : Call} {ops : Array Oper} {o : Oper} {s : S} {acc : Acc} (h : accO X an o s = some acc) : stepO X an noCall ops o s = stepO X an call ops o s := by
  rw [stepO_plain (accO_guard h), stepO_plain (accO_guard h), opE_noCall (call' := call) h]

def rOf (acc : Acc) (loc : Nat) : Prop :=
  match acc with
  | .no => False
  | .at l _ => l = loc
  | .all => True
def bOf (acc : Acc) (st1 : Store) : Option (Nat × Blk) :=
  match acc with
  | .at loc true => (st1[loc]?).map fun b => (loc, b)
  | _ => none
def app1 (b : Option (Nat × Blk)) (st : Store) : Store :=
  match b with
  | some (loc, b) => st.set loc b
  | none => st

theorem getBlk_congr {st st2 : Store} {loc : Nat} (h : st2[loc]? = st[loc]?) (ep : Nat) : getBlk st2 loc ep = getBlk st loc ep := by
  unfold getBlk
  rw [h]

theorem accO_spec {X : Ctx} (hP : PrimOk X) {an : Ann} {call : Call} {ops : Array Oper} {o : Oper} {s s1 : S} {acc : Acc} (h : accO X an o s = some acc) (hs : stepO X an call ops o s = some s1) :
    s1.st = app1 (bOf acc s1.st) s.st ∧ (quietO X o.op = true → s1.st = s.st) ∧
    ∀ T st2, (∀ x ∈ o.looksAt ops, look T x = look s.t x) → (∀ loc, rOf acc loc → st2[loc]? = s.st[loc]?) →
      ∃ v, s1.t = putD s.t o.dst v ∧ stepO X an call ops o ⟨T, st2⟩ = some ⟨putD T o.dst v, app1 (bOf acc s1.st) st2⟩ := by
  have hg := accO_guard h
  have hcong : ∀ T st2, (∀ x ∈ o.looksAt ops, look T x = look s.t x) → opE X an call o (opv T) st2 = opE X an call o (opv s.t) st2 := fun T st2 hT => by
    refine opE_congr fun x hx => ?_
    cases x with
    | tmp n =>
      refine hT n ?_
      unfold Oper.looksAt
      exact List.mem_append.2 (.inl (List.mem_filterMap.2 ⟨.tmp n, by simpa using hx, rfl⟩))
    | _ => rfl
  rw [stepO_plain hg] at hs
  obtain ⟨⟨v, st⟩, he, hs⟩ := Option.map_eq_some_iff.1 hs
  simp only at hs
  subst hs
  simp only
  have wrap : ∀ (r : Nat → Prop) (b : Option (Nat × Blk)), st = app1 b s.st → (quietO X o.op = true → st = s.st) → (∀ loc, r loc → rOf acc loc) → bOf acc st = b →
      (∀ st2 : Store, (∀ loc, r loc → st2[loc]? = s.st[loc]?) → opE X an call o (opv s.t) st2 = some (v, app1 b st2)) →
      st = app1 (bOf acc st) s.st ∧ (quietO X o.op = true → st = s.st) ∧
      ∀ T st2, (∀ x ∈ o.looksAt ops, look T x = look s.t x) → (∀ loc, rOf acc loc → st2[loc]? = s.st[loc]?) →
        ∃ v', putD s.t o.dst v = putD s.t o.dst v' ∧ stepO X an call ops o ⟨T, st2⟩ = some ⟨putD T o.dst v', app1 (bOf acc st) st2⟩ := by
    intro r b h1 h2 h3 h4 h5
    rw [h4]
    refine ⟨h1, h2, fun T st2 hT hst => ⟨v, rfl, ?_⟩⟩
    rw [stepO_plain hg]
    simp only
    rw [hcong T st2 hT, h5 st2 (fun loc hl => hst loc (h3 loc hl))]
    rfl
  have bare : bareO an o = true → acc = .no → _ := fun hb ha => by
    subst ha
    obtain ⟨b1, b2, b3⟩ := bare_spec hb he
    exact wrap (fun _ => False) none b2 (fun _ => b2) (fun _ h => h) rfl fun st2 _ => b3 st2
  obtain ⟨dst, op, type, pos, after, guard⟩ := o
  simp only at hg
  subst hg
  unfold accO at h
  simp only [Option.isNone_none, Bool.not_true, cond_false] at h
  have other : (bif bareO an ⟨dst, op, type, pos, after, none⟩ then some Acc.no else none) = some acc → acc = .no ∧ bareO an ⟨dst, op, type, pos, after, none⟩ = true := fun h => by
    cases hb : bareO an ⟨dst, op, type, pos, after, none⟩ with
    | false => rw [hb] at h; cases h
    | true => rw [hb] at h; simp only [cond_true, Option.some.injEq] at h; exact ⟨h.symm, rfl⟩
  cases op with
  | store t x y =>
    simp only at h
    split at h
    · rename_i loc ep idx off hu
      simp only [Option.some.injEq] at h
      subst h
      unfold opE at he
      simp only at he
      obtain ⟨i, hi, h9⟩ := Option.bind_eq_some_iff.1 he
      unfold stPtr at h9
      rw [hu] at h9
      unfold stPtr0 at h9
      simp only at h9
      obtain ⟨b, hb, h8⟩ := Option.bind_eq_some_iff.1 h9
      by_cases hc : (b.shut || !((opv s.t y).cells.length == i.size && !(i.size == 0))) = true
      · rw [hc] at h8; simp only [cond_true] at h8; cases h8
      · have hcf := Bool.eq_false_iff.2 hc
        simp only [hcf, cond_false] at h8
        obtain ⟨e, hel, h7⟩ := Option.bind_eq_some_iff.1 h8
        obtain ⟨e', he', h6⟩ := Option.map_eq_some_iff.1 h7
        simp only [Prod.mk.injEq] at h6
        obtain ⟨rfl, rfl⟩ := h6
        have hlt : loc < s.st.length := by
          unfold getBlk at hb
          cases hh : s.st[loc]? with
          | none => rw [hh] at hb; cases hb
          | some z => exact (List.getElem?_eq_some_iff.1 hh).1
        refine wrap (fun l => loc = l) (some (loc, { b with elems := b.elems.set idx e' })) rfl (fun hq => by cases hq) (fun _ h => h) ?_ fun st2 hst => ?_
        · show ((s.st.set loc _)[loc]?).map _ = _
          rw [List.getElem?_set_self hlt]
          rfl
        · unfold opE
          simp only
          rw [hi]
          simp only [Option.bind_some]
          unfold stPtr
          rw [hu]
          unfold stPtr0
          simp only
          rw [getBlk_congr (hst loc rfl), hb]
          simp only [Option.bind_some, hcf, cond_false, hel, he', Option.map_some]
          rfl
    · cases h
  | load t x =>
    simp only at h
    split at h
    · rename_i loc ep idx off hu
      simp only [Option.some.injEq] at h
      subst h
      unfold opE at he
      simp only at he
      obtain ⟨i, hi, h9⟩ := Option.bind_eq_some_iff.1 he
      obtain ⟨h8, rfl⟩ := val_some h9
      refine wrap (fun l => loc = l) none rfl (fun _ => rfl) (fun _ h => h) rfl fun st2 hst => ?_
      unfold opE
      simp only
      rw [hi]
      simp only [Option.bind_some]
      have : ldPtr st2 i (opv s.t x) = ldPtr s.st i (opv s.t x) := by
        unfold ldPtr
        rw [hu]
        unfold ldPtr0
        simp only
        rw [getBlk_congr (hst loc rfl)]
      rw [this, h8]
      rfl
    · rename_i d off hu
      simp only [Option.some.injEq] at h
      subst h
      unfold opE at he
      simp only at he
      obtain ⟨i, hi, h9⟩ := Option.bind_eq_some_iff.1 he
      obtain ⟨h8, rfl⟩ := val_some h9
      refine wrap (fun _ => False) none rfl (fun _ => rfl) (fun _ h => h.elim) rfl fun st2 hst => ?_
      unfold opE
      simp only
      rw [hi]
      simp only [Option.bind_some]
      have : ldPtr st2 i (opv s.t x) = ldPtr s.st i (opv s.t x) := by
        unfold ldPtr
        rw [hu]
        rfl
      rw [this, h8]
      rfl
    · cases h
  | call c =>
    obtain ⟨callee, args, types⟩ := c
    cases callee with
    | builtin b =>
      obtain ⟨rfl, hb⟩ := other h
      exact bare hb rfl
    | value f =>
      cases f with
      | func f =>
        simp only at h
        cases hp : X.prim f with
        | none => rw [hp] at h; simp at h
        | some p =>
          cases hpu : X.pure f with
          | false => rw [hpu] at h; simp at h
          | true =>
            rw [hp, hpu] at h
            simp only [Option.isSome_some, Bool.and_true, cond_true, Option.some.injEq] at h
            subst h
            have hst : st = s.st := by
              have he' := he
              unfold opE at he'
              simp only at he'
              have he' : (targetOf (.fn f [])).bind (fun (x : FuncId × List AV) => callV X call (flagOf an.wr dst) x.1 (args.toList.map (opv s.t) ++ x.2) s.st) = some (v, st) := he'
              simp only [targetOf, Option.bind_some] at he'
              unfold callV at he'
              rw [hp] at he'
              exact hP.2 f p hp hpu _ _ _ _ he'
            refine wrap (fun _ => True) none hst (fun _ => hst) (fun _ h => h) rfl fun st2 h2 => ?_
            have : st2 = s.st := List.ext_getElem? fun i => h2 i trivial
            rw [this, he, hst]
            rfl
      | _ => simp at h
    | _ => simp at h
  | _ =>
    obtain ⟨rfl, hb⟩ := other h
    exact bare hb rfl

theorem stepsO_app {X : Ctx} {an : Ann} {call : Call} {ops : Array Oper} : ∀ (a b : List Oper) (s : S), stepsO X an call ops (a ++ b) s = (stepsO X an call ops a s).bind (stepsO X an call ops b)
  | [], b, s => rfl
  | o :: a, b, s => by
    simp only [List.cons_append, stepsO]
    cases stepO X an call ops o s with
    | none => rfl
    | some s1 => exact stepsO_app a b s1

theorem regionE_steps {X : Ctx} {an : Ann} {call : Call} {id : Nat} {ops : Array Oper} {s s' : S} (h : regionE X an call id ops s = some s') : stepsO X an call ops ops.toList s = some s' := by
  unfold regionE at h
  split at h
  · exact h
  · rename_i p hp
    obtain ⟨s1, h1, h2⟩ := Option.bind_eq_some_iff.1 h
    cases ht : tailOk X an ops (ops.toList.drop p) s1 with
    | false => rw [ht] at h2; cases h2
    | true =>
      rw [ht] at h2
      simp only [cond_true] at h2
      rw [← List.take_append_drop p ops.toList, stepsO_app, h1]
      exact h2

def drawOkR (X : Ctx) (an : Ann) (id : Nat) (ops : Array Oper) : Bool :=
  match assocN an.dyn id with
  | none => drawOk X an ops ops.size
  | some p => Nat.ble p ops.size && drawOk X an ops p

theorem apart1_symm (a b : Acc) : apart1 a b = apart1 b a := by
  unfold apart1
  cases a with
  | «at» x u =>
    cases b with
    | «at» y v =>
      simp only
      rw [show (x == y) = (y == x) from by
        by_cases e : x = y
        · subst e; rfl
        · have e' : ¬ y = x := fun h => e h.symm
          rw [beq_eq_false_iff_ne.2 e, beq_eq_false_iff_ne.2 e']]
      cases u <;> cases v <;> rfl
    | _ => rfl
  | _ => cases b <;> rfl

theorem apartL_get : ∀ (l : List Acc) (i j : Nat) (a b : Acc), apartL l = true → i < j → l[i]? = some a → l[j]? = some b → apart1 a b = true
  | [], i, j, a, b, _, _, h, _ => by simp at h
  | x :: r, 0, j + 1, a, b, h, _, h1, h2 => by
    simp only [apartL, Bool.and_eq_true] at h
    simp at h1 h2
    subst h1
    exact List.all_eq_true.1 h.1 b (List.mem_of_getElem? h2)
  | x :: r, i + 1, j + 1, a, b, h, hij, h1, h2 => by
    simp only [apartL, Bool.and_eq_true] at h
    exact apartL_get r i j a b h.2 (by omega) (by simpa using h1) (by simpa using h2)

theorem tailA_spec {X : Ctx} {an : Ann} {call : Call} {ops : Array Oper} {σ : Nat → S} (hσ : ∀ (j : Nat) o, 0 ≤ j → ops[j]? = some o → stepO X an call ops o (σ j) = some (σ (j + 1))) : ∀ (n i : Nat) r, i + n = ops.size → tailA X an ops (ops.toList.drop i) (σ i) = some r →
    ∀ j o, i ≤ j → ops[j]? = some o → ∃ a, r[j - i]? = some a ∧ accO X an o (σ j) = some a
  | 0, i, r, hi, h, j, o, hj, ho => by have := (Array.getElem?_eq_some_iff.1 ho).1; omega
  | n + 1, i, r, hi, h, j, o, hj, ho => by
    have hlt : i < ops.size := by omega
    have hdrop : ops.toList.drop i = ops[i] :: ops.toList.drop (i + 1) := by rw [List.drop_eq_getElem_cons (by simpa using hlt)]; simp
    rw [hdrop] at h
    simp only [tailA] at h
    split at h
    · rename_i a s' ha hs'
      obtain ⟨r', h1, rfl⟩ := Option.map_eq_some_iff.1 h
      have hoi : ops[i]? = some ops[i] := Array.getElem?_eq_getElem hlt
      rw [stepO_noCall (call := call) ha, hσ i _ (Nat.zero_le _) hoi] at hs'
      cases hs'
      by_cases e : j = i
      · subst e
        rw [hoi] at ho
        cases ho
        exact ⟨a, by simp, ha⟩
      · obtain ⟨b, h2, h3⟩ := tailA_spec hσ n (i + 1) r' (by omega) h1 j o (by omega) ho
        exact ⟨b, by rw [show j - i = (j - (i + 1)) + 1 by omega]; simpa using h2, h3⟩
    · cases h

theorem draw_sound {X : Ctx} {an : Ann} {call : Call} (hC : CallOk X call) (hP : PrimOk X) {k : Keep} {nt : Nat} {ops : Array Oper} (hd : dstsOk nt ops.toList = true) {id : Nat} (hok : drawOkR X an id ops = true) (hmix : X.P.follows .mixedOrders = true)
    {Q : Exit → Act → World → Prop} {m : Nat → Option (Nat × Nat)} {s s' : S} {a : Act} {w : World} (hR : Rel k nt m s a w) (h : regionE X an call id ops s = some s')
    (hQ : ∀ m' a' w', Rel k nt m' s' a' w' → Stp k ⟨m, s.st, w⟩ ⟨m', s'.st, w'⟩ → Q .normal a' w') : (Code.region id ops true).wp X.P Q a w := by
  have hall := regionE_steps h
  obtain ⟨σ, hσ0, hσn, hσ⟩ := run_seq (X := X) (an := an) (call := call) (ops := ops) ops.size 0 s s' (by omega) (by simpa using hall)
  have hVex : ∃ V : Nat → AV, ∀ (j : Nat) o, ops[j]? = some o → (σ (j + 1)).t = putD (σ j).t o.dst (V j) := by
    have : ∀ j : Nat, ∃ v : AV, ∀ o, ops[j]? = some o → (σ (j + 1)).t = putD (σ j).t o.dst v := fun j => by
      cases ho : ops[j]? with
      | none => exact ⟨.undef, fun o h => by cases h⟩
      | some o =>
        obtain ⟨v, hv, _⟩ := stepO_at (hσ j o (Nat.zero_le _) ho) (T := (σ j).t) (fun _ _ => rfl)
        exact ⟨v, fun o' h => by cases h; exact hv⟩
    exact ⟨fun j => (this j).choose, fun j => (this j).choose_spec⟩
  obtain ⟨V, hV⟩ := hVex
  -- the place and what is behind it
  obtain ⟨p, hpn, hok2, R, B, hB, hspec, hquiet, hw, hap⟩ : ∃ p, p ≤ ops.size ∧ drawOk X an ops p = true ∧ ∃ (R : Nat → Nat → Prop) (B : Nat → Option (Nat × Blk)), (∀ i, i < p → B i = none) ∧
      (∀ (i : Nat) o, p ≤ i → ops[i]? = some o → (σ (i + 1)).st = appB B i (σ i).st ∧ ∀ T st2, (∀ x ∈ o.looksAt ops, look T x = look (σ i).t x) → (∀ loc, R i loc → st2[loc]? = (σ i).st[loc]?) →
        stepO X an call ops o ⟨T, st2⟩ = some ⟨putD T o.dst (V i), appB B i st2⟩) ∧
      (∀ (j : Nat) o, p ≤ j → ops[j]? = some o → quietO X o.op = true → (σ (j + 1)).st = (σ j).st) ∧
      (∀ i loc b, B i = some (loc, b) → R i loc) ∧ (∀ i j, p ≤ i → p ≤ j → i < ops.size → j < ops.size → i ≠ j → ∀ loc b, B j = some (loc, b) → ¬ R i loc) := by
    unfold drawOkR at hok
    unfold regionE at h
    cases hdy : assocN an.dyn id with
    | none =>
      rw [hdy] at hok
      exact ⟨ops.size, Nat.le_refl _, hok, fun _ _ => False, fun _ => none, fun _ _ => rfl, fun i o h1 ho => by have := (Array.getElem?_eq_some_iff.1 ho).1; omega,
        fun i o h1 ho => by have := (Array.getElem?_eq_some_iff.1 ho).1; omega, fun i loc b h => (by cases h), fun i j h1 h2 h3 => by omega⟩
    | some p =>
      rw [hdy] at hok h
      simp only [Bool.and_eq_true] at hok h
      have hpn := Nat.le_of_ble_eq_true hok.1
      obtain ⟨s1, h1, h2⟩ := Option.bind_eq_some_iff.1 h
      have hs1 : s1 = σ p := by
        have : ∀ n, n ≤ ops.size → stepsO X an call ops (ops.toList.take n) s = some (σ n) := by
          intro n
          induction n with
          | zero => intro _; simp [stepsO, hσ0]
          | succ n ihn =>
            intro hn
            have hget : ops.toList[n]? = some ops[n] := by simp [show n < ops.size by omega]
            rw [List.take_add_one, hget, stepsO_app, ihn (by omega)]
            simp only [Option.toList_some, Option.bind_some, stepsO]
            rw [hσ n ops[n] (Nat.zero_le _) (Array.getElem?_eq_getElem (by omega))]
            rfl
        have := this p hpn
        rw [h1] at this
        cases this
        rfl
      subst hs1
      cases ht : tailOk X an ops (ops.toList.drop p) (σ p) with
      | false => rw [ht] at h2; cases h2
      | true =>
        unfold tailOk at ht
        split at ht
        · rename_i r hr
          have spec := tailA_spec hσ (ops.size - p) p r (by omega) hr
          have hacc : ∀ i, ∃ acc : Acc, ∀ o, p ≤ i → ops[i]? = some o → r[i - p]? = some acc ∧ accO X an o (σ i) = some acc := fun i => by
            cases ho : ops[i]? with
            | none => exact ⟨.no, fun o _ h => by cases h⟩
            | some o =>
              by_cases hpi : p ≤ i
              · obtain ⟨acc, g1, g2⟩ := spec i o hpi ho
                exact ⟨acc, fun o' _ h => by cases h; exact ⟨g1, g2⟩⟩
              · exact ⟨.no, fun o' h => absurd h hpi⟩
          obtain ⟨A, hA⟩ : ∃ A : Nat → Acc, ∀ i o, p ≤ i → ops[i]? = some o → r[i - p]? = some (A i) ∧ accO X an o (σ i) = some (A i) := ⟨fun i => (hacc i).choose, fun i => (hacc i).choose_spec⟩
          clear hacc
          refine ⟨p, hpn, hok.2, fun i => rOf (A i), fun i => if p ≤ i then bOf (A i) (σ (i + 1)).st else none, fun i hi => if_neg (by omega), fun i o hpi ho => ?_, fun i o hpi ho hq => ?_, fun i loc b hb => ?_, fun i j hpi hpj hin hjn hij loc b hb hloc => ?_⟩
          · obtain ⟨g1, g2⟩ := hA i o hpi ho
            obtain ⟨q1, q2, q3⟩ := accO_spec hP g2 (hσ i o (Nat.zero_le _) ho)
            have eapp : ∀ st, appB (fun i => if p ≤ i then bOf (A i) (σ (i + 1)).st else none) i st = app1 (bOf (A i) (σ (i + 1)).st) st := fun st => by
              unfold appB app1
              simp only [hpi, if_true]
            refine ⟨by rw [eapp]; exact q1, fun T st2 hT hst => ?_⟩
            obtain ⟨v, v1, v2⟩ := q3 T st2 hT hst
            rw [eapp, v2]
            have e1 : putD (σ i).t o.dst v = putD (σ i).t o.dst (V i) := by rw [← v1]; exact hV i o ho
            rw [putD_eq (T := T) e1]
          · obtain ⟨g1, g2⟩ := hA i o hpi ho
            exact (accO_spec hP g2 (hσ i o (Nat.zero_le _) ho)).2.1 hq
          · simp only at hb
            by_cases hpi : p ≤ i
            · rw [if_pos hpi] at hb
              generalize A i = ai at *
              cases ai with
              | «at» x u =>
                cases u with
                | true =>
                  simp only [bOf] at hb
                  obtain ⟨b', _, hb'⟩ := Option.map_eq_some_iff.1 hb
                  simp only [Prod.mk.injEq] at hb'
                  exact hb'.1
                | false => simp [bOf] at hb
              | _ => simp [bOf] at hb
            · rw [if_neg hpi] at hb; cases hb
          · obtain ⟨oi, hoi⟩ : ∃ o, ops[i]? = some o := ⟨_, Array.getElem?_eq_getElem hin⟩
            obtain ⟨oj, hoj⟩ : ∃ o, ops[j]? = some o := ⟨_, Array.getElem?_eq_getElem hjn⟩
            obtain ⟨g1, _⟩ := hA i oi hpi hoi
            obtain ⟨k1, _⟩ := hA j oj hpj hoj
            simp only [hpj, if_true] at hb hloc
            generalize A i = ai at *
            generalize A j = aj at *
            have hapt : apart1 ai aj = true := by
              rcases Nat.lt_or_gt_of_ne hij with hlt | hgt
              · exact apartL_get r _ _ _ _ ht (by omega) g1 k1
              · rw [apart1_symm]; exact apartL_get r _ _ _ _ ht (by omega) k1 g1
            cases aj with
            | «at» y v =>
              cases v with
              | true =>
                simp only [bOf] at hb
                obtain ⟨b', _, hb'⟩ := Option.map_eq_some_iff.1 hb
                simp only [Prod.mk.injEq] at hb'
                obtain ⟨rfl, _⟩ := hb'
                cases ai with
                | «at» x u =>
                  have hx : x = y := hloc
                  subst hx
                  simp [apart1] at hapt
                | all => simp [apart1] at hapt
                | no => exact hloc
              | false => simp [bOf] at hb
            | _ => simp [bOf] at hb
        · cases ht
  refine draw_phase hC hP hd hpn hok2 hmix hR hσ0 hσ hV hquiet fun listed m' a' w' hsz hcl hlow htl hR2 hS2 => ?_
  have e2 : SSt B (fun j => listed.getD j true) (σ p).st ops.size = (σ p).st := by
    have : ∀ n, n ≤ ops.size → SSt B (fun j => listed.getD j true) (σ p).st n = (σ p).st := by
      intro n
      induction n with
      | zero => intro _; rfl
      | succ n ihn =>
        intro hn
        simp only [SSt]
        rw [ihn (by omega)]
        by_cases hnp : n < p
        · unfold appB
          rw [hB n hnp]
          simp
        · rw [if_neg (by rw [htl n (by omega) (by omega)]; simp)]
    exact this _ (Nat.le_refl _)
  have e1 : ∀ x, look (TT ops V (fun j => listed.getD j true) (σ 0).t ops.size) x = look (σ p).t x := fun x => by
    have e1 : (σ p).t = TT ops V (fun j => decide (j < p)) (σ 0).t ops.size := by
      rw [TT_lt ops V σ hV p ops.size (Nat.le_refl _), show min ops.size p = p by omega]
    rw [e1]
    refine look_TT _ _ _ _ _ _ _ fun j hj _ => ?_
    by_cases hjp : j < p
    · simp only [hjp, decide_true]; rw [hlow j hjp]
    · simp only [hjp, decide_false]; rw [htl j (by omega) hj]
  refine tail_sound hC hP hd hok2 hV hB hspec hw hap (m0 := m') (w0 := w') (fun m2 a2 w2 hR3 hS3 => hQ m2 a2 w2 (by rw [← hσn]; exact hR3) (by rw [← hσn]; exact hS2.trans hS3)) hpn _ listed m' a' w' hsz hcl hlow rfl ?_ ?_
  · rw [e2]; exact ⟨hR2.inv, hR2.tmp.ext e1⟩
  · rw [e2]; exact Stp.refl hR2.inv
end Go.Eng
