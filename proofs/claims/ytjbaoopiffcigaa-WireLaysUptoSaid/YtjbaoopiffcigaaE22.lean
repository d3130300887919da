/- The engine, part 22: a region in any order that its edges allow. Conditions: none. -/
import Derived.Test.YtjbaoopiffcigaaE21
set_option linter.unusedVariables false
set_option linter.unusedSimpArgs false
namespace Go.Eng

theorem TT_lt (ops : Array Oper) (V : Nat → AV) (σ : Nat → S) (hV : ∀ (j : Nat) o, ops[j]? = some o → (σ (j + 1)).t = putD (σ j).t o.dst (V j)) (i : Nat) :
    ∀ n, n ≤ ops.size → TT ops V (fun j => decide (j < i)) (σ 0).t n = (σ (min n i)).t
  | 0, _ => by simp [TT]
  | n + 1, h => by
    simp only [TT, TT_lt ops V σ hV i n (by omega)]
    obtain ⟨o, ho⟩ : ∃ o, ops[n]? = some o := ⟨_, Array.getElem?_eq_getElem (by omega)⟩
    by_cases hlt : n < i
    · simp only [hlt, decide_true, if_true]
      rw [show min n i = n by omega, show min (n + 1) i = n + 1 by omega, hV n o ho, ho]
      rfl
    · simp only [hlt, decide_false, Bool.false_eq_true, if_false]
      rw [show min n i = i by omega, show min (n + 1) i = i by omega]

theorem putD_eq {t T : List (Nat × AV)} {d : Option Nat} {v v' : AV} (h : putD t d v = putD t d v') : putD T d v = putD T d v' := by
  cases d with
  | none => rfl
  | some x =>
    have h1 := congrArg (fun t => look t x) h
    simp only [look_putD, if_true] at h1
    rw [h1]

structure J (X : Ctx) (an : Ann) (k : Keep) (nt : Nat) (ops : Array Oper) (σ : Nat → S) (V : Nat → AV) (m0 : Nat → Option (Nat × Nat)) (w0 : World) (L : Nat → Bool) (q : Nat) (m : Nat → Option (Nat × Nat)) (a : Act) (w : World) : Prop where
  closed : Closed ops L
  qle : q ≤ ops.size
  q1 : q = ops.size ∨ ∃ o, ops[q]? = some o ∧ quietO X o.op = false ∧ L q = false
  q2 : ∀ l, l < q → ∀ o, ops[l]? = some o → quietO X o.op = false → L l = true
  inv : Inv k ⟨m, (σ q).st, w⟩
  tmp : RepT k ⟨m, (σ q).st, w⟩ nt (TT ops V L (σ 0).t ops.size) a
  free : ∀ j, j < q → L j = false → ∀ i, (σ j).st.length ≤ i → i < (σ (j + 1)).st.length → m i = none
  stp : Stp k ⟨m0, (σ 0).st, w0⟩ ⟨m, (σ q).st, w⟩

theorem chain_ext {X : Ctx} {ops : Array Oper} {σ : Nat → S} (hE : ∀ (j : Nat) o, ops[j]? = some o → quietO X o.op = true → Ext (σ j).st (σ (j + 1)).st) :
    ∀ d i, i + d ≤ ops.size → (∀ l, i ≤ l → l < i + d → ∀ o, ops[l]? = some o → quietO X o.op = true) → Ext (σ i).st (σ (i + d)).st
  | 0, i, _, _ => Ext.refl _
  | d + 1, i, h, hq => by
    have h1 := chain_ext hE d i (by omega) (fun l h1 h2 => hq l h1 (by omega))
    obtain ⟨o, ho⟩ : ∃ o, ops[i + d]? = some o := ⟨_, Array.getElem?_eq_getElem (by omega)⟩
    exact h1.trans (hE (i + d) o ho (hq (i + d) (by omega) (by omega) o ho))

theorem drawn_stp {k : Keep} {m : Nat → Option (Nat × Nat)} {st : Store} {w : World} (hI : Inv k ⟨m, st, w⟩) (d : Nat) : Stp k ⟨m, st, w⟩ ⟨m, st, { w with drawn := d }⟩ := by
  have hE : Evo ⟨m, st, w⟩ ⟨m, st, { w with drawn := d }⟩ := ⟨Nat.le_refl _, fun i x h => ⟨x, h, Nat.le_refl _, rfl, rfl, fun _ => ⟨rfl, fun _ => rfl, fun _ h => h⟩⟩, fun _ _ _ h p => ⟨h, p⟩,
    fun b cs e fz h => ⟨cs, fz, h, rfl, id⟩, Nat.le_refl _⟩
  refine ⟨⟨hI.inj, hI.dom, hI.low, hI.big, fun i b o x h1 h2 => ?_, hI.frm⟩, hE, ⟨rfl, rfl, rfl, fun _ _ _ => rfl, fun i b o h => .inl ⟨i, o, h⟩⟩⟩
  obtain ⟨g1, g2, cs, e, fz, g3, g4, g5, g6⟩ := hI.blk i b o x h1 h2
  refine ⟨g1, g2, cs, e, fz, g3, g4, g5, fun i av hi => ?_⟩
  obtain ⟨v, r1, r2⟩ := g6 i av hi
  exact ⟨v, RepA.evo hE _ _ r1, r2⟩

theorem draw_phase {X : Ctx} {an : Ann} {call : Call} (hC : CallOk X call) (hP : PrimOk X) {k : Keep} {nt : Nat} {ops : Array Oper} (hd : dstsOk nt ops.toList = true) {p : Nat} (hpn : p ≤ ops.size) (hok : drawOk X an ops p = true) (hmix : X.P.follows .mixedOrders = true)
    {Q : Exit → Act → World → Prop} {id : Nat} {m : Nat → Option (Nat × Nat)} {s : S} {a : Act} {w : World} (hR : Rel k nt m s a w)
    {σ : Nat → S} (hσ0 : σ 0 = s) (hσ : ∀ (j : Nat) o, 0 ≤ j → ops[j]? = some o → stepO X an call ops o (σ j) = some (σ (j + 1))) {V : Nat → AV} (hV : ∀ (j : Nat) o, ops[j]? = some o → (σ (j + 1)).t = putD (σ j).t o.dst (V j))
    (hTail : ∀ (j : Nat) o, p ≤ j → ops[j]? = some o → quietO X o.op = true → (σ (j + 1)).st = (σ j).st)
    (hP2 : ∀ (listed : Array Bool) m' a' w', listed.size = ops.size → Closed ops (fun j => listed.getD j true) → (∀ j, j < p → listed.getD j true = true) → (∀ j, p ≤ j → j < ops.size → listed.getD j true = false) →
      Rel k nt m' (σ p) a' w' → Stp k ⟨m, s.st, w⟩ ⟨m', (σ p).st, w'⟩ → wpAny X.P .any ops Q (cnt (fun j => listed.getD j true) ops.size) listed a' w') : (Code.region id ops true).wp X.P Q a w := by
  have hE : ∀ (j : Nat) o, ops[j]? = some o → quietO X o.op = true → Ext (σ j).st (σ (j + 1)).st := fun j o ho hq => by
    obtain ⟨v, _, _, h3, _⟩ := stepO_at (hσ j o (Nat.zero_le _) ho) (T := (σ j).t) (fun _ _ => rfl)
    exact h3 hq
  have hBare : ∀ (j : Nat) o, ops[j]? = some o → bareO an o = true → (σ (j + 1)).st = (σ j).st := fun j o ho hb => by
    obtain ⟨v, _, _, _, h4⟩ := stepO_at (hσ j o (Nat.zero_le _) ho) (T := (σ j).t) (fun _ _ => rfl)
    exact (h4 hb).1
  have hdst : ∀ (j : Nat) o, ops[j]? = some o → ∀ d, o.dst = some d → d < nt := fun j o ho d e => by
    have := List.all_eq_true.1 hd o (by simpa using Array.mem_of_getElem? ho)
    rw [e] at this
    exact Nat.le_of_ble_eq_true this
  -- pairs
  have hpair : ∀ {i j : Nat} {x y : Oper}, i ≠ j → ops[i]? = some x → ops[j]? = some y → (shares ops x y = true ∨ shares ops y x = true ∨ (bareO an x = false ∧ bareO an y = false ∧ (quietO X x.op = false ∨ quietO X y.op = false))) → (i < p ∨ j < p) →
      (i < j ∧ Reach ops i j) ∨ (j < i ∧ Reach ops j i) := by
    intro i j x y hne hx hy hcl hmin
    have sym : ∀ a b, shares ops a b = shares ops b a ∨ True := fun _ _ => .inr trivial
    have shsym : ∀ a b : Oper, shares ops a b = true → shares ops b a = true := by
      intro a b hs
      unfold shares at hs ⊢
      cases ha : a.dst with
      | none =>
        cases hb : b.dst with
        | none => rw [ha, hb] at hs; simp at hs
        | some e => rw [ha, hb] at hs; simpa using hs
      | some d =>
        cases hb : b.dst with
        | none => rw [ha, hb] at hs; simpa using hs
        | some e =>
          rw [ha, hb] at hs
          simp only [Bool.or_eq_true, beq_iff_eq, Option.some.injEq] at hs ⊢
          rcases hs with (h1 | h1) | h1
          · exact .inr h1
          · exact .inl (.inr h1.symm)
          · exact .inl (.inl h1)
    have go : ∀ {i j : Nat} {x y : Oper}, i < j → i < p → ops[i]? = some x → ops[j]? = some y → (shares ops x y = true ∨ shares ops y x = true ∨ (bareO an x = false ∧ bareO an y = false ∧ (quietO X x.op = false ∨ quietO X y.op = false))) → Reach ops i j := by
      intro i j x y hij hm hx hy hcl
      rcases drawOk_pair hok hij hm hx hy with ⟨_, h1, h2⟩ | h
      · exfalso
        rcases hcl with hc | hc | ⟨c1, c2, c3⟩
        · rw [h1] at hc; cases hc
        · have := shsym _ _ hc; rw [h1] at this; cases this
        · rcases h2 with h2 | h2 | ⟨h2, h3⟩
          · rw [c1] at h2; cases h2
          · rw [c2] at h2; cases h2
          · rcases c3 with c3 | c3
            · rw [c3] at h2; cases h2
            · rw [c3] at h3; cases h3
      · exact h
    rcases Nat.lt_or_gt_of_ne hne with hlt | hgt
    · exact .inl ⟨hlt, go hlt (by omega) hx hy hcl⟩
    · refine .inr ⟨hgt, go hgt (by omega) hy hx ?_⟩
      rcases hcl with hc | hc | ⟨c1, c2, c3⟩
      · exact .inr (.inl hc)
      · exact .inl hc
      · exact .inr (.inr ⟨c2, c1, c3.symm⟩)
  have hloud : ∀ {o : Oper}, quietO X o.op = false → bareO an o = false := fun {o} h => by
    cases hb : bareO an o with
    | false => rfl
    | true => rw [bare_quiet hb] at h; cases h
  have hdrop : Stp k ⟨m, s.st, w⟩ ⟨m, s.st, { w with drawn := w.drawn + 1 }⟩ := drawn_stp hR.inv _
  refine wp_region_any hmix ?_
  -- nothing left to list
  have noready : ∀ (listed : Array Bool), listed.size = ops.size → Region.ready .any ops listed = [] → ∀ j, j < ops.size → listed.getD j true = true := by
    intro listed hsz hr
    have hall : ∀ n j, j < n → j < ops.size → listed.getD j true = true := by
      intro n
      induction n with
      | zero => intro j hj; omega
      | succ n ihn =>
        intro j hj hjs
        cases hL : listed.getD j true with
        | true => rfl
        | false =>
          exfalso
          obtain ⟨o, ho⟩ : ∃ o, ops[j]? = some o := ⟨_, Array.getElem?_eq_getElem hjs⟩
          have : j ∈ Region.ready .any ops listed := mem_ready.2 ⟨hL, o, ho, fun e he hb => by
            have hlt := drawOk_edge hok ho he hb
            have := ihn e.on (by omega) (by omega)
            rw [Array.getD_eq_getD_getElem?] at this ⊢
            rw [Array.getElem?_eq_getElem (by omega)] at this ⊢
            simpa using this⟩
          rw [hr] at this
          cases this
    exact fun j hj => hall (j + 1) j (by omega) hj
  -- the walk
  have atP : ∀ (listed : Array Bool) (q : Nat) (m' : Nat → Option (Nat × Nat)) (a' : Act) (w' : World), listed.size = ops.size → (∀ j, p ≤ j → j < ops.size → listed.getD j true = false) → (∀ j, j < p → listed.getD j true = true) →
      J X an k nt ops σ V m { w with drawn := w.drawn + 1 } (fun j => listed.getD j true) q m' a' w' → wpAny X.P .any ops Q (cnt (fun j => listed.getD j true) ops.size) listed a' w' := by
    intro listed q m' a' w' hsz htl hallp hJ
    have hpq : p ≤ q := by
      rcases hJ.q1 with h | ⟨o, h1, _, h2⟩
      · omega
      · rcases Nat.lt_or_ge q p with h | h
        · have h3 := hallp q h
          try simp only at h2
          rw [h3] at h2; cases h2
        · exact h
    have hsame : ∀ d, p + d ≤ q → (σ (p + d)).st = (σ p).st := by
      intro d
      induction d with
      | zero => intro _; rfl
      | succ d ihd =>
        intro h
        obtain ⟨y, hy⟩ : ∃ o, ops[p + d]? = some o := ⟨_, Array.getElem?_eq_getElem (by have := hJ.qle; omega)⟩
        have hqy : quietO X y.op = true := by
          cases e : quietO X y.op with
          | true => rfl
          | false =>
            have h1 := hJ.q2 (p + d) (by omega) y hy e
            have h2 := htl (p + d) (by omega) (by have := hJ.qle; omega)
            try simp only at h1
            rw [h2] at h1; cases h1
        rw [show p + (d + 1) = p + d + 1 by omega, hTail (p + d) y (by omega) hy hqy, ihd (by omega)]
    have hst : (σ q).st = (σ p).st := by
      have := hsame (q - p) (by omega)
      rwa [show p + (q - p) = q by omega] at this
    have h1 := hJ.inv
    have h2 := hJ.tmp
    have h3 := hJ.stp
    rw [hst] at h1 h2 h3
    rw [hσ0] at h3
    refine hP2 listed m' a' w' hsz hJ.closed hallp htl ⟨h1, h2.ext fun x => ?_⟩ (hdrop.trans h3)
    have e1 : (σ p).t = TT ops V (fun j => decide (j < p)) (σ 0).t ops.size := by
      rw [TT_lt ops V σ hV p ops.size (Nat.le_refl _), show min ops.size p = p by omega]
    rw [e1]
    refine look_TT _ _ _ _ _ _ _ fun j hj _ => ?_
    by_cases hjp : j < p
    · simp only [hjp, decide_true]; rw [hallp j hjp]
    · simp only [hjp, decide_false]; rw [htl j (by omega) hj]
  have main : ∀ (fuel : Nat) (listed : Array Bool) (q : Nat) (m' : Nat → Option (Nat × Nat)) (a' : Act) (w' : World), listed.size = ops.size → (∀ j, p ≤ j → j < ops.size → listed.getD j true = false) → cnt (fun j => listed.getD j true) ops.size = fuel →
      J X an k nt ops σ V m { w with drawn := w.drawn + 1 } (fun j => listed.getD j true) q m' a' w' → wpAny X.P .any ops Q fuel listed a' w' := by
    intro fuel
    induction fuel with
    | zero =>
      intro listed q m' a' w' hsz htl hcnt hJ
      have hall := cnt_zero _ _ hcnt
      have hp0 : p = ops.size := by
        rcases Nat.lt_or_ge p ops.size with h | h
        · have h1 := htl p (Nat.le_refl _) h
          have h2 := hall p h
          try simp only at h2
          rw [h1] at h2; cases h2
        · omega
      have hq0 := atP listed q m' a' w' hsz htl (fun j hj => hall j (by omega)) hJ
      rw [hcnt] at hq0
      exact hq0
    | succ fuel ih =>
      intro listed q m' a' w' hsz htl hcnt hJ
      by_cases hallp : ∀ j, j < p → listed.getD j true = true
      · have hq0 := atP listed q m' a' w' hsz htl hallp hJ
        rw [hcnt] at hq0
        exact hq0
      obtain ⟨j0, hj0, hj0'⟩ : ∃ j, j < p ∧ listed.getD j true = false := by
        refine Classical.byContradiction fun hn => hallp fun j hj => ?_
        cases hL : listed.getD j true with
        | true => rfl
        | false => exact absurd ⟨j, hj, hL⟩ hn
      refine ⟨fun hr => (by have := noready listed hsz hr j0 (by omega); rw [hj0'] at this; cases this), fun i hi => ?_⟩
      obtain ⟨hLi, o, ho, hready⟩ := mem_ready.1 hi
      have hin : i < ops.size := (Array.getElem?_eq_some_iff.1 ho).1
      have hrd : ∃ o, ops[i]? = some o ∧ ∀ e ∈ o.after, Region.binds .any e = true → listed.getD e.on true = true := ⟨o, ho, fun e he hb => by
        have := hready e he hb
        have hlt := drawOk_edge hok ho he hb
        rw [Array.getD_eq_getD_getElem?, Array.getElem?_eq_getElem (by omega)] at this ⊢
        simpa using this⟩
      have hip : i < p := by
        rcases Nat.lt_or_ge i p with h | h
        · exact h
        · exfalso
          obtain ⟨y, hy⟩ : ∃ o, ops[j0]? = some o := ⟨_, Array.getElem?_eq_getElem (by omega)⟩
          rcases drawOk_pair hok (by omega : j0 < i) hj0 hy ho with ⟨h1, _⟩ | h1
          · omega
          · have := hJ.closed.reach h1 hrd
            try simp only at this
            rw [hj0'] at this; cases this
      have toI : ∀ j, Reach ops j i → listed.getD j true = true := fun j hr => hJ.closed.reach hr hrd
      have fromI : ∀ j, Reach ops i j → j < ops.size → listed.getD j true = false := fun j hr hj => by
        cases hL : listed.getD j true with
        | false => rfl
        | true =>
          obtain ⟨y, hy⟩ : ∃ o, ops[j]? = some o := ⟨_, Array.getElem?_eq_getElem hj⟩
          have := hJ.closed.reach hr ⟨y, hy, fun e he hb => hJ.closed j y e hy hL he hb⟩
          try simp only at this
          rw [hLi] at this; cases this
      have pastI : ∀ {j l : Nat} {x y : Oper}, listed.getD j true = false → ops[j]? = some x → ops[l]? = some y → Reach ops j l → listed.getD l true = false := fun {j l x y} hj hx hy hr => by
        cases hL : listed.getD l true with
        | false => rfl
        | true =>
          have := hJ.closed.reach hr ⟨y, hy, fun e he hb => hJ.closed l y e hy hL he hb⟩
          try simp only at this
          rw [hj] at this; cases this
      have side : ∀ j y, j ≠ i → ops[j]? = some y → (shares ops y o = true ∨ shares ops o y = true) → listed.getD j true = decide (j < i) := by
        intro j y hne hy hsh
        rcases hpair hne hy ho (by rcases hsh with h | h; exact .inl h; exact .inr (.inl h)) (.inr hip) with ⟨h1, h2⟩ | ⟨h1, h2⟩
        · rw [toI j h2]; simp [h1]
        · rw [fromI j h2 (Array.getElem?_eq_some_iff.1 hy).1]; simp; omega
      have eσi : (σ i).t = TT ops V (fun j => decide (j < i)) (σ 0).t ops.size := by
        rw [TT_lt ops V σ hV i ops.size (Nat.le_refl _), show min ops.size i = i by omega]
      have eσi1 : (σ (i + 1)).t = TT ops V (fun j => decide (j < i + 1)) (σ 0).t ops.size := by
        rw [TT_lt ops V σ hV (i + 1) ops.size (Nat.le_refl _), show min ops.size (i + 1) = i + 1 by omega]
      generalize hT : TT ops V (fun j => listed.getD j true) (σ 0).t ops.size = T
      have hLT : ∀ x ∈ o.looksAt ops, look T x = look (σ i).t x := by
        intro x hx
        rw [eσi, ← hT]
        refine look_TT _ _ _ _ _ _ _ fun j hj hdj => ?_
        by_cases hji : j = i
        · subst hji; rw [hLi]; simp
        · obtain ⟨y, hy⟩ : ∃ o, ops[j]? = some o := ⟨_, Array.getElem?_eq_getElem hj⟩
          rw [hy] at hdj
          simp only [Option.bind_some] at hdj
          refine side j y hji hy (.inl ?_)
          unfold shares
          rw [hdj]
          simp [hx]
      obtain ⟨v, hv1, hv2, hv3, hv4⟩ := stepO_at (hσ i o (Nat.zero_le _) ho) hLT
      have eL' : (fun j => (listed.setIfInBounds i true).getD j true) = (fun j => j == i || listed.getD j true) := by
        funext j
        by_cases hji : j = i
        · subst hji
          rw [Array.getD_eq_getD_getElem?]
          simp [hsz, hin]
        · rw [getD_set_ne true (fun e => hji e.symm)]
          simp [hji]
      have hsz' : (listed.setIfInBounds i true).size = ops.size := by simpa using hsz
      have htl' : ∀ j, p ≤ j → j < ops.size → (listed.setIfInBounds i true).getD j true = false := fun j h1 h2 => by
        rw [getD_set_ne true (by omega : i ≠ j)]
        exact htl j h1 h2
      have hcnt' : cnt (fun j => (listed.setIfInBounds i true).getD j true) ops.size = fuel := by
        rw [eL']
        have := (cnt_set (fun j => listed.getD j true) i hLi ops.size).1 hin
        omega
      have hT' : ∀ x, look (TT ops V (fun j => j == i || listed.getD j true) (σ 0).t ops.size) x = look (putD T o.dst v) x := by
        intro x
        have e1 : putD (σ i).t o.dst v = putD (σ i).t o.dst (V i) := by rw [← hv1]; exact hV i o ho
        rw [putD_eq (T := T) e1, look_putD]
        by_cases hx : o.dst = some x
        · rw [if_pos hx]
          have e2 : look (TT ops V (fun j => j == i || listed.getD j true) (σ 0).t ops.size) x = look (TT ops V (fun j => decide (j < i + 1)) (σ 0).t ops.size) x := by
            refine look_TT _ _ _ _ _ _ _ fun j hj hdj => ?_
            by_cases hji : j = i
            · subst hji; simp
            · obtain ⟨y, hy⟩ : ∃ o, ops[j]? = some o := ⟨_, Array.getElem?_eq_getElem hj⟩
              rw [hy] at hdj
              simp only [Option.bind_some] at hdj
              have := side j y hji hy (.inl (by unfold shares; rw [hdj, hx]; simp))
              simp only [this, show (j == i) = false by simpa using hji, Bool.false_or]
              have : j < i ↔ j < i + 1 := by omega
              simp only [this]
          rw [e2, ← eσi1, hV i o ho, look_putD, if_pos hx]
        · rw [if_neg hx, ← hT]
          refine look_TT _ _ _ _ _ _ _ fun j hj hdj => ?_
          by_cases hji : j = i
          · subst hji
            rw [ho] at hdj
            exact absurd hdj hx
          · simp [hji]
      have hclosed' : Closed ops (fun j => j == i || listed.getD j true) := by
        intro j y e hy hj he hb
        simp only [Bool.or_eq_true, beq_iff_eq] at hj ⊢
        rcases hj with rfl | hj
        · obtain ⟨o', ho', hall⟩ := hrd
          rw [hy] at ho'; cases ho'
          exact .inr (hall e he hb)
        · exact .inr (hJ.closed j y e hy hj he hb)
      have hTm : RepT k ⟨m', (σ q).st, w'⟩ nt T a' := by have := hJ.tmp; rw [hT] at this; exact this
      have quietTo : ∀ j x, j < q → ops[j]? = some x → listed.getD j true = false → bareO an x = false → ∀ l, j ≤ l → l < q → ∀ y, ops[l]? = some y → quietO X y.op = true := by
        intro j x hjq hx hLj hbx l hjl hlq y hy
        cases hql : quietO X y.op with
        | true => rfl
        | false =>
          exfalso
          have hLl := hJ.q2 l hlq y hy hql
          try simp only at hLl
          by_cases hne : j = l
          · subst hne; rw [hLj] at hLl; cases hLl
          · have hlp : l < p := by
              rcases Nat.lt_or_ge l p with h | h
              · exact h
              · have := htl l h (Array.getElem?_eq_some_iff.1 hy).1; rw [this] at hLl; cases hLl
            rcases hpair hne hx hy (.inr (.inr ⟨hbx, hloud hql, .inr hql⟩)) (.inr hlp) with ⟨h1, h2⟩ | ⟨h1, h2⟩
            · rw [pastI hLj hx hy h2] at hLl; cases hLl
            · omega
      cases hq : quietO X o.op with
      | true =>
        have q1' : q = ops.size ∨ ∃ o, ops[q]? = some o ∧ quietO X o.op = false ∧ (fun j => j == i || listed.getD j true) q = false := by
          rcases hJ.q1 with h | ⟨y, h1, h2, h3⟩
          · exact .inl h
          · refine .inr ⟨y, h1, h2, ?_⟩
            have : q ≠ i := by rintro rfl; rw [ho] at h1; cases h1; rw [hq] at h2; cases h2
            simp only [show (q == i) = false by simpa using this, Bool.false_or]
            exact h3
        have q2' : ∀ l, l < q → ∀ o, ops[l]? = some o → quietO X o.op = false → (fun j => j == i || listed.getD j true) l = true := fun l hl y hy hly => by
          have := hJ.q2 l hl y hy hly
          simp only at this ⊢
          rw [this]; simp
        cases hb : bareO an o with
        | true =>
          refine stepQ_sound hC hJ.inv hTm ho hq (hdst i o ho) ((hv4 hb).2 (σ q).st) (fun _ _ h => h) (fun _ _ h => h) (fun _ _ _ => by omega) (fun m2 a2 w2 hI2 hT2 hS2 hm2 => ?_)
          have em : m2 = m' := funext fun j => hm2 j (by omega)
          subst em
          refine ih (listed.setIfInBounds i true) q m2 a2 w2 hsz' htl' hcnt' ?_
          rw [eL']
          exact ⟨hclosed', hJ.qle, q1', q2', hI2, hT2.ext hT', fun j hj hLj => hJ.free j hj (by simp only [Bool.or_eq_false_iff] at hLj; exact hLj.2), hJ.stp.trans hS2⟩
        | false =>
          have hiq : i < q := by
            rcases hJ.q1 with h | ⟨y, h1, h2, h3⟩
            · omega
            · rcases Nat.lt_trichotomy i q with h | h | h
              · exact h
              · subst h; rw [ho] at h1; cases h1; rw [hq] at h2; cases h2
              · exfalso
                rcases hpair (by omega : q ≠ i) h1 ho (.inr (.inr ⟨hloud h2, hb, .inl h2⟩)) (.inr hip) with ⟨g1, g2⟩ | ⟨g1, g2⟩
                · have := toI q g2
                  try simp only at h3
                  rw [h3] at this; cases this
                · omega
          have hqt := quietTo i o hiq ho hLi hb
          have e1 : Ext (σ i).st (σ q).st := by
            have := chain_ext hE (q - i) i (by have := hJ.qle; omega) (fun l h1 h2 => hqt l h1 (by omega))
            rwa [show i + (q - i) = q by omega] at this
          have e2 : Ext (σ (i + 1)).st (σ q).st := by
            have := chain_ext hE (q - (i + 1)) (i + 1) (by have := hJ.qle; omega) (fun l h1 h2 => hqt l (by omega) (by omega))
            rwa [show i + 1 + (q - (i + 1)) = q by omega] at this
          refine stepQ_sound hC hJ.inv hTm ho hq (hdst i o ho) hv2 e1.pre e2.pre (hJ.free i hiq hLi) (fun m2 a2 w2 hI2 hT2 hS2 hm2 => ?_)
          refine ih (listed.setIfInBounds i true) q m2 a2 w2 hsz' htl' hcnt' ?_
          rw [eL']
          refine ⟨hclosed', hJ.qle, q1', q2', hI2, hT2.ext hT', fun j hj hLj x hx1 hx2 => ?_, hJ.stp.trans hS2⟩
          simp only [Bool.or_eq_false_iff, beq_eq_false_iff_ne] at hLj
          obtain ⟨y, hy⟩ : ∃ o, ops[j]? = some o := ⟨_, Array.getElem?_eq_getElem (by have := hJ.qle; omega)⟩
          cases hby : bareO an y with
          | true => rw [hBare j y hy hby] at hx2; omega
          | false =>
            have hqj := quietTo j y hj hy hLj.2 hby
            rw [hm2 x ?_]
            · exact hJ.free j hj hLj.2 x hx1 hx2
            · rcases Nat.lt_or_gt_of_ne hLj.1 with hlt | hgt
              · left
                have := (chain_ext hE (i - (j + 1)) (j + 1) (by have := hJ.qle; omega) (fun l h1 h2 => hqj l (by omega) (by omega))).le
                rw [show j + 1 + (i - (j + 1)) = i by omega] at this
                omega
              · right
                have := (chain_ext hE (j - (i + 1)) (i + 1) (by have := hJ.qle; omega) (fun l h1 h2 => hqt l (by omega) (by omega))).le
                rw [show i + 1 + (j - (i + 1)) = j by omega] at this
                omega
      | false =>
        have hbo := hloud hq
        have hqi : q ≤ i := by
          rcases Nat.lt_or_ge i q with h | h
          · have := hJ.q2 i h o ho hq
            try simp only at this
            rw [hLi] at this; cases this
          · exact h
        have hiq : i = q := by
          rcases hJ.q1 with h | ⟨y, h1, h2, h3⟩
          · omega
          · by_cases hne : q = i
            · exact hne.symm
            · exfalso
              rcases hpair hne h1 ho (.inr (.inr ⟨hloud h2, hbo, .inl h2⟩)) (.inr hip) with ⟨g1, g2⟩ | ⟨g1, g2⟩
              · have := toI q g2
                try simp only at h3
                rw [h3] at this; cases this
              · omega
        subst hiq
        refine stepO_sound hC hP (s := ⟨T, (σ i).st⟩) (m := m') ⟨hJ.inv, hTm⟩ ho (hdst i o ho) hv2 (fun m2 a2 w2 hR2 hS2 => ?_)
        obtain ⟨q', hq1, hq2, hq3, hq4⟩ := least (fun l => match ops[l]? with | some y => !(quietO X y.op) && !(listed.getD l true) | none => false) ops.size (ops.size - (i + 1)) (i + 1) (by omega)
        have hquiet : ∀ l, i + 1 ≤ l → l < q' → ∀ y, ops[l]? = some y → quietO X y.op = true := by
          intro l h1 h2 y hy
          cases hql : quietO X y.op with
          | true => rfl
          | false =>
            exfalso
            have h3 := hq4 l h1 h2
            rw [hy] at h3
            simp only [hql, Bool.not_false, Bool.true_and, Bool.not_eq_false'] at h3
            rcases hpair (by omega : i ≠ l) ho hy (.inr (.inr ⟨hbo, hloud hql, .inl hq⟩)) (.inl hip) with ⟨g1, g2⟩ | ⟨g1, g2⟩
            · rw [fromI l g2 (Array.getElem?_eq_some_iff.1 hy).1] at h3; cases h3
            · omega
        have chain : ∀ j, i + 1 ≤ j → j ≤ q' → Ext (σ (i + 1)).st (σ j).st := fun j h1 h2 => by
          have := chain_ext hE (j - (i + 1)) (i + 1) (by omega) (fun l h3 h4 => hquiet l h3 (by omega))
          rwa [show i + 1 + (j - (i + 1)) = j by omega] at this
        obtain ⟨hSx, _, _⟩ := ext_stp hR2.inv (chain q' hq1 (Nat.le_refl _))
        refine ih (listed.setIfInBounds i true) q' m2 a2 w2 hsz' htl' hcnt' ?_
        rw [eL']
        refine ⟨hclosed', hq2, ?_, fun l hl y hy hly => ?_, hSx.inv, (hR2.tmp.evo hSx.evo).ext hT', fun j hj hLj x hx1 hx2 => ?_, (hJ.stp.trans hS2).trans hSx⟩
        · rcases hq3 with h | h
          · exact .inl h
          · cases hy : ops[q']? with
            | none => rw [hy] at h; cases h
            | some y =>
              rw [hy] at h
              simp only [Bool.and_eq_true, Bool.not_eq_true'] at h
              refine .inr ⟨y, rfl, h.1, ?_⟩
              have : q' ≠ i := by omega
              simp only [show (q' == i) = false by simpa using this, Bool.false_or]
              exact h.2
        · rcases Nat.lt_trichotomy l i with h | h | h
          · have := hJ.q2 l h y hy hly
            try simp only at this ⊢
            rw [this]; simp
          · simp [h]
          · rw [hquiet l (by omega) hl y hy] at hly; cases hly
        · simp only [Bool.or_eq_false_iff, beq_eq_false_iff_ne] at hLj
          obtain ⟨y, hy⟩ : ∃ o, ops[j]? = some o := ⟨_, Array.getElem?_eq_getElem (by omega)⟩
          rcases Nat.lt_or_gt_of_ne hLj.1 with hlt | hgt
          · cases hby : bareO an y with
            | true => rw [hBare j y hy hby] at hx2; omega
            | false =>
              exfalso
              rcases hpair (by omega : j ≠ i) hy ho (.inr (.inr ⟨hby, hbo, .inr hq⟩)) (.inr hip) with ⟨g1, g2⟩ | ⟨g1, g2⟩
              · rw [toI j g2] at hLj; cases hLj.2
              · omega
          · cases hmx : m2 x with
            | none => rfl
            | some p =>
              have h1 := hR2.inv.dom x p hmx
              have h2 := (chain j (by omega) (by omega)).le
              simp only at h1
              omega
  -- the start
  obtain ⟨q, hq1, hq2, hq3, hq4⟩ := least (fun l => match ops[l]? with | some y => !(quietO X y.op) | none => false) ops.size ops.size 0 (by omega)
  have hfalse : ∀ j, j < ops.size → (Array.replicate ops.size false).getD j true = false := fun j hj => by
    rw [Array.getD_eq_getD_getElem?]
    simp [hj]
  have hquiet : ∀ l, l < q → ∀ y, ops[l]? = some y → quietO X y.op = true := by
    intro l h2 y hy
    have h3 := hq4 l (Nat.zero_le _) h2
    rw [hy] at h3
    simpa using h3
  have chain : Ext (σ 0).st (σ q).st := by
    have := chain_ext hE q 0 (by omega) (fun l h3 h4 => hquiet l (by omega))
    rwa [show 0 + q = q by omega] at this
  rw [hσ0] at chain
  obtain ⟨hSx, _, _⟩ := ext_stp hdrop.inv chain
  refine main ops.size (Array.replicate ops.size false) q m a _ (by simp) (fun j _ hj => hfalse j hj) ?_ ⟨?_, hq2, ?_, fun l hl y hy hly => ?_, hSx.inv, ?_, fun j hj hLj x hx1 hx2 => ?_, by rw [hσ0]; exact hSx⟩
  · have : ∀ n, n ≤ ops.size → cnt (fun j => (Array.replicate ops.size false).getD j true) n = n := by
      intro n
      induction n with
      | zero => intro _; rfl
      | succ n ihn =>
        intro hn
        simp only [cnt, ihn (by omega), hfalse n (by omega)]
        simp
    exact this _ (Nat.le_refl _)
  · intro j y e hy hL he hb
    have := hfalse j (Array.getElem?_eq_some_iff.1 hy).1
    simp only at hL
    rw [this] at hL; cases hL
  · rcases hq3 with h | h
    · exact .inl h
    · cases hy : ops[q]? with
      | none => rw [hy] at h; cases h
      | some y =>
        rw [hy] at h
        refine .inr ⟨y, rfl, by simpa using h, hfalse q (Array.getElem?_eq_some_iff.1 hy).1⟩
  · rw [hquiet l hl y hy] at hly; cases hly
  · refine ((hR.tmp.evo hdrop.evo).evo hSx.evo).ext fun x => ?_
    have e0 : s.t = TT ops V (fun j => decide (j < 0)) (σ 0).t ops.size := by
      rw [TT_lt ops V σ hV 0 ops.size (Nat.le_refl _), show min ops.size 0 = 0 by omega, hσ0]
    rw [e0]
    refine look_TT _ _ _ _ _ _ _ fun j hj _ => ?_
    simp only [hfalse j hj]
    simp
  · cases hmx : m x with
    | none => rfl
    | some p =>
      have h1 := hR.inv.dom x p hmx
      have h2 := (chain_ext hE j 0 (by omega) (fun l h3 h4 => hquiet l (by omega))).le
      rw [show 0 + j = j by omega, hσ0] at h2
      simp only at h1
      omega

end Go.Eng
