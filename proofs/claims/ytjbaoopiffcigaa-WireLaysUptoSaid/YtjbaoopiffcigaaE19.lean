/- The engine, part 19: regions whose order is drawn, the argument. Conditions: none. -/
import Derived.Test.YtjbaoopiffcigaaE18
set_option linter.unusedVariables false
set_option linter.unusedSimpArgs false
namespace Go.Eng

/-! ### what stands before what -/
inductive Reach (ops : Array Oper) (i : Nat) : Nat → Prop where
  | one {j : Nat} {o : Oper} {e : Edge} (ho : ops[j]? = some o) (he : e ∈ o.after) (hb : Region.binds .any e = true) (hi : e.on = i) : Reach ops i j
  | more {j : Nat} {o : Oper} {e : Edge} (ho : ops[j]? = some o) (he : e ∈ o.after) (hb : Region.binds .any e = true) (hi : Reach ops i e.on) : Reach ops i j

theorem edge_bits (acc : Array Nat) (i : Nat) : ∀ (es : List Edge) (s : Nat), (es.foldl (fun s e => if Region.binds .any e then s ||| 2 ^ e.on ||| acc.getD e.on 0 else s) s).testBit i = true →
    s.testBit i = true ∨ ∃ e ∈ es, Region.binds .any e = true ∧ (e.on = i ∨ (acc.getD e.on 0).testBit i = true)
  | [], s, h => .inl h
  | e :: es, s, h => by
    rw [List.foldl_cons] at h
    rcases edge_bits acc i es _ h with h1 | ⟨e', h1, h2⟩
    · by_cases hb : Region.binds .any e = true
      · rw [if_pos hb, Nat.testBit_or, Nat.testBit_or, Nat.testBit_two_pow] at h1
        simp only [Bool.or_eq_true, decide_eq_true_eq] at h1
        rcases h1 with (h1 | h1) | h1
        · exact .inl h1
        · exact .inr ⟨e, by simp, hb, .inl h1⟩
        · exact .inr ⟨e, by simp, hb, .inr h1⟩
      · rw [if_neg hb] at h1; exact .inl h1
    · exact .inr ⟨e', by simp [h1], h2⟩

theorem before_reach (ops : Array Oper) : ∀ (l : List Oper) (acc : Array Nat) (p : Nat), ops.toList = (ops.toList.take p) ++ l → acc.size = p → p + l.length = ops.size → (∀ j i, j < p → (acc.getD j 0).testBit i = true → Reach ops i j) →
    ∀ j i, ((l.foldl (fun acc o => acc.push (o.after.foldl (fun s e => if Region.binds .any e then s ||| 2 ^ e.on ||| acc.getD e.on 0 else s) 0)) acc).getD j 0).testBit i = true → Reach ops i j
  | [], acc, p, _, hs, _, h, j, i, hb => by
    by_cases hj : j < p
    · exact h j i hj hb
    · simp only [List.foldl_nil] at hb
      rw [Array.getD_eq_getD_getElem?, Array.getElem?_eq_none (by omega)] at hb
      simp at hb
  | o :: l, acc, p, hp, hs, hl, h, j, i, hb => by
    rw [List.foldl_cons] at hb
    have hplt : p < ops.size := by simp at hl; omega
    have hlen : (ops.toList.take p).length = p := by simp only [List.length_take, Array.length_toList]; omega
    have hget : ops.toList[p]? = some o := by
      rw [hp, List.getElem?_append_right (by omega), hlen]
      simp
    have hdrop : o :: l = ops.toList.drop p := by
      have := congrArg (List.drop p) hp
      rw [List.drop_append_of_le_length (by omega), List.drop_eq_nil_of_le (by omega : (ops.toList.take p).length ≤ p)] at this
      simpa using this.symm
    refine before_reach ops l _ (p + 1) ?_ (by simp [hs]) (by simp at hl; omega) (fun j i hj hb => ?_) j i hb
    · have : l = ops.toList.drop (p + 1) := by
        have := congrArg List.tail hdrop
        simpa using this
      rw [this, List.take_append_drop]
    · rw [Array.getD_eq_getD_getElem?, Array.getElem?_push] at hb
      by_cases hjp : j = acc.size
      · rw [if_pos hjp] at hb
        simp only [Option.getD_some] at hb
        rw [← Array.foldl_toList] at hb
        rcases edge_bits acc i _ _ hb with h1 | ⟨e, he, hbi, h1⟩
        · simp at h1
        · have ho : ops[j]? = some o := by rw [hjp, hs, ← Array.getElem?_toList]; exact hget
          rcases h1 with h1 | h1
          · exact .one ho (by simpa using he) hbi h1
          · refine .more ho (by simpa using he) hbi (h e.on i ?_ h1)
            by_cases hlt : e.on < p
            · exact hlt
            · rw [Array.getD_eq_getD_getElem?, Array.getElem?_eq_none (by omega)] at h1
              simp at h1
      · rw [if_neg hjp] at hb
        exact h j i (by omega) (by rw [Array.getD_eq_getD_getElem?]; exact hb)

theorem before_spec (ops : Array Oper) (j i : Nat) (h : ((Region.before ops).getD j 0).testBit i = true) : Reach ops i j := by
  unfold Region.before at h
  rw [← Array.foldl_toList] at h
  have h' : (((ops.toList).foldl (fun (acc : Array Nat) (o : Oper) => acc.push (o.after.foldl (fun s e => if Region.binds .any e then s ||| 2 ^ e.on ||| acc.getD e.on 0 else s) 0)) #[]).getD j 0).testBit i = true := h
  exact before_reach ops ops.toList #[] 0 (by simp) rfl (by simp) (fun j i hj => by omega) j i h'

/-- Listed operations bring what stands before them. -/
def Closed (ops : Array Oper) (L : Nat → Bool) : Prop := ∀ j o e, ops[j]? = some o → L j = true → e ∈ o.after → Region.binds .any e = true → L e.on = true

theorem Closed.reach {ops : Array Oper} {L : Nat → Bool} (h : Closed ops L) {i j : Nat} (hr : Reach ops i j) : (∃ o, ops[j]? = some o ∧ ∀ e ∈ o.after, Region.binds .any e = true → L e.on = true) → L i = true := by
  induction hr with
  | one ho he hb hi => rintro ⟨o', ho', hall⟩; rw [ho] at ho'; cases ho'; subst hi; exact hall _ he hb
  | @more j o e ho he hb hi ih =>
    rintro ⟨o', ho', hall⟩
    rw [ho] at ho'; cases ho'
    have hL := hall _ he hb
    cases hi with
    | one ho2 he2 hb2 hi2 => exact ih ⟨_, ho2, fun e2 he3 hb3 => h _ _ _ ho2 hL he3 hb3⟩
    | more ho2 he2 hb2 hi2 => exact ih ⟨_, ho2, fun e2 he3 hb3 => h _ _ _ ho2 hL he3 hb3⟩

/-! ### the check of a region -/
def shares (ops : Array Oper) (x y : Oper) : Bool :=
  (match x.dst with
   | some d => (y.looksAt ops).contains d || y.dst == some d
   | none => false) ||
  (match y.dst with
   | some d => (x.looksAt ops).contains d
   | none => false)

def pairOk (X : Ctx) (an : Ann) (ops : Array Oper) (bits : Array Nat) (i j : Nat) : Bool :=
  match ops[i]?, ops[j]? with
  | some x, some y => (!(shares ops x y) && (bareO an x || bareO an y || (quietO X x.op && quietO X y.op))) || (bits.getD j 0).testBit i
  | _, _ => true

def pairOk2 (X : Ctx) (an : Ann) (ops : Array Oper) (p : Nat) (bits : Array Nat) (i j : Nat) : Bool :=
  bif Nat.blt j p then pairOk X an ops bits i j else
  bif Nat.blt i p then (bits.getD j 0).testBit i else
  match ops[i]?, ops[j]? with
  | some x, some y => !(shares ops x y) || (bits.getD j 0).testBit i
  | _, _ => true

/-- The check of a drawn region: from p on its operations come behind all others. -/
def drawOk (X : Ctx) (an : Ann) (ops : Array Oper) (p : Nat) : Bool :=
  let bits := Region.before ops
  (List.range ops.size).all fun j =>
    (match ops[j]? with
     | some o => o.after.toList.all fun e => !(Region.binds .any e) || Nat.blt e.on j
     | none => true) &&
    (List.range j).all fun i => pairOk2 X an ops p bits i j

theorem drawOk_edge {X : Ctx} {an : Ann} {ops : Array Oper} {p : Nat} (h : drawOk X an ops p = true) {j : Nat} {o : Oper} (ho : ops[j]? = some o) {e : Edge} (he : e ∈ o.after) (hb : Region.binds .any e = true) : e.on < j := by
  have hj := (Array.getElem?_eq_some_iff.1 ho).1
  have h1 := List.all_eq_true.1 h j (by simpa using hj)
  simp only [ho, Bool.and_eq_true] at h1
  have h2 := List.all_eq_true.1 h1.1 e (by simpa using he)
  rw [hb] at h2
  simpa using h2

theorem drawOk_pair {X : Ctx} {an : Ann} {ops : Array Oper} {p : Nat} (h : drawOk X an ops p = true) {i j : Nat} {x y : Oper} (hij : i < j) (hm : i < p) (hx : ops[i]? = some x) (hy : ops[j]? = some y) :
    (j < p ∧ shares ops x y = false ∧ (bareO an x = true ∨ bareO an y = true ∨ (quietO X x.op = true ∧ quietO X y.op = true))) ∨ Reach ops i j := by
  have hj := (Array.getElem?_eq_some_iff.1 hy).1
  have h1 := List.all_eq_true.1 h j (by simpa using hj)
  simp only [Bool.and_eq_true] at h1
  have h2 := List.all_eq_true.1 h1.2 i (by simpa using hij)
  unfold pairOk2 at h2
  by_cases hjp : j < p
  · rw [show Nat.blt j p = true from Nat.ble_eq_true_of_le hjp] at h2
    simp only [cond_true] at h2
    unfold pairOk at h2
    rw [hx, hy] at h2
    simp only [Bool.or_eq_true, Bool.and_eq_true, Bool.not_eq_true'] at h2
    rcases h2 with ⟨h3, h4⟩ | h3
    · exact .inl ⟨hjp, h3, by rcases h4 with (h4 | h4) | h4
                              · exact .inl h4
                              · exact .inr (.inl h4)
                              · exact .inr (.inr h4)⟩
    · exact .inr (before_spec ops j i h3)
  · have e1 : Nat.blt j p = false := by
      cases e : Nat.blt j p with
      | false => rfl
      | true => exact absurd (Nat.le_of_ble_eq_true e) (by omega)
    rw [e1, show Nat.blt i p = true from Nat.ble_eq_true_of_le hm] at h2
    simp only [cond_true, cond_false] at h2
    exact .inr (before_spec ops j i h2)

theorem drawOk_share {X : Ctx} {an : Ann} {ops : Array Oper} {p : Nat} (h : drawOk X an ops p = true) {i j : Nat} {x y : Oper} (hij : i < j) (hm : p ≤ i) (hx : ops[i]? = some x) (hy : ops[j]? = some y) :
    shares ops x y = false ∨ Reach ops i j := by
  have hj := (Array.getElem?_eq_some_iff.1 hy).1
  have h1 := List.all_eq_true.1 h j (by simpa using hj)
  simp only [Bool.and_eq_true] at h1
  have h2 := List.all_eq_true.1 h1.2 i (by simpa using hij)
  unfold pairOk2 at h2
  have e1 : ∀ q, p ≤ q → Nat.blt q p = false := fun q hq => by
    cases e : Nat.blt q p with
    | false => rfl
    | true => exact absurd (Nat.le_of_ble_eq_true e) (by omega)
  rw [e1 j (by omega), e1 i hm] at h2
  simp only [cond_false] at h2
  rw [hx, hy] at h2
  simp only [Bool.or_eq_true, Bool.not_eq_true'] at h2
  rcases h2 with h3 | h3
  · exact .inl h3
  · exact .inr (before_spec ops j i h3)

end Go.Eng
