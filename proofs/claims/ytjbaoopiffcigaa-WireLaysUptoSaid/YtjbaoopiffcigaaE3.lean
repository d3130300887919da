/- The engine, part 3: temporaries, constants, freezing, loads. Conditions: none. -/
import Derived.Test.YtjbaoopiffcigaaE2
import Derived.ArgAppend
import Derived.WalkKit
set_option linter.unusedVariables false
set_option linter.unusedSimpArgs false
namespace Go.Eng

/-! ### temporaries -/
theorem look_upd (t : List (Nat × AV)) (k j : Nat) (v : AV) : look (upd t k v) j = if k = j then v else look t j := by
  induction t with
  | nil =>
    simp only [upd, look]
    by_cases h : k = j
    · simp [h]
    · have h' : (k == j) = false := by simpa using h
      simp [h, h']
  | cons a r ih =>
    obtain ⟨i, u⟩ := a
    simp only [upd]
    by_cases h : i = k
    · subst h
      simp only [beq_self_eq_true, cond_true, look]
      by_cases h2 : i = j
      · simp [h2]
      · have h2' : (i == j) = false := by simpa using h2
        simp [h2, h2']
    · have h' : (i == k) = false := by simpa using h
      simp only [h', cond_false, look, ih]
      by_cases h2 : i = j
      · subst h2; simp; intro e; exact absurd e.symm h
      · have h2' : (i == j) = false := by simpa using h2
        simp [h2']

theorem look_keepT (ks : List Nat) (t : List (Nat × AV)) (j : Nat) : look (keepT ks t) j = look t j ∨ look (keepT ks t) j = .undef := by
  induction t with
  | nil => exact .inl rfl
  | cons a r ih =>
    obtain ⟨i, u⟩ := a
    simp only [keepT]
    by_cases h : memN ks i = true
    · simp only [h, cond_true, look]
      by_cases h2 : (i == j) = true
      · simp [h2]
      · simp only [h2, cond_false]; simpa using ih
    · have h' : memN ks i = false := by simpa using h
      simp only [h', cond_false, look]
      by_cases h2 : (i == j) = true
      · have : i = j := by simpa using h2
        subst this
        right
        clear ih h2 h
        induction r with
        | nil => rfl
        | cons b r ih =>
          obtain ⟨n, v⟩ := b
          simp only [keepT]
          by_cases h3 : n = i
          · subst h3; simp only [h', cond_false]; exact ih
          · by_cases h4 : memN ks n = true
            · have h5 : (n == i) = false := by simpa using h3
              simp only [h4, cond_true, look, h5, cond_false]; exact ih
            · have h4' : memN ks n = false := by simpa using h4
              simp only [h4', cond_false]; exact ih
      · simp only [h2, cond_false]; simpa using ih

/-- The temporaries of a frame. -/
structure RepT (k : Keep) (M : Mem) (nt : Nat) (t : List (Nat × AV)) (a : Act) : Prop where
  size : nt ≤ a.tmps.size
  rep : ∀ n, RepA k M (look t n) (a.tmps.getD n undef)
  defers : a.defers = []

theorem RepT.evo {k : Keep} {M M' : Mem} (h : Evo M M') {nt : Nat} {t : List (Nat × AV)} {a : Act} (r : RepT k M nt t a) : RepT k M' nt t a :=
  ⟨r.size, fun n => RepA.evo h _ _ (r.rep n), r.defers⟩

theorem RepT.put {k : Keep} {M : Mem} {nt : Nat} {t : List (Nat × AV)} {a : Act} (r : RepT k M nt t a) {d : Option Nat} (hd : ∀ x, d = some x → x < nt) {x : AV} {v : Value} (h : RepA k M x v) :
    RepT k M nt (putD t d x) (a.put d v) := by
  cases d with
  | none => exact r
  | some d =>
    have hlt : d < a.tmps.size := Nat.lt_of_lt_of_le (hd d rfl) r.size
    refine ⟨by simpa [Act.put] using r.size, fun n => ?_, r.defers⟩
    simp only [putD, look_upd, Act.put]
    by_cases e : d = n
    · subst e
      simp only [if_true]
      rw [show (a.tmps.setIfInBounds d v).getD d undef = v by simp [Array.getElem?_setIfInBounds, hlt]]
      exact h
    · rw [if_neg e, show (a.tmps.setIfInBounds d v).getD n undef = a.tmps.getD n undef by simp [Array.getElem?_setIfInBounds_ne e]]
      exact r.rep n

theorem RepT.keep {k : Keep} {M : Mem} {nt : Nat} {t : List (Nat × AV)} {a : Act} (r : RepT k M nt t a) (ks : List Nat) : RepT k M nt (keepT ks t) a :=
  ⟨r.size, fun n => by
    rcases look_keepT ks t n with h | h
    · rw [h]; exact r.rep n
    · rw [h]; trivial, r.defers⟩

/-! ### constants -/
theorem allCell_mem : ∀ (l : List Value), allCell l = true → ∀ u ∈ l, cellV u = true
  | [], _, u, hu => by simp at hu
  | v :: r, h, u, hu => by
    simp only [allCell, Bool.and_eq_true] at h
    rcases List.mem_cons.1 hu with rfl | hu
    · exact h.1
    · exact allCell_mem r h.2 u hu

theorem RepA.const1 (k : Keep) (M : Mem) (v : Value) : RepA k M (constAV1 v) v := by
  unfold constAV1
  split
  · exact ⟨_, rfl, rfl⟩
  · rfl
  · trivial
  · trivial
  · rename_i h1 h2 h3 h4
    refine ⟨?_, rfl⟩
    cases v <;> first | rfl | (exfalso; first | exact h3 _ rfl | exact h4 _ rfl)

theorem RepAs.const1 (k : Keep) (M : Mem) : ∀ l : List Value, RepAs k M (l.map constAV1) l
  | [] => rfl
  | v :: r => ⟨v, r, rfl, RepA.const1 k M v, RepAs.const1 k M r⟩

theorem RepA.const (k : Keep) (M : Mem) (v : Value) : RepA k M (constAV v) v := by
  unfold constAV
  split
  · rename_i cs
    by_cases h : allCell cs.toList = true
    · simp only [h, cond_true]
      exact ⟨cs.toList, by simp, RepAs.const1 k M _, allCell_mem _ h⟩
    · have h' : allCell cs.toList = false := by simpa using h
      simp only [h', cond_false]
      trivial
  · exact RepA.const1 k M v

theorem RepT.opv {k : Keep} {M : Mem} {nt : Nat} {t : List (Nat × AV)} {a : Act} (r : RepT k M nt t a) (x : Operand) : RepA k M (opv t x) (a.eval x) := by
  cases x with
  | tmp n => exact r.rep n
  | const v => exact RepA.const k M v
  | func f => exact ⟨[], rfl, rfl⟩
  | global g => trivial

/-! ### freezing -/
theorem getBlk_some {st : Store} {loc ep : Nat} {b : Blk} (h : getBlk st loc ep = some b) : st[loc]? = some b ∧ b.elems.length = ep := by
  unfold getBlk at h
  split at h
  · rename_i x hx
    by_cases e : x.elems.length = ep
    · simp [e] at h; subst h; exact ⟨hx, e⟩
    · have : (x.elems.length == ep) = false := by simpa using e
      simp [this] at h
  · cases h

theorem fzAll_some {f : AV → Option D} : ∀ {l : List AV} {ds : List D}, fzAll f l = some ds → l.length = ds.length ∧ ∀ (i : Nat) a, l[i]? = some a → ∃ x, ds[i]? = some x ∧ f a = some x
  | [], ds, h => by simp [fzAll] at h; subst h; exact ⟨rfl, fun i a ha => by simp at ha⟩
  | a :: r, ds, h => by
    simp only [fzAll] at h
    split at h
    · rename_i x l hx hl
      cases h
      have ih := fzAll_some hl
      refine ⟨by simp [ih.1], fun i b hb => ?_⟩
      cases i with
      | zero => simp at hb; subst hb; exact ⟨x, rfl, hx⟩
      | succ i => obtain ⟨y, h1, h2⟩ := ih.2 i b (by simpa using hb); exact ⟨y, by simpa using h1, h2⟩
    · cases h

theorem CC.weak {k : Keep} {M : Mem} {brw : Bool} : ∀ b o v, CC k false M b o v → CC k brw M b o v :=
  fun b o v ⟨h1, h2, h3⟩ => ⟨h1, h2, fun i base x hm hx => (h3 i base x hm hx).imp id fun ⟨h, hl⟩ => ⟨h.imp (fun e => by simp at e) id, hl⟩⟩

theorem CC.brw {k : Keep} {M : Mem} {brw : Bool} : ∀ b o v, CC k brw M b o v → CC k true M b o v :=
  fun b o v ⟨h1, h2, h3⟩ => ⟨h1, h2, fun i base x hm hx => (h3 i base x hm hx).imp id fun ⟨h, hl⟩ => ⟨.inl rfl, hl⟩⟩

theorem fz_sound {k : Keep} {M : Mem} (hI : Inv k M) {st : Store} (hst : ∀ (i : Nat) b, st[i]? = some b → M.st[i]? = some b) {brw : Bool} :
    ∀ (n : Nat) (a : AV) (u : Value) (x : D), RepA k M a u → fz brw st n a = some x → RepD (CC k brw M) x u := by
  intro n
  induction n with
  | zero => intro a u x _ h; simp [fz] at h
  | succ n ih =>
    intro a u x hr h
    unfold fz at h
    split at h
    · cases h; exact RepD.mono CC.weak _ _ hr
    · cases h
      have : u = .slice none 0 0 := hr
      subst this
      exact ⟨none, 0, rfl, Nat.le_refl _, .inl rfl⟩
    · cases h
      rename_i l
      obtain ⟨a, rfl, h1⟩ := hr
      exact ⟨a, l.length, rfl, Nat.le_refl _, h1.imp id fun ⟨b, o, k', e, h2⟩ => ⟨b, o, k', e, RepRow.mono CC.weak b k' o l h2⟩⟩
    · cases h
      obtain ⟨cs, rfl, h1⟩ := hr
      have : cs = [] := h1
      subst this
      exact ⟨rfl, rfl⟩
    · rename_i l
      obtain ⟨ds, hds, rfl⟩ := Option.map_eq_some_iff.1 h
      obtain ⟨cs, rfl, hl, hc⟩ := hr
      obtain ⟨e1, e2⟩ := fzAll_some hds
      obtain ⟨g1, g2⟩ := (RepAs.iff l cs).1 hl
      refine ⟨cs, rfl, (RepDs.iff _ _).2 ⟨by omega, fun i y v hy hv => ?_⟩⟩
      have hlt := (List.getElem?_eq_some_iff.1 hv).1
      obtain ⟨a, ha⟩ : ∃ a, l[i]? = some a := ⟨_, List.getElem?_eq_getElem (by omega)⟩
      obtain ⟨y', hy', hf⟩ := e2 i a ha
      rw [hy] at hy'; cases hy'
      exact ⟨hc v (List.mem_of_getElem? hv), ih a v y (g2 i a v ha hv) hf⟩
    · rename_i loc ep es off len
      obtain ⟨b, hb, h⟩ := Option.bind_eq_some_iff.1 h
      obtain ⟨hb1, hb2⟩ := getBlk_some hb
      by_cases hcond : (b.row && (brw || b.shut) && Nat.ble (off + len) b.elems.length) = true
      · simp only [hcond, cond_true] at h
        simp only [Bool.and_eq_true, Bool.or_eq_true] at hcond
        obtain ⟨⟨hrow, hbs⟩, hle⟩ := hcond
        have hle : off + len ≤ b.elems.length := Nat.le_of_ble_eq_true hle
        obtain ⟨ds, hds, rfl⟩ := Option.map_eq_some_iff.1 h
        obtain ⟨e1, e2⟩ := fzAll_some hds
        have hlen : ds.length = len := by rw [← e1, List.length_take, List.length_drop]; omega
        obtain ⟨y, hy, hep, hs0, hrest⟩ := hr
        rw [hst _ _ hb1] at hy; cases hy
        obtain ⟨_, hcase⟩ := hrest hb2
        rcases hcase with ⟨hv, rfl, rfl, rfl⟩ | ⟨hv, hes0, hle2, blk, base, c, hm, rfl, hc, cs0, e0, fz0, hh0, hcap⟩
        · have : ds = [] := List.length_eq_zero_iff.1 hlen
          subst this
          exact ⟨none, 0, rfl, Nat.le_refl _, .inl rfl⟩
        · refine ⟨_, c, by rw [hlen], by omega, .inr ⟨blk, base + off * b.es, b.es, rfl, (RepRow.iff blk b.es ds _).2 fun i y hy => ?_⟩⟩
          have hilt := (List.getElem?_eq_some_iff.1 hy).1
          obtain ⟨a, ha⟩ : ∃ a, ((b.elems.drop off).take len)[i]? = some a := ⟨_, List.getElem?_eq_getElem (by omega)⟩
          obtain ⟨y', hy', hf⟩ := e2 i a ha
          rw [hy] at hy'; cases hy'
          have ha' : b.elems[off + i]? = some a := by
            rw [List.getElem?_take] at ha
            split at ha
            · rwa [List.getElem?_drop] at ha
            · cases ha
          obtain ⟨_, hes, cs, e, fz', hh, hsz, hfr, hel⟩ := hI.blk _ _ _ _ hm (hst _ _ hb1)
          obtain ⟨v, hv1, hv2, hv3, hv4⟩ := hel _ _ ha'
          refine ⟨v, ih a v y hv1 hf, hv2, fun j u hu => ?_⟩
          have hcell := hv4 j u hu
          have hjlt : j < b.es := by rw [← hv2]; exact (Array.getElem?_eq_some_iff.1 hu).1
          have eoff : base + off * b.es + i * b.es + j = base + (off + i) * b.es + j := by rw [Nat.add_mul]; omega
          refine ⟨?_, k.hk _ _ (hI.low _ _ _ hm), fun i' base' x' hm' hx' => ?_⟩
          · rw [eoff]
            show M.w.cell? _ = _
            rw [cell_of_row M.w blk _ cs e fz' hh]; exact hcell
          · obtain rfl := hI.inj _ _ _ _ _ hm' hm
            rw [hm] at hm'; cases hm'
            rw [hst _ _ hb1] at hx'; cases hx'
            refine .inr ⟨hbs.imp id id, ?_⟩
            rw [eoff]
            have : (off + i) * b.es + b.es ≤ b.elems.length * b.es := by
              rw [← Nat.succ_mul]; exact Nat.mul_le_mul_right _ (by omega)
            rw [Nat.mul_comm b.es]; omega
      · have hcond' : (b.row && (brw || b.shut) && Nat.ble (off + len) b.elems.length) = false := Bool.eq_false_iff.2 hcond
        simp [hcond'] at h
    · cases h

theorem fzAll_sound {k : Keep} {M : Mem} (hI : Inv k M) {st : Store} (hst : ∀ (i : Nat) b, st[i]? = some b → M.st[i]? = some b) {brw : Bool} {n : Nat}
    {l : List AV} {vs : List Value} {ds : List D} (h : RepAs k M l vs) (hf : fzAll (fz brw st n) l = some ds) :
    ds.length = vs.length ∧ ∀ (i : Nat) x v, ds[i]? = some x → vs[i]? = some v → RepD (CC k brw M) x v := by
  obtain ⟨e1, e2⟩ := fzAll_some hf
  obtain ⟨g1, g2⟩ := (RepAs.iff l vs).1 h
  refine ⟨by omega, fun i x v hx hv => ?_⟩
  have hlt := (List.getElem?_eq_some_iff.1 hx).1
  obtain ⟨a, ha⟩ : ∃ a, l[i]? = some a := ⟨_, List.getElem?_eq_getElem (by omega)⟩
  obtain ⟨y, hy, hfa⟩ := e2 i a ha
  rw [hx] at hy; cases hy
  exact fz_sound hI hst n a v x (g2 i a v ha hv) hfa

theorem fzE_sound {k : Keep} {M : Mem} (hI : Inv k M) {st : Store} (hst : ∀ (i : Nat) b, st[i]? = some b → M.st[i]? = some b) {a : AV} {u : Value} (h : RepA k M a u) : RepA k M (fzE st a) u := by
  unfold fzE
  split
  · rename_i x hx; exact fz_sound hI hst 6 a u x h hx
  · exact h

end Go.Eng
