/- The engine, part 2: what an abstract value stands for in a memory, and how that is kept. Conditions: none. -/
import Derived.Test.YtjbaoopiffcigaaE1
set_option linter.unusedVariables false
set_option linter.unusedSimpArgs false
namespace Go.Eng

structure Mem where
  m : Nat → Option (Nat × Nat)
  st : Store
  w : World

/-- What the outside promises to keep: cells below block B that k holds of. -/
structure Keep where
  B : Nat
  k : Nat → Nat → Prop
  hk : ∀ b o, B ≤ b → k b o

abbrev cellAt (w : World) (b o : Nat) : Option Value := w.cell? ⟨b, o, none⟩

def Prot (brw : Bool) (m : Nat → Option (Nat × Nat)) (st : Store) (b o : Nat) : Prop :=
  ∀ (i base : Nat) x, m i = some (b, base) → st[i]? = some x → o < base ∨ ((brw = true ∨ x.shut = true) ∧ o < base + x.es * x.elems.length)

def CC (k : Keep) (brw : Bool) (M : Mem) (b o : Nat) (v : Value) : Prop :=
  cellAt M.w b o = some v ∧ k.k b o ∧ Prot brw M.m M.st b o

mutual
def RepD (C : Nat → Nat → Value → Prop) : D → Value → Prop
  | .lit x, v => cellV x = true ∧ v = x
  | .str s, v => ∃ a : ByteArray, v = .string a ∧ a.data.toList = s
  | .agg l, v => ∃ cs : List Value, v = .agg cs.toArray ∧ RepDs C l cs
  | .sl l, v => ∃ a c, v = .slice a l.length c ∧ l.length ≤ c ∧ (l = [] ∨ ∃ b o k, a = some ⟨b, o, none⟩ ∧ RepRow C b k o l)
def RepDs (C : Nat → Nat → Value → Prop) : List D → List Value → Prop
  | [], vs => vs = []
  | x :: r, vs => ∃ v t, vs = v :: t ∧ cellV v = true ∧ RepD C x v ∧ RepDs C r t
def RepRow (C : Nat → Nat → Value → Prop) (b k : Nat) : Nat → List D → Prop
  | _, [] => True
  | o, x :: r => (∃ v, RepD C x v ∧ v.cells.size = k ∧ ∀ j u, v.cells[j]? = some u → C b (o + j) u) ∧ RepRow C b k (o + k) r
end

mutual
theorem RepD.mono {C C' : Nat → Nat → Value → Prop} (h : ∀ b o v, C b o v → C' b o v) : ∀ (x : D) (v : Value), RepD C x v → RepD C' x v
  | .lit x, v, hx => hx
  | .str s, v, hx => hx
  | .agg l, v, ⟨cs, e, hl⟩ => ⟨cs, e, RepDs.mono h l cs hl⟩
  | .sl l, v, ⟨a, c, e, hc, hl⟩ => ⟨a, c, e, hc, hl.imp id fun ⟨b, o, k, ea, hr⟩ => ⟨b, o, k, ea, RepRow.mono h b k o l hr⟩⟩
theorem RepDs.mono {C C' : Nat → Nat → Value → Prop} (h : ∀ b o v, C b o v → C' b o v) : ∀ (l : List D) (vs : List Value), RepDs C l vs → RepDs C' l vs
  | [], vs, hx => hx
  | x :: r, vs, ⟨v, t, e, hc, hx, hr⟩ => ⟨v, t, e, hc, RepD.mono h x v hx, RepDs.mono h r t hr⟩
theorem RepRow.mono {C C' : Nat → Nat → Value → Prop} (h : ∀ b o v, C b o v → C' b o v) (b k : Nat) : ∀ (o : Nat) (l : List D), RepRow C b k o l → RepRow C' b k o l
  | _, [], _ => trivial
  | o, x :: r, ⟨⟨v, hx, hs, hj⟩, hr⟩ => ⟨⟨v, RepD.mono h x v hx, hs, fun j u hu => h _ _ _ (hj j u hu)⟩, RepRow.mono h b k (o + k) r hr⟩
end

-- flat data reads no cell
mutual
theorem RepD.flat {C C' : Nat → Nat → Value → Prop} : ∀ (x : D) (v : Value), x.flat = true → RepD C x v → RepD C' x v
  | .lit x, v, _, hx => hx
  | .str s, v, _, hx => hx
  | .agg l, v, hf, ⟨cs, e, hl⟩ => ⟨cs, e, RepDs.flat l cs (by simpa [D.flat] using hf) hl⟩
  | .sl l, v, hf, _ => by simp [D.flat] at hf
theorem RepDs.flat {C C' : Nat → Nat → Value → Prop} : ∀ (l : List D) (vs : List Value), D.flats l = true → RepDs C l vs → RepDs C' l vs
  | [], vs, _, hx => hx
  | x :: r, vs, hf, ⟨v, t, e, hc, hx, hr⟩ => by
    simp only [D.flats, Bool.and_eq_true] at hf
    exact ⟨v, t, e, hc, RepD.flat x v hf.1 hx, RepDs.flat r t hf.2 hr⟩
end

theorem RepDs.iff {C : Nat → Nat → Value → Prop} : ∀ (l : List D) (vs : List Value), RepDs C l vs ↔
    l.length = vs.length ∧ ∀ (i : Nat) x v, l[i]? = some x → vs[i]? = some v → cellV v = true ∧ RepD C x v
  | [], vs => by simp [RepDs]; exact ⟨fun h => by simp [h], fun h => List.length_eq_zero_iff.1 h.symm⟩
  | x :: r, vs => by
    constructor
    · rintro ⟨v, t, rfl, hc, hx, hr⟩
      have := (RepDs.iff r t).1 hr
      refine ⟨by simp [this.1], fun i y u hy hu => ?_⟩
      cases i with
      | zero => simp at hy hu; subst hy hu; exact ⟨hc, hx⟩
      | succ i => exact this.2 i y u (by simpa using hy) (by simpa using hu)
    · rintro ⟨hl, h⟩
      cases vs with
      | nil => simp at hl
      | cons v t =>
        have h0 := h 0 x v rfl rfl
        exact ⟨v, t, rfl, h0.1, h0.2, (RepDs.iff r t).2 ⟨by simpa using hl, fun i y u hy hu => h (i + 1) y u (by simpa using hy) (by simpa using hu)⟩⟩

theorem RepRow.iff {C : Nat → Nat → Value → Prop} (b k : Nat) : ∀ (l : List D) (o : Nat), RepRow C b k o l ↔
    ∀ i x, l[i]? = some x → ∃ v, RepD C x v ∧ v.cells.size = k ∧ ∀ j u, v.cells[j]? = some u → C b (o + i * k + j) u
  | [], o => by simp [RepRow]
  | x :: r, o => by
    simp only [RepRow, RepRow.iff b k r (o + k)]
    constructor
    · rintro ⟨⟨v, hx, hs, hj⟩, hr⟩ i y hy
      cases i with
      | zero => simp at hy; subst hy; exact ⟨v, hx, hs, by simpa using hj⟩
      | succ i =>
        obtain ⟨v, h1, h2, h3⟩ := hr i y (by simpa using hy)
        refine ⟨v, h1, h2, fun j u hu => ?_⟩
        have := h3 j u hu
        rwa [show o + (i + 1) * k + j = o + k + i * k + j by rw [Nat.add_mul]; omega]
    · intro h
      refine ⟨?_, fun i y hy => ?_⟩
      · obtain ⟨v, h1, h2, h3⟩ := h 0 x rfl
        exact ⟨v, h1, h2, by simpa using h3⟩
      · obtain ⟨v, h1, h2, h3⟩ := h (i + 1) y (by simpa using hy)
        refine ⟨v, h1, h2, fun j u hu => ?_⟩
        have := h3 j u hu
        rwa [show o + (i + 1) * k + j = o + k + i * k + j by rw [Nat.add_mul]; omega] at this

/-! ### abstract values -/
def PtrRep (M : Mem) (loc ep idx off : Nat) (v : Value) : Prop :=
  ∃ x, M.st[loc]? = some x ∧ ep ≤ x.elems.length ∧ (x.elems.length = ep → x.virt = false ∧
    ∃ b base, M.m loc = some (b, base) ∧ v = .pointer (some ⟨b, base + idx * x.es + off, none⟩)) ∧ ∃ a, v = .pointer (some a)

def SrefRep (M : Mem) (loc ep es off len : Nat) (v : Value) : Prop :=
  ∃ x, M.st[loc]? = some x ∧ ep ≤ x.elems.length ∧ (∃ a c, v = .slice a len c ∧ len ≤ c ∧ (len ≠ 0 → a.isSome = true)) ∧ (x.elems.length = ep → x.row = true ∧
    ((x.virt = true ∧ v = .slice none 0 0 ∧ off = 0 ∧ len = 0) ∨
     (x.virt = false ∧ es = x.es ∧ off + len ≤ ep ∧ ∃ b base c, M.m loc = some (b, base) ∧ v = .slice (some ⟨b, base + off * x.es, none⟩) len c ∧ len ≤ c ∧
        ∃ cs e fz, M.w.heap[b]? = some (Obj.cells cs e fz) ∧ base + (off + c) * x.es ≤ cs.size)))

/-- A pointer to a variable of its own, made for a type and of so many cells. -/
def TyRep (M : Mem) (t n off : Nat) (v : Value) : Prop :=
  ∃ b cs fz, v = .pointer (some ⟨b, off, none⟩) ∧ M.w.heap[b]? = some (Obj.cells cs t fz) ∧ cs.size = n

/-- A slice, if it has a row, has one of a type. -/
def SlTy (w : World) (t : TypeId) (v : Value) : Prop :=
  ∀ b o sp n c, v = .slice (some ⟨b, o, sp⟩) n c → o = 0 ∧ ∃ cs fz, w.heap[b]? = some (Obj.cells cs t fz) ∧ fz.1 = 0

mutual
def RepA (k : Keep) (M : Mem) : AV → Value → Prop
  | .d x, v => RepD (CC k false M) x v
  | .snil, v => v = .slice none 0 0
  | .full l, v => ∃ a, v = .slice a l.length l.length ∧ (l = [] ∨ ∃ b o k', a = some ⟨b, o, none⟩ ∧ RepRow (CC k false M) b k' o l)
  | .ptr loc ep idx off, v => PtrRep M loc ep idx off v
  | .sref loc ep es off len, v => SrefRep M loc ep es off len v
  | .eptr x off, v => ∃ b o u, v = .pointer (some ⟨b, o + off, none⟩) ∧ RepD (CC k false M) x u ∧ ∀ j c, u.cells[j]? = some c → CC k false M b (o + j) c
  | .tptr t n loc off, v => PtrRep M loc 1 0 off v ∧ TyRep M t n off v
  | .tsref t loc ep es len, v => SrefRep M loc ep es 0 len v ∧ SlTy M.w t v
  | .fn f cap, v => ∃ cs : List Value, v = .func (.func f) #[] cs.toArray ∧ RepAs k M cap cs
  | .agg l, v => ∃ cs : List Value, v = .agg cs.toArray ∧ RepAs k M l cs ∧ ∀ c ∈ cs, cellV c = true
  | .tup l, v => ∃ cs : List Value, v = .tuple cs.toArray ∧ RepAs k M l cs
  | .undef, _ => True
def RepAs (k : Keep) (M : Mem) : List AV → List Value → Prop
  | [], vs => vs = []
  | x :: r, vs => ∃ v t, vs = v :: t ∧ RepA k M x v ∧ RepAs k M r t
end

theorem RepAs.iff {k : Keep} {M : Mem} : ∀ (l : List AV) (vs : List Value), RepAs k M l vs ↔
    l.length = vs.length ∧ ∀ (i : Nat) x v, l[i]? = some x → vs[i]? = some v → RepA k M x v
  | [], vs => by simp [RepAs]; exact ⟨fun h => by simp [h], fun h => List.length_eq_zero_iff.1 h.symm⟩
  | x :: r, vs => by
    constructor
    · rintro ⟨v, t, rfl, hx, hr⟩
      have := (RepAs.iff r t).1 hr
      refine ⟨by simp [this.1], fun i y u hy hu => ?_⟩
      cases i with
      | zero => simp at hy hu; subst hy hu; exact hx
      | succ i => exact this.2 i y u (by simpa using hy) (by simpa using hu)
    · rintro ⟨hl, h⟩
      cases vs with
      | nil => simp at hl
      | cons v t =>
        exact ⟨v, t, rfl, h 0 x v rfl rfl, (RepAs.iff r t).2 ⟨by simpa using hl, fun i y u hy hu => h (i + 1) y u (by simpa using hy) (by simpa using hu)⟩⟩

/-- How a memory goes on. -/
structure Evo (M M' : Mem) : Prop where
  len : M.st.length ≤ M'.st.length
  blk : ∀ (i : Nat) x, M.st[i]? = some x → ∃ x', M'.st[i]? = some x' ∧ x.elems.length ≤ x'.elems.length ∧ x'.row = x.row ∧ x'.shut = x.shut ∧
    (x'.elems.length = x.elems.length → x'.virt = x.virt ∧ (x.virt = false → x'.es = x.es) ∧ ∀ p, M.m i = some p → M'.m i = some p)
  cell : ∀ b o v, cellAt M.w b o = some v → Prot false M.m M.st b o → cellAt M'.w b o = some v ∧ Prot false M'.m M'.st b o
  size : ∀ (b : Nat) cs e fz, M.w.heap[b]? = some (Obj.cells cs e fz) → ∃ cs' fz', M'.w.heap[b]? = some (Obj.cells cs' e fz') ∧ cs'.size = cs.size ∧ (fz.1 = 0 → fz'.1 = 0)
  heap : M.w.heap.size ≤ M'.w.heap.size

theorem Evo.refl (M : Mem) : Evo M M :=
  ⟨Nat.le_refl _, fun i x h => ⟨x, h, Nat.le_refl _, rfl, rfl, fun _ => ⟨rfl, fun _ => rfl, fun _ h => h⟩⟩, fun _ _ _ h p => ⟨h, p⟩,
    fun b cs e fz h => ⟨cs, fz, h, rfl, id⟩, Nat.le_refl _⟩

theorem Evo.trans {A B C : Mem} (h : Evo A B) (g : Evo B C) : Evo A C := by
  refine ⟨Nat.le_trans h.len g.len, fun i x hx => ?_, fun b o v hv hp => ?_, fun b cs e fz hb => ?_, Nat.le_trans h.heap g.heap⟩
  · obtain ⟨y, hy, hl, hr, hs, he⟩ := h.blk i x hx
    obtain ⟨z, hz, hl', hr', hs', he'⟩ := g.blk i y hy
    refine ⟨z, hz, Nat.le_trans hl hl', hr'.trans hr, hs'.trans hs, fun e => ?_⟩
    obtain ⟨a1, a2, a3⟩ := he (by omega)
    obtain ⟨b1, b2, b3⟩ := he' (by omega)
    exact ⟨b1.trans a1, fun hv => (b2 (by rw [a1]; exact hv)).trans (a2 hv), fun p hp => b3 p (a3 p hp)⟩
  · obtain ⟨h1, h2⟩ := h.cell b o v hv hp
    exact g.cell b o v h1 h2
  · obtain ⟨cs', fz', h1, h2, h5⟩ := h.size b cs e fz hb
    obtain ⟨cs'', fz'', h3, h4, h6⟩ := g.size b cs' e fz' h1
    exact ⟨cs'', fz'', h3, h4.trans h2, fun e => h6 (h5 e)⟩

theorem CC.evo {k : Keep} {M M' : Mem} (h : Evo M M') : ∀ b o v, CC k false M b o v → CC k false M' b o v :=
  fun b o v ⟨h1, h2, h3⟩ => ⟨(h.cell b o v h1 h3).1, h2, (h.cell b o v h1 h3).2⟩

theorem PtrRep.evo {M M' : Mem} (h : Evo M M') {loc ep idx off : Nat} {v : Value} (hr : PtrRep M loc ep idx off v) : PtrRep M' loc ep idx off v := by
  obtain ⟨x, hx, he, hv, hp⟩ := hr
  obtain ⟨y, hy, hl, hrow, hs, hsame⟩ := h.blk loc x hx
  refine ⟨y, hy, Nat.le_trans he hl, fun e => ?_, hp⟩
  obtain ⟨hvi, b, base, hm, hv'⟩ := hv (by omega)
  obtain ⟨g1, g2, g3⟩ := hsame (by omega)
  exact ⟨by rw [g1]; exact hvi, b, base, g3 _ hm, by rw [g2 hvi]; exact hv'⟩

theorem SrefRep.evo {M M' : Mem} (h : Evo M M') {loc ep es off len : Nat} {v : Value} (hr : SrefRep M loc ep es off len v) : SrefRep M' loc ep es off len v := by
  obtain ⟨x, hx, he, hs0, hv⟩ := hr
  obtain ⟨y, hy, hl, hrow, hs, hsame⟩ := h.blk loc x hx
  refine ⟨y, hy, Nat.le_trans he hl, hs0, fun e => ?_⟩
  obtain ⟨hr1, hv'⟩ := hv (by omega)
  obtain ⟨g1, g2, g3⟩ := hsame (by omega)
  refine ⟨hrow.trans hr1, ?_⟩
  rcases hv' with ⟨hvi, e1⟩ | ⟨hvi, hes, hle, b, base, c, hm, e1, hc, hcap⟩
  · exact .inl ⟨g1.trans hvi, e1⟩
  · obtain ⟨cs0, e0, fz0, h0, hcap⟩ := hcap
    obtain ⟨cs1, fz1, h1, h2, _⟩ := h.size b cs0 e0 fz0 h0
    exact .inr ⟨g1.trans hvi, by rw [g2 hvi]; exact hes, hle, b, base, c, g3 _ hm, by rw [g2 hvi]; exact e1, hc, cs1, e0, fz1, h1, by rw [g2 hvi, h2]; exact hcap⟩

mutual
theorem RepA.evo {k : Keep} {M M' : Mem} (h : Evo M M') : ∀ (x : AV) (v : Value), RepA k M x v → RepA k M' x v
  | .d x, v, hx => RepD.mono (CC.evo h) x v hx
  | .snil, v, hx => hx
  | .full l, v, ⟨a, e, hl⟩ => ⟨a, e, hl.imp id fun ⟨b, o, k', ea, hr⟩ => ⟨b, o, k', ea, RepRow.mono (CC.evo h) b k' o l hr⟩⟩
  | .ptr loc ep idx off, v, hx => PtrRep.evo h hx
  | .sref loc ep es off len, v, hx => SrefRep.evo h hx
  | .eptr x off, v, ⟨b, o, u, e, hx, hj⟩ => ⟨b, o, u, e, RepD.mono (CC.evo h) x u hx, fun j c hc => CC.evo h _ _ _ (hj j c hc)⟩
  | .tptr t n loc off, v, ⟨h1, b, cs, fz, e, h2, h3⟩ => ⟨PtrRep.evo h h1, by
    obtain ⟨cs', fz', g1, g2, _⟩ := h.size b cs t fz h2
    exact ⟨b, cs', fz', e, g1, g2.trans h3⟩⟩
  | .tsref t loc ep es len, v, ⟨h1, h2⟩ => ⟨SrefRep.evo h h1, fun b o sp n c e => by
    obtain ⟨g0, cs, fz, g, gz⟩ := h2 b o sp n c e
    obtain ⟨cs', fz', g1, _, g3⟩ := h.size b cs t fz g
    exact ⟨g0, cs', fz', g1, g3 gz⟩⟩
  | .fn f cap, v, ⟨cs, e, hl⟩ => ⟨cs, e, RepAs.evo h cap cs hl⟩
  | .agg l, v, ⟨cs, e, hl, hc⟩ => ⟨cs, e, RepAs.evo h l cs hl, hc⟩
  | .tup l, v, ⟨cs, e, hl⟩ => ⟨cs, e, RepAs.evo h l cs hl⟩
  | .undef, v, _ => trivial
theorem RepAs.evo {k : Keep} {M M' : Mem} (h : Evo M M') : ∀ (l : List AV) (vs : List Value), RepAs k M l vs → RepAs k M' l vs
  | [], vs, hx => hx
  | x :: r, vs, ⟨v, t, e, hx, hr⟩ => ⟨v, t, e, RepA.evo h x v hx, RepAs.evo h r t hr⟩
end

/-! ### what holds of a memory -/
def BlkRep (k : Keep) (M : Mem) (x : Blk) (b o : Nat) : Prop :=
  x.virt = false ∧ 0 < x.es ∧ ∃ cs e fz, M.w.heap[b]? = some (Obj.cells cs e fz) ∧ o + x.es * x.elems.length ≤ cs.size ∧
    (∀ j, j < cs.size → o ≤ j → (x.shut = true → o + x.es * x.elems.length ≤ j) → ¬ (fz.1 ≤ j ∧ j < fz.2)) ∧
    ∀ (i : Nat) av, x.elems[i]? = some av → ∃ v : Value, RepA k M av v ∧ v.cells.size = x.es ∧ (∀ u ∈ v.cells, cellV u = true) ∧
      ∀ (j : Nat) u, v.cells[j]? = some u → cs[o + i * x.es + j]? = some u

def BlkForm (x : Blk) : Prop :=
  (x.row = false → x.elems.length = 1 ∧ x.shut = false ∧ x.virt = false) ∧ (x.virt = true → x.elems = [])

structure Inv (k : Keep) (M : Mem) : Prop where
  inj : ∀ i j b o o', M.m i = some (b, o) → M.m j = some (b, o') → i = j
  dom : ∀ i p, M.m i = some p → i < M.st.length
  low : ∀ i b o, M.m i = some (b, o) → k.B ≤ b
  big : k.B ≤ M.w.heap.size
  blk : ∀ (i b o : Nat) x, M.m i = some (b, o) → M.st[i]? = some x → BlkRep k M x b o
  frm : ∀ (i : Nat) x, M.st[i]? = some x → BlkForm x

/-- Outside its own blocks nothing is written. -/
structure Out (M M' : Mem) : Prop where
  os : M'.w.os = M.w.os
  tape : M'.w.tape = M.w.tape
  output : M'.w.output = M.w.output
  old : ∀ b, b < M.w.heap.size → (∀ i o, M.m i ≠ some (b, o)) → M'.w.heap[b]? = M.w.heap[b]?
  new : ∀ i b o, M'.m i = some (b, o) → (∃ j o', M.m j = some (b, o')) ∨ M.w.heap.size ≤ b

structure Stp (k : Keep) (M M' : Mem) : Prop where
  inv : Inv k M'
  evo : Evo M M'
  out : Out M M'

theorem Out.refl (M : Mem) : Out M M := ⟨rfl, rfl, rfl, fun _ _ _ => rfl, fun i b o h => .inl ⟨i, o, h⟩⟩

theorem Out.trans {A B C : Mem} (hh : A.w.heap.size ≤ B.w.heap.size) (h : Out A B) (g : Out B C) : Out A C := by
  refine ⟨g.os.trans h.os, g.tape.trans h.tape, g.output.trans h.output, fun b hb hm => ?_, fun i b o hi => ?_⟩
  · rw [g.old b (by omega) fun i o hi => ?_, h.old b hb hm]
    rcases h.new i b o hi with ⟨j, o', hj⟩ | hlt
    · exact hm j o' hj
    · omega
  · rcases g.new i b o hi with ⟨j, o', hj⟩ | hlt
    · exact h.new j b o' hj
    · exact .inr (by omega)

theorem Stp.refl {k : Keep} {M : Mem} (h : Inv k M) : Stp k M M := ⟨h, Evo.refl M, Out.refl M⟩
theorem Stp.trans {k : Keep} {A B C : Mem} (h : Stp k A B) (g : Stp k B C) : Stp k A C :=
  ⟨g.inv, h.evo.trans g.evo, h.out.trans h.evo.heap g.out⟩

/-! ### cells of a value -/
theorem RepA.cells {k : Keep} {M : Mem} {x : AV} {v : Value} (h : RepA k M x v) (hne : x.cells ≠ []) :
    x.cells.length = v.cells.size ∧ (∀ u ∈ v.cells, cellV u = true) ∧ (x.isAgg = true → ∃ cs, v = .agg cs) ∧ (x.isAgg = false → v.cells = #[v]) ∧
    ∀ (j : Nat) a u, x.cells[j]? = some a → v.cells[j]? = some u → RepA k M a u := by
  have one : ∀ (x : AV) (v : Value), RepA k M x v → x.cells = [x] → cellV v = true → x.isAgg = false →
      x.cells.length = v.cells.size ∧ (∀ u ∈ v.cells, cellV u = true) ∧ (x.isAgg = true → ∃ cs, v = .agg cs) ∧ (x.isAgg = false → v.cells = #[v]) ∧
      ∀ (j : Nat) a u, x.cells[j]? = some a → v.cells[j]? = some u → RepA k M a u := by
    intro x v h hx hv hg
    have hc : v.cells = #[v] := by cases v <;> first | rfl | simp [cellV] at hv
    rw [hx, hc]
    refine ⟨rfl, by simpa using hv, by simp [hg], fun _ => rfl, fun j a u ha hu => ?_⟩
    cases j with
    | zero => simp at ha hu; subst ha hu; exact h
    | succ j => simp at ha
  cases x with
  | d x =>
    cases x with
    | lit y => obtain ⟨h1, rfl⟩ := h; exact one _ _ ⟨h1, rfl⟩ rfl h1 rfl
    | str s => obtain ⟨a, rfl, h1⟩ := h; exact one _ _ ⟨a, rfl, h1⟩ rfl rfl rfl
    | sl l => obtain ⟨a, c, rfl, h1⟩ := h; exact one _ _ ⟨a, c, rfl, h1⟩ rfl rfl rfl
    | agg l =>
      obtain ⟨cs, rfl, hl⟩ := h
      obtain ⟨h1, h2⟩ := (RepDs.iff l cs).1 hl
      refine ⟨by simp [AV.cells, Value.cells, h1], fun u hu => ?_, fun _ => ⟨_, rfl⟩, by simp [AV.isAgg], fun j a u ha hu => ?_⟩
      · simp only [Value.cells] at hu
        obtain ⟨i, hi⟩ := List.getElem?_of_mem (List.mem_toArray.1 hu)
        have hlt := (List.getElem?_eq_some_iff.1 hi).1
        obtain ⟨y, hy⟩ : ∃ y, l[i]? = some y := ⟨_, List.getElem?_eq_getElem (by omega)⟩
        exact (h2 i y u hy hi).1
      · simp only [AV.cells, List.getElem?_map, Option.map_eq_some_iff] at ha
        obtain ⟨y, hy, rfl⟩ := ha
        exact (h2 j y u hy (by simpa [Value.cells] using hu)).2
  | snil => have h' : v = .slice none 0 0 := h; subst h'; exact one .snil _ rfl rfl rfl rfl
  | full l => obtain ⟨a, rfl, h1⟩ := h; exact one _ _ ⟨a, rfl, h1⟩ rfl rfl rfl
  | ptr loc ep idx off => have h' := h; obtain ⟨x, _, _, _, a, rfl⟩ := h; exact one _ _ h' rfl rfl rfl
  | sref loc ep es off len => have h' := h; obtain ⟨x, _, _, ⟨a, c, rfl, _, _⟩, _⟩ := h; exact one _ _ h' rfl rfl rfl
  | eptr x off => have h' := h; obtain ⟨b, o, u, rfl, _⟩ := h; exact one _ _ h' rfl rfl rfl
  | fn f cap => have h' := h; obtain ⟨cs, rfl, _⟩ := h; exact one _ _ h' rfl rfl rfl
  | agg l =>
    obtain ⟨cs, rfl, hl, hc⟩ := h
    obtain ⟨h1, h2⟩ := (RepAs.iff l cs).1 hl
    refine ⟨by simp [AV.cells, Value.cells, h1], fun u hu => hc u (by simpa [Value.cells] using hu), fun _ => ⟨_, rfl⟩, by simp [AV.isAgg], fun j a u ha hu => ?_⟩
    exact h2 j a u ha (by simpa [Value.cells] using hu)
  | tsref t loc ep es len => have h' := h; obtain ⟨⟨x, _, _, ⟨a, c, rfl, _, _⟩, _⟩, _⟩ := h; exact one _ _ h' rfl rfl rfl
  | tptr t n loc off => have h' := h; obtain ⟨_, b, cs, fz, rfl, _, _⟩ := h; exact one _ _ h' rfl rfl rfl
  | tup l => simp [AV.cells] at hne
  | undef => simp [AV.cells] at hne

end Go.Eng
