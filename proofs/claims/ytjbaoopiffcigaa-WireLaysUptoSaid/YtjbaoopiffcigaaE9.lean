/- The engine, part 9: append, stores, conversions, literals. Conditions: none. -/
import Derived.Test.YtjbaoopiffcigaaE8
set_option linter.unusedVariables false
set_option linter.unusedSimpArgs false
namespace Go.Eng
variable {P : Program}

/-- A place of the store is given up, its row to be made anew. -/
theorem reblk {k : Keep} {M : Mem} (hI : Inv k M) {loc : Nat} {x x' : Blk} (hx : M.st[loc]? = some x) (hrow : x'.row = x.row) (hsh : x'.shut = x.shut)
    (hlen : x.elems.length < x'.elems.length ∨ (M.m loc = none ∧ x'.elems.length = x.elems.length ∧ x'.virt = x.virt ∧ (x.virt = false → x'.es = x.es))) (hf : BlkForm x') :
    Stp k M ⟨fun i => if i = loc then none else M.m i, M.st.set loc x', M.w⟩ := by
  have hloc := (List.getElem?_eq_some_iff.1 hx).1
  have hget : ∀ (i : Nat) y, (M.st.set loc x')[i]? = some y → (i = loc ∧ y = x') ∨ (i ≠ loc ∧ M.st[i]? = some y) := fun i y hy => by
    by_cases hi : i = loc
    · subst hi; rw [List.getElem?_set_self hloc] at hy; cases hy; exact .inl ⟨rfl, rfl⟩
    · rw [List.getElem?_set_ne (fun e => hi e.symm)] at hy; exact .inr ⟨hi, hy⟩
  have hset : (M.st.set loc x')[loc]? = some x' := List.getElem?_set_self hloc
  have hP : ∀ b o, Prot false M.m M.st b o → Prot false (fun i => if i = loc then none else M.m i) (M.st.set loc x') b o := fun b o h i base y hm hy => by
    simp only at hm
    by_cases hi : i = loc
    · rw [if_pos hi] at hm; cases hm
    · rw [if_neg hi] at hm
      rcases hget i y hy with ⟨e, _⟩ | ⟨_, hy'⟩
      · exact absurd e hi
      · exact h i base y hm hy'
  have hevo : Evo M ⟨fun i => if i = loc then none else M.m i, M.st.set loc x', M.w⟩ := by
    refine ⟨by simp, fun i y hy => ?_, fun b o v hv hp => ⟨hv, hP b o hp⟩, fun b cs e fz h => ⟨cs, fz, h, rfl, id⟩, Nat.le_refl _⟩
    by_cases hi : i = loc
    · subst hi
      rw [hx] at hy; cases hy
      refine ⟨x', hset, by rcases hlen with h | ⟨_, h, _⟩ <;> omega, hrow, hsh, fun e => ?_⟩
      rcases hlen with h | ⟨h1, h2, h3, h4⟩
      · omega
      · exact ⟨h3, h4, fun p hp => by rw [h1] at hp; cases hp⟩
    · exact ⟨y, by simp only; rw [List.getElem?_set_ne (fun e => hi e.symm)]; exact hy, Nat.le_refl _, rfl, rfl, fun _ => ⟨rfl, fun _ => rfl, fun p hp => by simp only; rw [if_neg hi]; exact hp⟩⟩
  refine ⟨⟨fun i j b o o' hi hj => ?_, fun i p hi => ?_, fun i b o hi => ?_, hI.big, fun i b o y hi hy => ?_, fun i y hy => ?_⟩, hevo, ⟨rfl, rfl, rfl, fun _ _ _ => rfl, fun i b o hi => ?_⟩⟩
  · simp only at hi hj
    by_cases h1 : i = loc
    · rw [if_pos h1] at hi; cases hi
    · by_cases h2 : j = loc
      · rw [if_pos h2] at hj; cases hj
      · rw [if_neg h1] at hi; rw [if_neg h2] at hj; exact hI.inj _ _ _ _ _ hi hj
  · simp only at hi ⊢
    by_cases h1 : i = loc
    · rw [if_pos h1] at hi; cases hi
    · rw [if_neg h1] at hi; rw [List.length_set]; exact hI.dom _ _ hi
  · simp only at hi
    by_cases h1 : i = loc
    · rw [if_pos h1] at hi; cases hi
    · rw [if_neg h1] at hi; exact hI.low _ _ _ hi
  · simp only at hi hy
    by_cases h1 : i = loc
    · rw [if_pos h1] at hi; cases hi
    · rw [if_neg h1] at hi
      rcases hget i y hy with ⟨e, _⟩ | ⟨_, hy'⟩
      · exact absurd e h1
      · obtain ⟨q1, q2, cs2, e2, fz2, q3, q4, q5, q6⟩ := hI.blk _ _ _ _ hi hy'
        refine ⟨q1, q2, cs2, e2, fz2, q3, q4, q5, fun j av hj => ?_⟩
        obtain ⟨v, h1, h2⟩ := q6 j av hj
        exact ⟨v, RepA.evo hevo _ _ h1, h2⟩
  · simp only at hy
    rcases hget i y hy with ⟨_, rfl⟩ | ⟨_, hy'⟩
    · exact hf
    · exact hI.frm i y hy'
  · simp only at hi
    by_cases h1 : i = loc
    · rw [if_pos h1] at hi; cases hi
    · rw [if_neg h1] at hi; exact .inl ⟨i, o, hi⟩

/-! ### append in the machine -/
structure AppT (P : Program) (types : Array TypeId) (e : TypeId) (ei : TI) : Prop where
  t0 : ∃ t, types[0]? = some t ∧ P.underlying t = some (.slice e)
  t1 : ∃ t d, types[1]? = some t ∧ P.underlying t = some d ∧ ∀ q, d ≠ .int q
  el : tiOf P e = some ei

theorem notInt {d : TypeDesc} (h : ∀ q, d ≠ .int q) : (match d with | .int _ => true | _ => false) = false := by
  cases d <;> first | rfl | exact absurd rfl (h _)

theorem run_app_room {types : Array TypeId} {e : TypeId} {ei : TI} (hT : AppT P types e ei) (ty : TypeId) {base : Option Addr} {sLen sCap n : Nat} {x : Value} {news : Array Value} {w w' : World}
    (hlen : (Builtin.lenOf x).run P w = .ok n w) (hle : sLen + n ≤ sCap) (hnew : (Builtin.firstCells ei.size n x).run P w = .ok news w)
    (hst : ∀ a, base = some a → (storeCells (a.add (sLen * ei.size)) news.toList).run P w = .ok () w') (hno : base = none → w' = w) :
    (Builtin.append_ types ty #[.slice base sLen sCap, x]).run P w = .ok (.slice base (sLen + n) sCap) w' := by
  obtain ⟨t0, h0, hu0⟩ := hT.t0
  obtain ⟨t1, d1, h1, hu1, hni⟩ := hT.t1
  have hd := notInt hni
  cases base with
  | none =>
    have := hno rfl
    subst this
    simp [Builtin.append_, h0, h1, run_underlying hu0, run_underlying hu1, run_sizeOf' hT.el, hd, hlen, hle, hnew]
  | some a =>
    have := hst a rfl
    simp [Builtin.append_, h0, h1, run_underlying hu0, run_underlying hu1, run_sizeOf' hT.el, hd, hlen, hle, hnew, this]

theorem run_app_grow {types : Array TypeId} {e : TypeId} {ei : TI} (hT : AppT P types e ei) (ty : TypeId) {z : Value} (hz : ei.zero = some z) {base : Option Addr} {sLen sCap n : Nat} {x : Value} {olds news : Array Value} {w : World}
    (hlen : (Builtin.lenOf x).run P w = .ok n w) (hlt : sCap < sLen + n) (hnew : (Builtin.firstCells ei.size n x).run P w.drew = .ok news w.drew) (hold : (Builtin.firstCells ei.size sLen (.slice base sLen sCap)).run P w.drew = .ok olds w.drew)
    (h30 : sLen + n ≤ sliceMost) (hb : ei.bytes ≤ 16384) :
    (Builtin.append_ types ty #[.slice base sLen sCap, x]).run P w =
      .ok (.slice (some ⟨w.heap.size, 0, none⟩) (sLen + n) (grownCap w (sLen + n) sCap e)) (w.drew.alloc (.cells (olds ++ news ++ Builtin.zeroCells z.cells (grownCap w (sLen + n) sCap e - (sLen + n))) e)) := by
  obtain ⟨t0, h0, hu0⟩ := hT.t0
  obtain ⟨t1, d1, h1, hu1, hni⟩ := hT.t1
  have hd := notInt hni
  obtain ⟨info, d, i1, i2, i3, i4, i5, i6⟩ := ti_spec hT.el
  have hn : ¬ (sLen + n ≤ sCap) := by omega
  have hfit : ¬ (281474976710656 < Builtin.nextslicecap (sLen + n) sCap * info.bytes) := by
    have h1 := nextslicecap_le hlt
    have h2 : Builtin.nextslicecap (sLen + n) sCap * info.bytes ≤ (2 * sliceMost) * 16384 := Nat.mul_le_mul (by omega) (by omega)
    have : (2 * sliceMost) * 16384 ≤ 281474976710656 := by decide
    omega
  have h63 : ¬ (9223372036854775807 < ((sLen : Int) + (n : Int))) := by
    have : sliceMost ≤ 9223372036854775807 := by decide
    omega
  have hz' : info.zero = some z := by rw [← i5]; exact hz
  have hs' : info.size = ei.size := i3.symm
  rw [← hs'] at hnew hold
  simp [Builtin.append_, h0, h1, run_underlying hu0, run_underlying hu1, hd, hlen, hn, sizeOf, typeInfo, zeroValue, i1, hz', hfit, h63, Question.forced, hnew, hold, newRow, grownCap]

/-- What an operation that may also write does. -/
def LOk (P : Program) (k : Keep) (M : Mem) (e : TypeId) (ub : Value) (st' : Store) (v : AV) (s : Sem Value) : Prop :=
  ∃ w' m' u, s.run P M.w = .ok u w' ∧ RepA k ⟨m', st', w'⟩ v u ∧ Stp k M ⟨m', st', w'⟩ ∧ (SlTy M.w e ub → SlTy w' e u)

theorem SlTy.len {w : World} {e : TypeId} {a : Option Addr} {n n' c c' : Nat} (h : SlTy w e (.slice a n c)) : SlTy w e (.slice a n' c') := by
  intro b o sp m c2 hu
  cases hu
  exact h b o sp n c rfl

theorem SlTy.none {w : World} {e : TypeId} {n c : Nat} : SlTy w e (.slice Option.none n c) := fun b o sp m c2 hu => by cases hu

theorem SlTy.new {w : World} {e : TypeId} {cs : Array Value} {b o n c : Nat} {fz : Nat × Nat} (h : w.heap[b]? = some (Obj.cells cs e fz)) (hz : fz.1 = 0) (ho : o = 0) : SlTy w e (.slice (some ⟨b, o, Option.none⟩) n c) := by
  intro b' o' sp m c2 hu
  cases hu
  exact ⟨ho, cs, fz, h, hz⟩

theorem flatC_append (a b : List Value) : flatC (a ++ b) = flatC a ++ flatC b := by simp [flatC]

theorem RepAs.append {k : Keep} {M : Mem} : ∀ {a b : List AV} {us vs : List Value}, RepAs k M a us → RepAs k M b vs → RepAs k M (a ++ b) (us ++ vs)
  | [], b, us, vs, h, h2 => by have : us = [] := h; subst this; exact h2
  | x :: a, b, us, vs, ⟨v, t, e, hx, hr⟩, h2 => by subst e; exact ⟨v, t ++ vs, rfl, hx, RepAs.append hr h2⟩

theorem storeCells_nil (a : Addr) (w : World) : (storeCells a []).run P w = .ok () w := rfl

theorem zeroOk_some {ei : TI} (h : zeroOk ei = true) : ∃ z, ei.zero = some z ∧ z.cells.size = ei.size := by
  unfold zeroOk at h
  split at h
  · rename_i z hz; exact ⟨z, hz, by simpa using h⟩
  · cases h

/-- A row made anew by an append. -/
theorem app_new {k : Keep} {M : Mem} (hI : Inv k M) {types : Array TypeId} {e : TypeId} {ei : TI} (hT : AppT P types e ei) (ty : TypeId) (hs0 : ei.size ≠ 0) (hb : ei.bytes ≤ 16384) (hzo : zeroOk ei = true)
    {wr : Bool} {l xs : List AV} {us vs : List Value} {a : Option Addr} {cap : Nat} {x : Value} (hcap : cap < l.length + xs.length) (h30 : l.length + xs.length ≤ sliceMost)
    (hl : RepAs k M l us) (hus : ∀ u ∈ us, u.cells.size = ei.size) (huc : ∀ u ∈ us, ∀ c ∈ u.cells, cellV c = true) (hxs : RepAs k M xs vs) (hvs : ∀ u ∈ vs, u.cells.size = ei.size) (hvc : ∀ u ∈ vs, ∀ c ∈ u.cells, cellV c = true)
    (hlen : ∀ w : World, (Builtin.lenOf x).run P w = .ok xs.length w) (hnew : ∀ w : World, w.heap = M.w.heap → (Builtin.firstCells ei.size xs.length x).run P w = .ok (flatC vs).toArray w)
    (hold : ∀ w : World, w.heap = M.w.heap → (Builtin.firstCells ei.size l.length (.slice a l.length cap)).run P w = .ok (flatC us).toArray w) :
    LOk P k M e (.slice a l.length cap) (M.st ++ [⟨ei.size, l ++ xs, true, !wr, false⟩]) (.sref M.st.length (l ++ xs).length ei.size 0 (l ++ xs).length) (Builtin.append_ types ty #[.slice a l.length cap, x]) := by
  obtain ⟨z, hz, hzs⟩ := zeroOk_some hzo
  have hrun := run_app_grow hT ty hz (hlen M.w) hcap (hnew M.w.drew rfl) (hold M.w.drew rfl) h30 hb
  have S1 : Stp k M ⟨M.m, M.st ++ [⟨ei.size, l ++ xs, true, !wr, false⟩], M.w⟩ := hI.more (fun i y hy => by rw [List.getElem?_append_left (List.getElem?_eq_some_iff.1 hy).1]; exact hy) (by simp) (fun i y hy => by
    by_cases hi : i < M.st.length
    · rw [List.getElem?_append_left hi] at hy; exact hI.frm i y hy
    · rw [List.getElem?_append_right (by omega)] at hy
      have : i - M.st.length = 0 := by have := (List.getElem?_eq_some_iff.1 hy).1; simp at this; omega
      rw [this] at hy; simp at hy; subst hy
      exact ⟨fun h => by simp at h, fun h => by simp at h⟩)
  have hall := (RepAs.append hl hxs)
  have hsz : ∀ u ∈ us ++ vs, u.cells.size = ei.size := fun u hu => (List.mem_append.1 hu).elim (hus u) (hvs u)
  have hsc : ∀ u ∈ us ++ vs, ∀ c ∈ u.cells, cellV c = true := fun u hu => (List.mem_append.1 hu).elim (huc u) (hvc u)
  have hge := grownCap_ge M.w (l.length + xs.length) cap e
  have e1 := (RepAs.iff _ _).1 hl |>.1
  have e2 := (RepAs.iff _ _).1 hxs |>.1
  have f1 := flatC_len us hus
  have f2 := flatC_len vs hvs
  have hm : M.m M.st.length = none := by
    cases hh : M.m M.st.length with
    | none => rfl
    | some p => exact absurd (hI.dom _ _ hh) (by omega)
  have hcsz : ((flatC us).toArray ++ (flatC vs).toArray ++ Builtin.zeroCells z.cells (grownCap M.w (l.length + xs.length) cap e - (l.length + xs.length))).size = grownCap M.w (l.length + xs.length) cap e * ei.size := by
    simp only [Array.size_append, List.size_toArray, size_zeroCells, hzs, f1, f2, ← e1, ← e2, ← Nat.add_mul]
    congr 1
    omega
  obtain ⟨m', r1, r2, _⟩ := newRow_ok (M := ⟨M.m, M.st ++ [⟨ei.size, l ++ xs, true, !wr, false⟩], M.w⟩) S1.inv (n := M.st.length) (sh := !wr) hs0 (RepAs.evo S1.evo _ _ hall) hsz hsc
    (by simp) hm (w0 := M.w.drew) rfl rfl rfl rfl (cs := (flatC us).toArray ++ (flatC vs).toArray ++ Builtin.zeroCells z.cells (grownCap M.w (l.length + xs.length) cap e - (l.length + xs.length))) (e := e) (fz0 := (0, 0))
    (cap := grownCap M.w (l.length + xs.length) cap e) (by rw [hcsz]; exact Nat.le_refl _) (by rw [List.length_append]; omega) (fun j _ h => by simp at h)
    (fun j c hc => by
      rw [flatC_append] at hc
      have hj := (List.getElem?_eq_some_iff.1 hc).1
      rw [Array.getElem?_append_left (by simpa using hj)]
      rw [← Array.getElem?_toList]
      simpa using hc)
  refine ⟨_, m', _, hrun, ?_, S1.trans r2, fun _ => SlTy.new (cs := _) (fz := (0, 0)) (heap_alloc_new M.w.drew _) rfl rfl⟩
  simpa only [List.length_append] using r1

/-- A row of the store, made anew by an append that finds no room. -/
theorem app_re {k : Keep} {M : Mem} (hI : Inv k M) {types : Array TypeId} {e : TypeId} {ei : TI} (hT : AppT P types e ei) (ty : TypeId) (hs0 : ei.size ≠ 0) (hb : ei.bytes ≤ 16384) (hzo : zeroOk ei = true)
    {loc : Nat} {b : Blk} (hbk : M.st[loc]? = some b) (hrow : b.row = true)
    {xs : List AV} {us vs : List Value} {a : Option Addr} {cap : Nat} {x : Value} (hcap : cap < b.elems.length + xs.length) (hx0 : xs ≠ []) (h30 : b.elems.length + xs.length ≤ sliceMost)
    (hl : RepAs k M b.elems us) (hus : ∀ u ∈ us, u.cells.size = ei.size) (huc : ∀ u ∈ us, ∀ c ∈ u.cells, cellV c = true) (hxs : RepAs k M xs vs) (hvs : ∀ u ∈ vs, u.cells.size = ei.size) (hvc : ∀ u ∈ vs, ∀ c ∈ u.cells, cellV c = true)
    (hlen : ∀ w : World, (Builtin.lenOf x).run P w = .ok xs.length w) (hnew : ∀ w : World, w.heap = M.w.heap → (Builtin.firstCells ei.size xs.length x).run P w = .ok (flatC vs).toArray w)
    (hold : ∀ w : World, w.heap = M.w.heap → (Builtin.firstCells ei.size b.elems.length (.slice a b.elems.length cap)).run P w = .ok (flatC us).toArray w) :
    LOk P k M e (.slice a b.elems.length cap) (M.st.set loc ⟨ei.size, b.elems ++ xs, true, b.shut, false⟩) (.sref loc (b.elems ++ xs).length ei.size 0 (b.elems ++ xs).length) (Builtin.append_ types ty #[.slice a b.elems.length cap, x]) := by
  obtain ⟨z, hz, hzs⟩ := zeroOk_some hzo
  have hrun := run_app_grow hT ty hz (hlen M.w) hcap (hnew M.w.drew rfl) (hold M.w.drew rfl) h30 hb
  have hloc := (List.getElem?_eq_some_iff.1 hbk).1
  have hxl : 0 < xs.length := List.length_pos_iff.2 hx0
  have S1 := reblk hI hbk (x' := ⟨ei.size, b.elems ++ xs, true, b.shut, false⟩) hrow.symm rfl (.inl (by simp; omega)) ⟨fun h => by simp at h, fun h => by simp at h⟩
  have hall := (RepAs.append hl hxs)
  have hsz : ∀ u ∈ us ++ vs, u.cells.size = ei.size := fun u hu => (List.mem_append.1 hu).elim (hus u) (hvs u)
  have hsc : ∀ u ∈ us ++ vs, ∀ c ∈ u.cells, cellV c = true := fun u hu => (List.mem_append.1 hu).elim (huc u) (hvc u)
  have hge := grownCap_ge M.w (b.elems.length + xs.length) cap e
  have e1 := (RepAs.iff _ _).1 hl |>.1
  have e2 := (RepAs.iff _ _).1 hxs |>.1
  have f1 := flatC_len us hus
  have f2 := flatC_len vs hvs
  have hcsz : ((flatC us).toArray ++ (flatC vs).toArray ++ Builtin.zeroCells z.cells (grownCap M.w (b.elems.length + xs.length) cap e - (b.elems.length + xs.length))).size = grownCap M.w (b.elems.length + xs.length) cap e * ei.size := by
    simp only [Array.size_append, List.size_toArray, size_zeroCells, hzs, f1, f2, ← e1, ← e2, ← Nat.add_mul]
    congr 1
    omega
  obtain ⟨m', r1, r2, _⟩ := newRow_ok S1.inv (n := loc) (sh := b.shut) hs0 (RepAs.evo S1.evo _ _ hall) hsz hsc
    (List.getElem?_set_self hloc) (by simp) (w0 := M.w.drew) rfl rfl rfl rfl (cs := (flatC us).toArray ++ (flatC vs).toArray ++ Builtin.zeroCells z.cells (grownCap M.w (b.elems.length + xs.length) cap e - (b.elems.length + xs.length))) (e := e) (fz0 := (0, 0))
    (cap := grownCap M.w (b.elems.length + xs.length) cap e) (by rw [hcsz]; exact Nat.le_refl _) (by rw [List.length_append]; omega) (fun j _ h => by simp at h)
    (fun j c hc => by
      rw [flatC_append] at hc
      have hj := (List.getElem?_eq_some_iff.1 hc).1
      rw [Array.getElem?_append_left (by simpa using hj)]
      rw [← Array.getElem?_toList]
      simpa using hc)
  refine ⟨_, m', _, hrun, ?_, S1.trans r2, fun _ => SlTy.new (cs := _) (fz := (0, 0)) (heap_alloc_new M.w.drew _) rfl rfl⟩
  simpa only [List.length_append] using r1

theorem appV_sound {k : Keep} {M : Mem} (hI : Inv k M) {types : Array TypeId} {e : TypeId} {ei : TI} (hT : AppT P types e ei) (ty : TypeId) {wr : Bool} {base x r : AV} {ub ux : Value} {st' : Store}
    (hb : RepA k M base ub) (hx : RepA k M x ux) (h : appV M.st ei wr base x = some (r, st'))   : LOk P k M e ub st' r (Builtin.append_ types ty #[ub, ux]) := by
  unfold appV at h
  obtain ⟨xs, hxs, h9⟩ := Option.bind_eq_some_iff.1 h
  clear h
  have h := h9
  clear h9
  by_cases hc : (ei.size == 0 || Nat.blt 16384 ei.bytes || !(fitL ei.size xs && zeroOk ei)) = true
  · simp only [hc, cond_true] at h; cases h
  simp only [Bool.eq_false_iff.2 hc, cond_false] at h
  have hc := Bool.eq_false_iff.2 hc
  simp only [Bool.or_eq_false_iff, beq_eq_false_iff_ne, Bool.not_eq_false', Bool.and_eq_true] at hc
  obtain ⟨⟨hs0, hby⟩, hfit, hzo⟩ := hc
  have hby : ei.bytes ≤ 16384 := by
    rcases Nat.lt_or_ge 16384 ei.bytes with h | h
    · have : Nat.blt 16384 ei.bytes = true := Nat.ble_eq_true_of_le h
      rw [this] at hby; cases hby
    · exact h
  have blt_f : ∀ {a b : Nat}, Nat.blt a b = false → b ≤ a := fun {a b} h => by
    rcases Nat.lt_or_ge a b with h1 | h1
    · have : Nat.blt a b = true := Nat.ble_eq_true_of_le h1
      rw [this] at h; cases h
    · exact h1
  obtain ⟨vs, x1, x2, x3, x4, x5⟩ := elemsOf_sound (P := P) hI (fun _ _ h => h) hx hxs hs0 (.inl hfit)
  have x1' := fzEs_sound hI (st := M.st) (fun _ _ h => h) xs vs x1
  have xl := (RepAs.iff _ _).1 x1 |>.1
  have noop : ∀ (a : Option Addr) (l c : Nat), xs = [] → ub = .slice a l c → l ≤ c → LOk P k M e ub M.st base (Builtin.append_ types ty #[ub, ux]) := by
    intro a l c hxe hu hle
    subst hu hxe
    have hvs : vs = [] := List.length_eq_zero_iff.1 xl.symm
    subst hvs
    have := run_app_room hT ty (base := a) (sLen := l) (sCap := c) (n := 0) (x := ux) (news := #[]) (w := M.w) (w' := M.w) (x4 M.w) (by omega) (x5 M.w rfl) (fun a _ => storeCells_nil _ _) (fun _ => rfl)
    exact ⟨M.w, M.m, _, this, by simpa using hb, Stp.refl hI, fun h => h.len⟩
  split at h
  · -- nil
    have hu : ub = .slice none 0 0 := hb
    by_cases hxe : xs.isEmpty = true
    · simp only [hxe, cond_true] at h
      cases h
      exact noop none 0 0 (List.isEmpty_iff.1 hxe) hu (Nat.le_refl _)
    · simp only [Bool.eq_false_iff.2 hxe, cond_false] at h
      by_cases hm : Nat.blt sliceMost xs.length = true
      · simp [hm] at h
      · simp only [Bool.eq_false_iff.2 hm, cond_false, newRowV] at h
        cases h
        subst hu
        have hlen : 0 < xs.length := by cases xs with | nil => simp at hxe | cons => simp
        have := app_new hI hT ty hs0 hby hzo (wr := wr) (l := []) (xs := xs.map (fzE M.st)) (us := []) (vs := vs) (a := none) (cap := 0) (x := ux) (by simpa using hlen) (by simpa using blt_f (Bool.eq_false_iff.2 hm))
          rfl (by simp) (by simp) x1' x2 x3 (by simpa using x4) (by simpa using x5) (fun w _ => rfl)
        simpa using this
  · -- full
    rename_i l
    obtain ⟨a, rfl, hl⟩ := hb
    by_cases hxe : xs.isEmpty = true
    · simp only [hxe, cond_true] at h
      cases h
      exact noop a l.length l.length (List.isEmpty_iff.1 hxe) rfl (Nat.le_refl _)
    · simp only [Bool.eq_false_iff.2 hxe, cond_false] at h
      by_cases hm : (Nat.blt sliceMost (l.length + xs.length) || !(fitL ei.size (l.map .d))) = true
      · simp [hm] at h
      · simp only [Bool.eq_false_iff.2 hm, cond_false, newRowV] at h
        have hm := Bool.eq_false_iff.2 hm
        simp only [Bool.or_eq_false_iff, Bool.not_eq_false'] at hm
        cases h
        have hlen : 0 < xs.length := by cases xs with | nil => simp at hxe | cons => simp
        obtain ⟨us, u1, u2, u3, u4, u5⟩ := elemsOf_sound (P := P) hI (st := M.st) (fun _ _ h => h) (x := .full l) (u := .slice a l.length l.length) ⟨a, rfl, hl⟩ (xs := l.map .d) rfl hs0 (.inl hm.2)
        have := app_new hI hT ty hs0 hby hzo (wr := wr) (l := l.map .d) (xs := xs.map (fzE M.st)) (us := us) (vs := vs) (a := a) (cap := l.length) (x := ux) (by simp; omega) (by simpa using blt_f hm.1)
          u1 u2 u3 x1' x2 x3 (by simpa using x4) (by simpa using x5) (by simpa using u5)
        simpa using this
  · -- data
    rename_i l
    obtain ⟨a, c, rfl, hle, hl⟩ := hb
    by_cases hxe : xs.isEmpty = true
    · simp only [hxe, cond_true] at h
      cases h
      exact noop a l.length c (List.isEmpty_iff.1 hxe) rfl hle
    · simp [Bool.eq_false_iff.2 hxe] at h
  · -- a row
    rename_i loc ep es len
    obtain ⟨b, hbk, h9⟩ := Option.bind_eq_some_iff.1 h
    clear h
    have h := h9
    clear h9
    obtain ⟨b1, b2⟩ := getBlk_some hbk
    by_cases hm : (b.row && b.elems.length == len && (b.virt || b.es == ei.size) && !(Nat.blt sliceMost (len + xs.length))) = true
    · simp only [hm, cond_true] at h
      simp only [Bool.and_eq_true, beq_iff_eq, Bool.or_eq_true, Bool.not_eq_true'] at hm
      obtain ⟨⟨⟨hrow, hlen⟩, hves⟩, hmost⟩ := hm
      have hmost := blt_f hmost
      cases h
      obtain ⟨y, hy, _, _, hrest⟩ := hb
      rw [b1] at hy; cases hy
      obtain ⟨_, hcase⟩ := hrest b2
      have hloc := (List.getElem?_eq_some_iff.1 b1).1
      have hxm : (xs.map (fzE M.st)).length = xs.length := by simp
      by_cases hxe : xs = []
      · subst hxe
        rcases hcase with ⟨hv, rfl, _, rfl⟩ | ⟨hv, hes, hle, bl, base, c, hm0, rfl, hc, cs0, e0, fz0, hh0, hcap⟩
        · -- a row to come, nothing added
          have he0 : b.elems = [] := List.length_eq_zero_iff.1 hlen
          have hmn : M.m loc = none := by
            cases hh : M.m loc with
            | none => rfl
            | some p => obtain ⟨p1, p2⟩ := p; have := (hI.blk _ _ _ _ hh b1).1; rw [hv] at this; cases this
          have hvs : vs = [] := List.length_eq_zero_iff.1 xl.symm
          subst hvs
          have hrun := run_app_room hT ty (base := none) (sLen := 0) (sCap := 0) (n := 0) (x := ux) (news := #[]) (w := M.w) (w' := M.w) (x4 M.w) (by omega) (x5 M.w rfl) (fun a _ => storeCells_nil _ _) (fun _ => rfl)
          have S1 := reblk hI b1 (x' := ⟨ei.size, b.elems ++ [], true, b.shut, b.virt⟩) hrow.symm rfl (.inr ⟨hmn, by simp, rfl, fun h => by rw [hv] at h; cases h⟩) ⟨fun h => by simp at h, fun _ => by simp [he0]⟩
          refine ⟨M.w, fun i => if i = loc then none else M.m i, _, hrun, ⟨_, List.getElem?_set_self hloc, by simp, ⟨none, 0, rfl, by simp, by simp⟩, fun _ => ⟨rfl, .inl ⟨by simp [hv], rfl, rfl, rfl⟩⟩⟩, ?_, fun h => h.len⟩
          simpa using S1
        · -- nothing added
          have hvs : vs = [] := List.length_eq_zero_iff.1 xl.symm
          subst hvs
          have hes' : b.es = ei.size := hves.resolve_left (by rw [hv]; simp)
          have hrun := run_app_room hT ty (base := some ⟨bl, base + 0 * b.es, none⟩) (sLen := len) (sCap := c) (n := 0) (x := ux) (news := #[]) (w := M.w) (w' := M.w) (x4 M.w) (by omega) (x5 M.w rfl) (fun a _ => storeCells_nil _ _) (fun _ => rfl)
          have hsame : (⟨ei.size, b.elems ++ [], true, b.shut, b.virt && true⟩ : Blk) = b := by
            cases b; simp only at hrow hes' hv ⊢; simp [hrow, hes', hv]
          have hset : M.st.set loc b = M.st := by
            apply List.ext_getElem?
            intro i
            by_cases hi : i = loc
            · subst hi; rw [List.getElem?_set_self hloc]; exact b1.symm
            · rw [List.getElem?_set_ne (fun e => hi e.symm)]
          simp only [List.map_nil, List.isEmpty_nil, hsame, hset, List.length_nil, Nat.add_zero]
          refine ⟨M.w, M.m, _, hrun, ⟨b, b1, by omega, ⟨_, _, rfl, hc, by simp⟩, fun _ => ⟨hrow, .inr ⟨hv, hes'.symm, by omega, bl, base, c, hm0, by simp, hc, cs0, e0, fz0, hh0, hcap⟩⟩⟩, Stp.refl hI, fun h => h.len⟩
      · have hxe' : xs.isEmpty = false := by cases xs with | nil => exact absurd rfl hxe | cons => rfl
        have hxl : 0 < xs.length := List.length_pos_iff.2 hxe
        rw [hxe', Bool.and_false]
        rcases hcase with ⟨hv, rfl, _, rfl⟩ | ⟨hv, hes, hle, bl, base, c, hm0, rfl, hc, cs0, e0, fz0, hh0, hcap⟩
        · have he0 : b.elems = [] := List.length_eq_zero_iff.1 hlen
          have := app_re hI hT ty hs0 hby hzo b1 hrow (xs := xs.map (fzE M.st)) (us := []) (vs := vs) (a := none) (cap := 0) (x := ux) (by rw [hxm]; omega) (by simpa using hxe) (by rw [hxm, he0]; simpa using hmost)
            (by rw [he0]; rfl) (by simp) (by simp) x1' x2 x3 (by simpa using x4) (by simpa using x5) (fun w _ => by rw [he0]; rfl)
          simpa [he0] using this
        · have hes' : b.es = ei.size := hves.resolve_left (by rw [hv]; simp)
          obtain ⟨us, u1, u2, u3, u4, u5⟩ := elemsOf_sound (P := P) hI (st := M.st) (fun _ _ h => h) (x := .sref loc ep b.es 0 len) (u := .slice (some ⟨bl, base + 0 * b.es, none⟩) len c)
            ⟨b, b1, by omega, ⟨_, _, rfl, hc, by simp⟩, fun _ => ⟨hrow, .inr ⟨hv, rfl, by omega, bl, base, c, hm0, rfl, hc, cs0, e0, fz0, hh0, hcap⟩⟩⟩ (xs := b.elems)
            (by simp only [elemsOf, hbk, Option.bind_some]; rw [Nat.ble_eq_true_of_le (by omega)]; simp only [cond_true, List.drop_zero]; rw [List.take_of_length_le (by omega)]) hs0 (.inr ⟨_, _, _, _, _, b, rfl, hbk, hes'⟩)
          by_cases hroom : len + xs.length ≤ c
          · -- in place
            obtain ⟨_, hesp, cs, e1, fz1, hh, hsz, hfr, hel⟩ := hI.blk _ _ _ _ hm0 b1
            rw [hh0] at hh; cases hh
            have hh := hh0
            have f2 := flatC_len vs x2
            have hnl : (flatC vs).length = xs.length * ei.size := by rw [f2, xl]
            have hcap' : base + (len + xs.length) * ei.size ≤ cs0.size := by
              have h1 : (len + xs.length) * ei.size ≤ c * ei.size := Nat.mul_le_mul_right _ hroom
              rw [hes'] at hcap; simp only [Nat.zero_add] at hcap; omega
            have hadd : (len + xs.length) * ei.size = len * ei.size + xs.length * ei.size := Nat.add_mul _ _ _
            obtain ⟨ncs, n1, n2, n3, n4, n5, n6, n7, n8, n9⟩ := setCells_spec bl e0 fz0 (flatC vs) (base + len * ei.size) M.w cs0 hh (by rw [hnl]; omega)
            have hcells : ∀ u ∈ flatC vs, u.oneCell' = true := fun u hu => by
              rw [cellV_eq]
              simp only [flatC, List.mem_flatten, List.mem_map] at hu
              obtain ⟨l, ⟨y, hy, rfl⟩, hu⟩ := hu
              exact x3 y hy u (by simpa using hu)
            have hst := run_storeCells_cells (P := P) bl (base + len * ei.size) (flatC vs) 0 M.w (fun j hj => by
                rw [cell_of_row M.w bl _ cs0 e0 fz0 hh]
                rw [Array.getElem?_eq_getElem (by rw [hnl] at hj; omega)]; rfl) (fun j hj => by
                have := hfr (base + len * ei.size + 0 + j) (by rw [hnl] at hj; omega) (by omega) (fun _ => by rw [hes', hlen, Nat.mul_comm]; omega)
                unfold World.frozen?
                simp only [hh]
                simpa using this) hcells
            simp only [Nat.add_zero] at hst
            have hrun := run_app_room hT ty (base := some ⟨bl, base + 0 * b.es, none⟩) (sLen := len) (sCap := c) (n := xs.length) (x := ux) (news := (flatC vs).toArray) (w := M.w) (w' := M.w.setCells bl (base + len * ei.size) (flatC vs)) (x4 M.w) hroom (x5 M.w rfl)
              (fun a ha => by cases ha; rw [Addr.add_lit]; simpa using hst) (fun h => by cases h)
            have S1 := wrote hI hm0 b1 (x' := ⟨ei.size, b.elems ++ xs.map (fzE M.st), true, b.shut, false⟩) hrow.symm rfl hes'.symm rfl (by simp) ⟨fun h => by simp at h, fun h => by simp at h⟩ hh n5 n6 n1 n2 n7 n8 n9
              (fun j hj => n3 j (by rcases hj with hj | ⟨_, hj⟩
                                    · left; omega
                                    · left; rw [hes', hlen, Nat.mul_comm] at hj; omega))
              (by simp only [List.length_append, hxm, hes', hlen]; rw [Nat.mul_comm]; omega)
              (fun i av hi => by
                rw [hes']
                by_cases hi1 : i < b.elems.length
                · rw [List.getElem?_append_left hi1] at hi
                  obtain ⟨v, v1, v2, v3, v4⟩ := hel i av hi
                  refine ⟨v, v1, by rw [v2, hes'], v3, fun j u hu => ?_⟩
                  have hj := (Array.getElem?_eq_some_iff.1 hu).1
                  rw [v2, hes'] at hj
                  have h1 : (i + 1) * ei.size ≤ len * ei.size := Nat.mul_le_mul_right _ (by omega)
                  rw [Nat.add_mul] at h1
                  rw [n3 _ (.inl (by omega)), ← hes']
                  exact v4 j u hu
                · rw [List.getElem?_append_right (by omega)] at hi
                  have hilt := (List.getElem?_eq_some_iff.1 hi).1
                  rw [hxm] at hilt
                  obtain ⟨u, hu⟩ : ∃ u, vs[i - b.elems.length]? = some u := ⟨_, List.getElem?_eq_getElem (by omega)⟩
                  have hmem := List.mem_of_getElem? hu
                  refine ⟨u, ((RepAs.iff _ _).1 x1').2 _ _ _ hi hu, x2 u hmem, x3 u hmem, fun j q hq => ?_⟩
                  have hj := (Array.getElem?_eq_some_iff.1 hq).1
                  rw [x2 u hmem] at hj
                  have := n4 ((i - b.elems.length) * ei.size + j) q (by rw [flatC_get vs x2 _ j u hu hj]; exact hq)
                  rw [← this]
                  congr 1
                  have : i * ei.size = len * ei.size + (i - b.elems.length) * ei.size := by rw [← Nat.add_mul]; congr 1; omega
                  omega)
            refine ⟨_, M.m, _, hrun, ⟨_, List.getElem?_set_self hloc, by simp; omega, ⟨_, _, rfl, hroom, by simp⟩, fun _ => ⟨rfl, .inr ⟨rfl, rfl, by omega, bl, base, c, hm0, by simp, hroom, ncs, e0, fz0, n1, ?_⟩⟩⟩, S1, fun h => by
              obtain ⟨qo, cs2, fz2, q, qz⟩ := h _ _ _ _ _ rfl
              rw [hh] at q
              cases q
              exact SlTy.new n1 qz qo⟩
            simp only
            rw [n2]; rw [hes'] at hcap; exact hcap
          · -- made anew
            have := app_re hI hT ty hs0 hby hzo b1 hrow (xs := xs.map (fzE M.st)) (us := us) (vs := vs) (a := some ⟨bl, base + 0 * b.es, none⟩) (cap := c) (x := ux) (by rw [hxm]; omega) (by simpa using hxe) (by rw [hxm, hlen]; exact hmost)
              u1 u2 u3 x1' x2 x3 (by simpa using x4) (by simpa using x5) (by rw [hlen] at u5 ⊢; exact u5)
            rw [hlen] at this
            simpa [hlen] using this
    · simp [Bool.eq_false_iff.2 hm] at h
  · cases h

end Go.Eng
