/- The engine, part 4: types, loads, new blocks, stores. Conditions: none. -/
import Derived.Test.YtjbaoopiffcigaaE3
set_option linter.unusedVariables false
set_option linter.unusedSimpArgs false
namespace Go.Eng
variable {P : Program}

theorem ti_spec {t : TypeId} {i : TI} (h : tiOf P t = some i) : ∃ info d, P.info? t = some info ∧ P.underlying t = some d ∧ i.size = info.size ∧ i.bytes = info.bytes ∧ i.zero = info.zero ∧ i.k = kOf P d := by
  unfold tiOf at h
  split at h
  · rename_i info d h1 h2; cases h; exact ⟨info, d, h1, h2, rfl, rfl, rfl, rfl⟩
  · cases h

theorem run_isAgg {t : TypeId} {i : TI} (h : tiOf P t = some i) (w : World) : (isAgg t).run P w = .ok i.agg w := by
  obtain ⟨info, d, h1, h2, _, _, _, h6⟩ := ti_spec h
  unfold isAgg
  simp only [Sem.run_bind, run_underlying h2, Result.andThen_ok]
  unfold TI.agg
  rw [h6]
  cases d <;> rfl

theorem run_sizeOf' {t : TypeId} {i : TI} (h : tiOf P t = some i) (w : World) : (sizeOf t).run P w = .ok i.size w := by
  obtain ⟨info, d, h1, h2, h3, _⟩ := ti_spec h
  simp [sizeOf, typeInfo, h1, h3]

theorem run_zero {t : TypeId} {i : TI} {z : Value} (h : tiOf P t = some i) (hz : i.zero = some z) (w : World) : (zeroValue t).run P w = .ok z w := by
  obtain ⟨info, d, h1, h2, h3, _, h5, _⟩ := ti_spec h
  simp [zeroValue, typeInfo, h1, ← h5, hz]

theorem part_sound {k : Keep} {M : Mem} {x : AV} {v : Value} {ag : Bool} {size off : Nat} {r : AV} (h : RepA k M x v) (hp : part ag size off x = some r) :
    ∃ vr, RepA k M r vr ∧ (ag = true → vr = .agg (v.cells.extract off (off + size)) ∧ off + size ≤ v.cells.size) ∧ (ag = false → v.cells[off]? = some vr) := by
  unfold part at hp
  cases ag with
  | false =>
    simp only [cond_false] at hp
    have hne : x.cells ≠ [] := by intro e; rw [e] at hp; simp at hp
    obtain ⟨h1, h2, h3, h4, h5⟩ := RepA.cells h hne
    have hlt := (List.getElem?_eq_some_iff.1 hp).1
    obtain ⟨u, hu⟩ : ∃ u, v.cells[off]? = some u := ⟨_, Array.getElem?_eq_getElem (by omega)⟩
    exact ⟨u, h5 off r u hp hu, by simp, fun _ => hu⟩
  | true =>
    simp only [cond_true] at hp
    split at hp
    · rename_i l
      obtain ⟨cs, rfl, hl⟩ := h
      obtain ⟨h1, h2⟩ := (RepDs.iff l cs).1 hl
      by_cases hw : (off == 0 && l.length == size) = true
      · simp only [hw, cond_true] at hp
        cases hp
        simp only [Bool.and_eq_true, beq_iff_eq] at hw
        obtain ⟨rfl, rfl⟩ := hw
        refine ⟨.agg cs.toArray, ⟨cs, rfl, hl⟩, fun _ => ⟨?_, ?_⟩, by simp⟩
        · simp only [Value.cells]; congr 1; rw [h1]; simp
        · simp [Value.cells, h1]
      · have hw' := Bool.eq_false_iff.2 hw
        simp only [hw', cond_false] at hp
        by_cases hle : Nat.ble (off + size) l.length = true
        · simp only [hle, cond_true] at hp
          cases hp
          have hle := Nat.le_of_ble_eq_true hle
          refine ⟨.agg ((cs.drop off).take size).toArray, ⟨_, rfl, (RepDs.iff _ _).2 ⟨by simp [h1], fun i y u hy hu => ?_⟩⟩, fun _ => ⟨?_, ?_⟩, by simp⟩
          · rw [List.getElem?_take] at hy hu
            split at hy
            · rename_i hi
              rw [if_pos hi] at hu
              rw [List.getElem?_drop] at hy hu
              exact h2 _ y u hy hu
            · cases hy
          · simp only [Value.cells]; congr 1; apply Array.ext'; simp [List.take_drop]
          · simp [Value.cells, ← h1]; omega
        · have hle' := Bool.eq_false_iff.2 hle
          simp [hle'] at hp
    · rename_i l
      obtain ⟨cs, rfl, hl, hcell⟩ := h
      obtain ⟨h1, h2⟩ := (RepAs.iff l cs).1 hl
      by_cases hw : (off == 0 && l.length == size) = true
      · simp only [hw, cond_true] at hp
        cases hp
        simp only [Bool.and_eq_true, beq_iff_eq] at hw
        obtain ⟨rfl, rfl⟩ := hw
        refine ⟨.agg cs.toArray, ⟨cs, rfl, hl, hcell⟩, fun _ => ⟨?_, ?_⟩, by simp⟩
        · simp only [Value.cells]; congr 1; rw [h1]; simp
        · simp [Value.cells, h1]
      · have hw' := Bool.eq_false_iff.2 hw
        simp only [hw', cond_false] at hp
        by_cases hle : Nat.ble (off + size) l.length = true
        · simp only [hle, cond_true] at hp
          cases hp
          have hle := Nat.le_of_ble_eq_true hle
          refine ⟨.agg ((cs.drop off).take size).toArray, ⟨_, rfl, (RepAs.iff _ _).2 ⟨by simp [h1], fun i y u hy hu => ?_⟩, fun c hc => hcell c (List.mem_of_mem_drop (List.mem_of_mem_take hc))⟩, fun _ => ⟨?_, ?_⟩, by simp⟩
          · rw [List.getElem?_take] at hy hu
            split at hy
            · rename_i hi
              rw [if_pos hi] at hu
              rw [List.getElem?_drop] at hy hu
              exact h2 _ y u hy hu
            · cases hy
          · simp only [Value.cells]; congr 1; apply Array.ext'; simp [List.take_drop]
          · simp [Value.cells, ← h1]; omega
        · have hle' := Bool.eq_false_iff.2 hle
          simp [hle'] at hp
    · cases hp

theorem run_loadVar_agg {t : TypeId} {i : TI} (h : tiOf P t = some i) (hag : i.agg = true) (w : World) (b o : Nat) (cs : Array Value) (hs : cs.size = i.size)
    (hc : ∀ (j : Nat) u, cs[j]? = some u → cellAt w b (o + j) = some u) : (loadVar t ⟨b, o, none⟩).run P w = .ok (.agg cs) w := by
  have := run_loadCells_list (P := P) w ⟨b, o, none⟩ cs.toList (fun j v hj => by rw [Addr.add_lit]; exact hc j v (by simpa using hj))
  simp only [Array.length_toList, hs] at this
  simp only [loadVar, Sem.run_bind, run_isAgg h, Result.andThen_ok, hag, if_true, run_sizeOf' h, this]
  rfl

theorem run_loadVar_one {t : TypeId} {i : TI} (h : tiOf P t = some i) (hag : i.agg = false) (w : World) (b o : Nat) (u : Value) 
    (hc : cellAt w b o = some u) : (loadVar t ⟨b, o, none⟩).run P w = .ok u w := by
  simp only [loadVar, Sem.run_bind, run_isAgg h, Result.andThen_ok, hag, Bool.false_eq_true, if_false, run_load]
  rw [show w.cell? ⟨b, o, none⟩ = some u from hc]

/-- A part of a value that lies in memory from a cell on, read. -/
theorem load_part {k : Keep} {M : Mem} {t : TypeId} {i : TI} (ht : tiOf P t = some i) {x : AV} {v : Value} {off : Nat} {r : AV} (h : RepA k M x v) (hp : part i.agg i.size off x = some r)
    (b o : Nat) (hc : ∀ (j : Nat) u, v.cells[j]? = some u → cellAt M.w b (o + j) = some u) :
    ∃ vr, (loadVar t ⟨b, o + off, none⟩).run P M.w = .ok vr M.w ∧ RepA k M r vr := by
  obtain ⟨vr, h1, h2, h3⟩ := part_sound h hp
  refine ⟨vr, ?_, h1⟩
  cases hag : i.agg with
  | true =>
    obtain ⟨rfl, hle⟩ := h2 hag
    refine run_loadVar_agg ht hag M.w b (o + off) _ (by simp; omega) fun j u hu => ?_
    rw [Array.getElem?_extract] at hu
    split at hu
    · rename_i hlt; rw [Nat.add_assoc]; exact hc _ u hu
    · cases hu
  | false => exact run_loadVar_one ht hag M.w b (o + off) vr (hc off vr (h3 hag))

theorem RepA.unt {k : Keep} {M : Mem} {x : AV} {v : Value} (h : RepA k M x v) : RepA k M x.unt v := by
  cases x with
  | tptr t n loc off => exact h.1
  | tsref t loc ep es len => exact h.1
  | _ => exact h

theorem ldPtr0_sound {k : Keep} {M : Mem} (hI : Inv k M) {st : Store} (hst : ∀ (i : Nat) b, st[i]? = some b → M.st[i]? = some b) {t : TypeId} {i : TI} (ht : tiOf P t = some i)
    {p r : AV} {u : Value} (hu : RepA k M p u) (h : ldPtr0 st i p = some r) : ∃ ad vr, u = .pointer (some ad) ∧ (loadVar t ad).run P M.w = .ok vr M.w ∧ RepA k M r vr := by
  unfold ldPtr0 at h
  split at h
  · rename_i loc ep idx off
    obtain ⟨x, hx, h⟩ := Option.bind_eq_some_iff.1 h
    obtain ⟨e, he, h⟩ := Option.bind_eq_some_iff.1 h
    obtain ⟨hx1, hx2⟩ := getBlk_some hx
    obtain ⟨y, hy, _, hv, _⟩ := hu
    rw [hst _ _ hx1] at hy; cases hy
    obtain ⟨_, b, base, hm, rfl⟩ := hv hx2
    obtain ⟨_, hes, cs, el, fz', hh, hsz, hfr, hel⟩ := hI.blk _ _ _ _ hm (hst _ _ hx1)
    obtain ⟨v, hv1, hv2, hv3, hv4⟩ := hel _ _ he
    obtain ⟨vr, g1, g2⟩ := load_part ht hv1 h b (base + idx * x.es) (fun j u hu => by
      show M.w.cell? _ = _
      rw [cell_of_row M.w b _ cs el fz' hh]; exact hv4 j u hu)
    exact ⟨_, vr, rfl, g1, g2⟩
  · rename_i x off
    obtain ⟨b, o, v, rfl, hx, hj⟩ := hu
    obtain ⟨vr, g1, g2⟩ := load_part ht (x := .d x) hx h b o (fun j u hu => (hj j u hu).1)
    exact ⟨_, vr, rfl, g1, g2⟩
  · cases h

theorem ldPtr_sound {k : Keep} {M : Mem} (hI : Inv k M) {st : Store} (hst : ∀ (i : Nat) b, st[i]? = some b → M.st[i]? = some b) {t : TypeId} {i : TI} (ht : tiOf P t = some i)
    {p r : AV} {u : Value} (hu : RepA k M p u) (h : ldPtr st i p = some r) : ∃ ad vr, u = .pointer (some ad) ∧ (loadVar t ad).run P M.w = .ok vr M.w ∧ RepA k M r vr :=
  ldPtr0_sound hI hst ht hu.unt h

/-! ### a new block -/
theorem cellAt_alloc (w : World) (o : Obj) (b j : Nat) (h : b < w.heap.size) : cellAt (w.alloc o) b j = cellAt w b j := by
  show World.cell? _ _ = World.cell? _ _
  unfold World.cell?
  rw [show (w.alloc o).heap[b]? = w.heap[b]? from heap_alloc_old w o h]

theorem lt_of_cellAt {w : World} {b j : Nat} {v : Value} (h : cellAt w b j = some v) : b < w.heap.size := World.block_lt_of_cell? w ⟨b, j, none⟩ h

/-- A new block of cells: a place of the store that had none gets it. -/
theorem grow {k : Keep} {M : Mem} (hI : Inv k M) {n base : Nat} {x : Blk} (hx : M.st[n]? = some x) (hn : M.m n = none) {cs : Array Value} {e : TypeId} {fz0 : Nat × Nat}
    (w0 : World) (hw : w0.heap = M.w.heap) (ho : w0.os = M.w.os) (htp : w0.tape = M.w.tape) (hout : w0.output = M.w.output)
    (hvi : x.virt = false) (hes : 0 < x.es) (hsz : base + x.es * x.elems.length ≤ cs.size)
    (hfr : ∀ j, j < cs.size → base ≤ j → (x.shut = true → base + x.es * x.elems.length ≤ j) → ¬ (fz0.1 ≤ j ∧ j < fz0.2))
    (hel : ∀ (i : Nat) av, x.elems[i]? = some av → ∃ v : Value, RepA k M av v ∧ v.cells.size = x.es ∧ (∀ u ∈ v.cells, cellV u = true) ∧ ∀ (j : Nat) u, v.cells[j]? = some u → cs[base + i * x.es + j]? = some u) :
    Stp k M ⟨fun j => if j = n then some (M.w.heap.size, base) else M.m j, M.st, w0.alloc (.cells cs e fz0)⟩ := by
  have hsize : (w0.alloc (.cells cs e fz0)).heap.size = M.w.heap.size + 1 := by simp [World.alloc, hw]
  have hold : ∀ b, b < M.w.heap.size → (w0.alloc (.cells cs e fz0)).heap[b]? = M.w.heap[b]? := fun b hb => by
    rw [show (w0.alloc (.cells cs e fz0)).heap[b]? = w0.heap[b]? from heap_alloc_old w0 _ (by rw [hw]; exact hb), hw]
  have hnew : (w0.alloc (.cells cs e fz0)).heap[M.w.heap.size]? = some (.cells cs e fz0) := by rw [← hw]; exact heap_alloc_new w0 _
  have hmlt : ∀ i b o, M.m i = some (b, o) → b < M.w.heap.size := by
    intro i b o hi
    obtain ⟨y, hy⟩ : ∃ y, M.st[i]? = some y := ⟨_, List.getElem?_eq_getElem (hI.dom _ _ hi)⟩
    obtain ⟨_, _, cs', e', f', hh, _⟩ := hI.blk _ _ _ _ hi hy
    exact (Array.getElem?_eq_some_iff.1 hh).1
  have hevo : Evo M ⟨fun j => if j = n then some (M.w.heap.size, base) else M.m j, M.st, w0.alloc (.cells cs e fz0)⟩ := by
    refine ⟨Nat.le_refl _, fun i y hy => ⟨y, hy, Nat.le_refl _, rfl, rfl, fun _ => ⟨rfl, fun _ => rfl, fun p hp => ?_⟩⟩, fun b o v hv hp => ?_, fun b c e' f' hb => ?_, by simp only [hsize]; omega⟩
    · show (if i = n then _ else _) = _
      rw [if_neg (fun e => by subst e; rw [hn] at hp; cases hp)]; exact hp
    · have hlt := lt_of_cellAt hv
      refine ⟨?_, fun i base' y hm hy => ?_⟩
      · show World.cell? _ _ = _
        unfold World.cell?
        rw [show (w0.alloc (.cells cs e fz0)).heap[b]? = _ from hold b hlt]
        exact hv
      · simp only at hm
        by_cases hi : i = n
        · rw [if_pos hi] at hm; cases hm; omega
        · rw [if_neg hi] at hm; exact hp i base' y hm hy
    · exact ⟨c, f', by rw [show (w0.alloc (.cells cs e fz0)).heap[b]? = _ from hold b (Array.getElem?_eq_some_iff.1 hb).1]; exact hb, rfl, id⟩
  refine ⟨⟨fun i j b o o' hi hj => ?_, fun i p hi => ?_, fun i b o hi => ?_, by simp only [hsize]; have := hI.big; omega, fun i b o y hi hy => ?_, hI.frm⟩, hevo, ⟨ho, htp, hout, fun b hb _ => hold b hb, fun i b o hi => ?_⟩⟩
  · simp only at hi hj
    by_cases h1 : i = n <;> by_cases h2 : j = n
    · rw [h1, h2]
    · rw [if_pos h1] at hi; rw [if_neg h2] at hj; cases hi; have := hmlt _ _ _ hj; omega
    · rw [if_neg h1] at hi; rw [if_pos h2] at hj; cases hj; have := hmlt _ _ _ hi; omega
    · rw [if_neg h1] at hi; rw [if_neg h2] at hj; exact hI.inj _ _ _ _ _ hi hj
  · simp only at hi
    by_cases h1 : i = n
    · rw [h1]; exact (List.getElem?_eq_some_iff.1 hx).1
    · rw [if_neg h1] at hi; exact hI.dom _ _ hi
  · simp only at hi
    by_cases h1 : i = n
    · rw [if_pos h1] at hi; cases hi; exact hI.big
    · rw [if_neg h1] at hi; exact hI.low _ _ _ hi
  · simp only at hi
    by_cases h1 : i = n
    · rw [if_pos h1] at hi; cases hi
      subst h1
      simp only at hy
      rw [hx] at hy; cases hy
      refine ⟨hvi, hes, cs, e, fz0, hnew, hsz, hfr, fun i av hi => ?_⟩
      obtain ⟨v, g1, g2⟩ := hel i av hi
      exact ⟨v, RepA.evo hevo _ _ g1, g2⟩
    · rw [if_neg h1] at hi
      obtain ⟨g1, g2, cs', e', f', hh, g3, g4, g5⟩ := hI.blk _ _ _ _ hi hy
      refine ⟨g1, g2, cs', e', f', by rw [show (w0.alloc (.cells cs e fz0)).heap[b]? = _ from hold b (hmlt _ _ _ hi)]; exact hh, g3, g4, fun i av hi => ?_⟩
      obtain ⟨v, q1, q2⟩ := g5 i av hi
      exact ⟨v, RepA.evo hevo _ _ q1, q2⟩
  · simp only at hi
    by_cases h1 : i = n
    · rw [if_pos h1] at hi; cases hi; exact .inr (Nat.le_refl _)
    · rw [if_neg h1] at hi; exact .inl ⟨i, o, hi⟩

end Go.Eng
