/- The engine, part 5: writing; a row that grows. Conditions: none. -/
import Derived.Test.YtjbaoopiffcigaaE4
set_option linter.unusedVariables false
set_option linter.unusedSimpArgs false
namespace Go.Eng
variable {P : Program}

theorem cellV_eq (v : Value) : v.oneCell' = cellV v := by cases v <;> rfl

/-- The store without blocks to come, and with them. -/
theorem Inv.more {k : Keep} {M : Mem} (hI : Inv k M) {st' : Store} (hpre : ∀ (i : Nat) x, M.st[i]? = some x → st'[i]? = some x) (hlen : M.st.length ≤ st'.length)
    (hf : ∀ (i : Nat) x, st'[i]? = some x → BlkForm x) : Stp k M ⟨M.m, st', M.w⟩ := by
  have hP : ∀ brw b o, Prot brw M.m M.st b o → Prot brw M.m st' b o := fun brw b o h i base x hm hx => by
    obtain ⟨y, hy⟩ : ∃ y, M.st[i]? = some y := ⟨_, List.getElem?_eq_getElem (hI.dom _ _ hm)⟩
    have := hpre i y hy
    rw [hx] at this; cases this
    exact h i base x hm hy
  have hevo : Evo M ⟨M.m, st', M.w⟩ := ⟨hlen, fun i x hx => ⟨x, hpre i x hx, Nat.le_refl _, rfl, rfl, fun _ => ⟨rfl, fun _ => rfl, fun _ h => h⟩⟩, fun b o v hv hp => ⟨hv, hP _ _ _ hp⟩,
    fun b cs e fz h => ⟨cs, fz, h, rfl, id⟩, Nat.le_refl _⟩
  refine ⟨⟨hI.inj, fun i p hi => Nat.lt_of_lt_of_le (hI.dom i p hi) hlen, hI.low, hI.big, fun i b o x hm hx => ?_, hf⟩, hevo, ⟨rfl, rfl, rfl, fun _ _ _ => rfl, fun i b o h => .inl ⟨i, o, h⟩⟩⟩
  obtain ⟨y, hy⟩ : ∃ y, M.st[i]? = some y := ⟨_, List.getElem?_eq_getElem (hI.dom _ _ hm)⟩
  have := hpre i y hy
  simp only at hx
  rw [hx] at this; cases this
  obtain ⟨g1, g2, cs, e, fz, g3, g4, g5, g6⟩ := hI.blk _ _ _ _ hm hy
  refine ⟨g1, g2, cs, e, fz, g3, g4, g5, fun j av hj => ?_⟩
  obtain ⟨v, h1, h2⟩ := g6 j av hj
  exact ⟨v, RepA.evo hevo _ _ h1, h2⟩

theorem Inv.lt {k : Keep} {M : Mem} (hI : Inv k M) {i b o : Nat} (hi : M.m i = some (b, o)) : b < M.w.heap.size := by
  obtain ⟨y, hy⟩ : ∃ y, M.st[i]? = some y := ⟨_, List.getElem?_eq_getElem (hI.dom _ _ hi)⟩
  obtain ⟨_, _, cs', e', f', hh, _⟩ := hI.blk _ _ _ _ hi hy
  exact (Array.getElem?_eq_some_iff.1 hh).1

/-- A block is written (and its place of the store with it). -/
theorem wrote {k : Keep} {M : Mem} (hI : Inv k M) {loc b base : Nat} {x x' : Blk} (hm : M.m loc = some (b, base)) (hx : M.st[loc]? = some x)
    (hrow : x'.row = x.row) (hsh : x'.shut = x.shut) (hes : x'.es = x.es) (hvi : x'.virt = false) (hlen : x.elems.length ≤ x'.elems.length) (hform : BlkForm x')
    {cs ncs : Array Value} {e : TypeId} {fz0 : Nat × Nat} (hh : M.w.heap[b]? = some (.cells cs e fz0)) {w' : World}
    (hw1 : w'.heap.size = M.w.heap.size) (hw2 : ∀ b', b' ≠ b → w'.heap[b']? = M.w.heap[b']?) (hw3 : w'.heap[b]? = some (.cells ncs e fz0)) (hn : ncs.size = cs.size)
    (ho : w'.os = M.w.os) (htp : w'.tape = M.w.tape) (hout : w'.output = M.w.output)
    (hkeep : ∀ j, (j < base ∨ (x.shut = true ∧ j < base + x.es * x.elems.length)) → ncs[j]? = cs[j]?)
    (hfit : base + x.es * x'.elems.length ≤ cs.size)
    (hel : ∀ (i : Nat) av, x'.elems[i]? = some av → ∃ v : Value, RepA k M av v ∧ v.cells.size = x.es ∧ (∀ u ∈ v.cells, cellV u = true) ∧ ∀ (j : Nat) u, v.cells[j]? = some u → ncs[base + i * x.es + j]? = some u) :
    Stp k M ⟨M.m, M.st.set loc x', w'⟩ := by
  have hloc := hI.dom _ _ hm
  obtain ⟨g1, g2, cs0, e0, fz1, g3, g4, g5, g6⟩ := hI.blk _ _ _ _ hm hx
  rw [hh] at g3; cases g3
  have hget : ∀ (i : Nat) y, (M.st.set loc x')[i]? = some y → (i = loc ∧ y = x') ∨ (i ≠ loc ∧ M.st[i]? = some y) := fun i y hy => by
    by_cases hi : i = loc
    · subst hi; rw [List.getElem?_set_self hloc] at hy; cases hy; exact .inl ⟨rfl, rfl⟩
    · rw [List.getElem?_set_ne (fun e => hi e.symm)] at hy; exact .inr ⟨hi, hy⟩
  have hset : (M.st.set loc x')[loc]? = some x' := List.getElem?_set_self hloc
  have hcell : ∀ b' o v, cellAt M.w b' o = some v → Prot false M.m M.st b' o → cellAt w' b' o = some v := fun b' o v hv hp => by
    by_cases hb : b' = b
    · subst hb
      show w'.cell? _ = _
      rw [cell_of_row w' b' _ ncs e fz0 hw3]
      have hv' : M.w.cell? ⟨b', o, none⟩ = some v := hv
      rw [cell_of_row M.w b' _ cs e fz0 hh] at hv'
      rw [hkeep o ((hp loc base x hm hx).imp id fun ⟨h, hl⟩ => ⟨h.resolve_left (by simp), hl⟩)]
      exact hv'
    · show World.cell? _ _ = _
      unfold World.cell?
      rw [hw2 b' hb]; exact hv
  have hevo : Evo M ⟨M.m, M.st.set loc x', w'⟩ := by
    refine ⟨by simp, fun i y hy => ?_, fun b' o v hv hp => ⟨hcell b' o v hv hp, fun i base' y hm' hy => ?_⟩, fun b' c e' f' hb => ?_, by simp only [hw1]; exact Nat.le_refl _⟩
    · by_cases hi : i = loc
      · subst hi
        rw [hx] at hy; cases hy
        exact ⟨x', hset, hlen, hrow, hsh, fun _ => ⟨by rw [hvi, g1], fun _ => hes, fun p hp => hp⟩⟩
      · exact ⟨y, by simp only; rw [List.getElem?_set_ne (fun e => hi e.symm)]; exact hy, Nat.le_refl _, rfl, rfl, fun _ => ⟨rfl, fun _ => rfl, fun _ h => h⟩⟩
    · simp only at hm' hy
      rcases hget i y hy with ⟨rfl, rfl⟩ | ⟨hi, hy'⟩
      · rw [hm] at hm'; cases hm'
        refine (hp _ _ x hm hx).imp id fun ⟨h, hl⟩ => ⟨h.imp id fun h => by rw [hsh]; exact h, ?_⟩
        rw [hes]
        exact Nat.lt_of_lt_of_le hl (Nat.add_le_add_left (Nat.mul_le_mul_left _ hlen) _)
      · exact hp i base' y hm' hy'
    · by_cases hbb : b' = b
      · subst hbb; rw [hh] at hb; cases hb; exact ⟨ncs, _, hw3, hn, id⟩
      · exact ⟨c, f', by simp only; rw [hw2 b' hbb]; exact hb, rfl, id⟩
  refine ⟨⟨hI.inj, fun i p hi => by simp only [List.length_set]; exact hI.dom i p hi, hI.low, by simp only [hw1]; exact hI.big, fun i b' o y hm' hy => ?_, fun i y hy => ?_⟩, hevo,
    ⟨ho, htp, hout, fun b' hb hno => hw2 b' (fun e => hno loc base (by rw [e]; exact hm)), fun i b' o h => .inl ⟨i, o, h⟩⟩⟩
  · simp only at hm' hy
    rcases hget i y hy with ⟨rfl, rfl⟩ | ⟨hi, hy'⟩
    · rw [hm] at hm'; cases hm'
      refine ⟨hvi, by rw [hes]; exact g2, ncs, e, fz0, hw3, by rw [hes, hn]; exact hfit, fun j hj hbj hs => ?_, fun j av hj => ?_⟩
      · rw [hn] at hj
        refine g5 j hj hbj fun h => ?_
        have := hs (by rw [hsh]; exact h)
        rw [hes] at this
        exact Nat.le_trans (Nat.add_le_add_left (Nat.mul_le_mul_left _ hlen) _) this
      · obtain ⟨v, h1, h2, h3, h4⟩ := hel j av hj
        exact ⟨v, RepA.evo hevo _ _ h1, by rw [hes]; exact h2, h3, fun q u hq => by rw [hes]; exact h4 q u hq⟩
    · have hne : b' ≠ b := fun e => by subst e; exact hi (hI.inj _ _ _ _ _ hm' hm)
      obtain ⟨q1, q2, cs2, e2, fz2, q3, q4, q5, q6⟩ := hI.blk _ _ _ _ hm' hy'
      refine ⟨q1, q2, cs2, e2, fz2, by simp only; rw [hw2 b' hne]; exact q3, q4, q5, fun j av hj => ?_⟩
      obtain ⟨v, h1, h2⟩ := q6 j av hj
      exact ⟨v, RepA.evo hevo _ _ h1, h2⟩
  · rcases hget i y hy with ⟨rfl, rfl⟩ | ⟨hi, hy'⟩
    · exact hform
    · exact hI.frm i y hy'

/-- Cells written one behind another. -/
theorem setCells_spec (b : Nat) (e : TypeId) (fz0 : Nat × Nat) : ∀ (vs : List Value) (o : Nat) (w : World) (cs : Array Value), w.heap[b]? = some (.cells cs e fz0) → o + vs.length ≤ cs.size →
    ∃ ncs : Array Value, (w.setCells b o vs).heap[b]? = some (.cells ncs e fz0) ∧ ncs.size = cs.size ∧ (∀ j, (j < o ∨ o + vs.length ≤ j) → ncs[j]? = cs[j]?) ∧ (∀ (j : Nat) u, vs[j]? = some u → ncs[o + j]? = some u) ∧
      (w.setCells b o vs).heap.size = w.heap.size ∧ (∀ b', b' ≠ b → (w.setCells b o vs).heap[b']? = w.heap[b']?) ∧ (w.setCells b o vs).os = w.os ∧ (w.setCells b o vs).tape = w.tape ∧ (w.setCells b o vs).output = w.output
  | [], o, w, cs, h, _ => ⟨cs, h, rfl, fun _ _ => rfl, fun j u hu => by simp at hu, rfl, fun _ _ => rfl, rfl, rfl, rfl⟩
  | v :: r, o, w, cs, h, hl => by
    simp only [List.length_cons] at hl
    have hb : b < w.heap.size := (Array.getElem?_eq_some_iff.1 h).1
    have h1 : (w.setCell ⟨b, o, none⟩ v).heap[b]? = some (.cells (cs.setIfInBounds o v) e fz0) := by
      simp [World.setCell, Array.getElem?_modify, h]
    obtain ⟨ncs, g1, g2, g3, g4, g5, g6, g7, g8, g9⟩ := setCells_spec b e fz0 r (o + 1) (w.setCell ⟨b, o, none⟩ v) _ h1 (by simp; omega)
    refine ⟨ncs, g1, by rw [g2]; simp, fun j hj => ?_, fun j u hu => ?_, g5.trans (by simp [World.setCell]), fun b' hb' => (g6 b' hb').trans ?_, g7, g8, g9⟩
    · simp only [List.length_cons] at hj
      rw [g3 j (by omega), Array.getElem?_setIfInBounds_ne (by omega)]
    · cases j with
      | zero =>
        simp at hu; subst hu
        rw [Nat.add_zero, g3 o (by omega)]
        simp [Array.getElem?_setIfInBounds, show o < cs.size by omega]
      | succ j =>
        have := g4 j u (by simpa using hu)
        rwa [show o + (j + 1) = o + 1 + j by omega]
    · simp only [World.setCell, Array.getElem?_modify]
      rw [if_neg (by simpa using fun e => hb' e.symm)]

theorem setPart_sound {k : Keep} {M : Mem} {x y r : AV} {v u : Value} {off : Nat} (hx : RepA k M x v) (hy : RepA k M y u) (hyne : y.cells ≠ []) (h : setPart off y x = some r) :
    ∃ vr : Value, RepA k M r vr ∧ vr.cells.size = v.cells.size ∧ (∀ c ∈ vr.cells, cellV c = true) ∧ off + u.cells.size ≤ v.cells.size ∧
      ∀ (j : Nat) c, vr.cells[j]? = some c → (off ≤ j ∧ j < off + u.cells.size ∧ u.cells[j - off]? = some c) ∨ ((j < off ∨ off + u.cells.size ≤ j) ∧ v.cells[j]? = some c) := by
  have hyl : 0 < y.cells.length := List.length_pos_iff.2 hyne
  have hxne : x.cells ≠ [] := by
    intro e
    unfold setPart at h
    rw [e] at h
    cases hag : x.isAgg <;> simp only [hag, cond_true, cond_false] at h
    · simp at h
    · have h1 : (y.cells.length == 0) = false := by apply beq_false_of_ne; omega
      have h2 : Nat.ble (off + y.cells.length) 0 = false := Bool.eq_false_iff.2 fun h3 => by have := Nat.le_of_ble_eq_true h3; omega
      simp [h1, h2] at h
  obtain ⟨x1, x2, x3, x4, x5⟩ := RepA.cells hx hxne
  obtain ⟨y1, y2, y3, y4, y5⟩ := RepA.cells hy hyne
  unfold setPart at h
  by_cases hag : x.isAgg = true
  · simp only [hag, cond_true] at h
    by_cases hw : (y.isAgg && (off == 0 && y.cells.length == x.cells.length)) = true
    · simp only [hw, cond_true] at h
      cases h
      simp only [Bool.and_eq_true, beq_iff_eq] at hw
      obtain ⟨_, rfl, hl⟩ := hw
      refine ⟨u, hy, by omega, y2, by omega, fun j c hc => .inl ⟨Nat.zero_le _, ?_, by simpa using hc⟩⟩
      have := (Array.getElem?_eq_some_iff.1 hc).1; omega
    · simp only [Bool.eq_false_iff.2 hw, cond_false] at h
      by_cases hle : Nat.ble (off + y.cells.length) x.cells.length = true
      · simp only [hle, cond_true] at h
        cases h
        have hle := Nat.le_of_ble_eq_true hle
        obtain ⟨cs, rfl⟩ := x3 hag
        simp only [Value.cells] at x1 x2 x5
        let cs' : List Value := cs.toList.take off ++ (u.cells.toList ++ cs.toList.drop (off + u.cells.size))
        have hsz : cs'.length = cs.size := by simp only [cs', List.length_append, List.length_take, List.length_drop, Array.length_toList]; omega
        have hget : ∀ (j : Nat) c, cs'[j]? = some c → (off ≤ j ∧ j < off + u.cells.size ∧ u.cells[j - off]? = some c) ∨ ((j < off ∨ off + u.cells.size ≤ j) ∧ cs[j]? = some c) := by
          intro j c hc
          have hl1 : (cs.toList.take off).length = off := by simp; omega
          by_cases h1 : j < off
          · right
            rw [List.getElem?_append_left (by omega), List.getElem?_take, if_pos h1] at hc
            exact ⟨.inl h1, by simpa using hc⟩
          · rw [List.getElem?_append_right (by omega), hl1] at hc
            by_cases h2 : j - off < u.cells.toList.length
            · left
              rw [List.getElem?_append_left h2] at hc
              simp only [Array.length_toList] at h2
              exact ⟨by omega, by omega, by simpa using hc⟩
            · right
              rw [List.getElem?_append_right (by omega), List.getElem?_drop] at hc
              simp only [Array.length_toList] at h2 hc
              refine ⟨.inr (by omega), ?_⟩
              rw [show off + u.cells.size + (j - off - u.cells.size) = j by omega] at hc
              simpa using hc
        refine ⟨.agg cs'.toArray, ⟨cs', rfl, (RepAs.iff _ _).2 ⟨?_, fun i a c ha hc => ?_⟩, fun c hc => ?_⟩, by simp [Value.cells, hsz], fun c hc => ?_, by show off + u.cells.size ≤ cs.size; omega, fun j c hc => hget j c (by simpa [Value.cells] using hc)⟩
        · simp only [cs', List.length_append, List.length_take, List.length_drop, Array.length_toList]; omega
        · have hl2 : (x.cells.take off).length = off := by simp; omega
          rcases hget i c hc with ⟨h1, h2, h3⟩ | ⟨h1, h3⟩
          · rw [List.getElem?_append_right (by omega), hl2, List.getElem?_append_left (by omega)] at ha
            exact y5 _ a c ha h3
          · rcases h1 with h1 | h1
            · rw [List.getElem?_append_left (by omega), List.getElem?_take, if_pos h1] at ha
              exact x5 _ a c ha h3
            · rw [List.getElem?_append_right (by omega), hl2, List.getElem?_append_right (by omega), List.getElem?_drop, show off + y.cells.length + (i - off - y.cells.length) = i by omega] at ha
              exact x5 _ a c ha h3
        · obtain ⟨j, hj⟩ := List.getElem?_of_mem hc
          rcases hget j c hj with ⟨_, _, h3⟩ | ⟨_, h3⟩
          · exact y2 c (Array.mem_of_getElem? h3)
          · exact x2 c (Array.mem_of_getElem? h3)
        · simp only [Value.cells] at hc
          obtain ⟨j, hj⟩ := List.getElem?_of_mem (List.mem_toArray.1 hc)
          rcases hget j c hj with ⟨_, _, h3⟩ | ⟨_, h3⟩
          · exact y2 c (Array.mem_of_getElem? h3)
          · exact x2 c (Array.mem_of_getElem? h3)
      · simp [Bool.eq_false_iff.2 hle] at h
  · simp only [Bool.eq_false_iff.2 hag, cond_false] at h
    by_cases hw : (off == 0 && !y.isAgg && x.cells.length == 1) = true
    · simp only [hw, cond_true] at h
      cases h
      simp only [Bool.and_eq_true, beq_iff_eq, Bool.not_eq_true'] at hw
      obtain ⟨⟨rfl, hyag⟩, _⟩ := hw
      have e1 := x4 (Bool.eq_false_iff.2 hag)
      have e2 := y4 hyag
      refine ⟨u, hy, by rw [e1, e2]; rfl, y2, by rw [e1, e2]; simp, fun j c hc => .inl ⟨Nat.zero_le _, ?_, by simpa using hc⟩⟩
      have := (Array.getElem?_eq_some_iff.1 hc).1; omega
    · simp [Bool.eq_false_iff.2 hw] at h

end Go.Eng
