/- The engine, part 10: stores, conversions, literals, slices. Conditions: none. -/
import Derived.Test.YtjbaoopiffcigaaE9
set_option linter.unusedVariables false
set_option linter.unusedSimpArgs false
namespace Go.Eng
variable {P : Program}

theorem stPtr0_sound {k : Keep} {M : Mem} (hI : Inv k M) {t : TypeId} {i : TI} (ht : tiOf P t = some i) {p v r : AV} {u vv : Value} {st' : Store} (hp : RepA k M p u) (hv : RepA k M v vv) (h : stPtr0 M.st i p v = some (r, st')) :
    r = .tup [] ∧ ∃ ad w', u = .pointer (some ad) ∧ (storeVar t ad vv).run P M.w = .ok () w' ∧ Stp k M ⟨M.m, st', w'⟩ := by
  unfold stPtr0 at h
  split at h
  · rename_i loc ep idx off
    obtain ⟨b, hb, h9⟩ := Option.bind_eq_some_iff.1 h
    clear h
    obtain ⟨b1, b2⟩ := getBlk_some hb
    by_cases hc : (b.shut || !(v.cells.length == i.size && !(i.size == 0))) = true
    · simp only [hc, cond_true] at h9; cases h9
    · simp only [Bool.eq_false_iff.2 hc, cond_false] at h9
      have hc := Bool.eq_false_iff.2 hc
      simp only [Bool.or_eq_false_iff, Bool.not_eq_false', Bool.and_eq_true, beq_iff_eq, Bool.not_eq_true', beq_eq_false_iff_ne] at hc
      obtain ⟨hsh, hvl, hi0⟩ := hc
      obtain ⟨e, he, h8⟩ := Option.bind_eq_some_iff.1 h9
      obtain ⟨e', he', h7⟩ := Option.map_eq_some_iff.1 h8
      cases h7
      clear h8 h9
      obtain ⟨y, hy, _, hval, a, rfl⟩ := hp
      rw [b1] at hy; cases hy
      obtain ⟨hvi, bl, base, hm, hval⟩ := hval b2
      cases hval
      obtain ⟨_, hes, cs, el, fz', hh, hsz, hfr, hel⟩ := hI.blk _ _ _ _ hm b1
      obtain ⟨w0, w1, w2, w3, w4⟩ := hel _ _ he
      have hidx := (List.getElem?_eq_some_iff.1 he).1
      by_cases hvne : v.cells = []
      · -- nothing is stored: no such variable
        exfalso
        exact hi0 (by rw [← hvl, hvne]; rfl)
      · obtain ⟨c1, c2, c3, c4, c5⟩ := RepA.cells hv hvne
        obtain ⟨vr, q1, q2, q3, q4, q5⟩ := setPart_sound w1 hv hvne he'
        have hle : (idx + 1) * b.es ≤ b.elems.length * b.es := Nat.mul_le_mul_right _ (by omega)
        rw [Nat.add_mul, Nat.mul_comm b.elems.length] at hle
        have hvs : vv.cells.toList.length = vv.cells.size := Array.length_toList
        obtain ⟨ncs, n1, n2, n3, n4, n5, n6, n7, n8, n9⟩ := setCells_spec bl el fz' vv.cells.toList (base + idx * b.es + off) M.w cs hh (by rw [hvs]; omega)
        have hst := run_storeCells_cells (P := P) bl (base + idx * b.es + off) vv.cells.toList 0 M.w (fun j hj => by
            rw [cell_of_row M.w bl _ cs el fz' hh]
            rw [Array.getElem?_eq_getElem (by rw [hvs] at hj; omega)]; rfl) (fun j hj => by
            have := hfr (base + idx * b.es + off + 0 + j) (by rw [hvs] at hj; omega) (by omega) (fun h => by rw [hsh] at h; cases h)
            unfold World.frozen?
            simp only [hh]
            simpa using this) (fun c hc => by rw [cellV_eq]; exact c2 c (by simpa using hc))
        have hrun : (storeVar t ⟨bl, base + idx * b.es + off, none⟩ vv).run P M.w = .ok () (M.w.setCells bl (base + idx * b.es + off) vv.cells.toList) := by
          have hsz' : vv.cells.size = i.size := by omega
          simp only [storeVar, Sem.run_bind, run_sizeOf' ht, Result.andThen_ok, hsz', ne_eq, not_true_eq_false, if_false]
          simpa using hst
        refine ⟨rfl, _, _, rfl, hrun, ?_⟩
        refine wrote hI hm b1 (x' := { b with elems := b.elems.set idx e' }) rfl rfl rfl hvi (by simp) ⟨fun h => ?_, fun h => by rw [hvi] at h; cases h⟩ hh n5 n6 n1 n2 n7 n8 n9 (fun j hj => n3 j (hj.elim (fun hj => .inl (by omega)) (fun hj => by rw [hsh] at hj; cases hj.1))) (by simpa using hsz) (fun j av hj => ?_)
        · have := (hI.frm _ _ b1).1 h
          simpa using this
        · simp only at hj
          by_cases hji : j = idx
          · subst hji
            rw [List.getElem?_set_self hidx] at hj
            cases hj
            refine ⟨vr, q1, by omega, q3, fun q c hc => ?_⟩
            have hq := (Array.getElem?_eq_some_iff.1 hc).1
            rcases q5 q c hc with ⟨g1, g2, g3⟩ | ⟨g1, g3⟩
            · have := n4 (q - off) c (by simpa using g3)
              rw [← this]; congr 1; omega
            · rw [n3 _ (by rw [hvs]; omega)]
              exact w4 q c g3
          · rw [List.getElem?_set_ne (fun e => hji e.symm)] at hj
            obtain ⟨v', v1, v2, v3, v4⟩ := hel _ _ hj
            refine ⟨v', v1, v2, v3, fun q c hc => ?_⟩
            have hq := (Array.getElem?_eq_some_iff.1 hc).1
            rw [n3 _ (by
              rw [hvs]
              rcases Nat.lt_or_gt_of_ne hji with h | h
              · left
                have : (j + 1) * b.es ≤ idx * b.es := Nat.mul_le_mul_right _ (by omega)
                rw [Nat.add_mul] at this; omega
              · right
                have : (idx + 1) * b.es ≤ j * b.es := Nat.mul_le_mul_right _ (by omega)
                rw [Nat.add_mul] at this; omega)]
            exact v4 q c hc
  · cases h

/-- A block that nobody owns. -/

theorem stPtr_sound {k : Keep} {M : Mem} (hI : Inv k M) {t : TypeId} {i : TI} (ht : tiOf P t = some i) {p v r : AV} {u vv : Value} {st' : Store} (hp : RepA k M p u) (hv : RepA k M v vv) (h : stPtr M.st i p v = some (r, st')) :
    r = .tup [] ∧ ∃ ad w', u = .pointer (some ad) ∧ (storeVar t ad vv).run P M.w = .ok () w' ∧ Stp k M ⟨M.m, st', w'⟩ :=
  stPtr0_sound hI ht hp.unt hv h

theorem loose {k : Keep} {M : Mem} (hI : Inv k M) {w0 : World} (hw : w0.heap = M.w.heap) (ho : w0.os = M.w.os) (htp : w0.tape = M.w.tape) (hout : w0.output = M.w.output) (o : Obj) : Stp k M ⟨M.m, M.st, w0.alloc o⟩ := by
  have hsize : (w0.alloc o).heap.size = M.w.heap.size + 1 := by simp [World.alloc, hw]
  have hold : ∀ b, b < M.w.heap.size → (w0.alloc o).heap[b]? = M.w.heap[b]? := fun b hb => by
    rw [show (w0.alloc o).heap[b]? = w0.heap[b]? from heap_alloc_old w0 o (by rw [hw]; exact hb), hw]
  have hevo : Evo M ⟨M.m, M.st, w0.alloc o⟩ := by
    refine ⟨Nat.le_refl _, fun i y hy => ⟨y, hy, Nat.le_refl _, rfl, rfl, fun _ => ⟨rfl, fun _ => rfl, fun p hp => hp⟩⟩, fun b j v hv hp => ⟨?_, hp⟩, fun b c e' f' hb => ?_, by simp only [hsize]; omega⟩
    · show World.cell? _ _ = _
      unfold World.cell?
      rw [show (w0.alloc o).heap[b]? = _ from hold b (lt_of_cellAt hv)]
      exact hv
    · exact ⟨c, f', by rw [show (w0.alloc o).heap[b]? = _ from hold b (Array.getElem?_eq_some_iff.1 hb).1]; exact hb, rfl, id⟩
  refine ⟨⟨hI.inj, hI.dom, hI.low, by simp only [hsize]; have := hI.big; omega, fun i b o' y hi hy => ?_, hI.frm⟩, hevo, ⟨ho, htp, hout, fun b hb _ => hold b hb, fun i b o' hi => .inl ⟨i, o', hi⟩⟩⟩
  obtain ⟨g1, g2, cs', e', f', hh, g3, g4, g5⟩ := hI.blk _ _ _ _ hi hy
  refine ⟨g1, g2, cs', e', f', by rw [show (w0.alloc o).heap[b]? = _ from hold b (hI.lt hi)]; exact hh, g3, g4, fun i av hi => ?_⟩
  obtain ⟨v, q1, q2⟩ := g5 i av hi
  exact ⟨v, RepA.evo hevo _ _ q1, q2⟩

/-! ### literals of slices -/
/-- Cells that are some values, one behind another. -/
def Laid (size : Nat) (us : List Value) (cs : Array Value) : Prop := ∀ (i j : Nat) u, us[i]? = some u → j < size → cs[i * size + j]? = u.cells[j]?

theorem Laid.flat {size : Nat} (h0 : size ≠ 0) {us : List Value} {cs : Array Value} (h : Laid size us cs) (hs : ∀ u ∈ us, u.cells.size = size) : ∀ (j : Nat) c, (flatC us)[j]? = some c → cs[j]? = some c := by
  intro j c hc
  have hj := (List.getElem?_eq_some_iff.1 hc).1
  rw [flatC_len us hs] at hj
  have hdm := Nat.div_add_mod j size
  have hmod := Nat.mod_lt j (Nat.pos_of_ne_zero h0)
  have hq : j / size < us.length := Nat.div_lt_of_lt_mul (by rw [Nat.mul_comm]; exact hj)
  obtain ⟨u, hu⟩ : ∃ u, us[j / size]? = some u := ⟨_, List.getElem?_eq_getElem hq⟩
  have e1 : j / size * size + j % size = j := by rw [Nat.mul_comm]; exact hdm
  have a := flatC_get us hs (j / size) (j % size) u hu hmod
  have b := h (j / size) (j % size) u hu hmod
  rw [e1] at a b
  rw [b, ← a]; exact hc

theorem fill_sound {k : Keep} {M : Mem} {size : Nat} (hs0 : size ≠ 0) : ∀ (parts : List (Nat × AV)) (vs : List (Nat × Value)) (l r : List AV) (us : List Value) (cs : Array Value),
    fitL size (parts.map (·.2)) = true → parts.length = vs.length → (∀ (i : Nat) p q, parts[i]? = some p → vs[i]? = some q → p.1 = q.1 ∧ RepA k M p.2 q.2) →
    RepAs k M l us → (∀ u ∈ us, u.cells.size = size) → (∀ u ∈ us, ∀ c ∈ u.cells, cellV c = true) → cs.size = us.length * size → Laid size us cs → fillL parts l = some r →
    ∃ us' cs', Instr.fill (fun i => some (i * size, size)) cs vs = some cs' ∧ RepAs k M r us' ∧ (∀ u ∈ us', u.cells.size = size) ∧ (∀ u ∈ us', ∀ c ∈ u.cells, cellV c = true) ∧ cs'.size = us'.length * size ∧ Laid size us' cs' ∧ us'.length = us.length := by
  intro parts
  induction parts with
  | nil =>
    intro vs l r us cs _ hl _ h1 h2 h3 h4 h5 h
    have : vs = [] := List.length_eq_zero_iff.1 hl.symm
    subst this
    simp only [fillL] at h
    cases h
    exact ⟨us, cs, rfl, h1, h2, h3, h4, h5, rfl⟩
  | cons p parts ih =>
    intro vs l r us cs hf hl hrep h1 h2 h3 h4 h5 h
    cases vs with
    | nil => simp at hl
    | cons q vs =>
      obtain ⟨i, a⟩ := p
      obtain ⟨i', b⟩ := q
      obtain ⟨e1, hab⟩ := hrep 0 _ _ rfl rfl
      simp only at e1 hab
      subst e1
      simp only [List.map_cons, fitL, Bool.and_eq_true, beq_iff_eq] at hf
      simp only [fillL] at h
      by_cases hi : Nat.blt i l.length = true
      · simp only [hi, cond_true] at h
        have hi : i < l.length := Nat.le_of_ble_eq_true hi
        obtain ⟨q1, q2⟩ := (RepAs.iff l us).1 h1
        have hane : a.cells ≠ [] := by intro e; rw [e] at hf; exact hs0 hf.1.symm
        obtain ⟨a1, a2, _, _, _⟩ := RepA.cells hab hane
        have hbs : b.cells.size = size := by omega
        have hile : (i + 1) * size ≤ us.length * size := Nat.mul_le_mul_right _ (by omega)
        rw [Nat.add_mul] at hile
        obtain ⟨f1, f2⟩ := fold_set (i * size) b.cells.toList 0 cs (by simp only [Array.length_toList, Nat.add_zero]; omega)
        have g1 : RepAs k M (l.set i a) (us.set i b) := by
          refine (RepAs.iff _ _).2 ⟨by simp [q1], fun j x v hx hv => ?_⟩
          by_cases hj : j = i
          · subst hj
            rw [List.getElem?_set_self hi] at hx
            rw [List.getElem?_set_self (by omega)] at hv
            cases hx; cases hv; exact hab
          · rw [List.getElem?_set_ne (fun e => hj e.symm)] at hx hv
            exact q2 j x v hx hv
        have hmem : ∀ u ∈ us.set i b, u = b ∨ u ∈ us := fun u hu => (List.mem_or_eq_of_mem_set hu).symm
        obtain ⟨us', cs', r1, r2, r3, r4, r5, r6, r7⟩ := ih vs (l.set i a) r (us.set i b) _ hf.2 (by simpa using hl) (fun j p q hp hq => hrep (j + 1) p q (by simpa using hp) (by simpa using hq)) g1
          (fun u hu => (hmem u hu).elim (fun e => by rw [e]; exact hbs) (h2 u)) (fun u hu => (hmem u hu).elim (fun e => by rw [e]; exact a2) (h3 u)) (by rw [f1, List.length_set]; exact h4) (fun j m u hu hm => by
            rw [f2]
            simp only [Nat.add_zero, Array.length_toList, hbs]
            by_cases hj : j = i
            · subst hj
              rw [List.getElem?_set_self (by omega)] at hu
              cases hu
              rw [if_pos (by omega), show j * size + m - j * size = m by omega]
              simp
            · rw [List.getElem?_set_ne (fun e => hj e.symm)] at hu
              rw [if_neg ?_]
              · exact h5 j m u hu hm
              · rcases Nat.lt_or_gt_of_ne hj with hlt | hgt
                · have : (j + 1) * size ≤ i * size := Nat.mul_le_mul_right _ (by omega)
                  rw [Nat.add_mul] at this; omega
                · have : (i + 1) * size ≤ j * size := Nat.mul_le_mul_right _ (by omega)
                  rw [Nat.add_mul] at this; omega) h
        refine ⟨us', cs', ?_, r2, r3, r4, r5, r6, by rw [r7, List.length_set]⟩
        simp only [Instr.fill]
        rw [if_neg (by simp; omega)]
        rw [← r1, ← Array.foldl_toList, Array.toList_zipIdx]
      · simp [Bool.eq_false_iff.2 hi] at h

end Go.Eng
