/- The engine, part 13: a pure call, and what it hands back. Conditions: none. -/
import Derived.Test.YtjbaoopiffcigaaE12
set_option linter.unusedVariables false
set_option linter.unusedSimpArgs false
namespace Go.Eng

/-- The world has new blocks; those that were are as they were. -/
structure Wider (w w' : World) : Prop where
  os : w'.os = w.os
  tape : w'.tape = w.tape
  output : w'.output = w.output
  size : w.heap.size ≤ w'.heap.size
  old : ∀ b, b < w.heap.size → w'.heap[b]? = w.heap[b]?

theorem Wider.cellAt {w w' : World} (h : Wider w w') {b o : Nat} {v : Value} (hv : cellAt w b o = some v) : Go.Eng.cellAt w' b o = some v := by
  have hb := lt_of_cellAt hv
  show World.cell? _ _ = _
  unfold World.cell?
  rw [show w'.heap[b]? = _ from h.old b hb]
  exact hv

theorem wider {k : Keep} {M : Mem} (hI : Inv k M) {w' : World} (h : Wider M.w w') : Stp k M ⟨M.m, M.st, w'⟩ := by
  have hevo : Evo M ⟨M.m, M.st, w'⟩ := by
    refine ⟨Nat.le_refl _, fun i y hy => ⟨y, hy, Nat.le_refl _, rfl, rfl, fun _ => ⟨rfl, fun _ => rfl, fun p hp => hp⟩⟩, fun b j v hv hp => ⟨h.cellAt hv, hp⟩, fun b c e' f' hb => ⟨c, f', ?_, rfl, id⟩, h.size⟩
    simp only; rw [h.old b (Array.getElem?_eq_some_iff.1 hb).1]; exact hb
  refine ⟨⟨hI.inj, hI.dom, hI.low, Nat.le_trans hI.big h.size, fun i b o' y hi hy => ?_, hI.frm⟩, hevo, ⟨h.os, h.tape, h.output, fun b hb _ => h.old b hb, fun i b o' hi => .inl ⟨i, o', hi⟩⟩⟩
  obtain ⟨g1, g2, cs', e', f', hh, g3, g4, g5⟩ := hI.blk _ _ _ _ hi hy
  refine ⟨g1, g2, cs', e', f', by simp only; rw [h.old b (hI.lt hi)]; exact hh, g3, g4, fun i av hi => ?_⟩
  obtain ⟨v, q1, q2⟩ := g5 i av hi
  exact ⟨v, RepA.evo hevo _ _ q1, q2⟩

/-- A new block of the wider world is taken over. -/
theorem adopt {k : Keep} {M : Mem} (hI : Inv k M) {n b1 base : Nat} {x : Blk} (hx : M.st[n]? = some x) (hn : M.m n = none) {w' : World} (hW : Wider M.w w') (hb1 : M.w.heap.size ≤ b1)
    {cs : Array Value} {e : TypeId} {fz0 : Nat × Nat} (hh : w'.heap[b1]? = some (Obj.cells cs e fz0))
    (hvi : x.virt = false) (hes : 0 < x.es) (hsz : base + x.es * x.elems.length ≤ cs.size)
    (hfr : ∀ j, j < cs.size → base ≤ j → (x.shut = true → base + x.es * x.elems.length ≤ j) → ¬ (fz0.1 ≤ j ∧ j < fz0.2))
    (hel : ∀ (i : Nat) av, x.elems[i]? = some av → ∃ v : Value, RepA k ⟨fun j => if j = n then some (b1, base) else M.m j, M.st, w'⟩ av v ∧ v.cells.size = x.es ∧ (∀ u ∈ v.cells, cellV u = true) ∧ ∀ (j : Nat) u, v.cells[j]? = some u → cs[base + i * x.es + j]? = some u) :
    Stp k M ⟨fun j => if j = n then some (b1, base) else M.m j, M.st, w'⟩ := by
  have hevo : Evo M ⟨fun j => if j = n then some (b1, base) else M.m j, M.st, w'⟩ := by
    refine ⟨Nat.le_refl _, fun i y hy => ⟨y, hy, Nat.le_refl _, rfl, rfl, fun _ => ⟨rfl, fun _ => rfl, fun p hp => ?_⟩⟩, fun b o v hv hp => ⟨hW.cellAt hv, fun i base' y hm hy => ?_⟩, fun b c e' f' hb => ⟨c, f', ?_, rfl, id⟩, hW.size⟩
    · show (if i = n then _ else _) = _
      rw [if_neg (fun e => by subst e; rw [hn] at hp; cases hp)]; exact hp
    · have hlt := lt_of_cellAt hv
      simp only at hm
      by_cases hi : i = n
      · rw [if_pos hi] at hm; cases hm; omega
      · rw [if_neg hi] at hm; exact hp i base' y hm hy
    · simp only; rw [hW.old b (Array.getElem?_eq_some_iff.1 hb).1]; exact hb
  refine ⟨⟨fun i j b o o' hi hj => ?_, fun i p hi => ?_, fun i b o hi => ?_, Nat.le_trans hI.big hW.size, fun i b o y hi hy => ?_, hI.frm⟩, hevo, ⟨hW.os, hW.tape, hW.output, fun b hb _ => hW.old b hb, fun i b o hi => ?_⟩⟩
  · simp only at hi hj
    by_cases h1 : i = n <;> by_cases h2 : j = n
    · rw [h1, h2]
    · rw [if_pos h1] at hi; rw [if_neg h2] at hj; cases hi; have := hI.lt hj; omega
    · rw [if_neg h1] at hi; rw [if_pos h2] at hj; cases hj; have := hI.lt hi; omega
    · rw [if_neg h1] at hi; rw [if_neg h2] at hj; exact hI.inj _ _ _ _ _ hi hj
  · simp only at hi
    by_cases h1 : i = n
    · rw [h1]; exact (List.getElem?_eq_some_iff.1 hx).1
    · rw [if_neg h1] at hi; exact hI.dom _ _ hi
  · simp only at hi
    by_cases h1 : i = n
    · rw [if_pos h1] at hi; cases hi; exact Nat.le_trans hI.big hb1
    · rw [if_neg h1] at hi; exact hI.low _ _ _ hi
  · simp only at hi
    by_cases h1 : i = n
    · rw [if_pos h1] at hi; cases hi
      subst h1
      simp only at hy
      rw [hx] at hy; cases hy
      exact ⟨hvi, hes, cs, e, fz0, hh, hsz, hfr, hel⟩
    · rw [if_neg h1] at hi
      obtain ⟨g1, g2, cs', e', f', hh', g3, g4, g5⟩ := hI.blk _ _ _ _ hi hy
      refine ⟨g1, g2, cs', e', f', by simp only; rw [hW.old b (hI.lt hi)]; exact hh', g3, g4, fun i av hi => ?_⟩
      obtain ⟨v, q1, q2⟩ := g5 i av hi
      exact ⟨v, RepA.evo hevo _ _ q1, q2⟩
  · simp only at hi
    by_cases h1 : i = n
    · rw [if_pos h1] at hi; cases hi; exact .inr hb1
    · rw [if_neg h1] at hi; exact .inl ⟨i, o, hi⟩

def EnterOk (P : Program) (f : FuncId) : Prop := ∃ fn, P.funcs[f]? = some fn ∧ (fn.name == "runtime.NumGoroutine") = false ∧ fn.body.isNone = false

/-- What the calls that the evaluator makes come to in the machine. -/
def CallOk (X : Ctx) (call : Call) : Prop := ∀ f args st v st', call f args st = some (v, st') → EnterOk X.P f ∧
  ∀ (k : Keep) (m : Nat → Option (Nat × Nat)) (w : World) (vs : List Value), Inv k ⟨m, st, w⟩ → RepAs k ⟨m, st, w⟩ args vs →
    Calls X.P f vs.toArray w (fun e w' => ∃ m' r, e = .returned r ∧ RepA k ⟨m', st', w'⟩ v r ∧ Stp k ⟨m, st, w⟩ ⟨m', st', w'⟩)

def noMem (w : World) : Mem := ⟨fun _ => none, [], w⟩

theorem noMem_inv (k : Keep) (w : World) (h : k.B ≤ w.heap.size) : Inv k (noMem w) :=
  ⟨fun i j b o o' hi => (by cases hi), fun i p hi => (by cases hi), fun i b o hi => (by cases hi), h, fun i b o x hi => (by cases hi), fun i x hx => (by simp [noMem] at hx)⟩

/-- What the caller promises to a pure callee. -/
def keepOf (k : Keep) (brw : Bool) (M : Mem) : Keep := ⟨M.w.heap.size, fun b o => b < M.w.heap.size → k.k b o ∧ Prot brw M.m M.st b o, fun b o h h' => absurd h' (by omega)⟩

theorem arg_in {k : Keep} {brw : Bool} {M : Mem} {x : D} {v : Value} (h : RepD (CC k brw M) x v) : RepA (keepOf k brw M) (noMem M.w) (.d x) v :=
  RepD.mono (fun b o u ⟨h1, h2, h3⟩ => ⟨h1, fun _ => ⟨h2, h3⟩, fun i base y hm => by cases hm⟩) x v h

/-- A cell that a callee's data reads is one that the caller's data may read. -/
theorem cell_out {k : Keep} {M : Mem} (hI : Inv k M) {M1 : Mem} (hS : Stp (keepOf k false M) (noMem M.w) M1) {b o : Nat} {u : Value} {brw : Bool} (h : CC (keepOf k false M) brw M1 b o u) (m' : Nat → Option (Nat × Nat))
    (hm' : ∀ i base x, m' i = some (b, base) → M.st[i]? = some x → M.m i = some (b, base) ∨ (o < base ∨ (x.shut = true ∧ o < base + x.es * x.elems.length))) : CC k false ⟨m', M.st, M1.w⟩ b o u := by
  obtain ⟨h1, h2, h3⟩ := h
  refine ⟨h1, ?_, fun i base x hm hx => ?_⟩
  · by_cases hb : b < M.w.heap.size
    · exact (h2 hb).1
    · exact k.hk b o (by have := hI.big; omega)
  · rcases hm' i base x hm hx with h | h
    · have hb := hI.lt h
      exact (h2 hb).2 i base x h hx
    · exact h.imp id fun ⟨a, b⟩ => ⟨.inr a, b⟩

theorem wider_of {k : Keep} {M : Mem} {M1 : Mem} (hS : Stp (keepOf k false M) (noMem M.w) M1) : Wider M.w M1.w :=
  ⟨hS.out.os, hS.out.tape, hS.out.output, hS.evo.heap, fun b hb => hS.out.old b hb (fun i o h => by cases h)⟩

theorem wider_of' {k : Keep} {brw : Bool} {M : Mem} {M1 : Mem} (hS : Stp (keepOf k brw M) (noMem M.w) M1) : Wider M.w M1.w :=
  ⟨hS.out.os, hS.out.tape, hS.out.output, hS.evo.heap, fun b hb => hS.out.old b hb (fun i o h => by cases h)⟩

/-- One result, handed over. -/
theorem pvIn_sound {k : Keep} {M : Mem} (hI : Inv k M) {M1 : Mem} (hS : Stp (keepOf k false M) (noMem M.w) M1) {a : AV} {r : Value} (ha : RepA (keepOf k false M) M1 a r) {pv : PV} (hp : pv1 M1.st a = some pv)
    {st st' : Store} {wr lone : Bool} {v : AV} (h : pvIn wr lone st pv = (v, st')) (hpre : Pre st' M.st) (hno : ∀ i, st.length ≤ i → i < st'.length → M.m i = none) :
    ∃ m', RepA k ⟨m', M.st, M1.w⟩ v r ∧ Stp k M ⟨m', M.st, M1.w⟩ ∧ (∀ i, (i < st.length ∨ st'.length ≤ i) → m' i = M.m i) ∧
      ∀ (x : D) (u : Value), lone = false → RepD (CC (keepOf k false M) true M1) x u → RepD (CC k false ⟨m', M.st, M1.w⟩) x u := by
  have hW := wider_of hS
  have base : ∀ (x : D) (u : Value), RepD (CC (keepOf k false M) true M1) x u → RepD (CC k false ⟨M.m, M.st, M1.w⟩) x u := fun x u hx =>
    RepD.mono (fun b o c hc => cell_out hI hS hc M.m (fun i base y hm _ => .inl hm)) x u hx
  have plain : ∀ v, st' = st → RepA k ⟨M.m, M.st, M1.w⟩ v r → ∃ m', RepA k ⟨m', M.st, M1.w⟩ v r ∧ Stp k M ⟨m', M.st, M1.w⟩ ∧ (∀ i, (i < st.length ∨ st'.length ≤ i) → m' i = M.m i) ∧
      ∀ (x : D) (u : Value), lone = false → RepD (CC (keepOf k false M) true M1) x u → RepD (CC k false ⟨m', M.st, M1.w⟩) x u := fun v _ hr =>
    ⟨M.m, hr, wider hI hW, fun _ _ => rfl, fun x u _ => base x u⟩
  have frz : ∀ x, pv = .d x → RepD (CC (keepOf k false M) true M1) x r → ∃ m', RepA k ⟨m', M.st, M1.w⟩ v r ∧ Stp k M ⟨m', M.st, M1.w⟩ ∧ (∀ i, (i < st.length ∨ st'.length ≤ i) → m' i = M.m i) ∧
      ∀ (x : D) (u : Value), lone = false → RepD (CC (keepOf k false M) true M1) x u → RepD (CC k false ⟨m', M.st, M1.w⟩) x u := by
    intro x hx hr
    subst hx
    simp only [pvIn, Prod.mk.injEq] at h
    obtain ⟨rfl, rfl⟩ := h
    exact plain (.d x) rfl (base x r hr)
  unfold pv1 at hp
  split at hp
  · cases hp
    simp only [pvIn, Prod.mk.injEq] at h
    obtain ⟨rfl, rfl⟩ := h
    exact plain .snil rfl ha
  · cases hp
    rename_i l
    simp only [pvIn, Prod.mk.injEq] at h
    obtain ⟨rfl, rfl⟩ := h
    obtain ⟨a, rfl, hl⟩ := ha
    exact plain (.full l) rfl ⟨a, rfl, hl.imp id fun ⟨b, o, k', e, hr⟩ => ⟨b, o, k', e, RepRow.mono (fun b o c hc => cell_out hI hS hc M.m (fun i base y hm _ => .inl hm)) b k' o l hr⟩⟩
  · rename_i loc ep es len
    obtain ⟨bk, hbk, h9⟩ := Option.bind_eq_some_iff.1 hp
    clear hp
    obtain ⟨b1, b2⟩ := getBlk_some hbk
    by_cases hc : (!bk.row || !(bk.elems.length == len)) = true
    · simp only [hc, cond_true] at h9; cases h9
    · simp only [Bool.eq_false_iff.2 hc, cond_false] at h9
      have hc := Bool.eq_false_iff.2 hc
      simp only [Bool.or_eq_false_iff, Bool.not_eq_false', beq_iff_eq] at hc
      obtain ⟨hrow, hlen⟩ := hc
      obtain ⟨y, hy, _, _, hrest⟩ := ha
      rw [b1] at hy; cases hy
      obtain ⟨_, hcase⟩ := hrest b2
      rcases hcase with ⟨hv, rfl, _, rfl⟩ | ⟨hv, hes, hle, bl, bs, c, hm0, rfl, hc, cs0, e0, fz0, hh0, hcap⟩
      · simp only [hv, cond_true] at h9
        cases h9
        simp only [pvIn, Prod.mk.injEq] at h
        obtain ⟨rfl, rfl⟩ := h
        exact plain .snil rfl rfl
      · simp only [hv, cond_false] at h9
        obtain ⟨l, hl, h8⟩ := Option.map_eq_some_iff.1 h9
        cases h8
        simp only [pvIn, Prod.mk.injEq] at h
        obtain ⟨rfl, rfl⟩ := h
        obtain ⟨_, hesp, cs, e, fz', hh, hsz, hfr, hel⟩ := hS.inv.blk _ _ _ _ hm0 b1
        rw [hh0] at hh; cases hh
        have hh := hh0
        obtain ⟨l1, l2⟩ := fzAll_some hl
        have hbig : M.w.heap.size ≤ bl := hS.inv.low _ _ _ hm0
        have hst : M.st[st.length]? = some ⟨bk.es, l.map .d, true, bk.shut || !(wr && lone), false⟩ := hpre _ _ (by simp)
        have hn := hno st.length (Nat.le_refl _) (by simp)
        have hprot : ∀ (brw : Bool) (b o : Nat) (c : Value), (brw = true → (bk.shut || !(wr && lone)) = true) → CC (keepOf k false M) brw M1 b o c → CC k false ⟨fun j => if j = st.length then some (bl, bs) else M.m j, M.st, M1.w⟩ b o c := by
          intro brw b o c hb hcc
          refine cell_out hI hS hcc _ (fun i base x hm hx => ?_)
          by_cases hi : i = st.length
          · right
            rw [if_pos hi] at hm
            cases hm
            subst hi
            rw [hst] at hx; cases hx
            rcases hcc.2.2 loc bs bk hm0 b1 with h | ⟨h1, h2⟩
            · exact .inl h
            · right
              refine ⟨?_, by simp only [List.length_map, ← l1]; exact h2⟩
              rcases h1 with h1 | h1
              · exact hb h1
              · simp [h1]
          · rw [if_neg hi] at hm; exact .inl hm
        refine ⟨fun j => if j = st.length then some (bl, bs) else M.m j, ?_, ?_, fun i hi => if_neg (by simp at hi; omega), fun x u hlone hx => ?_⟩
        · refine ⟨_, hst, Nat.le_of_eq (by simp), ⟨_, _, by simp only [List.length_map, ← l1, hlen]; rfl, by simp only [List.length_map, ← l1, hlen]; exact hc, by simp⟩, fun _ => ⟨rfl, .inr ⟨rfl, rfl, by simp, bl, bs, c, by simp, by simp only [List.length_map, ← l1, hlen, Nat.zero_mul], by simp only [List.length_map, ← l1, hlen]; exact hc, cs0, e0, fz0, hh, hcap⟩⟩⟩
        · refine adopt hI hst hn hW hbig hh rfl hesp (by simp only [List.length_map, ← l1]; exact hsz) (fun j hj hb hs => hfr j hj hb (fun h => by have := hs (by simp [h]); simp only [List.length_map, ← l1] at this; exact this)) (fun i av hi => ?_)
          simp only [List.getElem?_map, Option.map_eq_some_iff] at hi
          obtain ⟨x, hx, rfl⟩ := hi
          have hilt := (List.getElem?_eq_some_iff.1 hx).1
          obtain ⟨av, hav⟩ : ∃ av, bk.elems[i]? = some av := ⟨_, List.getElem?_eq_getElem (by omega)⟩
          obtain ⟨x', hx', hf⟩ := l2 i av hav
          rw [hx] at hx'; cases hx'
          obtain ⟨u, u1, u2, u3, u4⟩ := hel i av hav
          refine ⟨u, ?_, u2, u3, u4⟩
          have hd := fz_sound hS.inv (st := M1.st) (fun _ _ h => h) 6 av u x u1 hf
          exact RepD.mono (fun b o c hcc => hprot _ b o c (fun h => by simp [h]) hcc) x u hd
        · exact RepD.mono (fun b o c hcc => hprot true b o c (fun _ => by simp [hlone]) hcc) x u hx
  · obtain ⟨x, hx, rfl⟩ := Option.map_eq_some_iff.1 hp
    exact frz x rfl (fz_sound hS.inv (st := M1.st) (fun _ _ h => h) 6 a r x ha hx)


theorem dataAs {k : Keep} {M : Mem} : ∀ (l : List D) (us : List Value), l.length = us.length → (∀ (i : Nat) x u, l[i]? = some x → us[i]? = some u → RepD (CC k false M) x u) → RepAs k M (l.map .d) us := by
  intro l us h1 h2
  refine (RepAs.iff _ _).2 ⟨by simpa using h1, fun i x u hx hu => ?_⟩
  simp only [List.getElem?_map, Option.map_eq_some_iff] at hx
  obtain ⟨y, hy, rfl⟩ := hx
  exact h2 i y u hy hu

theorem pv1_flat {k : Keep} {M1 : Mem} (hI : Inv k M1) {a : AV} {r : Value} (ha : RepA k M1 a r) {pv : PV} (hp : pv1 M1.st a = some pv) (hf : pv.flat = true) : (pv = .snil ∧ r = .slice none 0 0) ∨ ∃ x, pv = .d x ∧ x.flat = true ∧ RepD (CC k true M1) x r := by
  unfold pv1 at hp
  split at hp
  · cases hp; exact .inl ⟨rfl, ha⟩
  · cases hp; simp [PV.flat] at hf
  · rename_i loc ep es len
    obtain ⟨bk, hbk, h9⟩ := Option.bind_eq_some_iff.1 hp
    clear hp
    obtain ⟨b1, b2⟩ := getBlk_some hbk
    by_cases hc : (!bk.row || !(bk.elems.length == len)) = true
    · simp only [hc, cond_true] at h9; cases h9
    · simp only [Bool.eq_false_iff.2 hc, cond_false] at h9
      by_cases hv : bk.virt = true
      · simp only [hv, cond_true] at h9
        cases h9
        obtain ⟨y, hy, _, _, hrest⟩ := ha
        rw [b1] at hy; cases hy
        rcases (hrest b2).2 with ⟨_, rfl, _⟩ | ⟨h, _⟩
        · exact .inl ⟨rfl, rfl⟩
        · rw [hv] at h; cases h
      · simp only [Bool.eq_false_iff.2 hv, cond_false] at h9
        obtain ⟨l, hl, h8⟩ := Option.map_eq_some_iff.1 h9
        cases h8
        simp [PV.flat] at hf
  · obtain ⟨x, hx, rfl⟩ := Option.map_eq_some_iff.1 hp
    exact .inr ⟨x, rfl, hf, fz_sound hI (st := M1.st) (fun _ _ h => h) 6 a r x ha hx⟩

theorem prIn_sound {k : Keep} {M : Mem} (hI : Inv k M) {M1 : Mem} (hS : Stp (keepOf k false M) (noMem M.w) M1) {a : AV} {r : Value} (ha : RepA (keepOf k false M) M1 a r) {pr : PR} (hp : prOf (a, M1.st) = some pr)
    {st st' : Store} {wr : Bool} {v : AV} (h : prIn wr st pr = (v, st')) (hpre : Pre st' M.st) (hno : ∀ i, st.length ≤ i → i < st'.length → M.m i = none) :
    ∃ m', RepA k ⟨m', M.st, M1.w⟩ v r ∧ Stp k M ⟨m', M.st, M1.w⟩ ∧ (∀ i, (i < st.length ∨ st'.length ≤ i) → m' i = M.m i) := by
  unfold prOf at hp
  split at hp
  · rename_i heq
    simp only at heq
    subst heq
    cases hp
    simp only [prIn, Prod.mk.injEq] at h
    obtain ⟨rfl, rfl⟩ := h
    obtain ⟨cs, rfl, hcs⟩ := ha
    exact ⟨M.m, ⟨cs, rfl, hcs⟩, wider hI (wider_of hS), fun _ _ => rfl⟩
  · rename_i a0 l heq
    simp only at heq
    subst heq
    obtain ⟨pv, hpv, h9⟩ := Option.bind_eq_some_iff.1 hp
    clear hp
    obtain ⟨ds, hds, h8⟩ := Option.map_eq_some_iff.1 h9
    cases h8
    obtain ⟨cs, rfl, c0, cr, rfl, h0, hr⟩ := ha
    cases hpi : pvIn wr false st pv with
    | mk v0 st0 =>
      simp only [prIn, hpi, Prod.mk.injEq] at h
      obtain ⟨rfl, rfl⟩ := h
      obtain ⟨m', g1, g2, g3, g4⟩ := pvIn_sound hI hS h0 hpv hpi hpre hno
      obtain ⟨f1, f2⟩ := fzAll_sound hS.inv (st := M1.st) (fun _ _ h => h) hr hds
      exact ⟨m', ⟨c0 :: cr, rfl, c0, cr, rfl, g1, dataAs ds cr f1 fun i x u hx hu => g4 x u rfl (f2 i x u hx hu)⟩, g2, g3⟩
  · rename_i hne1 hne2
    obtain ⟨pv, hpv, rfl⟩ := Option.map_eq_some_iff.1 hp
    simp only [prIn] at h
    obtain ⟨m', g1, g2, g3, _⟩ := pvIn_sound hI hS ha hpv h hpre hno
    exact ⟨m', g1, g2, g3⟩

theorem prIn_flat {k k1 : Keep} {M : Mem} (hI : Inv k M) {M1 : Mem} (hI1 : Inv k1 M1) (hW : Wider M.w M1.w) {a : AV} {r : Value} (ha : RepA k1 M1 a r) {pr : PR} (hp : prOf (a, M1.st) = some pr) (hf : pr.flat = true)
    {st st' : Store} {wr : Bool} {v : AV} (h : prIn wr st pr = (v, st')) :
    RepA k ⟨M.m, M.st, M1.w⟩ v r ∧ Stp k M ⟨M.m, M.st, M1.w⟩ ∧ st' = st := by
  have S := wider hI hW
  unfold prOf at hp
  split at hp
  · rename_i heq
    simp only at heq
    subst heq
    cases hp
    simp only [prIn, Prod.mk.injEq] at h
    obtain ⟨rfl, rfl⟩ := h
    obtain ⟨cs, rfl, hcs⟩ := ha
    exact ⟨⟨cs, rfl, hcs⟩, S, rfl⟩
  · rename_i a0 l heq
    simp only at heq
    subst heq
    obtain ⟨pv, hpv, h9⟩ := Option.bind_eq_some_iff.1 hp
    clear hp
    obtain ⟨ds, hds, h8⟩ := Option.map_eq_some_iff.1 h9
    cases h8
    obtain ⟨cs, rfl, c0, cr, rfl, h0, hr⟩ := ha
    simp only [PR.flat, Bool.and_eq_true] at hf
    obtain ⟨f1, f2⟩ := fzAll_sound hI1 (st := M1.st) (fun _ _ h => h) hr hds
    have hfl : ∀ (ds : List D) (i : Nat) x, D.flats ds = true → ds[i]? = some x → x.flat = true := by
      intro ds
      induction ds with
      | nil => intro i x _ hx; simp at hx
      | cons d ds ih =>
        intro i x hd hx
        simp only [D.flats, Bool.and_eq_true] at hd
        cases i with
        | zero => simp at hx; subst hx; exact hd.1
        | succ i => exact ih i x hd.2 (by simpa using hx)
    have hrest : RepAs k ⟨M.m, M.st, M1.w⟩ (ds.map .d) cr := dataAs ds cr f1 fun i x u hx hu => RepD.flat x u (hfl ds i x hf.2 hx) (f2 i x u hx hu)
    rcases pv1_flat hI1 h0 hpv hf.1 with ⟨rfl, rfl⟩ | ⟨x, rfl, hx, hxr⟩
    · simp only [prIn, pvIn, Prod.mk.injEq] at h
      obtain ⟨rfl, rfl⟩ := h
      exact ⟨⟨_, rfl, _, cr, rfl, rfl, hrest⟩, S, rfl⟩
    · simp only [prIn, pvIn, Prod.mk.injEq] at h
      obtain ⟨rfl, rfl⟩ := h
      exact ⟨⟨_, rfl, _, cr, rfl, RepD.flat x c0 hx hxr, hrest⟩, S, rfl⟩
  · obtain ⟨pv, hpv, rfl⟩ := Option.map_eq_some_iff.1 hp
    rcases pv1_flat hI1 ha hpv hf with ⟨rfl, rfl⟩ | ⟨x, rfl, hx, hxr⟩
    · simp only [prIn, pvIn, Prod.mk.injEq] at h
      obtain ⟨rfl, rfl⟩ := h
      exact ⟨rfl, S, rfl⟩
    · simp only [prIn, pvIn, Prod.mk.injEq] at h
      obtain ⟨rfl, rfl⟩ := h
      exact ⟨RepD.flat x r hx hxr, S, rfl⟩

/-- A pure call. -/
theorem pure_sound {X : Ctx} {call : Call} (hC : CallOk X call) {k : Keep} {M : Mem} (hI : Inv k M) {brw : Bool} {f : FuncId} {ds : List D} {vs : List Value} {pr : PR} (h : pureCall call f ds = some pr)
    (hds : ds.length = vs.length ∧ ∀ (i : Nat) x u, ds[i]? = some x → vs[i]? = some u → RepD (CC k brw M) x u) (hb : brw = false ∨ pr.flat = true)
    {st st' : Store} {wr : Bool} {v : AV} (hin : prIn wr st pr = (v, st')) (hpre : Pre st' M.st) (hno : ∀ i, st.length ≤ i → i < st'.length → M.m i = none) :
    EnterOk X.P f ∧ Calls X.P f vs.toArray M.w (fun e w' => ∃ m' r, e = .returned r ∧ RepA k ⟨m', M.st, w'⟩ v r ∧ Stp k M ⟨m', M.st, w'⟩ ∧ ∀ i, (i < st.length ∨ st'.length ≤ i) → m' i = M.m i) := by
  unfold pureCall at h
  obtain ⟨⟨a, st1⟩, hc, hpr⟩ := Option.bind_eq_some_iff.1 h
  obtain ⟨hE, hcall⟩ := hC f (ds.map .d) [] a st1 hc
  refine ⟨hE, ?_⟩
  have hargs : RepAs (keepOf k brw M) (noMem M.w) (ds.map .d) vs := (RepAs.iff _ _).2 ⟨by simpa using hds.1, fun i x u hx hu => by
    simp only [List.getElem?_map, Option.map_eq_some_iff] at hx
    obtain ⟨y, hy, rfl⟩ := hx
    exact arg_in (hds.2 i y u hy hu)⟩
  refine (hcall (keepOf k brw M) (fun _ => none) M.w vs (noMem_inv _ _ (Nat.le_refl _)) hargs).mono fun e w' ⟨m1, r, he, hr, hS⟩ => ?_
  rcases hb with rfl | hf
  · obtain ⟨m', g1, g2, g3⟩ := prIn_sound (M1 := ⟨m1, st1, w'⟩) hI hS hr hpr hin hpre hno
    exact ⟨m', r, he, g1, g2, g3⟩
  · obtain ⟨g1, g2, rfl⟩ := prIn_flat (M1 := ⟨m1, st1, w'⟩) hI hS.inv (wider_of' hS) hr hpr hf hin
    exact ⟨M.m, r, he, g1, g2, fun _ _ => rfl⟩

end Go.Eng
