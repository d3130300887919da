/- The engine, part 8: new variables and rows, what a slice holds, append, stores. Conditions: none. -/
import Derived.Test.YtjbaoopiffcigaaE7
set_option linter.unusedVariables false
set_option linter.unusedSimpArgs false
namespace Go.Eng
variable {P : Program}

/-- What an operation that makes at most new blocks does. -/
def QOk (P : Program) (k : Keep) (M : Mem) (lo hi : Nat) (v : AV) (s : Sem Value) : Prop :=
  ∃ w' m' u, s.run P M.w = .ok u w' ∧ RepA k ⟨m', M.st, w'⟩ v u ∧ Stp k M ⟨m', M.st, w'⟩ ∧ ∀ i, (i < lo ∨ hi ≤ i) → m' i = M.m i

theorem QOk.read {k : Keep} {M : Mem} (hI : Inv k M) {lo hi : Nat} {v : AV} {s : Sem Value} {u : Value} (h : s.run P M.w = .ok u M.w) (hr : RepA k M v u) : QOk P k M lo hi v s :=
  ⟨M.w, M.m, u, h, hr, Stp.refl hI, fun _ _ => rfl⟩

theorem newVar_ok {k : Keep} {M : Mem} (hI : Inv k M) {st st' : Store} {size : Nat} {vi sh : Bool} {v r : AV} {u : Value} (hv : RepA k M v u) (hs : v.cells.length = size) (hs0 : size ≠ 0)
    (h : newVarV st size vi sh v = some (r, st')) (hpre : Pre st' M.st) (hno : ∀ i, st.length ≤ i → i < st'.length → M.m i = none) (t : TypeId) :
    QOk P k M st.length st'.length r (do pure (.pointer (some (← newVar t u)))) := by
  have hne : v.cells ≠ [] := by intro e; rw [e] at hs; exact hs0 hs.symm
  obtain ⟨c1, c2, _, _, _⟩ := RepA.cells hv hne
  have hrun : (do pure (.pointer (some (← newVar t u))) : Sem Value).run P M.w = .ok (.pointer (some ⟨M.w.heap.size, 0, none⟩)) (M.w.alloc (.cells u.cells t)) := by
    simp [newVar, newRow]
  have main : ∀ v', RepA k M v' u → M.st[st.length]? = some ⟨size, [v'], false, false, false⟩ → M.m st.length = none → r = .ptr st.length 1 0 0 → st.length < st'.length →
      QOk P k M st.length st'.length r (do pure (.pointer (some (← newVar t u)))) := by
    intro v' hv' hst hm hr hlt
    subst hr
    have hg := grow hI hst hm (cs := u.cells) (e := t) (fz0 := (0, 0)) (base := 0) M.w rfl rfl rfl rfl rfl (Nat.pos_of_ne_zero hs0) (by simp; omega) (fun j _ _ _ h => by simp at h)
      (fun i av hi => by
        cases i with
        | zero => simp at hi; subst hi; exact ⟨u, hv', by simp; omega, c2, fun j x hx => by simpa using hx⟩
        | succ i => simp at hi)
    exact ⟨_, _, _, hrun, ⟨_, hst, Nat.le_refl _, fun _ => ⟨rfl, M.w.heap.size, 0, by simp, by simp⟩, _, rfl⟩, hg, fun i hi => if_neg (by omega)⟩
  unfold newVarV at h
  cases vi with
  | false =>
    simp only [cond_false, Option.some.injEq, Prod.mk.injEq] at h
    obtain ⟨h1, h2⟩ := h
    subst h2
    exact main v hv (hpre _ _ (by simp)) (hno _ (Nat.le_refl _) (by simp)) h1.symm (by simp)
  | true =>
    simp only [cond_true, Option.some.injEq, Prod.mk.injEq] at h
    obtain ⟨h1, h2⟩ := h
    subst h2
    have hv' : RepA k M (virtAV sh (st.length + 1) v).1 u := virtAV_sound (fun i b hb => hpre _ _ (by
      rw [List.getElem?_append_right (by omega), show st.length + 1 + i - st.length = i + 1 by omega]
      simpa using hb)) hv
    exact main _ hv' (hpre _ _ (by simp)) (hno _ (Nat.le_refl _) (by simp)) h1.symm (by simp)

/-- A new variable's type is that which it was made for. -/
theorem newVar_ty {k : Keep} {M M' : Mem} {st st' : Store} {size : Nat} {vi sh : Bool} {v r : AV} {u p : Value} {t : TypeId} {w' : World} (hv : RepA k M v u) (hs : v.cells.length = size) (hs0 : size ≠ 0)
    (h : newVarV st size vi sh v = some (r, st')) (hrun : (do pure (.pointer (some (← newVar t u))) : Sem Value).run P M.w = .ok p w') (hr : RepA k ⟨M'.m, M'.st, w'⟩ r p) :
    PtrRep ⟨M'.m, M'.st, w'⟩ st.length 1 0 0 p ∧ TyRep ⟨M'.m, M'.st, w'⟩ t size 0 p := by
  have hne : v.cells ≠ [] := by intro e; rw [e] at hs; exact hs0 hs.symm
  obtain ⟨c1, c2, _, _, _⟩ := RepA.cells hv hne
  have hr0 : r = .ptr st.length 1 0 0 := by
    unfold newVarV at h
    cases vi with
    | false => simp only [cond_false, Option.some.injEq, Prod.mk.injEq] at h; exact h.1.symm
    | true => simp only [cond_true, Option.some.injEq, Prod.mk.injEq] at h; exact h.1.symm
  subst hr0
  have hrun' : (do pure (.pointer (some (← newVar t u))) : Sem Value).run P M.w = .ok (.pointer (some ⟨M.w.heap.size, 0, none⟩)) (M.w.alloc (.cells u.cells t)) := by
    simp [newVar, newRow]
  rw [hrun'] at hrun
  injection hrun with e1 e2
  subst e1
  subst e2
  exact ⟨hr, M.w.heap.size, u.cells, (0, 0), rfl, heap_alloc_new M.w _, by omega⟩

/-! ### rows -/
def flatC (us : List Value) : List Value := (us.map (·.cells.toList)).flatten

theorem flatC_len {size : Nat} : ∀ (us : List Value), (∀ u ∈ us, u.cells.size = size) → (flatC us).length = us.length * size
  | [], _ => by simp [flatC]
  | u :: r, h => by
    have := flatC_len r (fun x hx => h x (by simp [hx]))
    simp only [flatC, List.map_cons, List.flatten_cons, List.length_append, Array.length_toList] at this ⊢
    rw [this, h u (by simp), List.length_cons, Nat.succ_mul, Nat.add_comm]

theorem flatC_get {size : Nat} : ∀ (us : List Value), (∀ u ∈ us, u.cells.size = size) → ∀ (i j : Nat) u, us[i]? = some u → j < size → (flatC us)[i * size + j]? = u.cells[j]?
  | [], _, i, j, u, hu, _ => by simp at hu
  | x :: r, h, 0, j, u, hu, hj => by
    simp at hu; subst hu
    have := h x (by simp)
    simp only [flatC, List.map_cons, List.flatten_cons]
    rw [List.getElem?_append_left (by simp; omega)]
    simp
  | x :: r, h, i + 1, j, u, hu, hj => by
    have h1 := h x (by simp)
    have := flatC_get r (fun y hy => h y (by simp [hy])) i j u (by simpa using hu) hj
    simp only [flatC, List.map_cons, List.flatten_cons] at this ⊢
    rw [List.getElem?_append_right (by simp [Nat.succ_mul]; omega)]
    rw [← this]
    congr 1
    simp [Nat.succ_mul]; omega

/-- A new row. -/
theorem newRow_ok {k : Keep} {M : Mem} (hI : Inv k M) {n : Nat} {size : Nat} {sh : Bool} {l : List AV} {us : List Value} (hs0 : size ≠ 0) (hl : RepAs k M l us) (hus : ∀ u ∈ us, u.cells.size = size) (huc : ∀ u ∈ us, ∀ c ∈ u.cells, cellV c = true)
    (hst : M.st[n]? = some ⟨size, l, true, sh, false⟩) (hm : M.m n = none) {w0 : World} (hw : w0.heap = M.w.heap) (ho : w0.os = M.w.os) (htp : w0.tape = M.w.tape) (hout : w0.output = M.w.output)
    {cs : Array Value} {e : TypeId} {fz0 : Nat × Nat} {cap : Nat} (hcap : cap * size ≤ cs.size) (hlc : l.length ≤ cap) (hfz : ∀ j, j < cs.size → ¬ (fz0.1 ≤ j ∧ j < fz0.2))
    (hcs : ∀ (j : Nat) c, (flatC us)[j]? = some c → cs[j]? = some c) :
    ∃ m', RepA k ⟨m', M.st, w0.alloc (.cells cs e fz0)⟩ (.sref n l.length size 0 l.length) (.slice (some ⟨M.w.heap.size, 0, none⟩) l.length cap) ∧ Stp k M ⟨m', M.st, w0.alloc (.cells cs e fz0)⟩ ∧ ∀ i, i ≠ n → m' i = M.m i := by
  obtain ⟨l1, l2⟩ := (RepAs.iff l us).1 hl
  have hle : l.length * size ≤ cap * size := Nat.mul_le_mul_right _ hlc
  have hg := grow hI hst hm (cs := cs) (e := e) (fz0 := fz0) (base := 0) w0 hw ho htp hout rfl (Nat.pos_of_ne_zero hs0) (by simp only [Nat.zero_add]; rw [Nat.mul_comm]; omega) (fun j hj _ _ => hfz j hj)
    (fun i av hi => by
      have hlt := (List.getElem?_eq_some_iff.1 hi).1
      simp only at hlt
      obtain ⟨u, hu⟩ : ∃ u, us[i]? = some u := ⟨_, List.getElem?_eq_getElem (by omega)⟩
      have hmem := List.mem_of_getElem? hu
      refine ⟨u, l2 i av u hi hu, hus u hmem, huc u hmem, fun j c hc => ?_⟩
      have hj := (Array.getElem?_eq_some_iff.1 hc).1
      rw [hus u hmem] at hj
      simp only [Nat.zero_add]
      exact hcs _ _ (by rw [flatC_get us hus i j u hu hj]; exact hc))
  have hnew : (w0.alloc (.cells cs e fz0)).heap[M.w.heap.size]? = some (.cells cs e fz0) := by rw [← hw]; exact heap_alloc_new w0 _
  refine ⟨_, ⟨_, hst, Nat.le_refl _, ⟨_, _, rfl, hlc, by simp⟩, fun _ => ⟨rfl, .inr ⟨rfl, rfl, by simp, M.w.heap.size, 0, cap, by simp, by simp, hlc, cs, e, fz0, hnew, by simpa using hcap⟩⟩⟩, hg, fun i hi => if_neg hi⟩

theorem fitL_iff {n : Nat} : ∀ (l : List AV), fitL n l = true ↔ ∀ x ∈ l, x.cells.length = n
  | [] => by simp [fitL]
  | x :: r => by simp [fitL, fitL_iff r]

theorem RepRow.values {k : Keep} {M : Mem} {b k' : Nat} : ∀ (l : List D) (o : Nat), RepRow (CC k false M) b k' o l →
    ∃ us : List Value, RepAs k M (l.map .d) us ∧ (∀ u ∈ us, u.cells.size = k') ∧ ∀ (j : Nat) c, (flatC us)[j]? = some c → CC k false M b (o + j) c
  | [], o, _ => ⟨[], rfl, by simp, fun j c h => by simp [flatC] at h⟩
  | x :: r, o, ⟨⟨v, h1, h2, h3⟩, hr⟩ => by
    obtain ⟨us, g1, g2, g3⟩ := RepRow.values r (o + k') hr
    refine ⟨v :: us, ⟨v, us, rfl, h1, g1⟩, fun u hu => ?_, fun j c hc => ?_⟩
    · rcases List.mem_cons.1 hu with rfl | hu
      · exact h2
      · exact g2 u hu
    · have hc' : (v.cells.toList ++ flatC us)[j]? = some c := hc
      by_cases hj : j < k'
      · rw [List.getElem?_append_left (by simp; omega)] at hc'
        exact h3 j c (by simpa using hc')
      · rw [List.getElem?_append_right (by simp; omega)] at hc'
        have := g3 (j - k') c (by simpa [h2] using hc')
        rwa [show o + k' + (j - k') = o + j by omega] at this

theorem RepAs.cellsOf {k : Keep} {M : Mem} {n : Nat} (hn : n ≠ 0) {l : List AV} {us : List Value} (h : RepAs k M l us) (hf : fitL n l = true) : (∀ u ∈ us, u.cells.size = n) ∧ ∀ u ∈ us, ∀ c ∈ u.cells, cellV c = true := by
  obtain ⟨l1, l2⟩ := (RepAs.iff l us).1 h
  have key : ∀ u ∈ us, u.cells.size = n ∧ ∀ c ∈ u.cells, cellV c = true := fun u hu => by
    obtain ⟨i, hi⟩ := List.getElem?_of_mem hu
    have hlt := (List.getElem?_eq_some_iff.1 hi).1
    obtain ⟨x, hx⟩ : ∃ x, l[i]? = some x := ⟨_, List.getElem?_eq_getElem (by omega)⟩
    have hxn := (fitL_iff l).1 hf x (List.mem_of_getElem? hx)
    obtain ⟨c1, c2, _⟩ := RepA.cells (l2 i x u hx hi) (by intro e; rw [e] at hxn; exact hn hxn.symm)
    exact ⟨by omega, c2⟩
  exact ⟨fun u hu => (key u hu).1, fun u hu => (key u hu).2⟩

/-- What a slice or a string holds, read. -/
theorem elemsOf_sound {k : Keep} {M : Mem} (hI : Inv k M) {st : Store} (hst : Pre st M.st) {x : AV} {u : Value} (hx : RepA k M x u) {xs : List AV} (h : elemsOf st x = some xs) {n : Nat} (hn : n ≠ 0)
    (hf : fitL n xs = true ∨ ∃ loc ep es off len b, x = .sref loc ep es off len ∧ getBlk st loc ep = some b ∧ b.es = n) :
    ∃ us : List Value, RepAs k M xs us ∧ (∀ u ∈ us, u.cells.size = n) ∧ (∀ u ∈ us, ∀ c ∈ u.cells, cellV c = true) ∧ (∀ w : World, (Builtin.lenOf u).run P w = .ok xs.length w) ∧
      ∀ w : World, w.heap = M.w.heap → (Builtin.firstCells n xs.length u).run P w = .ok (flatC us).toArray w := by
  have row : ∀ (b o len c : Nat) (us : List Value), xs.length = len → RepAs k M xs us → (∀ u ∈ us, u.cells.size = n) → (∀ u ∈ us, ∀ c ∈ u.cells, cellV c = true) → (∀ (j : Nat) c, (flatC us)[j]? = some c → cellAt M.w b (o + j) = some c) → u = .slice (some ⟨b, o, none⟩) len c →
      ∃ us : List Value, RepAs k M xs us ∧ (∀ u ∈ us, u.cells.size = n) ∧ (∀ u ∈ us, ∀ c ∈ u.cells, cellV c = true) ∧ (∀ w : World, (Builtin.lenOf u).run P w = .ok xs.length w) ∧ ∀ w : World, w.heap = M.w.heap → (Builtin.firstCells n xs.length u).run P w = .ok (flatC us).toArray w := by
    intro b o len c us hl hr hsz hcl hc hu
    subst hu hl
    obtain ⟨l1, _⟩ := (RepAs.iff xs us).1 hr
    refine ⟨us, hr, hsz, hcl, fun w => rfl, fun w hw => ?_⟩
    refine run_firstCells_some w n xs.length ⟨b, o, none⟩ _ c (flatC us) (by rw [flatC_len us hsz, l1]) (fun j v hj => ?_)
    rw [Addr.add_lit]
    have := hc j v hj
    show w.cell? _ = _
    unfold World.cell?
    rw [hw]; exact this
  have none' : xs = [] → (∃ c, u = .slice none 0 c) → ∃ us : List Value, RepAs k M xs us ∧ (∀ u ∈ us, u.cells.size = n) ∧ (∀ u ∈ us, ∀ c ∈ u.cells, cellV c = true) ∧ (∀ w : World, (Builtin.lenOf u).run P w = .ok xs.length w) ∧ ∀ w : World, w.heap = M.w.heap → (Builtin.firstCells n xs.length u).run P w = .ok (flatC us).toArray w := by
    rintro rfl ⟨c, rfl⟩
    exact ⟨[], rfl, by simp, by simp, fun w => rfl, fun w _ => rfl⟩
  have data : ∀ (l : List D) (a : Option Addr) (c : Nat), fitL n xs = true → xs = l.map .d → u = .slice a l.length c → (l = [] ∨ ∃ b o k', a = some ⟨b, o, none⟩ ∧ RepRow (CC k false M) b k' o l) →
      ∃ us : List Value, RepAs k M xs us ∧ (∀ u ∈ us, u.cells.size = n) ∧ (∀ u ∈ us, ∀ c ∈ u.cells, cellV c = true) ∧ (∀ w : World, (Builtin.lenOf u).run P w = .ok xs.length w) ∧ ∀ w : World, w.heap = M.w.heap → (Builtin.firstCells n xs.length u).run P w = .ok (flatC us).toArray w := by
    intro l a c hf hxs hu hl
    rcases hl with rfl | ⟨b, o, k', rfl, hrow⟩
    · subst hxs hu
      refine ⟨[], rfl, by simp, by simp, fun w => rfl, fun w _ => ?_⟩
      cases a with
      | none => rfl
      | some a => exact run_firstCells_some w n 0 a 0 c [] (by simp) (fun j v h => by simp at h)
    · obtain ⟨us, g1, g2, g3⟩ := hrow.values
      rw [← hxs] at g1
      exact row b o l.length c us (by rw [hxs]; simp) g1 (RepAs.cellsOf hn g1 hf).1 (RepAs.cellsOf hn g1 hf).2 (fun j c hc => (g3 j c hc).1) hu
  have hfit : (∀ loc ep es off len, x ≠ .sref loc ep es off len) → fitL n xs = true := fun hx => hf.resolve_right fun ⟨loc, ep, es, off, len, b, e, _⟩ => hx _ _ _ _ _ e
  unfold elemsOf at h
  split at h
  · cases h
    have hu : u = .slice none 0 0 := hx
    exact none' rfl ⟨0, hu⟩
  · cases h; obtain ⟨a, rfl, hl⟩ := hx; exact data _ a _ (hfit (by simp)) rfl rfl hl
  · cases h; obtain ⟨a, c, rfl, _, hl⟩ := hx; exact data _ a _ (hfit (by simp)) rfl rfl hl
  · cases h
    rename_i s
    obtain ⟨a, rfl, rfl⟩ := hx
    have hrep : ∀ l : List UInt8, RepAs k M (l.map fun c => AV.d (.lit (.int .u8 c.toNat))) (l.map fun c => Value.int .u8 c.toNat) := by
      intro l; induction l with
      | nil => rfl
      | cons c l ih => exact ⟨_, _, rfl, RepA.mkInt _ _, ih⟩
    have hflat : ∀ l : List UInt8, flatC (l.map fun c => Value.int .u8 c.toNat) = l.map fun c => Value.int .u8 c.toNat := by
      intro l; induction l with
      | nil => rfl
      | cons c l ih => simp only [flatC, List.map_cons, List.flatten_cons] at ih ⊢; rw [ih]; rfl
    have hlen : a.data.toList.length = a.size := by rw [Array.length_toList]; rfl
    have hfit' := hfit (by simp)
    have hco := RepAs.cellsOf hn (hrep a.data.toList) hfit'
    refine ⟨_, hrep _, hco.1, hco.2, fun w => ?_, fun w _ => ?_⟩
    · simp only [List.length_map, hlen]; rfl
    · simp only [List.length_map, hlen, Builtin.firstCells]
      rw [hflat]
      have : a.extract 0 a.size = a := by
        apply ByteArray.ext
        simp [ByteArray.data_extract]
      rw [this]
      show Result.ok _ _ = _
      congr 1
      apply Array.ext'
      simp
  · rename_i loc ep es off len
    obtain ⟨bl, hbl, h⟩ := Option.bind_eq_some_iff.1 h
    obtain ⟨b1, b2⟩ := getBlk_some hbl
    by_cases hle : Nat.ble (off + len) bl.elems.length = true
    · simp only [hle, cond_true] at h
      have hle := Nat.le_of_ble_eq_true hle
      cases h
      obtain ⟨y, hy, _, _, hrest⟩ := hx
      rw [hst _ _ b1] at hy; cases hy
      obtain ⟨_, hcase⟩ := hrest b2
      rcases hcase with ⟨hv, rfl, rfl, rfl⟩ | ⟨hv, hes0, hle2, b, base, c, hm, rfl, _, _⟩
      · exact none' (by simp) ⟨0, rfl⟩
      · obtain ⟨_, hes, cs, e, fz', hh, hsz, hfr, hel⟩ := hI.blk _ _ _ _ hm (hst _ _ b1)
        have hlen : ((bl.elems.drop off).take len).length = len := by rw [List.length_take, List.length_drop]; omega
        have hch : ∀ m, m ≤ len → ∃ us : List Value, RepAs k M (((bl.elems.drop off).take len).take m) us ∧ (∀ u ∈ us, u.cells.size = bl.es) ∧ (∀ u ∈ us, ∀ c ∈ u.cells, cellV c = true) ∧ ∀ (j : Nat) c, (flatC us)[j]? = some c → cs[base + off * bl.es + j]? = some c := by
          intro m
          induction m with
          | zero => intro _; exact ⟨[], rfl, by simp, by simp, fun j c h => by simp [flatC] at h⟩
          | succ m ih =>
            intro hm'
            obtain ⟨us, g1, g2, g2', g3⟩ := ih (by omega)
            obtain ⟨av, hav⟩ : ∃ av, ((bl.elems.drop off).take len)[m]? = some av := ⟨_, List.getElem?_eq_getElem (by omega)⟩
            have hav' : bl.elems[off + m]? = some av := by
              rw [List.getElem?_take, if_pos (by omega), List.getElem?_drop] at hav; exact hav
            obtain ⟨v, v1, v2, v3, v4⟩ := hel _ _ hav'
            obtain ⟨q1, q2⟩ := (RepAs.iff _ _).1 g1
            have hul : us.length = m := by rw [← q1, List.length_take]; omega
            refine ⟨us ++ [v], ?_, fun u hu => ?_, fun u hu => ?_, fun j c hc => ?_⟩
            · rw [List.take_add_one, hav]
              refine (RepAs.iff _ _).2 ⟨by simp [q1], fun i x u hx hu => ?_⟩
              simp only [Option.toList] at hx
              by_cases hi : i < us.length
              · rw [List.getElem?_append_left (by omega)] at hx hu
                exact q2 i x u hx hu
              · rw [List.getElem?_append_right (by omega)] at hx hu
                rw [q1] at hx
                have hi0 : i - us.length = 0 := by
                  have := (List.getElem?_eq_some_iff.1 hu).1; simp at this; omega
                rw [hi0] at hx hu
                simp at hx hu
                subst hx hu; exact v1
            · rcases List.mem_append.1 hu with hu | hu
              · exact g2 u hu
              · simp at hu; subst hu; exact v2
            · rcases List.mem_append.1 hu with hu | hu
              · exact g2' u hu
              · simp at hu; subst hu; exact v3
            · have hc' : (flatC us ++ v.cells.toList)[j]? = some c := by
                have : flatC (us ++ [v]) = flatC us ++ v.cells.toList := by simp [flatC]
                rwa [this] at hc
              have hfl := flatC_len us g2
              by_cases hj : j < (flatC us).length
              · rw [List.getElem?_append_left hj] at hc'
                exact g3 j c hc'
              · rw [List.getElem?_append_right (by omega)] at hc'
                have := v4 (j - (flatC us).length) c (by simpa using hc')
                rw [← this, hfl, hul, Nat.add_mul]
                congr 1
                have : m * bl.es ≤ j := by rw [hfl, hul] at hj; omega
                omega
        obtain ⟨us, g1, g2, g2', g3⟩ := hch len (Nat.le_refl _)
        rw [List.take_of_length_le (by omega)] at g1
        have hszn : ∀ u ∈ us, u.cells.size = n := by
          rcases hf with hf | ⟨_, _, _, _, _, b', e, hb', hbe⟩
          · exact (RepAs.cellsOf hn g1 hf).1
          · cases e; rw [hbl] at hb'; cases hb'; rw [← hbe]; exact g2
        refine row b (base + off * bl.es) len c us hlen g1 hszn g2' (fun j c hc => ?_) rfl
        show M.w.cell? _ = _
        rw [cell_of_row M.w b _ cs e fz' hh]; exact g3 j c hc
    · simp [Bool.eq_false_iff.2 hle] at h
  · cases h

theorem fzEs_sound {k : Keep} {M : Mem} (hI : Inv k M) {st : Store} (hst : Pre st M.st) : ∀ (l : List AV) (us : List Value), RepAs k M l us → RepAs k M (l.map (fzE st)) us
  | [], us, h => h
  | x :: r, us, ⟨v, t, e, hx, hr⟩ => ⟨v, t, e, fzE_sound hI hst hx, fzEs_sound hI hst r t hr⟩

end Go.Eng
