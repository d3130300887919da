/- The engine, part 7: more single operations that only compute or read. Conditions: none. -/
import Derived.Test.YtjbaoopiffcigaaE6
set_option linter.unusedVariables false
set_option linter.unusedSimpArgs false
namespace Go.Eng
variable {P : Program}

theorem binV_sound {k : Keep} {M : Mem} {st : Store} (hst : Pre st M.st) {t : TypeId} {op : BinOp} {x y r : AV} {u v : Value} (hx : RepA k M x u) (hy : RepA k M y v) (h : binV P t op st x y = some r) (ox oy : Operand) (w : World) :
    ∃ vr, (do eqGuard op t ox oy u v; binOp op t u v : Sem Value).run P w = .ok vr w ∧ RepA k M r vr := by
  have fin : ∀ {u v : Value} {vr : Value}, cellV u = true → u ≠ .nilIface → (binOp op t u v).run P w = .ok vr w → (do eqGuard op t ox oy u v; binOp op t u v : Sem Value).run P w = .ok vr w := by
    intro u v vr h1 h2 h3
    simp only [Sem.run_bind, run_eqGuard w h1 h2, Result.andThen_ok, h3]
  unfold binV at h
  split at h
  · rename_i q a q' b
    cases hx.2
    cases hy.2
    split at h
    · obtain ⟨z, hz, rfl⟩ := Option.map_eq_some_iff.1 h
      obtain ⟨vr, g1, rfl, g3⟩ := shiftI_sound (P := P) (q := q') (.inl rfl) hz t w
      exact ⟨vr, fin rfl (by simp) g1, g3, rfl⟩
    · obtain ⟨z, hz, rfl⟩ := Option.map_eq_some_iff.1 h
      obtain ⟨vr, g1, rfl, g3⟩ := shiftI_sound (P := P) (q := q') (.inr rfl) hz t w
      exact ⟨vr, fin rfl (by simp) g1, g3, rfl⟩
    · split at h
      · rename_i hq
        subst hq
        obtain ⟨z, hz, rfl⟩ := Option.map_eq_some_iff.1 h
        obtain ⟨vr, g1, rfl, g3⟩ := binI_sound (P := P) hz t w
        exact ⟨vr, fin rfl (by simp) g1, g3, rfl⟩
      · cases h
  · obtain ⟨z, hz, rfl⟩ := Option.map_eq_some_iff.1 h
    obtain ⟨a, rfl, ha⟩ := hx
    obtain ⟨b, rfl, hb⟩ := hy
    obtain ⟨vr, g1, g2⟩ := binS_sound (P := P) hz ha hb t w (C := CC k false M)
    exact ⟨vr, fin rfl (by simp) g1, g2⟩
  · rename_i a b
    split at h
    · rename_i hk
      obtain ⟨z, hz, rfl⟩ := Option.map_eq_some_iff.1 h
      cases hx.2
      cases hy.2
      obtain ⟨d, hd, hk'⟩ := tkOf_spec (P := P) (t := t) (by rw [hk]; simp)
      rw [hk] at hk'
      obtain rfl : d = .bool := by cases d <;> simp [kOf] at hk' <;> rfl
      have e1 : ∀ y z, Op.equal t y z = Op.equalIn (9999 + 1) t y z := fun _ _ => rfl
      have he : (Op.equal t (.bool a) (.bool b)).run P w = .ok (a == b) w := by
        rw [e1, Op.equalIn]; simp only [Sem.run_bind, run_underlying hd, Result.andThen_ok]; rfl
      unfold binB at hz
      cases op <;> simp only at hz <;> try (cases hz; done)
      · cases hz
        refine ⟨.bool (a == b), fin rfl (by simp) ?_, RepA.mkBool _⟩
        show (do pure (.bool (← Op.equal t (.bool a) (.bool b))) : Sem Value).run P w = _
        simp only [Sem.run_bind, he, Result.andThen_ok, Sem.run_pure]
      · cases hz
        refine ⟨.bool (!(a == b)), fin rfl (by simp) ?_, RepA.mkBool _⟩
        show (do pure (.bool (!(← Op.equal t (.bool a) (.bool b)))) : Sem Value).run P w = _
        simp only [Sem.run_bind, he, Result.andThen_ok, Sem.run_pure]
    · cases h
  · exact nilV_sound hst hx hy h ox oy w

theorem unV_sound {k : Keep} {M : Mem} {op : UnOp} {x r : AV} {u : Value} (hx : RepA k M x u) (h : unV op x = some r) (w : World) : ∃ vr, (Op.unary op u).run P w = .ok vr w ∧ RepA k M r vr := by
  unfold unV at h
  split at h
  · cases h; cases hx.2; exact ⟨_, rfl, RepA.mkBool _⟩
  · cases h; cases hx.2; exact ⟨_, rfl, RepA.mkInt _ _⟩
  · cases h; cases hx.2; exact ⟨_, rfl, RepA.mkInt _ _⟩
  · cases h

theorem lenV_sound {k : Keep} {M : Mem} {x : AV} {u : Value} {n : Nat} (hx : RepA k M x u) (h : lenV x = some n) : (∃ s : ByteArray, u = .string s ∧ s.size = n) ∨ ∃ a c, u = .slice a n c := by
  unfold lenV at h
  split at h <;> cases h
  · have : u = .slice none 0 0 := hx; exact .inr ⟨_, _, this⟩
  · obtain ⟨a, rfl, _⟩ := hx; exact .inr ⟨_, _, rfl⟩
  · obtain ⟨a, c, rfl, _⟩ := hx; exact .inr ⟨_, _, rfl⟩
  · obtain ⟨a, rfl, rfl⟩ := hx; exact .inl ⟨a, rfl, by rw [Array.length_toList]; rfl⟩
  · obtain ⟨_, _, _, ⟨a, c, rfl, _⟩, _⟩ := hx; exact .inr ⟨_, _, rfl⟩

theorem maxF_sound {k : Keep} {M : Mem} (mn : Bool) : ∀ (l : List AV) (vs : List Value) (x r : AV) (u : Value), RepA k M x u → RepAs k M l vs → maxF mn x l = some r →
    ∀ w : World, ∃ vr, (vs.foldlM (if mn then Builtin.min2 else Builtin.max2) u : Sem Value).run P w = .ok vr w ∧ RepA k M r vr := by
  intro l
  induction l with
  | nil => intro vs x r u hx hl h w; have : vs = [] := hl; subst this; simp only [maxF] at h; cases h; exact ⟨u, rfl, hx⟩
  | cons y l ih =>
    intro vs x r u hx hl h w
    obtain ⟨v, t, rfl, hy, hr⟩ := hl
    simp only [maxF] at h
    obtain ⟨z, hz, h⟩ := Option.bind_eq_some_iff.1 h
    unfold max2V at hz
    split at hz
    · rename_i q p q' p'
      cases hz
      cases hx.2
      cases hy.2
      obtain ⟨vr, g1, g2⟩ := ih t _ r _ (RepA.mkInt _ _) hr h w
      refine ⟨vr, ?_, g2⟩
      rw [List.foldlM_cons]
      simp only [Sem.run_bind]
      cases mn <;> simpa [Builtin.min2, Builtin.max2] using g1
    · cases hz

theorem virtCells_sound {sh : Bool} {k : Keep} {M : Mem} : ∀ (l : List AV) (n : Nat) (vs : List Value), (∀ (i : Nat) b, (virtCells sh n l).2[i]? = some b → M.st[n + i]? = some b) → RepAs k M l vs → RepAs k M (virtCells sh n l).1 vs := by
  intro l
  induction l with
  | nil => intro n vs _ h; exact h
  | cons x r ih =>
    intro n vs hst h
    obtain ⟨v, t, rfl, hx, hr⟩ := h
    cases x with
    | snil =>
      simp only [virtCells] at hst ⊢
      refine ⟨v, t, rfl, ?_, ih (n + 1) t (fun i b hb => by have := hst (i + 1) b (by simpa using hb); rwa [show n + (i + 1) = n + 1 + i by omega] at this) hr⟩
      have hv : v = .slice none 0 0 := hx
      subst hv
      exact ⟨⟨0, [], true, sh, true⟩, by simpa using hst 0 _ rfl, Nat.le_refl _, ⟨none, 0, rfl, by simp, by simp⟩, fun _ => ⟨rfl, .inl ⟨rfl, rfl, rfl, rfl⟩⟩⟩
    | _ => simp only [virtCells] at hst ⊢; exact ⟨v, t, rfl, hx, ih n t hst hr⟩

theorem virtAV_sound {sh : Bool} {k : Keep} {M : Mem} {x : AV} {n : Nat} {u : Value} (hst : ∀ (i : Nat) b, (virtAV sh n x).2[i]? = some b → M.st[n + i]? = some b) (h : RepA k M x u) : RepA k M (virtAV sh n x).1 u := by
  cases x with
  | agg l =>
    obtain ⟨cs, rfl, hl, hc⟩ := h
    exact ⟨cs, rfl, virtCells_sound l n cs hst hl, hc⟩
  | snil =>
    have hv : u = .slice none 0 0 := h
    subst hv
    exact ⟨⟨0, [], true, sh, true⟩, by simpa [virtAV] using hst 0 _ rfl, Nat.le_refl _, ⟨none, 0, rfl, by simp, by simp⟩, fun _ => ⟨rfl, .inl ⟨rfl, rfl, rfl, rfl⟩⟩⟩
  | _ => exact h

theorem virtCells_form (sh : Bool) : ∀ (l : List AV) (n : Nat), (∀ b ∈ (virtCells sh n l).2, BlkForm b ∧ b.virt = true) ∧ (virtCells sh n l).1.length = l.length := by
  intro l
  induction l with
  | nil => intro n; exact ⟨fun b hb => by simp [virtCells] at hb, rfl⟩
  | cons x r ih =>
    intro n
    cases x with
    | snil =>
      simp only [virtCells]
      refine ⟨fun b hb => ?_, by simp [(ih (n + 1)).2]⟩
      rcases List.mem_cons.1 hb with rfl | hb
      · exact ⟨⟨fun h => by simp at h, fun _ => rfl⟩, rfl⟩
      · exact (ih (n + 1)).1 b hb
    | _ => simp only [virtCells]; exact ⟨(ih n).1, by simp [(ih n).2]⟩

theorem virtAV_form (sh : Bool) (x : AV) (n : Nat) : (∀ b ∈ (virtAV sh n x).2, BlkForm b ∧ b.virt = true) ∧ ((virtAV sh n x).1.cells.length = x.cells.length) := by
  cases x with
  | agg l => exact ⟨(virtCells_form sh l n).1, (virtCells_form sh l n).2⟩
  | snil =>
    refine ⟨fun b hb => ?_, rfl⟩
    simp only [virtAV, List.mem_singleton] at hb
    subst hb
    exact ⟨⟨fun h => by simp at h, fun _ => rfl⟩, rfl⟩
  | _ => exact ⟨fun b hb => by simp [virtAV] at hb, rfl⟩

theorem pickV_sound {k : Keep} {M : Mem} {c : Bool} {x y : AV} {u v : Value} (hx : c = true → RepA k M x u) (hy : c = false → RepA k M y v) : RepA k M (pickV c x y) (if c then u else v) := by
  unfold pickV
  cases c
  · have hy := hy rfl
    split
    · exact hy
    · split
      · rename_i e; subst e; exact hy
      · exact hy
    · exact hy
    · exact hy
  · have hx := hx rfl
    split
    · exact hx
    · split
      · exact hx
      · exact hx
    · exact hx
    · exact hx

theorem agg_splice {k : Keep} {M : Mem} {zc ac : List AV} {cs us res : Array Value} {o : Nat} (hl : zc.length = cs.size) (hz : ∀ (j : Nat) a c, zc[j]? = some a → cs[j]? = some c → RepA k M a c) (hzc : ∀ c ∈ cs, cellV c = true)
    (hla : ac.length = us.size) (ha : ∀ (j : Nat) a c, ac[j]? = some a → us[j]? = some c → RepA k M a c) (hac : ∀ c ∈ us, cellV c = true) (hle : o + ac.length ≤ zc.length) (hrs : res.size = cs.size)
    (hres : ∀ j : Nat, res[j]? = if o ≤ j ∧ j < o + us.size then us[j - o]? else cs[j]?) :
    RepA k M (.agg (zc.take o ++ (ac ++ zc.drop (o + ac.length)))) (.agg res) := by
  have hl1 : (zc.take o).length = o := by simp; omega
  refine ⟨res.toList, by simp, (RepAs.iff _ _).2 ⟨?_, fun i a c hi hc => ?_⟩, fun c hc => ?_⟩
  · simp only [List.length_append, List.length_take, List.length_drop, Array.length_toList]; omega
  · rw [Array.getElem?_toList, hres] at hc
    by_cases h1 : i < o
    · rw [if_neg (by omega)] at hc
      rw [List.getElem?_append_left (by omega), List.getElem?_take, if_pos h1] at hi
      exact hz i a c hi hc
    · rw [List.getElem?_append_right (by omega), hl1] at hi
      by_cases h2 : i < o + us.size
      · rw [if_pos ⟨by omega, h2⟩] at hc
        rw [List.getElem?_append_left (by omega)] at hi
        exact ha _ a c hi hc
      · rw [if_neg (by omega)] at hc
        rw [List.getElem?_append_right (by omega), List.getElem?_drop, show o + ac.length + (i - o - ac.length) = i by omega] at hi
        exact hz i a c hi hc
  · obtain ⟨i, hi⟩ := List.getElem?_of_mem hc
    rw [Array.getElem?_toList, hres] at hi
    split at hi
    · exact hac c (Array.mem_of_getElem? hi)
    · exact hzc c (Array.mem_of_getElem? hi)

theorem fold_set (off : Nat) : ∀ (l : List Value) (s : Nat) (cs : Array Value), off + s + l.length ≤ cs.size →
    ((l.zipIdx s).foldl (fun cs (c, j) => cs.setIfInBounds (off + j) c) cs).size = cs.size ∧
    ∀ j : Nat, ((l.zipIdx s).foldl (fun cs (c, j) => cs.setIfInBounds (off + j) c) cs)[j]? = if off + s ≤ j ∧ j < off + s + l.length then l[j - (off + s)]? else cs[j]?
  | [], s, cs, _ => ⟨rfl, fun j => by rw [if_neg (by simp only [List.length_nil]; omega)]; rfl⟩
  | c :: l, s, cs, h => by
    simp only [List.length_cons] at h
    obtain ⟨h1, h2⟩ := fold_set off l (s + 1) (cs.setIfInBounds (off + s) c) (by simp; omega)
    simp only [List.zipIdx_cons, List.foldl_cons, List.length_cons]
    refine ⟨h1.trans (by simp), fun j => ?_⟩
    rw [h2 j]
    by_cases e : j = off + s
    · subst e
      rw [if_neg (by omega), if_pos (by omega)]
      simp [show off + s < cs.size by omega]
    · by_cases e2 : off + s ≤ j ∧ j < off + s + (l.length + 1)
      · rw [if_pos (by omega), if_pos e2, show j - (off + s) = (j - (off + (s + 1))) + 1 by omega]
        rfl
      · rw [if_neg (by omega), if_neg e2, Array.getElem?_setIfInBounds_ne (by omega)]

theorem buildS_sound {k : Keep} {M : Mem} {places : Array (Nat × Nat)} (fs : List (Nat × Nat)) (hp : places.toList = fs) :
    ∀ (parts : List (Nat × AV)) (vs : List (Nat × Value)) (z r : AV) (cs : Array Value), z.cells.length = cs.size → (∀ (j : Nat) a c, z.cells[j]? = some a → cs[j]? = some c → RepA k M a c) → (∀ c ∈ cs, cellV c = true) → parts.length = vs.length →
    (∀ (i : Nat) p q, parts[i]? = some p → vs[i]? = some q → p.1 = q.1 ∧ RepA k M p.2 q.2) → buildV.buildS fs z parts = some r →
    ∃ cs', Instr.fill (places[·]?) cs vs = some cs' ∧ RepA k M r (.agg cs') := by
  intro parts
  induction parts with
  | nil =>
    intro vs z r cs hz1 hz2 hz3 hl _ h
    have : vs = [] := List.length_eq_zero_iff.1 hl.symm
    subst this
    simp only [buildV.buildS] at h
    cases h
    exact ⟨cs, rfl, cs.toList, by simp, (RepAs.iff _ _).2 ⟨by simpa using hz1, fun i x v hx hv => hz2 i x v hx (by simpa using hv)⟩, fun c hc => hz3 c (by simpa using hc)⟩
  | cons p parts ih =>
    intro vs z r cs hz1 hz2 hz3 hl hrep h
    cases vs with
    | nil => simp at hl
    | cons q vs =>
      obtain ⟨f, a⟩ := p
      obtain ⟨f', b⟩ := q
      obtain ⟨e1, hab⟩ := hrep 0 _ _ rfl rfl
      simp only at e1 hab
      subst e1
      simp only [buildV.buildS] at h
      obtain ⟨⟨o, sz⟩, hf, h⟩ := Option.bind_eq_some_iff.1 h
      by_cases hc : (a.cells.length == sz && Nat.ble (o + sz) z.cells.length && !(sz == 0)) = true
      · simp only [hc, cond_true] at h
        simp only [Bool.and_eq_true, beq_iff_eq, Bool.not_eq_true', beq_eq_false_iff_ne] at hc
        obtain ⟨⟨rfl, hle⟩, hz0⟩ := hc
        have hle := Nat.le_of_ble_eq_true hle
        have hane : a.cells ≠ [] := fun e => hz0 (by rw [e]; rfl)
        obtain ⟨a1, a2, a3, a4, a5⟩ := RepA.cells hab hane
        have hplace : places[f]? = some (o, a.cells.length) := by rw [← Array.getElem?_toList, hp]; exact hf
        obtain ⟨f1, f2⟩ := fold_set o b.cells.toList 0 cs (by simp; omega)
        have hagg := agg_splice (k := k) (M := M) (o := o) hz1 hz2 hz3 a1 a5 a2 hle f1 (fun j => by rw [f2 j]; simp)
        obtain ⟨cs', hcs', hl', hcell'⟩ := hagg
        have hcs2 : (b.cells.toList.zipIdx.foldl (fun cs (c, j) => cs.setIfInBounds (o + j) c) cs) = cs'.toArray := by injection hcs'
        obtain ⟨l1, l2⟩ := (RepAs.iff _ _).1 hl'
        obtain ⟨cs2, g1, g2⟩ := ih vs (.agg (z.cells.take o ++ (a.cells ++ z.cells.drop (o + a.cells.length)))) r cs'.toArray (by show List.length (z.cells.take o ++ (a.cells ++ z.cells.drop (o + a.cells.length))) = _; rw [l1]; simp) (fun j x c hx hc => l2 j x c hx (by simpa using hc)) (fun c hc => hcell' c (by simpa using hc)) (by simpa using hl)
          (fun i p q hp hq => hrep (i + 1) p q (by simpa using hp) (by simpa using hq)) h
        refine ⟨cs2, ?_, g2⟩
        simp only [Instr.fill, hplace]
        rw [if_neg (by simp; omega)]
        rw [← g1, ← hcs2, ← Array.foldl_toList, Array.toList_zipIdx]
      · simp [Bool.eq_false_iff.2 hc] at h

end Go.Eng
