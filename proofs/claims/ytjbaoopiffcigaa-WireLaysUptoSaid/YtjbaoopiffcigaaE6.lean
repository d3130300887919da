/- The engine, part 6: the single operations, those that only compute or read. Conditions: none. -/
import Derived.Test.YtjbaoopiffcigaaE5
import Derived.Laws.BytesString
import Derived.Laws.Cover3
import Derived.Laws.Tables
import Derived.Laws.Concat
set_option linter.unusedVariables false
set_option linter.unusedSimpArgs false
namespace Go.Eng
variable {P : Program}

/-- A prefix of the store. -/
def Pre (st stE : Store) : Prop := ∀ (i : Nat) b, st[i]? = some b → stE[i]? = some b

theorem asI_some {x : AV} {n : Int} (h : asI x = some n) : ∃ k, x = .d (.lit (.int k n)) := by
  unfold asI at h
  split at h
  · cases h; exact ⟨_, rfl⟩
  · cases h

theorem asB_some {x : AV} {n : Bool} (h : asB x = some n) : x = .d (.lit (.bool n)) := by
  unfold asB at h
  split at h
  · cases h; rfl
  · cases h

theorem RepA.int {k : Keep} {M : Mem} {q : IntKind} {n : Int} {v : Value} (h : RepA k M (.d (.lit (.int q n))) v) : v = .int q n := h.2
theorem RepA.bool {k : Keep} {M : Mem} {n : Bool} {v : Value} (h : RepA k M (.d (.lit (.bool n))) v) : v = .bool n := h.2
theorem RepA.mkInt {k : Keep} {M : Mem} (q : IntKind) (n : Int) : RepA k M (.d (.lit (.int q n))) (.int q n) := ⟨rfl, rfl⟩
theorem RepA.mkBool {k : Keep} {M : Mem} (n : Bool) : RepA k M (.d (.lit (.bool n))) (.bool n) := ⟨rfl, rfl⟩

theorem mapM_get {α β : Type} {f : α → Option β} : ∀ {l : List α} {r : List β}, l.mapM f = some r → ∀ (i : Nat) y, r[i]? = some y → ∃ x, l[i]? = some x ∧ f x = some y
  | [], r, h, i, y, hy => by simp at h; subst h; simp at hy
  | a :: l, r, h, i, y, hy => by
    simp only [List.mapM_cons, Option.bind_eq_bind, Option.pure_def] at h
    obtain ⟨b, hb, h2⟩ := Option.bind_eq_some_iff.1 h
    obtain ⟨t, ht, h3⟩ := Option.bind_eq_some_iff.1 h2
    cases h3
    cases i with
    | zero => simp at hy; subst hy; exact ⟨a, rfl, hb⟩
    | succ i => obtain ⟨x, h4, h5⟩ := mapM_get ht i y (by simpa using hy); exact ⟨x, by simpa using h4, h5⟩

theorem fieldP_sound {k : Keep} {M : Mem} {t : TypeId} {i : TI} (ht : tiOf P t = some i) {f : Nat} {p r : AV} {u : Value} (hu : RepA k M p u) (h : fieldP i f p = some r) (w : World) :
    ∃ v, (Instr.fieldAt t u f).run P w = .ok v w ∧ RepA k M r v := by
  obtain ⟨info, d, h1, h2, h3, h4, h5, h6⟩ := ti_spec ht
  unfold fieldP at h
  rw [h6] at h
  cases d <;> simp only [kOf] at h <;> try (cases h; done)
  rename_i fields
  split at h
  case h_2 => cases h
  rename_i l hl
  have hl' : fields.toList.mapM (fun f => (P.info? f.type).map fun i => (f.offset, i.size)) = some l := by injection hl
  obtain ⟨⟨o, sz⟩, hf, h9⟩ := Option.bind_eq_some_iff.1 h
  clear h
  obtain ⟨fd, hfd, hfe⟩ := mapM_get hl' f _ hf
  obtain ⟨inf, hi, hfe⟩ := Option.map_eq_some_iff.1 hfe
  cases hfe
  rw [Array.getElem?_toList] at hfd
  by_cases hz : (inf.size == 0) = true
  · simp [hz] at h9
  · simp only [Bool.eq_false_iff.2 hz, cond_false] at h9
    have hne : inf.size ≠ 0 := by simpa using hz
    have hrun : ∀ a : Addr, (Instr.fieldAt t (.pointer (some a)) f).run P w = .ok (.pointer (some (a.add fd.offset))) w := fun a => by
      simp [Instr.fieldAt, run_underlying h2, hfd, Instr.sureAddr, fieldPlace, sizeOf, typeInfo, hi, hne]
    split at h9
    · cases h9
      rename_i loc ep idx off
      obtain ⟨x, hx, he, hv, a, rfl⟩ := hu
      refine ⟨_, hrun a, x, hx, he, fun e => ?_, _, rfl⟩
      obtain ⟨g1, b, base, hm, hv⟩ := hv e
      cases hv
      exact ⟨g1, b, base, hm, by rw [Addr.add_lit]; simp [Nat.add_assoc]⟩
    · cases h9
      obtain ⟨b, o, v, rfl, hx, hj⟩ := hu
      exact ⟨_, hrun _, b, o, v, by rw [Addr.add_lit]; simp [Nat.add_assoc], hx, hj⟩
    · cases h9
      rename_i t' n loc off
      obtain ⟨⟨x, hx, he, hv, a, ha⟩, b1, cs, fz, e1, e2, e3⟩ := hu
      subst e1
      refine ⟨_, hrun _, ⟨x, hx, he, fun e => ?_, _, rfl⟩, b1, cs, fz, by rw [Addr.add_lit], e2, e3⟩
      obtain ⟨g1, b, base, hm, hv⟩ := hv e
      simp only [Value.pointer.injEq, Option.some.injEq, Addr.mk.injEq] at hv
      obtain ⟨rfl, hb, _⟩ := hv
      refine ⟨g1, b1, base, hm, ?_⟩
      rw [Addr.add_lit]
      simp only [Value.pointer.injEq, Option.some.injEq, Addr.mk.injEq, and_true, true_and]
      omega
    · cases h9

theorem idxI_some {ix : Int} {n j : Nat} (h : idxI ix n = some j) : 0 ≤ ix ∧ ix = (j : Int) ∧ j < n := by
  unfold idxI at h
  split at h
  · rename_i h0
    by_cases hl : Nat.blt ix.toNat n = true
    · simp only [hl, cond_true] at h
      cases h
      have : ix.toNat < n := Nat.le_of_ble_eq_true hl
      exact ⟨h0, by omega, this⟩
    · simp [Bool.eq_false_iff.2 hl] at h
  · cases h

theorem RepRow.get {C : Nat → Nat → Value → Prop} {b k o : Nat} {l : List D} (h : RepRow C b k o l) {i : Nat} {x : D} (hx : l[i]? = some x) :
    ∃ v, RepD C x v ∧ v.cells.size = k ∧ ∀ (j : Nat) u, v.cells[j]? = some u → C b (o + i * k + j) u := (RepRow.iff b k l o).1 h i x hx

theorem AV.d_cells (x : D) : (AV.d x).cells ≠ [] ∨ x = .agg [] := by
  cases x with
  | agg l => cases l <;> simp [AV.cells]
  | _ => left; simp [AV.cells]

theorem indexP_sound {k : Keep} {M : Mem} {t : TypeId} {i : TI} (ht : tiOf P t = some i) {p r : AV} {u : Value} (hu : RepA k M p u) {q : IntKind} {n : Int} (h : indexP P i p n = some r) (w : World) :
    ∃ v, (Instr.indexAt t u (.int q n)).run P w = .ok v w ∧ RepA k M r v := by
  obtain ⟨info, d, h1, h2, h3, h4, h5, h6⟩ := ti_spec ht
  unfold indexP at h
  rw [h6] at h
  cases d <;> simp only [kOf] at h <;> try (cases h; done)
  · rename_i elem
    obtain ⟨ei, hei, h9⟩ := Option.bind_eq_some_iff.1 h
    clear h
    have hrun : ∀ (a : Addr) (len c j : Nat), j < len → (Instr.indexAt t (.slice (some a) len c) (.int q (j : Int))).run P w = .ok (.pointer (some (a.add (j * ei.size)))) w := fun a len c j hj => by
      simp [Instr.indexAt, asIntOf, run_underlying h2, hj, run_sizeOf' hei]
    have hsl : ∀ (l : List D) (a : Option Addr) (c : Nat), (l = [] ∨ ∃ b o k', a = some ⟨b, o, none⟩ ∧ RepRow (CC k false M) b k' o l) →
        ((idxI n l.length).bind fun j => (l[j]?).bind fun e => bif (AV.d e).cells.length == ei.size then some (AV.eptr e 0) else none) = some r →
        ∃ v, (Instr.indexAt t (.slice a l.length c) (.int q n)).run P w = .ok v w ∧ RepA k M r v := by
      clear h9
      intro l a c hl h7
      obtain ⟨j, hj, h8⟩ := Option.bind_eq_some_iff.1 h7
      obtain ⟨e, he, h9⟩ := Option.bind_eq_some_iff.1 h8
      clear h7 h8
      obtain ⟨h0, rfl, hlt⟩ := idxI_some hj
      rcases hl with rfl | ⟨b, o, k', rfl, hrow⟩
      · simp at hlt
      · by_cases hs : ((AV.d e).cells.length == ei.size) = true
        · simp only [hs, cond_true] at h9
          cases h9
          obtain ⟨v, g1, g2, g3⟩ := hrow.get he
          have hk : j * k' = j * ei.size := by
            rcases AV.d_cells e with hne | rfl
            · have := (RepA.cells (k := k) (M := M) (x := .d e) g1 hne).1
              rw [beq_iff_eq] at hs
              rw [← g2, ← this, hs]
            · obtain ⟨cs, rfl, hcs⟩ := g1
              have : cs = [] := hcs
              subst this
              simp [AV.cells] at hs
              simp [Value.cells] at g2
              rw [← g2, ← hs]
          refine ⟨_, hrun _ _ _ _ hlt, b, o + j * k', v, by rw [Addr.add_lit, hk]; simp, g1, fun i c hc => by have := g3 i c hc; exact this⟩
        · simp [Bool.eq_false_iff.2 hs] at h9
    split at h9
    · rename_i loc ep es off len
      by_cases hs : (es == ei.size) = true
      · simp only [hs, cond_true] at h9
        obtain ⟨j, hj, h8⟩ := Option.map_eq_some_iff.1 h9
        cases h8
        clear h9
        obtain ⟨h0, rfl, hlt⟩ := idxI_some hj
        obtain ⟨x, hx, he, ⟨a, c, rfl, _, ha⟩, hv⟩ := hu
        cases a with
        | none => have := ha (by omega); simp at this
        | some a =>
          refine ⟨_, hrun _ _ _ _ hlt, x, hx, he, fun e => ?_, _, rfl⟩
          obtain ⟨hr1, hcase⟩ := hv e
          rcases hcase with ⟨_, hv, _⟩ | ⟨hvi, hes, hle, b, base, c', hm, hv, hc, _⟩
          · cases hv
          · cases hv
            refine ⟨hvi, b, base, hm, ?_⟩
            rw [Addr.add_lit, ← hes, Nat.add_mul, beq_iff_eq.1 hs]; simp [Nat.add_assoc]
      · simp [Bool.eq_false_iff.2 hs] at h9
    · obtain ⟨a, c, rfl, hc, hl⟩ := hu
      exact hsl _ a c hl h9
    · obtain ⟨a, rfl, hl⟩ := hu
      exact hsl _ a _ hl h9
    · cases h9
  · rename_i len elem
    obtain ⟨ei, hei, h9⟩ := Option.bind_eq_some_iff.1 h
    clear h
    by_cases hz : (ei.size == 0) = true
    · simp [hz] at h9
    · simp only [Bool.eq_false_iff.2 hz, cond_false] at h9
      obtain ⟨j, hj, h8⟩ := Option.bind_eq_some_iff.1 h9
      clear h9
      obtain ⟨h0, rfl, hlt⟩ := idxI_some hj
      have hrun : ∀ a : Addr, (Instr.indexAt t (.pointer (some a)) (.int q (j : Int))).run P w = .ok (.pointer (some (a.add (j * ei.size)))) w := fun a => by
        simp [Instr.indexAt, asIntOf, run_underlying h2, hlt, run_sizeOf' hei, Instr.sureAddr]
      split at h8
      · cases h8
        rename_i loc ep idx off
        obtain ⟨x, hx, he, hv, a, rfl⟩ := hu
        refine ⟨_, hrun a, x, hx, he, fun e => ?_, _, rfl⟩
        obtain ⟨g1, b, base, hm, hv⟩ := hv e
        cases hv
        exact ⟨g1, b, base, hm, by rw [Addr.add_lit]; simp [Nat.add_assoc]⟩
      · cases h8
        obtain ⟨b, o, v, rfl, hx, hj⟩ := hu
        exact ⟨_, hrun _, b, o, v, by rw [Addr.add_lit]; simp [Nat.add_assoc], hx, hj⟩
      · cases h8

theorem indexV_sound {k : Keep} {M : Mem} {t : TypeId} {i : TI} (ht : tiOf P t = some i) {p r : AV} {u : Value} (hu : RepA k M p u) {q : IntKind} {n : Int} (h : indexV i p n = some r) (w : World) :
    ∃ v, (Instr.index t u (.int q n)).run P w = .ok v w ∧ RepA k M r v := by
  obtain ⟨info, d, h1, h2, h3, h4, h5, h6⟩ := ti_spec ht
  unfold indexV at h
  rw [h6] at h
  cases d <;> simp only [kOf] at h <;> try (cases h; done)
  · split at h
    · rename_i s
      obtain ⟨j, hj, h⟩ := Option.bind_eq_some_iff.1 h
      obtain ⟨c, hc, h⟩ := Option.map_eq_some_iff.1 h
      cases h
      obtain ⟨a, rfl, rfl⟩ := hu
      obtain ⟨h0, rfl, hlt⟩ := idxI_some hj
      refine ⟨_, ?_, RepA.mkInt _ _⟩
      have hca : a[j]? = some c := by
        rw [Array.getElem?_toList] at hc
        obtain ⟨hlt', hc'⟩ := Array.getElem?_eq_some_iff.1 hc
        rw [getElem?_pos a j (show j < a.size from hlt')]
        exact congrArg some hc'
      simp only [Instr.index, asIntOf, Sem.run_bind, Sem.run_pure, Result.andThen_ok, run_underlying h2]
      rw [if_pos (Int.natCast_nonneg j), Int.toNat_natCast, hca]
      simp only [Sem.run_pure]
    · cases h


theorem run_eqGuard {op : BinOp} {t : TypeId} {x y : Operand} {a b : Value} (w : World) (ha : cellV a = true) (hn : a ≠ .nilIface) : (eqGuard op t x y a b).run P w = .ok () w := by
  cases op <;> first
    | rfl
    | (cases a <;> first
        | (exact absurd rfl hn)
        | (simp [cellV] at ha; done)
        | (cases b <;> rfl))

theorem RepA.cellOf {k : Keep} {M : Mem} {x : AV} {v : Value} (h : RepA k M x v) (h1 : x.isAgg = false) (h2 : x.cells ≠ []) : cellV v = true := by
  obtain ⟨_, g2, _, g4, _⟩ := RepA.cells h h2
  exact g2 v (by rw [g4 h1]; simp)

theorem tkOf_spec {t : TypeId} (h : tkOf P t ≠ .other) : ∃ d, P.underlying t = some d ∧ tkOf P t = kOf P d := by
  unfold tkOf at h ⊢
  cases ht : tiOf P t with
  | none => simp [ht] at h
  | some i =>
    obtain ⟨info, d, h1, h2, h3, h4, h5, h6⟩ := ti_spec ht
    exact ⟨d, h2, h6⟩

theorem binI_sound {op : BinOp} {k : IntKind} {a b : Int} {r : D} (h : binI op k a b = some r) (t : TypeId) (w : World) :
    ∃ v, (binOp op t (.int k a) (.int k b)).run P w = .ok v w ∧ r = .lit v ∧ cellV v = true := by
  unfold binI at h
  cases op <;> simp only at h <;> try (cases h; done)
  case quo | rem =>
    split at h
    · cases h
    · rename_i hb
      cases h
      exact ⟨_, by simp [binOp, Op.intDiv, hb], rfl, rfl⟩
  all_goals
    cases h
    exact ⟨_, by simp [binOp, Op.intArith, Op.intBits, Op.intCmp], rfl, rfl⟩

theorem shiftI_sound {op : BinOp} {k q : IntKind} {a b : Int} {r : D} (ho : op = .shl ∨ op = .shr) (h : shiftI op k a b = some r) (t : TypeId) (w : World) :
    ∃ v, (binOp op t (.int k a) (.int q b)).run P w = .ok v w ∧ r = .lit v ∧ cellV v = true := by
  unfold shiftI at h
  split at h
  · cases h
  · rename_i hb
    rcases ho with rfl | rfl <;> cases h <;> exact ⟨_, by simp [binOp, Op.shift, hb], rfl, rfl⟩

theorem toList_eq (a : ByteArray) : a.toList = a.data.toList := _root_.Go.ByteArray.toList_eq a

theorem binS_sound {op : BinOp} {a b : List UInt8} {r : D} (h : binS op a b = some r) {x y : ByteArray} (hx : x.data.toList = a) (hy : y.data.toList = b) (t : TypeId) (w : World) {C : Nat → Nat → Value → Prop} :
    ∃ v, (binOp op t (.string x) (.string y)).run P w = .ok v w ∧ RepD C r v := by
  subst hx hy
  have e1 : ∀ o, binOp o t (.string x) (.string y) = Op.stringOp o x y := fun o => by cases o <;> rfl
  unfold binS at h
  rw [e1]
  cases op <;> simp only at h <;> try (cases h; done)
  case add =>
    by_cases hl : Nat.ble (x.data.toList.length + y.data.toList.length) strMost = true
    · simp only [hl, cond_true] at h
      cases h
      have hl := Nat.le_of_ble_eq_true hl
      have : x.size + y.size ≤ 9223372036854775807 := by
        have hl' : x.data.size + y.data.size ≤ strMost := by simpa only [Array.length_toList] using hl
        exact Nat.le_trans hl' (by decide)
      exact ⟨_, run_string_add_sum w x y this, _, rfl, by rw [ByteArray.data_append, Array.toList_append]⟩
    · simp only [Bool.eq_false_iff.2 hl, cond_false] at h
      cases h
  all_goals
    cases h
    refine ⟨_, by simp only [Op.stringOp, toList_eq]; rfl, rfl, rfl⟩

theorem nilV_sound {k : Keep} {M : Mem} {st : Store} (hst : Pre st M.st) {t : TypeId} {op : BinOp} {x y r : AV} {u v : Value} (hx : RepA k M x u) (hy : RepA k M y v) (h : nilV (tkOf P t) op st x y = some r) (ox oy : Operand) (w : World) :
    ∃ vr, (do eqGuard op t ox oy u v; binOp op t u v : Sem Value).run P w = .ok vr w ∧ RepA k M r vr := by
  unfold nilV at h
  by_cases hn : isNilLit (tkOf P t) y = true
  · simp only [hn, cond_true] at h
    have hko : tkOf P t ≠ .other := by intro e; rw [e] at hn; simp [isNilLit] at hn
    obtain ⟨d, hd, hk⟩ := tkOf_spec hko
    have key : ∀ b, isNil st (tkOf P t) x = some b → (Op.equal t u v).run P w = .ok b w ∧ cellV u = true ∧ u ≠ .nilIface ∧ (∀ o : BinOp, o = .eql → binOp o t u v = do pure (.bool (← Op.equal t u v))) ∧ (∀ o : BinOp, o = .neq → binOp o t u v = do pure (.bool (!(← Op.equal t u v)))) := by
      intro b hb
      cases hkk : tkOf P t with
      | slice e =>
        rw [hkk] at hn hb hk
        simp only [isNilLit] at hn
        simp only [isNil] at hb
        split at hn
        case h_2 => cases hn
        have hv : v = .slice none 0 0 := hy
        subst hv
        unfold isNilS at hb
        obtain ⟨e', rfl⟩ : ∃ e', d = .slice e' := by cases d <;> simp [kOf] at hk; exact ⟨_, rfl⟩
        have main : ∀ a l c, u = .slice a l c → b = a.isNone → (Op.equal t u (.slice none 0 0)).run P w = .ok b w ∧ cellV u = true ∧ u ≠ .nilIface ∧ (∀ o : BinOp, o = .eql → binOp o t u (.slice none 0 0) = do pure (.bool (← Op.equal t u (.slice none 0 0)))) ∧ (∀ o : BinOp, o = .neq → binOp o t u (.slice none 0 0) = do pure (.bool (!(← Op.equal t u (.slice none 0 0))))) := by
          rintro a l c rfl rfl
          exact ⟨run_equal_slice_nil w t e' a l c hd, rfl, by simp, fun o ho => by subst ho; rfl, fun o ho => by subst ho; rfl⟩
        split at hb
        · cases hb; have hu : u = .slice none 0 0 := hx; exact main none 0 0 hu rfl
        · cases hb; obtain ⟨a, rfl, hl⟩ := hx; rcases hl with hl | ⟨b', o, k', rfl, _⟩
          · simp at hl
          · exact main _ _ _ rfl rfl
        · cases hb; obtain ⟨a, c, rfl, _, hl⟩ := hx; rcases hl with hl | ⟨b', o, k', rfl, _⟩
          · simp at hl
          · exact main _ _ _ rfl rfl
        · obtain ⟨bl, hbl, rfl⟩ := Option.map_eq_some_iff.1 hb
          obtain ⟨g1, g2⟩ := getBlk_some hbl
          obtain ⟨z, hz, hep, _, hrest⟩ := hx
          rw [hst _ _ g1] at hz; cases hz
          obtain ⟨_, hc⟩ := hrest g2
          rcases hc with ⟨hv, rfl, _⟩ | ⟨hv, _, _, b', base, c, _, rfl, _⟩
          · exact main none 0 0 rfl (by rw [hv]; rfl)
          · exact main _ _ _ rfl (by rw [hv]; rfl)
        · cases hb
      | ptr =>
        rw [hkk] at hn hb hk
        simp only [isNilLit] at hn
        simp only [isNil] at hb
        split at hn
        case h_2 => cases hn
        have hv : v = .pointer none := hy.2
        subst hv
        unfold isNilP at hb
        obtain ⟨e', rfl⟩ : ∃ e', d = .pointer e' := by cases d <;> simp [kOf] at hk; exact ⟨_, rfl⟩
        have main : ∀ a, u = .pointer a → b = a.isNone → (Op.equal t u (.pointer none)).run P w = .ok b w ∧ cellV u = true ∧ u ≠ .nilIface ∧ (∀ o : BinOp, o = .eql → binOp o t u (.pointer none) = do pure (.bool (← Op.equal t u (.pointer none)))) ∧ (∀ o : BinOp, o = .neq → binOp o t u (.pointer none) = do pure (.bool (!(← Op.equal t u (.pointer none))))) := by
          rintro a rfl rfl
          refine ⟨?_, rfl, by simp, fun o ho => by subst ho; rfl, fun o ho => by subst ho; rfl⟩
          have e1 : ∀ y z, Op.equal t y z = Op.equalIn (9999 + 1) t y z := fun _ _ => rfl
          cases a <;> (rw [e1, Op.equalIn]; simp only [Sem.run_bind, run_underlying hd, Result.andThen_ok]; rfl)
        split at hb
        · cases hb; obtain ⟨⟨z, _, _, _, a, rfl⟩, _⟩ := hx; exact main _ rfl rfl
        · cases hb; obtain ⟨z, _, _, _, a, rfl⟩ := hx; exact main _ rfl rfl
        · cases hb; obtain ⟨b', o, z, rfl, _⟩ := hx; exact main _ rfl rfl
        · cases hb; exact main none hx.2 rfl
        · cases hb
      | fn =>
        rw [hkk] at hn hb hk
        simp only [isNilLit] at hn
        simp only [isNil] at hb
        split at hn
        case h_2 => cases hn
        have e1 : ∀ y z, Op.equal t y z = Op.equalIn (9999 + 1) t y z := fun _ _ => rfl
        have hv : v = .nilFunc := hy.2
        subst hv
        unfold isNilF at hb
        obtain ⟨e', e'', e3, rfl⟩ : ∃ e' e'' e3, d = .func e' e'' e3 := by cases d <;> simp [kOf] at hk; exact ⟨_, _, _, rfl⟩
        split at hb
        · cases hb; obtain ⟨cs, rfl, _⟩ := hx
          exact ⟨by rw [e1, Op.equalIn]; simp only [Sem.run_bind, run_underlying hd, Result.andThen_ok]; rfl, rfl, by simp, fun o ho => by subst ho; rfl, fun o ho => by subst ho; rfl⟩
        · cases hb; obtain ⟨_, rfl⟩ := hx
          exact ⟨by rw [e1, Op.equalIn]; simp only [Sem.run_bind, run_underlying hd, Result.andThen_ok]; rfl, rfl, by simp, fun o ho => by subst ho; rfl, fun o ho => by subst ho; rfl⟩
        · cases hb
      | _ => rw [hkk] at hn; simp [isNilLit] at hn
    cases op <;> simp only at h <;> try (cases h; done)
    · obtain ⟨b, hb, rfl⟩ := Option.map_eq_some_iff.1 h
      obtain ⟨g1, g2, g3, g4, g5⟩ := key b hb
      refine ⟨_, ?_, RepA.mkBool _⟩
      rw [g4 _ rfl]
      simp only [Sem.run_bind, run_eqGuard w g2 g3, Result.andThen_ok, g1, Sem.run_pure]
    · obtain ⟨b, hb, rfl⟩ := Option.map_eq_some_iff.1 h
      obtain ⟨g1, g2, g3, g4, g5⟩ := key b hb
      refine ⟨_, ?_, RepA.mkBool _⟩
      rw [g5 _ rfl]
      simp only [Sem.run_bind, run_eqGuard w g2 g3, Result.andThen_ok, g1, Sem.run_pure]
  · simp [Bool.eq_false_iff.2 hn] at h

end Go.Eng
