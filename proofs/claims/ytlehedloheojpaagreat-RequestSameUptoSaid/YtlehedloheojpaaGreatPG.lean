/- Layer 26: the law of sameness; the request that an argument reads as. Conditions: none. -/
import Derived.Test.YtlehedloheojpaaGreatPE
import Derived.Test.YtlehedloheojpaaGreatPF
import Derived.Test.YtlehedloheojpaaGreatRows
import Derived.ChangeBook
import Derived.ChangeStays
import Derived.Deep.Slices
import Derived.Below
import Derived.ChangeSame
set_option linter.unusedVariables false
set_option linter.unusedSimpArgs false
namespace Go.L25
open Go Go.Eng Go.Proofs
open Nat (reduceShiftRight reduceAnd reduceEqDiff reduceLeDiff)
open Int (reduceToNat)
set_option maxRecDepth 10000
set_option maxHeartbeats 4000000
theorem e17_16 (a b : Rq) : (dq a.id b.id && (dq a.kd b.kd && (dq a.nm b.nm && (dq a.ver b.ver && (dq a.mth b.mth && (dq a.sec b.sec && (dq a.scp b.scp && (dq a.mst b.mst && (dq a.typ b.typ &&
    (dq a.rdn b.rdn && (dq a.kep b.kep && (dq a.abv b.abv && (dq a.hab b.hab && ((dq a.pn b.pn && dq a.pv b.pv) && (dq a.tgt b.tgt && (dq a.flt b.flt &&
    (dq a.att b.att && (dq a.chg b.chg && dq a.vls b.vls)))))))))))))))))) = ((dq a.id b.id && (dq a.kd b.kd && (dq a.nm b.nm && (dq a.ver b.ver && (dq a.mth b.mth && (dq a.sec b.sec && (dq a.scp b.scp && (dq a.mst b.mst && dq a.typ b.typ)))))))) && ((dq a.rdn b.rdn && (dq a.kep b.kep && (dq a.abv b.abv && (dq a.hab b.hab && ((dq a.pn b.pn && dq a.pv b.pv) && dq a.tgt b.tgt))))) && (dq a.chg b.chg && (dq a.flt b.flt && (dq a.att b.att && dq a.vls b.vls))))) := by
  rw [Bool.eq_iff_iff]
  simp only [Bool.and_eq_true]
  constructor
  · rintro ⟨h0, h1, h2, h3, h4, h5, h6, h7, h8, h9, h10, h11, h12, h13, h15, h16, h17, h18, h19⟩
    exact ⟨⟨h0, h1, h2, h3, h4, h5, h6, h7, h8⟩, ⟨h9, h10, h11, h12, h13, h15⟩, h18, h16, h17, h19⟩
  · rintro ⟨⟨h0, h1, h2, h3, h4, h5, h6, h7, h8⟩, ⟨h9, h10, h11, h12, h13, h15⟩, h18, h16, h17, h19⟩
    exact ⟨h0, h1, h2, h3, h4, h5, h6, h7, h8, h9, h10, h11, h12, h13, h15, h16, h17, h18, h19⟩
theorem cv_9' (call : Eng.Call) (wr : Bool) (args : List AV) (st : Store) : callV X call wr 9 args st = cvP call wr 9 args st (fzAll (fz false st 6) args) := cv_pure rfl rfl call wr args st
theorem t5 (a b : Rq) : pureCall C 5 [(.agg [.lit (.int .i64 a.id), .lit (.int .i64 a.kd), .str (bs a.nm), .lit (.int .i64 a.ver), .lit (.int .i64 a.mth), .str (bs a.sec), .lit (.int .i64 a.scp), .lit (.int .i64 a.mst), .lit (.bool a.typ), .lit (.int .i64 (kind a.flt)), .str (bs (name a.flt)), .str (bs (value a.flt)), .str (bs (ini a.flt)), .sl (List.map encS (any a.flt)), .str (bs (fin a.flt)), .lit (.bool (hi a.flt)), .lit (.bool (hf a.flt)), .str (bs (rule a.flt)), .lit (.bool (dn a.flt)), .sl (List.map encO (kids a.flt)), .sl (List.map encS a.att), .sl (List.map encC a.chg), .sl (List.map encV a.vls), .str (bs a.rdn), .lit (.bool a.kep), .str (bs a.abv), .lit (.bool a.hab), .str (bs a.pn), .str (bs a.pv), .lit (.int .i64 a.tgt)]), (.agg [.lit (.int .i64 b.id), .lit (.int .i64 b.kd), .str (bs b.nm), .lit (.int .i64 b.ver), .lit (.int .i64 b.mth), .str (bs b.sec), .lit (.int .i64 b.scp), .lit (.int .i64 b.mst), .lit (.bool b.typ), .lit (.int .i64 (kind b.flt)), .str (bs (name b.flt)), .str (bs (value b.flt)), .str (bs (ini b.flt)), .sl (List.map encS (any b.flt)), .str (bs (fin b.flt)), .lit (.bool (hi b.flt)), .lit (.bool (hf b.flt)), .str (bs (rule b.flt)), .lit (.bool (dn b.flt)), .sl (List.map encO (kids b.flt)), .sl (List.map encS b.att), .sl (List.map encC b.chg), .sl (List.map encV b.vls), .str (bs b.rdn), .lit (.bool b.kep), .str (bs b.abv), .lit (.bool b.hab), .str (bs b.pn), .str (bs b.pv), .lit (.int .i64 b.tgt)])] = some (tf true) := by
  obtain ⟨u, ha⟩ := t8 a
  obtain ⟨v, hb⟩ := t8 b
  have h16 := t16 a b
  have h17 := t17 a b
  rw [e17_16] at h17
  generalize ((dq a.id b.id && (dq a.kd b.kd && (dq a.nm b.nm && (dq a.ver b.ver && (dq a.mth b.mth && (dq a.sec b.sec && (dq a.scp b.scp && (dq a.mst b.mst && dq a.typ b.typ)))))))) && ((dq a.rdn b.rdn && (dq a.kep b.kep && (dq a.abv b.abv && (dq a.hab b.hab && ((dq a.pn b.pn && dq a.pv b.pv) && dq a.tgt b.tgt))))) && (dq a.chg b.chg && (dq a.flt b.flt && (dq a.att b.att && dq a.vls b.vls))))) = w at h16 h17
  have h9 := t9
  rw [p5]
  simp -implicitDefEqProofs (maxSteps := 10000000) (disch := omega) only [go_sem, Int.reduceAdd, Int.reduceSub, Int.reduceMul, dec_t, dec_f, Nat.reduceBEq, Nat.reduceBNe, reduceShiftRight, reduceAnd, Nat.reduceAdd, Nat.reduceSub, reduceEqDiff, Nat.reduceLT, reduceLeDiff, reduceToNat, Int.reduceLT, Int.reduceLE, Int.reduceEq, reduceIte, reduceCtorEq, cv_9', ha, hb, h16, h17, h9]
  cases u
  · simp -implicitDefEqProofs (maxSteps := 10000000) (disch := omega) only [go_sem, Int.reduceAdd, Int.reduceSub, Int.reduceMul, dec_t, dec_f, Nat.reduceBEq, Nat.reduceBNe, reduceShiftRight, reduceAnd, Nat.reduceAdd, Nat.reduceSub, reduceEqDiff, Nat.reduceLT, reduceLeDiff, reduceToNat, Int.reduceLT, Int.reduceLE, Int.reduceEq, reduceIte, reduceCtorEq, cv_9', ha, hb, h16, h17, h9]
  simp -implicitDefEqProofs (maxSteps := 10000000) (disch := omega) only [go_sem, Int.reduceAdd, Int.reduceSub, Int.reduceMul, dec_t, dec_f, Nat.reduceBEq, Nat.reduceBNe, reduceShiftRight, reduceAnd, Nat.reduceAdd, Nat.reduceSub, reduceEqDiff, Nat.reduceLT, reduceLeDiff, reduceToNat, Int.reduceLT, Int.reduceLE, Int.reduceEq, reduceIte, reduceCtorEq, cv_9', ha, hb, h16, h17, h9]
  cases v
  · simp -implicitDefEqProofs (maxSteps := 10000000) (disch := omega) only [go_sem, Int.reduceAdd, Int.reduceSub, Int.reduceMul, dec_t, dec_f, Nat.reduceBEq, Nat.reduceBNe, reduceShiftRight, reduceAnd, Nat.reduceAdd, Nat.reduceSub, reduceEqDiff, Nat.reduceLT, reduceLeDiff, reduceToNat, Int.reduceLT, Int.reduceLE, Int.reduceEq, reduceIte, reduceCtorEq, cv_9', ha, hb, h16, h17, h9]
  simp -implicitDefEqProofs (maxSteps := 10000000) (disch := omega) only [go_sem, Int.reduceAdd, Int.reduceSub, Int.reduceMul, dec_t, dec_f, Nat.reduceBEq, Nat.reduceBNe, reduceShiftRight, reduceAnd, Nat.reduceAdd, Nat.reduceSub, reduceEqDiff, Nat.reduceLT, reduceLeDiff, reduceToNat, Int.reduceLT, Int.reduceLE, Int.reduceEq, reduceIte, reduceCtorEq, cv_9', ha, hb, h16, h17, h9]
set_option maxRecDepth 100000
section
variable {H : Type} {enc : TypeId × Value → H} {P : Program} {W : World} {base : Nat} {spare : Nat → Bool} {held : Bool}
theorem rd_int {n : Nat} {t : TypeId} {k : IntKind} {c : Value} {y : DataW H × List MemPlace} (hu : P.underlying t = some (.int k)) (h : DataW.trod enc P W base spare held n t [c] = some y) : ∃ v, c = .int k v ∧ y.1 = .lit (.int k v) := by
  cases n with
  | zero => simp [DataW.trod] at h
  | succ n =>
    unfold DataW.trod at h
    rw [hu] at h
    cases c <;> simp at h
    rename_i k' v
    obtain ⟨⟨rfl, _⟩, rfl⟩ := h
    exact ⟨v, rfl, rfl⟩
theorem rd_bool {n : Nat} {t : TypeId} {c : Value} {y : DataW H × List MemPlace} (hu : P.underlying t = some .bool) (h : DataW.trod enc P W base spare held n t [c] = some y) : ∃ v, c = .bool v ∧ y.1 = .lit (.bool v) := by
  cases n with
  | zero => simp [DataW.trod] at h
  | succ n =>
    unfold DataW.trod at h
    rw [hu] at h
    cases c <;> simp at h
    rename_i v
    subst h
    exact ⟨v, rfl, rfl⟩
theorem rd_str {n : Nat} {t : TypeId} {c : Value} {y : DataW H × List MemPlace} (hu : P.underlying t = some .string) (h : DataW.trod enc P W base spare held n t [c] = some y) : ∃ s : ByteArray, c = .string s ∧ y.1 = .lit (.string s.data.toList) := by
  cases n with
  | zero => simp [DataW.trod] at h
  | succ n =>
    unfold DataW.trod at h
    rw [hu] at h
    cases c <;> simp at h
    rename_i s
    obtain ⟨_, rfl⟩ := h
    exact ⟨s, rfl, rfl⟩
def fieldsOf : TypeDesc → Option (List (Nat × Nat))
  | .struct fs => some (fs.toList.map fun f => (f.type, f.offset))
  | _ => none
theorem rd_fields {n : Nat} {t : TypeId} {cs : List Value} {x : DataW H × List MemPlace} {l : List (Nat × Nat)} (hu : (P.underlying t).bind fieldsOf = some l) (h : DataW.trod enc P W base spare held n t cs = some x) :
    ∃ (xs : List (DataW H × List MemPlace)) (m : Nat), x.1 = .agg (xs.map (·.1)) ∧ cs.length = P.cellsOf t ∧ xs.length = l.length ∧
      ∀ (j ty off : Nat), l[j]? = some (ty, off) → ∃ y, xs[j]? = some y ∧ DataW.trod enc P W base spare held m ty ((cs.drop off).take (P.cellsOf ty)) = some y := by
  obtain ⟨d, hd, hf⟩ := Option.bind_eq_some_iff.1 hu
  cases d <;> simp [fieldsOf] at hf
  rename_i fs
  obtain ⟨xs, m, _, rfl, hl, hlen, hx⟩ := DataW.trod_struct hd h
  refine ⟨xs, m, rfl, hl, by rw [← hf]; simpa using hlen, fun j ty off hj => ?_⟩
  rw [← hf, List.getElem?_map, Option.map_eq_some_iff] at hj
  obtain ⟨f, hfj, he⟩ := hj
  simp only [Prod.mk.injEq] at he
  obtain ⟨rfl, rfl⟩ := he
  have hq := hx j f (by rw [← Array.getElem?_toList]; exact hfj)
  have hjl : j < xs.length := by
    have := (List.getElem?_eq_some_iff.1 hfj).1
    rw [hlen]; simpa using this
  refine ⟨xs[j], List.getElem?_eq_getElem hjl, ?_⟩
  rw [hq, List.getElem?_eq_getElem hjl]
theorem cell_spot {w : World} {a : Addr} {v : Value} (h : w.cell? a = some v) : a = ⟨a.block, a.off, none⟩ := by
  obtain ⟨b, o, sp⟩ := a
  cases sp with
  | none => rfl
  | some s =>
    exfalso
    unfold World.cell? at h
    split at h <;> simp at h
end
theorem lists {α : Type} {p : Nat → α → Prop} : ∀ n : Nat, (∀ i, i < n → ∃ x, p i x) → ∃ L : List α, L.length = n ∧ ∀ i x, L[i]? = some x → p i x
  | 0, _ => ⟨[], rfl, fun i x h => by simp at h⟩
  | n + 1, h => by
    obtain ⟨L, hl, hL⟩ := lists n fun i hi => h i (by omega)
    obtain ⟨x, hx⟩ := h n (by omega)
    refine ⟨L ++ [x], by simp [hl], fun i y hy => ?_⟩
    by_cases hi : i < n
    · rw [List.getElem?_append_left (by omega)] at hy; exact hL i y hy
    · rw [List.getElem?_append_right (by omega)] at hy
      have : i = n := by have := (List.getElem?_eq_some_iff.1 hy).1; simp at this; omega
      subst this
      simp [hl] at hy
      rw [← hy]; exact hx
theorem u3 : Tryz.prog.underlying 3 = some (.int .i64) := by kernel_rfl
theorem u4 : Tryz.prog.underlying 4 = some .bool := by kernel_rfl
theorem u9 : Tryz.prog.underlying 9 = some .string := by kernel_rfl
theorem u22 : Tryz.prog.underlying 22 = some (.slice 9) := by kernel_rfl
theorem u25 : Tryz.prog.underlying 25 = some (.slice 27) := by kernel_rfl
theorem f24 : (Tryz.prog.underlying 24).bind fieldsOf = some [(9, 0), (22, 1), (9, 2), (4, 3), (4, 4)] := by kernel_rfl
theorem f27 : (Tryz.prog.underlying 27).bind fieldsOf = some [(3, 0), (9, 1), (9, 2), (24, 3), (9, 8), (4, 9), (25, 10)] := by kernel_rfl
theorem c3 : Tryz.prog.cellsOf 3 = 1 := by kernel_rfl
theorem c4 : Tryz.prog.cellsOf 4 = 1 := by kernel_rfl
theorem c9 : Tryz.prog.cellsOf 9 = 1 := by kernel_rfl
theorem c22 : Tryz.prog.cellsOf 22 = 1 := by kernel_rfl
theorem c24 : Tryz.prog.cellsOf 24 = 5 := by kernel_rfl
theorem c25 : Tryz.prog.cellsOf 25 = 1 := by kernel_rfl
theorem c27 : Tryz.prog.cellsOf 27 = 11 := by kernel_rfl
section
variable {H : Type} {enc : TypeId × Value → H} {W : World} {spare : Nat → Bool} {held : Bool}
def keepW (W : World) : Keep := ⟨W.heap.size, fun _ _ => True, fun _ _ _ => trivial⟩
theorem cc_of {W : World} {b o : Nat} {v : Value} (h : W.cell? ⟨b, o, none⟩ = some v) : CC (keepW W) false (noMem W) b o v :=
  ⟨h, trivial, fun i base x hm => by cases hm⟩
abbrev CW (W : World) : Nat → Nat → Value → Prop := CC (keepW W) false (noMem W)
open YtlehedloheojpaaGreat.Rows in
theorem one_le (d : DataW H) : 1 ≤ uptoBulk d := by
  cases d with
  | lit l => cases l <;> simp [uptoBulk]
  | nil => simp [uptoBulk]
  | ptr d => simp [uptoBulk]
  | slice elems spare => simp [uptoBulk]
  | agg parts => simp [uptoBulk]
  | iface t d => simp [uptoBulk]
  | map entries => simp [uptoBulk]
  | held h => simp [uptoBulk]
open YtlehedloheojpaaGreat.Rows in
theorem part_le {d : DataW H} {l : List (DataW H)} (h : d ∈ l) : uptoBulk d ≤ uptoBulkAll l := by
  induction l with
  | nil => cases h
  | cons x r ih =>
    simp only [uptoBulkAll]
    cases List.mem_cons.1 h with
    | inl e => subst e; omega
    | inr e => have := ih e; omega
open YtlehedloheojpaaGreat.Rows in
theorem len_le (l : List (DataW H)) : l.length ≤ uptoBulkAll l := by
  induction l with
  | nil => simp [uptoBulkAll]
  | cons x r ih => have := one_le x; simp only [uptoBulkAll, List.length_cons]; omega
open YtlehedloheojpaaGreat.Rows in
theorem rd_text {n : Nat} {c : Value} {y : DataW H × List MemPlace} (h : DataW.trod enc Tryz.prog W 0 spare held n 9 [c] = some y) (hb : uptoBulk y.1 ≤ 1048576) : ∃ s : Bs, cellV c = true ∧ RepD (CW W) (.str (bs s)) c := by
  obtain ⟨s, rfl, hy⟩ := rd_str u9 h
  rw [hy] at hb
  simp only [uptoBulk] at hb
  exact ⟨⟨s.data.toList, by omega⟩, rfl, s, rfl, rfl⟩
open YtlehedloheojpaaGreat.Rows in
theorem rd_texts {n : Nat} {c : Value} {y : DataW H × List MemPlace} (h : DataW.trod enc Tryz.prog W 0 spare held n 22 [c] = some y) (hb : uptoBulk y.1 ≤ 1048576) :
    ∃ l : List Bs, l.length ≤ 2 ^ 28 ∧ cellV c = true ∧ RepD (CW W) (.sl (l.map encS)) c := by
  rcases Go.Deep.open_slice u22 h with ⟨h1, h2⟩ | ⟨a, len, cap, m, k, D, Pl, h1, hba, hl, hm, hmm, h2, hx⟩
  · simp only [List.cons.injEq, and_true] at h1
    subst h1
    exact ⟨[], by simp, rfl, none, 0, rfl, Nat.le_refl _, .inl rfl⟩
  · simp only [List.cons.injEq, and_true] at h1
    subst h1
    rw [h2] at hb
    simp only [uptoBulk] at hb
    have hlm : len ≤ m := by rw [hmm]; split <;> omega
    have hlen := len_le ((List.range len).map D)
    simp only [List.length_map, List.length_range] at hlen
    obtain ⟨L, hL, hp⟩ := lists (α := Bs) (p := fun i s => ∃ v, W.cell? (a.add i) = some v ∧ RepD (CW W) (.str (bs s)) v ∧ cellV v = true) len (fun i hi => by
      obtain ⟨cs', q1, q2⟩ := hx i (by omega)
      rw [c9, Nat.mul_one] at q1
      obtain ⟨_, q3, q4⟩ := World.cells?_some q1
      match cs', q3 with
      | [v], _ =>
        obtain ⟨s, s1, s2⟩ := rd_text q2 (by
          have := part_le (d := D i) (l := (List.range len).map D) (List.mem_map.2 ⟨i, List.mem_range.2 hi, rfl⟩)
          simp only
          omega)
        refine ⟨s, v, ?_, s2, s1⟩
        have := q4 0 (by omega)
        rw [show (a.add i).add 0 = a.add i from rfl] at this
        exact this)
    refine ⟨L, by rw [hL]; omega, rfl, some a, cap, by simp [hL], by simp [hL]; exact hl, ?_⟩
    cases hz : L with
    | nil => exact .inl rfl
    | cons s0 r =>
      right
      obtain ⟨v0, w0, _⟩ := hp 0 s0 (by rw [hz]; rfl)
      have ha := cell_spot w0
      have hsp : a = ⟨a.block, a.off, none⟩ := by
        have h0 : a.add 0 = a := by unfold Addr.add; simp
        rw [h0] at ha; exact ha
      rw [← hz]
      refine ⟨a.block, a.off, 1, by rw [← hsp], (RepRow.iff _ _ _ _).2 fun i x hix => ?_⟩
      rw [List.getElem?_map, Option.map_eq_some_iff] at hix
      obtain ⟨s, hs, rfl⟩ := hix
      obtain ⟨v, w1, w2, w3⟩ := hp i s hs
      refine ⟨v, w2, ?_, fun j u hu => ?_⟩
      · obtain ⟨ba, rfl, _⟩ := w2; rfl
      · obtain ⟨ba, rfl, _⟩ := w2
        have hj : j = 0 := by have := (Array.getElem?_eq_some_iff.1 hu).1; simp [Value.cells] at this; exact this
        subst hj
        have hu : Value.string ba = u := by simpa [Value.cells] using hu
        subst hu
        rw [hsp, Addr.add_lit] at w1
        simpa using cc_of w1
def cellsD (F : Fo) : List D := match encO F with | .agg l => l | _ => []
theorem encO_cells (F : Fo) : encO F = .agg (cellsD F) := by
  unfold cellsD
  rw [encO_eq]
def mkFo (k : Int) (n v i : Bs) (a : List Bs) (e : Bs) (hi hf : Bool) (r : Bs) (d : Bool) (ks : List Fo) (ha : a.length ≤ 2 ^ 28) (hk : ks.length ≤ 2 ^ 30) : Fo :=
  ⟨.mk k n v i a e hi hf r d (ks.map fun (x : Fo) => x.1), .mk ha (by rw [show (ks.map fun (x : Fo) => x.1).length = ks.length from List.length_map _]; exact hk) (fun f hf => by
    obtain ⟨x, -, rfl⟩ := List.mem_map.1 hf
    exact x.2)⟩
theorem mkFo_cells {k n v i a e hi hf r d ks ha hk} : cellsD (mkFo k n v i a e hi hf r d ks ha hk) = [.lit (.int .i64 k), .str (bs n), .str (bs v), .str (bs i), .sl (a.map encS), .str (bs e), .lit (.bool hi), .lit (.bool hf), .str (bs r), .lit (.bool d), .sl (ks.map encO)] := by
  have h : encO (mkFo k n v i a e hi hf r d ks ha hk) = .agg [.lit (.int .i64 k), .str (bs n), .str (bs v), .str (bs i), .sl (a.map encS), .str (bs e), .lit (.bool hi), .lit (.bool hf), .str (bs r), .lit (.bool d), .sl (ks.map encO)] := by
    unfold encO mkFo
    simp only
    rw [encF, encFs_map, List.map_map]
    rfl
  unfold cellsD
  rw [h]
open YtlehedloheojpaaGreat.Rows in
theorem rd_filter : ∀ (N n : Nat) (cs : List Value) (x : DataW H × List MemPlace), uptoBulk x.1 ≤ N → uptoBulk x.1 ≤ 1048576 → DataW.trod enc Tryz.prog W 0 spare held n 27 cs = some x →
    ∃ F : Fo, RepDs (CW W) (cellsD F) cs
  | 0, n, cs, x, hN, _, h => by have := one_le x.1; omega
  | N + 1, n, cs, x, hN, hb, h => by
    obtain ⟨xs, m, hx, hlen, hxl, hf⟩ := rd_fields f27 h
    rw [c27] at hlen
    match cs, hlen with
    | [k0, k1, k2, k3, k4, k5, k6, k7, k8, k9, k10], _ =>
      obtain ⟨y0, g0, t0⟩ := hf 0 3 0 rfl
      obtain ⟨y1, g1, t1⟩ := hf 1 9 1 rfl
      obtain ⟨y2, g2, t2⟩ := hf 2 9 2 rfl
      obtain ⟨y3, g3, t3⟩ := hf 3 24 3 rfl
      obtain ⟨y4, g4, t4⟩ := hf 4 9 8 rfl
      obtain ⟨y5, g5, t5⟩ := hf 5 4 9 rfl
      obtain ⟨y6, g6, t6⟩ := hf 6 25 10 rfl
      rw [c3] at t0
      rw [c9] at t1 t2 t4
      rw [c24] at t3
      rw [c4] at t5
      rw [c25] at t6
      have hp : ∀ y ∈ xs, uptoBulk y.1 + 1 ≤ uptoBulk x.1 := fun y hy => by
        rw [hx]
        simp only [uptoBulk]
        have := part_le (d := y.1) (l := xs.map (·.1)) (List.mem_map.2 ⟨y, hy, rfl⟩)
        omega
      have b1 := hp y1 (List.mem_of_getElem? g1)
      have b2 := hp y2 (List.mem_of_getElem? g2)
      have b3 := hp y3 (List.mem_of_getElem? g3)
      have b4 := hp y4 (List.mem_of_getElem? g4)
      have b6 := hp y6 (List.mem_of_getElem? g6)
      obtain ⟨kv, e0, _⟩ := rd_int u3 t0
      obtain ⟨sn, en, rn⟩ := rd_text t1 (by omega)
      obtain ⟨sv, ev, rv⟩ := rd_text t2 (by omega)
      obtain ⟨sr, er, rr⟩ := rd_text t4 (by omega)
      obtain ⟨dv, e5, _⟩ := rd_bool u4 t5
      -- pieces
      obtain ⟨ps, m2, hx2, _, hpl, hf2⟩ := rd_fields f24 t3
      obtain ⟨z0, q0, s0⟩ := hf2 0 9 0 rfl
      obtain ⟨z1, q1, s1⟩ := hf2 1 22 1 rfl
      obtain ⟨z2, q2, s2⟩ := hf2 2 9 2 rfl
      obtain ⟨z3, q3, s3⟩ := hf2 3 4 3 rfl
      obtain ⟨z4, q4, s4⟩ := hf2 4 4 4 rfl
      rw [c9] at s0 s2
      rw [c22] at s1
      rw [c4] at s3 s4
      have hp2 : ∀ y ∈ ps, uptoBulk y.1 + 1 ≤ uptoBulk y3.1 := fun y hy => by
        rw [hx2]
        simp only [uptoBulk]
        have := part_le (d := y.1) (l := ps.map (·.1)) (List.mem_map.2 ⟨y, hy, rfl⟩)
        omega
      have d0 := hp2 z0 (List.mem_of_getElem? q0)
      have d1 := hp2 z1 (List.mem_of_getElem? q1)
      have d2 := hp2 z2 (List.mem_of_getElem? q2)
      obtain ⟨si, ei, ri⟩ := rd_text s0 (by omega)
      obtain ⟨la, hla, ea, ra⟩ := rd_texts s1 (by omega)
      obtain ⟨sf, ef, rf⟩ := rd_text s2 (by omega)
      obtain ⟨hiv, e3, _⟩ := rd_bool u4 s3
      obtain ⟨hfv, e4, _⟩ := rd_bool u4 s4
      -- kids
      obtain ⟨ks, hks, ek, rk⟩ : ∃ ks : List Fo, ks.length ≤ 2 ^ 30 ∧ cellV k10 = true ∧ RepD (CW W) (.sl (ks.map encO)) k10 := by
        rcases Go.Deep.open_slice u25 t6 with ⟨h1, h2⟩ | ⟨a, len, cap, mm, k, D, Pl, h1, hba, hl, hm, hmm, h2, hxx⟩
        · have h1 : k10 = .slice none 0 0 := by simpa using h1
          subst h1
          exact ⟨[], by simp, rfl, none, 0, rfl, Nat.le_refl _, .inl rfl⟩
        · have h1 : k10 = .slice (some a) len cap := by simpa using h1
          subst h1
          rw [h2] at b6
          simp only [uptoBulk] at b6
          have hlm : len ≤ mm := by rw [hmm]; split <;> omega
          have hln := len_le ((List.range len).map D)
          simp only [List.length_map, List.length_range] at hln
          obtain ⟨L, hL, hLp⟩ := lists (α := Fo) (p := fun i F => ∃ cs' : List Value, cs'.length = 11 ∧ (∀ j, j < 11 → W.cell? ((a.add (i * 11)).add j) = cs'[j]?) ∧ RepDs (CW W) (cellsD F) cs') len (fun i hi => by
            obtain ⟨cs', r1, r2⟩ := hxx i (by omega)
            rw [c27] at r1
            obtain ⟨_, r3, r4⟩ := World.cells?_some r1
            have := part_le (d := D i) (l := (List.range len).map D) (List.mem_map.2 ⟨i, List.mem_range.2 hi, rfl⟩)
            obtain ⟨F, hF⟩ := rd_filter N k cs' (D i, Pl i) (by simp only; omega) (by simp only; omega) r2
            exact ⟨F, cs', r3, r4, hF⟩)
          refine ⟨L, by omega, rfl, some a, cap, by simp [hL], by simp [hL]; exact hl, ?_⟩
          cases hz : L with
          | nil => exact .inl rfl
          | cons F0 r =>
            right
            obtain ⟨cs0, l0, w0, _⟩ := hLp 0 F0 (by rw [hz]; rfl)
            have hsp : a = ⟨a.block, a.off, none⟩ := by
              have h0 : (a.add (0 * 11)).add 0 = a := by unfold Addr.add; simp
              have hc0 := w0 0 (by omega)
              rw [h0, List.getElem?_eq_getElem (by omega)] at hc0
              exact cell_spot hc0
            rw [← hz]
            refine ⟨a.block, a.off, 11, by rw [← hsp], (RepRow.iff _ _ _ _).2 fun i y hiy => ?_⟩
            rw [List.getElem?_map, Option.map_eq_some_iff] at hiy
            obtain ⟨F, hF, rfl⟩ := hiy
            obtain ⟨cs', l1, w1, w2⟩ := hLp i F hF
            refine ⟨.agg cs'.toArray, by rw [encO_cells]; exact ⟨cs', rfl, w2⟩, by simp [Value.cells, l1], fun j u hu => ?_⟩
            have hu : cs'[j]? = some u := by simpa [Value.cells] using hu
            have hj : j < 11 := by rw [← l1]; exact (List.getElem?_eq_some_iff.1 hu).1
            have := w1 j hj
            rw [hu, hsp, Addr.add_lit, Addr.add_lit] at this
            exact cc_of this
      refine ⟨mkFo kv sn sv si la sf hiv hfv sr dv ks hla hks, ?_⟩
      rw [mkFo_cells]
      subst e0 e5 e3 e4
      exact ⟨_, _, rfl, rfl, ⟨rfl, rfl⟩, _, _, rfl, en, rn, _, _, rfl, ev, rv, _, _, rfl, ei, ri, _, _, rfl, ea, ra, _, _, rfl, ef, rf, _, _, rfl, rfl, ⟨rfl, rfl⟩, _, _, rfl, rfl, ⟨rfl, rfl⟩, _, _, rfl, er, rr, _, _, rfl, rfl, ⟨rfl, rfl⟩, _, _, rfl, ek, rk, rfl⟩
end
set_option maxRecDepth 100000
theorem u28 : Tryz.prog.underlying 28 = some (.slice 54) := by kernel_rfl
theorem u29 : Tryz.prog.underlying 29 = some (.slice 52) := by kernel_rfl
theorem f31 : (Tryz.prog.underlying 31).bind fieldsOf = some [(9, 0), (9, 1)] := by kernel_rfl
theorem f52 : (Tryz.prog.underlying 52).bind fieldsOf = some [(9, 0), (22, 1)] := by kernel_rfl
theorem f54 : (Tryz.prog.underlying 54).bind fieldsOf = some [(3, 0), (52, 1)] := by kernel_rfl
theorem f33 : (Tryz.prog.underlying 33).bind fieldsOf = some [(3, 0), (3, 1), (9, 2), (3, 3), (3, 4), (9, 5), (3, 6), (3, 7), (4, 8), (27, 9), (22, 20), (28, 21), (29, 22), (9, 23), (4, 24), (9, 25), (4, 26), (31, 27), (3, 29)] := by kernel_rfl
theorem c28 : Tryz.prog.cellsOf 28 = 1 := by kernel_rfl
theorem c29 : Tryz.prog.cellsOf 29 = 1 := by kernel_rfl
theorem c31 : Tryz.prog.cellsOf 31 = 2 := by kernel_rfl
theorem c33 : Tryz.prog.cellsOf 33 = 30 := by kernel_rfl
theorem c52 : Tryz.prog.cellsOf 52 = 2 := by kernel_rfl
theorem c54 : Tryz.prog.cellsOf 54 = 3 := by kernel_rfl
section
variable {H : Type} {enc : TypeId × Value → H} {W : World} {spare : Nat → Bool} {held : Bool}
def cellsV (v : Vl) : List D := [.str (bs (vn v)), .sl (List.map encS (vv v))]
def cellsC (v : Ch) : List D := [.lit (.int .i64 (ck v)), .str (bs (cn v)), .sl (List.map encS (cv v))]
theorem encV_cells (v : Vl) : encV v = .agg (cellsV v) := rfl
theorem encC_cells (v : Ch) : encC v = .agg (cellsC v) := rfl
open YtlehedloheojpaaGreat.Rows in
theorem rd_values {n : Nat} {cs : List Value} {x : DataW H × List MemPlace} (hb : uptoBulk x.1 ≤ 1048576) (h : DataW.trod enc Tryz.prog W 0 spare held n 52 cs = some x) : ∃ v : Vl, RepDs (CW W) (cellsV v) cs := by
  obtain ⟨xs, m, hx, hlen, hxl, hf⟩ := rd_fields f52 h
  rw [c52] at hlen
  match cs, hlen with
  | [k0, k1], _ =>
    obtain ⟨y0, g0, t0⟩ := hf 0 9 0 rfl
    obtain ⟨y1, g1, t1⟩ := hf 1 22 1 rfl
    rw [c9] at t0
    rw [c22] at t1
    have hp : ∀ y ∈ xs, uptoBulk y.1 + 1 ≤ uptoBulk x.1 := fun y hy => by
      rw [hx]
      simp only [uptoBulk]
      have := part_le (d := y.1) (l := xs.map (·.1)) (List.mem_map.2 ⟨y, hy, rfl⟩)
      omega
    have b0 := hp y0 (List.mem_of_getElem? g0)
    have b1 := hp y1 (List.mem_of_getElem? g1)
    obtain ⟨s, e0, r0⟩ := rd_text t0 (by omega)
    obtain ⟨l, hl, e1, r1⟩ := rd_texts t1 (by omega)
    exact ⟨⟨(s, l), hl⟩, _, _, rfl, e0, r0, _, _, rfl, e1, r1, rfl⟩
open YtlehedloheojpaaGreat.Rows in
theorem rd_change {n : Nat} {cs : List Value} {x : DataW H × List MemPlace} (hb : uptoBulk x.1 ≤ 1048576) (h : DataW.trod enc Tryz.prog W 0 spare held n 54 cs = some x) : ∃ v : Ch, RepDs (CW W) (cellsC v) cs := by
  obtain ⟨xs, m, hx, hlen, hxl, hf⟩ := rd_fields f54 h
  rw [c54] at hlen
  match cs, hlen with
  | [k0, k1, k2], _ =>
    obtain ⟨y0, g0, t0⟩ := hf 0 3 0 rfl
    obtain ⟨y1, g1, t1⟩ := hf 1 52 1 rfl
    rw [c3] at t0
    rw [c52] at t1
    have hp : ∀ y ∈ xs, uptoBulk y.1 + 1 ≤ uptoBulk x.1 := fun y hy => by
      rw [hx]
      simp only [uptoBulk]
      have := part_le (d := y.1) (l := xs.map (·.1)) (List.mem_map.2 ⟨y, hy, rfl⟩)
      omega
    have b1 := hp y1 (List.mem_of_getElem? g1)
    obtain ⟨kv, e0, _⟩ := rd_int u3 t0
    obtain ⟨v, hv⟩ := rd_values (x := y1) (by omega) t1
    subst e0
    exact ⟨⟨(kv, vn v, vv v), vv_le v⟩, _, _, rfl, rfl, ⟨rfl, rfl⟩, hv⟩
open YtlehedloheojpaaGreat.Rows in
theorem rd_row {α : Type} {e : α → D} {cells : α → List D} (he : ∀ a, e a = .agg (cells a)) {t te nc : Nat} (hu : Tryz.prog.underlying t = some (.slice te)) (hc : Tryz.prog.cellsOf te = nc) (h0 : 0 < nc)
    (rd : ∀ (k : Nat) (cs : List Value) (x : DataW H × List MemPlace), uptoBulk x.1 ≤ 1048576 → DataW.trod enc Tryz.prog W 0 spare held k te cs = some x → ∃ a, RepDs (CW W) (cells a) cs)
    {n : Nat} {c : Value} {y : DataW H × List MemPlace} (h : DataW.trod enc Tryz.prog W 0 spare held n t [c] = some y) (hb : uptoBulk y.1 ≤ 1048576) :
    ∃ l : List α, l.length ≤ 2 ^ 28 ∧ cellV c = true ∧ RepD (CW W) (.sl (l.map e)) c := by
  rcases Go.Deep.open_slice hu h with ⟨h1, h2⟩ | ⟨a, len, cap, mm, k, D, Pl, h1, hba, hl, hm, hmm, h2, hxx⟩
  · have h1 : c = .slice none 0 0 := by simpa using h1
    subst h1
    exact ⟨[], by simp, rfl, none, 0, rfl, Nat.le_refl _, .inl rfl⟩
  · have h1 : c = .slice (some a) len cap := by simpa using h1
    subst h1
    rw [h2] at hb
    simp only [uptoBulk] at hb
    have hlm : len ≤ mm := by rw [hmm]; split <;> omega
    have hln := len_le ((List.range len).map D)
    simp only [List.length_map, List.length_range] at hln
    obtain ⟨L, hL, hLp⟩ := lists (α := α) (p := fun i F => ∃ cs' : List Value, cs'.length = nc ∧ (∀ j, j < nc → W.cell? ((a.add (i * nc)).add j) = cs'[j]?) ∧ RepDs (CW W) (cells F) cs') len (fun i hi => by
      obtain ⟨cs', r1, r2⟩ := hxx i (by omega)
      rw [hc] at r1
      obtain ⟨_, r3, r4⟩ := World.cells?_some r1
      have := part_le (d := D i) (l := (List.range len).map D) (List.mem_map.2 ⟨i, List.mem_range.2 hi, rfl⟩)
      obtain ⟨F, hF⟩ := rd k cs' (D i, Pl i) (by simp only; omega) r2
      exact ⟨F, cs', r3, r4, hF⟩)
    refine ⟨L, by omega, rfl, some a, cap, by simp [hL], by simp [hL]; exact hl, ?_⟩
    cases hz : L with
    | nil => exact .inl rfl
    | cons F0 r =>
      right
      obtain ⟨cs0, l0, w0, _⟩ := hLp 0 F0 (by rw [hz]; rfl)
      have hsp : a = ⟨a.block, a.off, none⟩ := by
        have h0' : (a.add (0 * nc)).add 0 = a := by unfold Addr.add; simp
        have hc0 := w0 0 h0
        rw [h0', List.getElem?_eq_getElem (by omega)] at hc0
        exact cell_spot hc0
      rw [← hz]
      refine ⟨a.block, a.off, nc, by rw [← hsp], (RepRow.iff _ _ _ _).2 fun i y hiy => ?_⟩
      rw [List.getElem?_map, Option.map_eq_some_iff] at hiy
      obtain ⟨F, hF, rfl⟩ := hiy
      obtain ⟨cs', l1, w1, w2⟩ := hLp i F hF
      refine ⟨.agg cs'.toArray, by rw [he]; exact ⟨cs', rfl, w2⟩, by simp [Value.cells, l1], fun j u hu => ?_⟩
      have hu : cs'[j]? = some u := by simpa [Value.cells] using hu
      have hj : j < nc := by rw [← l1]; exact (List.getElem?_eq_some_iff.1 hu).1
      have := w1 j hj
      rw [hu, hsp, Addr.add_lit, Addr.add_lit] at this
      exact cc_of this
theorem RepDs_app {C : Nat → Nat → Value → Prop} : ∀ (a b : List D) (u v : List Value), RepDs C a u → RepDs C b v → RepDs C (a ++ b) (u ++ v)
  | [], b, u, v, h1, h2 => by
    have : u = [] := h1
    subst this; exact h2
  | x :: a, b, u, v, h1, h2 => by
    obtain ⟨w, t, rfl, e1, e2, e3⟩ := h1
    exact ⟨w, t ++ v, rfl, e1, e2, RepDs_app a b t v e3 h2⟩
def cellsR (r : Rq) : List D := [.lit (.int .i64 r.id), .lit (.int .i64 r.kd), .str (bs r.nm), .lit (.int .i64 r.ver), .lit (.int .i64 r.mth), .str (bs r.sec), .lit (.int .i64 r.scp), .lit (.int .i64 r.mst), .lit (.bool r.typ)] ++ (cellsD r.flt ++ [.sl (List.map encS r.att), .sl (List.map encC r.chg), .sl (List.map encV r.vls), .str (bs r.rdn), .lit (.bool r.kep), .str (bs r.abv), .lit (.bool r.hab), .str (bs r.pn), .str (bs r.pv), .lit (.int .i64 r.tgt)])
theorem encR_cells (r : Rq) : encR r = .agg (cellsR r) := by
  have : cellsD r.flt = [.lit (.int .i64 (kind r.flt)), .str (bs (name r.flt)), .str (bs (value r.flt)), .str (bs (ini r.flt)), .sl (List.map encS (any r.flt)), .str (bs (fin r.flt)), .lit (.bool (hi r.flt)), .lit (.bool (hf r.flt)), .str (bs (rule r.flt)), .lit (.bool (dn r.flt)), .sl (List.map encO (kids r.flt))] := by
    unfold cellsD
    rw [encO_eq]
  unfold cellsR
  rw [this]
  rfl
open YtlehedloheojpaaGreat.Rows in
theorem rd_request {n : Nat} {cs : List Value} {x : DataW H × List MemPlace} (hb : uptoBulk x.1 ≤ 1048576) (h : DataW.trod enc Tryz.prog W 0 spare held n 33 cs = some x) : ∃ r : Rq, RepDs (CW W) (cellsR r) cs := by
  obtain ⟨xs, m, hx, hlen, hxl, hf⟩ := rd_fields f33 h
  rw [c33] at hlen
  have hp : ∀ y ∈ xs, uptoBulk y.1 + 1 ≤ uptoBulk x.1 := fun y hy => by
    rw [hx]
    simp only [uptoBulk]
    have := part_le (d := y.1) (l := xs.map (·.1)) (List.mem_map.2 ⟨y, hy, rfl⟩)
    omega
  match cs, hlen with
  | [k0, k1, k2, k3, k4, k5, k6, k7, k8, k9, k10, k11, k12, k13, k14, k15, k16, k17, k18, k19, k20, k21, k22, k23, k24, k25, k26, k27, k28, k29], _ =>
    obtain ⟨y0, g0, t0⟩ := hf 0 3 0 rfl
    obtain ⟨y1, g1, t1⟩ := hf 1 3 1 rfl
    obtain ⟨y2, g2, t2⟩ := hf 2 9 2 rfl
    obtain ⟨y3, g3, t3⟩ := hf 3 3 3 rfl
    obtain ⟨y4, g4, t4⟩ := hf 4 3 4 rfl
    obtain ⟨y5, g5, t5⟩ := hf 5 9 5 rfl
    obtain ⟨y6, g6, t6⟩ := hf 6 3 6 rfl
    obtain ⟨y7, g7, t7⟩ := hf 7 3 7 rfl
    obtain ⟨y8, g8, t8⟩ := hf 8 4 8 rfl
    obtain ⟨y9, g9, t9⟩ := hf 9 27 9 rfl
    obtain ⟨y10, g10, t10⟩ := hf 10 22 20 rfl
    obtain ⟨y11, g11, t11⟩ := hf 11 28 21 rfl
    obtain ⟨y12, g12, t12⟩ := hf 12 29 22 rfl
    obtain ⟨y13, g13, t13⟩ := hf 13 9 23 rfl
    obtain ⟨y14, g14, t14⟩ := hf 14 4 24 rfl
    obtain ⟨y15, g15, t15⟩ := hf 15 9 25 rfl
    obtain ⟨y16, g16, t16⟩ := hf 16 4 26 rfl
    obtain ⟨y17, g17, t17⟩ := hf 17 31 27 rfl
    obtain ⟨y18, g18, t18⟩ := hf 18 3 29 rfl
    rw [c3] at t0 t1 t3 t4 t6 t7 t18
    rw [c9] at t2 t5 t13 t15
    rw [c4] at t8 t14 t16
    rw [c27] at t9
    rw [c22] at t10
    rw [c28] at t11
    rw [c29] at t12
    rw [c31] at t17
    have b2 := hp y2 (List.mem_of_getElem? g2)
    have b5 := hp y5 (List.mem_of_getElem? g5)
    have b9 := hp y9 (List.mem_of_getElem? g9)
    have b10 := hp y10 (List.mem_of_getElem? g10)
    have b11 := hp y11 (List.mem_of_getElem? g11)
    have b12 := hp y12 (List.mem_of_getElem? g12)
    have b13 := hp y13 (List.mem_of_getElem? g13)
    have b15 := hp y15 (List.mem_of_getElem? g15)
    have b17 := hp y17 (List.mem_of_getElem? g17)
    obtain ⟨i0, e0, _⟩ := rd_int u3 t0
    obtain ⟨i1, e1, _⟩ := rd_int u3 t1
    obtain ⟨s2, e2, r2⟩ := rd_text t2 (by omega)
    obtain ⟨i3, e3, _⟩ := rd_int u3 t3
    obtain ⟨i4, e4, _⟩ := rd_int u3 t4
    obtain ⟨s5, e5, r5⟩ := rd_text t5 (by omega)
    obtain ⟨i6, e6, _⟩ := rd_int u3 t6
    obtain ⟨i7, e7, _⟩ := rd_int u3 t7
    obtain ⟨b8, e8, _⟩ := rd_bool u4 t8
    obtain ⟨F, hF⟩ := rd_filter (N := 1048576) _ _ y9 (by omega) (by omega) t9
    obtain ⟨l10, m10, e10, r10⟩ := rd_texts t10 (by omega)
    obtain ⟨l11, m11, e11, r11⟩ := rd_row encC_cells u28 c54 (by omega) (fun k cs x => rd_change) t11 (by omega)
    obtain ⟨l12, m12, e12, r12⟩ := rd_row encV_cells u29 c52 (by omega) (fun k cs x => rd_values) t12 (by omega)
    obtain ⟨s13, e13, r13⟩ := rd_text t13 (by omega)
    obtain ⟨b14, e14, _⟩ := rd_bool u4 t14
    obtain ⟨s15, e15, r15⟩ := rd_text t15 (by omega)
    obtain ⟨b16, e16, _⟩ := rd_bool u4 t16
    obtain ⟨i18, e18, _⟩ := rd_int u3 t18
    obtain ⟨ps, m2, hx2, _, hpl, hf2⟩ := rd_fields f31 t17
    obtain ⟨z0, q0, w0⟩ := hf2 0 9 0 rfl
    obtain ⟨z1, q1, w1⟩ := hf2 1 9 1 rfl
    rw [c9] at w0 w1
    have hp2 : ∀ y ∈ ps, uptoBulk y.1 + 1 ≤ uptoBulk y17.1 := fun y hy => by
      rw [hx2]
      simp only [uptoBulk]
      have := part_le (d := y.1) (l := ps.map (·.1)) (List.mem_map.2 ⟨y, hy, rfl⟩)
      omega
    have d0 := hp2 z0 (List.mem_of_getElem? q0)
    have d1 := hp2 z1 (List.mem_of_getElem? q1)
    obtain ⟨s27, e27, r27⟩ := rd_text w0 (by omega)
    obtain ⟨s28, e28, r28⟩ := rd_text w1 (by omega)
    refine ⟨⟨i0, i1, s2, i3, i4, s5, i6, i7, b8, F, l10, l11, l12, s13, b14, s15, b16, s27, s28, i18, m10, m11, m12⟩, ?_⟩
    subst e0 e1 e3 e4 e6 e7 e8 e14 e16 e18
    exact RepDs_app _ _ [_, _, k2, _, _, k5, _, _, _] _
      ⟨_, _, rfl, rfl, ⟨rfl, rfl⟩, _, _, rfl, rfl, ⟨rfl, rfl⟩, _, _, rfl, e2, r2, _, _, rfl, rfl, ⟨rfl, rfl⟩, _, _, rfl, rfl, ⟨rfl, rfl⟩, _, _, rfl, e5, r5, _, _, rfl, rfl, ⟨rfl, rfl⟩, _, _, rfl, rfl, ⟨rfl, rfl⟩, _, _, rfl, rfl, ⟨rfl, rfl⟩, rfl⟩
      (RepDs_app _ _ [k9, k10, k11, k12, k13, k14, k15, k16, k17, k18, k19] _ hF
        ⟨_, _, rfl, e10, r10, _, _, rfl, e11, r11, _, _, rfl, e12, r12, _, _, rfl, e13, r13, _, _, rfl, rfl, ⟨rfl, rfl⟩, _, _, rfl, e15, r15, _, _, rfl, rfl, ⟨rfl, rfl⟩, _, _, rfl, e27, r27, _, _, rfl, e28, r28, _, _, rfl, rfl, ⟨rfl, rfl⟩, rfl⟩)
end
end Go.L25
