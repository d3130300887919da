/- The engine, part 11: literals of slices, conversions, slice expressions. Conditions: none. -/
import Derived.Test.YtjbaoopiffcigaaE10
import Derived.Lib.ConvBytes
import Derived.Laws.BytesArg
set_option linter.unusedVariables false
set_option linter.unusedSimpArgs false
namespace Go.Eng
variable {P : Program}

theorem fillL_len : ∀ (parts : List (Nat × AV)) (l r : List AV), fillL parts l = some r → r.length = l.length
  | [], l, r, h => by simp only [fillL] at h; cases h; rfl
  | (i, v) :: p, l, r, h => by
    simp only [fillL] at h
    cases hb : Nat.blt i l.length <;> simp only [hb, cond_true, cond_false] at h
    · cases h
    · rw [fillL_len p _ r h, List.length_set]

theorem RepAs.replicate {k : Keep} {M : Mem} {x : AV} {v : Value} (h : RepA k M x v) : ∀ n, RepAs k M (List.replicate n x) (List.replicate n v)
  | 0 => rfl
  | n + 1 => ⟨v, _, rfl, h, RepAs.replicate h n⟩

theorem const_cells {z : Value} {n : Nat} (hn : n ≠ 0) (h : (constAV z).cells.length = n) : z.cells.size = n ∧ ∀ c ∈ z.cells, cellV c = true := by
  let k : Keep := ⟨0, fun _ _ => True, fun _ _ _ => trivial⟩
  let M : Mem := ⟨fun _ => none, [], default⟩
  obtain ⟨c1, c2, _⟩ := RepA.cells (RepA.const k M z) (by intro e; rw [e] at h; exact hn h.symm)
  exact ⟨by omega, c2⟩

theorem laid_zero {z : Value} {size len : Nat} (hs0 : size ≠ 0) (hz : z.cells.size = size) (zs : Array Value) (hzs : len * size ≠ 0 → zs = z.cells) :
    Laid size (List.replicate len z) ((Array.range (len * size)).map (zs[· % zs.size]!)) := by
  intro i j u hu hj
  obtain ⟨hi, rfl⟩ : i < len ∧ z = u := by
    rw [List.getElem?_replicate] at hu
    split at hu
    · rename_i h; cases hu; exact ⟨h, rfl⟩
    · cases hu
  have hle : (i + 1) * size ≤ len * size := Nat.mul_le_mul_right _ (by omega)
  rw [Nat.add_mul] at hle
  have := hzs (by omega)
  subst this
  simp only [Array.getElem?_map, Array.getElem?_range, show i * size + j < len * size by omega, if_true, Option.map_some, hz]
  rw [Nat.mul_comm i size, Nat.mul_add_mod, Nat.mod_eq_of_lt hj]
  rw [Array.getElem?_eq_getElem (by omega), getElem!_pos _ _ (by omega)]

theorem buildSl_sound {k : Keep} {M : Mem} (hI : Inv k M) {st st' : Store} (hpre0 : Pre st M.st) (hpre : Pre st' M.st) (hno : ∀ i, st.length ≤ i → i < st'.length → M.m i = none) {t : TypeId} {len : Nat} {row wr : Bool} {parts : List (Nat × AV)} {vs : List (Nat × Value)} {r : AV}
    (hl : parts.length = vs.length) (hrep : ∀ (i : Nat) p q, parts[i]? = some p → vs[i]? = some q → p.1 = q.1 ∧ RepA k M p.2 q.2)
    (h : buildSl P t len row wr parts st = some (r, st')) : QOk P k M st.length st'.length r (Instr.buildSlice t len vs.toArray) := by
  unfold buildSl at h
  split at h
  case h_2 => cases h
  rename_i e _ _ _ hti
  split at h
  case h_2 => cases h
  rename_i ei hei
  split at h
  case h_2 => cases h
  rename_i z hz
  by_cases hc : (ei.size == 0 || Nat.blt 1000 len || Nat.blt 1000 ei.size || !(fitL ei.size (parts.map (·.2))) || !((constAV z).cells.length == ei.size)) = true
  · simp only [hc, cond_true] at h; cases h
  simp only [Bool.eq_false_iff.2 hc, cond_false] at h
  have hc := Bool.eq_false_iff.2 hc
  simp only [Bool.or_eq_false_iff, beq_eq_false_iff_ne, Bool.not_eq_false', beq_iff_eq] at hc
  obtain ⟨⟨⟨⟨hs0, hlen⟩, hsz⟩, hfit⟩, hzl⟩ := hc
  have blt_f : ∀ {a b : Nat}, Nat.blt a b = false → b ≤ a := fun {a b} h => by
    rcases Nat.lt_or_ge a b with h1 | h1
    · have : Nat.blt a b = true := Nat.ble_eq_true_of_le h1
      rw [this] at h; cases h
    · exact h1
  have hlen := blt_f hlen
  have hsz := blt_f hsz
  obtain ⟨l, hfl, h9⟩ := Option.bind_eq_some_iff.1 h
  clear h
  have hll := fillL_len _ _ _ hfl
  simp only [List.length_replicate] at hll
  obtain ⟨zc1, zc2⟩ := const_cells hs0 hzl
  obtain ⟨info, d, i1, i2, i3, i4, i5, i6⟩ := ti_spec hti
  obtain ⟨e', rfl, he'⟩ : ∃ e', d = .slice e' ∧ e' = e := by cases d <;> simp [kOf] at i6; exact ⟨_, rfl, i6.symm⟩
  subst he'
  let zs : Array Value := if len * ei.size = 0 then #[] else z.cells
  obtain ⟨us, cs, f1, f2, f3, f4, f5, f6, f7⟩ := fill_sound (k := k) (M := M) hs0 parts vs _ l (List.replicate len z) ((Array.range (len * ei.size)).map (zs[· % zs.size]!)) hfit hl hrep (RepAs.replicate (RepA.const k M z) len)
    (fun u hu => by rw [List.eq_of_mem_replicate hu]; exact zc1) (fun u hu => by rw [List.eq_of_mem_replicate hu]; exact zc2) (by simp) (laid_zero hs0 zc1 zs (fun h => by simp [zs, h])) hfl
  simp only [List.length_replicate] at f7
  have h24 : ¬ (16777216 < len * ei.size) := by
    have := Nat.mul_le_mul hlen hsz; omega
  have hrun : (Instr.buildSlice t len vs.toArray).run P M.w = .ok (.slice (some ⟨M.w.heap.size, 0, none⟩) len len) (M.w.alloc (.cells cs e')) := by
    by_cases hz0 : len * ei.size = 0
    · have hzs : zs = #[] := if_pos hz0
      rw [hzs] at f1
      simp [Instr.buildSlice, run_underlying i2, run_sizeOf' hei, h24, hz0] at f1 ⊢
      simp [f1, newRow]
    · have hzs : zs = z.cells := if_neg hz0
      rw [hzs] at f1
      have hz0' : ¬ (len = 0 ∨ ei.size = 0) := by rw [Nat.mul_eq_zero] at hz0; exact hz0
      simp [Instr.buildSlice, run_underlying i2, run_sizeOf' hei, h24, hz0, hz0', run_zero hei hz, f1, newRow]
  split at h9
  · -- data
    rename_i ds hds
    cases h9
    cases row with
    | true => simp at hds
    | false =>
      simp only [cond_false] at hds
      obtain ⟨d1, d2⟩ := fzAll_sound hI hpre0 f2 hds
      have S := loose hI (w0 := M.w) rfl rfl rfl rfl (.cells cs e')
      refine ⟨_, M.m, _, hrun, ⟨some ⟨M.w.heap.size, 0, none⟩, by rw [d1, f7], .inr ⟨_, _, ei.size, rfl, (RepRow.iff _ _ ds _).2 fun i x hx => ?_⟩⟩, S, fun _ _ => rfl⟩
      have hlt := (List.getElem?_eq_some_iff.1 hx).1
      obtain ⟨u, hu⟩ : ∃ u, us[i]? = some u := ⟨_, List.getElem?_eq_getElem (by omega)⟩
      have hmem := List.mem_of_getElem? hu
      refine ⟨u, RepD.mono (CC.evo S.evo) _ _ (d2 i x u hx hu), f3 u hmem, fun j c hcj => ⟨?_, k.hk _ _ hI.big, fun i' base y hm _ => ?_⟩⟩
      · have hj := (Array.getElem?_eq_some_iff.1 hcj).1
        rw [f3 u hmem] at hj
        show World.cell? _ _ = _
        rw [cell_of_row (M.w.alloc (.cells cs e')) M.w.heap.size _ cs e' (0, 0) (heap_alloc_new M.w _), Nat.zero_add]
        rw [f6 i j u hu hj]; exact hcj
      · have := hI.lt hm; omega
  · -- a row
    simp only [newRowV] at h9
    cases h9
    have hst : M.st[st.length]? = some ⟨ei.size, l.map (fzE st), true, !wr, false⟩ := hpre _ _ (by simp)
    have hm := hno st.length (Nat.le_refl _) (by simp)
    obtain ⟨m', r1, r2, r3⟩ := newRow_ok hI (n := st.length) (sh := !wr) hs0 (fzEs_sound hI hpre0 l us f2) f3 f4 hst hm (w0 := M.w) rfl rfl rfl rfl (cs := cs) (e := e') (fz0 := (0, 0)) (cap := len) (by rw [f5, f7]; exact Nat.le_refl _) (by simp [hll]) (fun j _ h => by simp at h) (f6.flat hs0 f3)
    have hlm : (l.map (fzE st)).length = len := by simp [hll]
    refine ⟨_, m', _, hrun, by rw [hlm] at r1 ⊢; exact r1, r2, fun i hi => r3 i (by simp at hi; omega)⟩

theorem bytesOf_some : ∀ (l : List AV) (s : List UInt8), bytesOf l = some s → ∃ ns : List Int, l = ns.map (fun n => AV.d (.lit (.int .u8 n))) ∧ s = ns.map (fun n => UInt8.ofNat n.toNat)
  | [], s, h => by simp only [bytesOf] at h; cases h; exact ⟨[], rfl, rfl⟩
  | x :: r, s, h => by
    unfold bytesOf at h
    split at h
    · cases h; rename_i e; cases e
    · rename_i n r' e
      cases e
      obtain ⟨t, ht, rfl⟩ := Option.map_eq_some_iff.1 h
      obtain ⟨ns, rfl, rfl⟩ := bytesOf_some r t ht
      exact ⟨n :: ns, rfl, rfl⟩
    · cases h


theorem bytes_reps {k : Keep} {M : Mem} : ∀ l : List UInt8, RepAs k M (l.map fun c => AV.d (.lit (.int .u8 c.toNat))) (l.map fun c => Value.int .u8 c.toNat)
  | [] => rfl
  | c :: l => ⟨_, _, rfl, RepA.mkInt _ _, bytes_reps l⟩

theorem bytes_flat : ∀ l : List UInt8, flatC (l.map fun c => Value.int .u8 c.toNat) = l.map fun c => Value.int .u8 c.toNat
  | [] => rfl
  | c :: l => by have ih := bytes_flat l; simp only [flatC, List.map_cons, List.flatten_cons] at ih ⊢; rw [ih]; rfl

theorem modify_push (a : Array Obj) (x : Obj) (f : Obj → Obj) : (a.push x).modify a.size f = a.push (f x) := by
  apply Array.ext_getElem?
  intro i
  rw [Array.getElem?_modify, Array.getElem?_push, Array.getElem?_push]
  by_cases h : i = a.size
  · subst h; simp
  · rw [if_neg (fun e => h e.symm), if_neg h, if_neg h]

theorem bytesWorld_eq (w : World) (e : TypeId) (s : ByteArray) : Lib.bytesWorld w e s = w.drew.alloc (.cells (Lib.bytesCells w e s) e ((Lib.bytesCells w e s).size, (Lib.bytesCells w e s).size + 1)) := by
  unfold Lib.bytesWorld World.freeze
  rw [if_neg (by decide)]
  simp only [World.alloc]
  congr 1
  show Array.modify (w.heap.push _) w.heap.size _ = w.heap.push _
  rw [modify_push]
  simp

theorem convV_sound {k : Keep} {M : Mem} (hI : Inv k M) {st st' : Store} (hpre0 : Pre st M.st) (hpre : Pre st' M.st) (hno : ∀ i, st.length ≤ i → i < st'.length → M.m i = none) {src dst : TypeId} {wr : Bool} {x r : AV} {u : Value} (hx : RepA k M x u)
    (h : convV P src dst wr st x = some (r, st')) : QOk P k M st.length st'.length r (convert src dst u) := by
  unfold convV at h
  split at h
  case h_2 => cases h
  rename_i si di hsi hdi
  obtain ⟨sinfo, sd, s1, s2, s3, s4, s5, s6⟩ := ti_spec hsi
  obtain ⟨dinfo, dd, d1, d2, d3, d4, d5, d6⟩ := ti_spec hdi
  split at h
  · rename_i q q' n hk
    simp only [val, Option.map_some] at h
    cases h
    cases hx.2
    obtain rfl : dd = .int q := by rw [hk] at d6; cases dd <;> simp [kOf] at d6; rw [d6]
    exact QOk.read hI (u := .int q (q.wrap n)) (by simp [convert, run_underlying s2, run_underlying d2, Conv.intToInt]) (RepA.mkInt _ _)
  · rename_i s hk
    simp only [val, Option.map_some] at h
    cases h
    obtain ⟨a, rfl, rfl⟩ := hx
    obtain rfl : dd = .string := by rw [hk] at d6; cases dd <;> simp [kOf] at d6 <;> rfl
    refine QOk.read hI (u := .string a) ?_ ⟨a, rfl, rfl⟩
    cases sd <;> simp [convert, run_underlying s2, run_underlying d2]
  · rename_i e s hk
    obtain rfl : dd = .slice e := by rw [hk] at d6; cases dd <;> simp [kOf] at d6; rw [d6]
    split at h
    case h_2 => cases h
    rename_i hei
    obtain ⟨einfo, ed, e1, e2, e3, e4, e5, e6⟩ := ti_spec hei
    obtain rfl : ed = .int .u8 := by simp only at e6; cases ed <;> simp [kOf] at e6; rw [e6]
    by_cases hle : Nat.ble s.length sliceMost = true
    · simp only [hle, cond_true, newRowV] at h
      cases h
      obtain ⟨a, rfl, rfl⟩ := hx
      have hrun := Lib.run_convert_string_bytes (P := P) M.w src dst e a s2 d2 e2
      rw [bytesWorld_eq] at hrun
      have hge := grownCap_ge M.w a.size 0 e
      have hlen : a.data.toList.length = a.size := by rw [Array.length_toList]; rfl
      have hds : a.data.size = a.size := rfl
      have hsz : (Lib.bytesCells M.w e a).size = grownCap M.w a.size 0 e := by
        simp only [Lib.bytesCells, Array.size_append, Array.size_map, Array.size_replicate]; omega
      have hst : M.st[st.length]? = some ⟨1, a.data.toList.map (fun c => AV.d (.lit (.int .u8 c.toNat))), true, !wr, false⟩ := hpre _ _ (by simp)
      have hm := hno st.length (Nat.le_refl _) (by simp)
      obtain ⟨m', r1, r2, r3⟩ := newRow_ok hI (n := st.length) (sh := !wr) (size := 1) (by simp) (bytes_reps a.data.toList) (fun u hu => by simp only [List.mem_map] at hu; obtain ⟨c, _, rfl⟩ := hu; rfl)
        (fun u hu c hc => by simp only [List.mem_map] at hu; obtain ⟨c', _, rfl⟩ := hu; simp [Value.cells] at hc; subst hc; rfl) hst hm (w0 := M.w.drew) rfl rfl rfl rfl (cs := Lib.bytesCells M.w e a) (e := e)
        (fz0 := ((Lib.bytesCells M.w e a).size, (Lib.bytesCells M.w e a).size + 1)) (cap := grownCap M.w a.size 0 e) (by rw [hsz]; omega) (by simp only [List.length_map, hlen]; exact hge) (fun j hj h => by omega) (fun j c hc => by
          rw [bytes_flat] at hc
          have hj := (List.getElem?_eq_some_iff.1 hc).1
          simp only [List.length_map, hlen] at hj
          unfold Lib.bytesCells
          rw [Array.getElem?_append_left (by simp only [Array.size_map]; omega), ← Array.getElem?_toList]
          simpa using hc)
      have hlm : (a.data.toList.map (fun c => AV.d (.lit (.int .u8 c.toNat)))).length = a.size := by simp only [List.length_map, hlen]
      refine ⟨_, m', _, hrun, ?_, r2, fun i hi => r3 i (by simp at hi; omega)⟩
      rw [hlm] at r1 ⊢
      exact r1
    · simp [Bool.eq_false_iff.2 hle] at h
  · rename_i hk hnot
    obtain rfl : dd = .string := by rw [hk] at d6; cases dd <;> simp [kOf] at d6 <;> rfl
    split at h
    case h_2 => cases h
    rename_i e hks
    obtain rfl : sd = .slice e := by rw [hks] at s6; cases sd <;> simp [kOf] at s6; rw [s6]
    split at h
    case h_2 => cases h
    rename_i hei
    obtain ⟨einfo, ed, e1, e2, e3, e4, e5, e6⟩ := ti_spec hei
    obtain rfl : ed = .int .u8 := by simp only at e6; cases ed <;> simp [kOf] at e6; rw [e6]
    obtain ⟨l, hl, h9⟩ := Option.bind_eq_some_iff.1 h
    clear h
    simp only [val, Option.map_map] at h9
    obtain ⟨s, hs, h8⟩ := Option.map_eq_some_iff.1 h9
    cases h8
    obtain ⟨ns, rfl, rfl⟩ := bytesOf_some l s hs
    have hfit : fitL 1 (ns.map fun n => AV.d (.lit (.int .u8 n))) = true := (fitL_iff _).2 fun y hy => by
      simp only [List.mem_map] at hy; obtain ⟨n, _, rfl⟩ := hy; rfl
    obtain ⟨us, u1, u2, u3, u4, u5⟩ := elemsOf_sound (P := P) hI hpre0 hx hl (n := 1) (by simp) (.inl hfit)
    have hus : ∀ (ns : List Int) (us : List Value), RepAs k M (ns.map fun n => AV.d (.lit (.int .u8 n))) us → us = ns.map (Value.int .u8) := by
      intro ns
      induction ns with
      | nil => intro us h; exact h
      | cons n ns ih => rintro us ⟨v, t, rfl, hv, hr⟩; rw [ih t hr]; cases hv.2; rfl
    have hflat : ∀ ns : List Int, flatC (ns.map (Value.int .u8)) = ns.map (Value.int .u8) := by
      intro ns; induction ns with
      | nil => rfl
      | cons n ns ih => simp only [flatC, List.map_cons, List.flatten_cons] at ih ⊢; rw [ih]; rfl
    have hue := hus ns us u1
    subst hue
    have hfc := u5 M.w rfl
    rw [hflat] at hfc
    have hxs : ∃ a len c, u = .slice a len c := by
      unfold elemsOf at hl
      split at hl
      · exact ⟨_, _, _, hx⟩
      · obtain ⟨a, e, _⟩ := hx; exact ⟨_, _, _, e⟩
      · obtain ⟨a, c, e, _⟩ := hx; exact ⟨_, _, _, e⟩
      · exact absurd rfl (hnot _)
      · obtain ⟨_, _, _, ⟨a, c, e, _⟩, _⟩ := hx; exact ⟨_, _, _, e⟩
      · cases hl
    obtain ⟨a, len, c, rfl⟩ := hxs
    have hlenr := u4 M.w
    simp only [Builtin.lenOf, Sem.run_pure] at hlenr
    cases a with
    | none =>
      refine QOk.read hI (u := .string ByteArray.empty) (run_convert_bytes_nil M.w src e s2 e2 len c dst d2) ⟨_, rfl, ?_⟩
      simp only [Builtin.firstCells, Sem.run_pure] at hfc
      have : ns = [] := by
        injection hfc with h1
        have := congrArg Array.size h1
        simp at this
        exact List.length_eq_zero_iff.1 this.symm
      subst this; rfl
    | some a =>
      have hload : (loadCells a len).run P M.w = .ok (ns.map (Value.int .u8)).toArray M.w := by
        have hl2 : ns.length = len := by injection hlenr with h1; simpa using h1.symm
        simp only [Builtin.firstCells, List.length_map, Nat.mul_one, hl2] at hfc
        exact hfc
      refine QOk.read hI (u := .string (ns.foldl (fun r n => r.push (UInt8.ofNat n.toNat)) ByteArray.empty)) ?_ ⟨_, rfl, ?_⟩
      · rw [run_convert_bytes_string M.w src dst e _ len c s2 e2 d2, run_bytesToString M.w a len c ns hload]
      · have : ∀ (ns : List Int) (b : ByteArray), (ns.foldl (fun r n => r.push (UInt8.ofNat n.toNat)) b).data.toList = b.data.toList ++ ns.map (fun n => UInt8.ofNat n.toNat) := by
          intro ns; induction ns with
          | nil => intro b; simp
          | cons n ns ih => intro b; rw [List.foldl_cons, ih]; simp [ByteArray.push]
        rw [this]; rfl
  · cases h

end Go.Eng
