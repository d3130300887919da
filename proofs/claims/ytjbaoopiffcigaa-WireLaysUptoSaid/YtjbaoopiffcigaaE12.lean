/- The engine, part 12: slice expressions; the operations together. Conditions: none. -/
import Derived.Test.YtjbaoopiffcigaaE11
set_option linter.unusedVariables false
set_option linter.unusedSimpArgs false
namespace Go.Eng
variable {P : Program}

/-- An operand that may be missing. -/
def RepO (k : Keep) (M : Mem) : Option AV → Option Value → Prop
  | none, none => True
  | some x, some v => RepA k M x v
  | _, _ => False

theorem bnd_sound {k : Keep} {M : Mem} {d n : Nat} {x : Option AV} {v : Option Value} (hr : RepO k M x v) (h : bnd d x = some n) : (x = none ∧ v = none ∧ n = d) ∨ (x.isSome = true ∧ ∃ q, v = some (.int q (n : Int))) := by
  cases x with
  | none =>
    cases v with
    | none => simp only [bnd] at h; cases h; exact .inl ⟨rfl, rfl, rfl⟩
    | some v => exact hr.elim
  | some x =>
    cases v with
    | none => exact hr.elim
    | some v =>
      simp only [bnd] at h
      obtain ⟨i, hi, h9⟩ := Option.bind_eq_some_iff.1 h
      split at h9
      · rename_i h0
        cases h9
        obtain ⟨q, rfl⟩ := asI_some hi
        have hv : v = .int q i := hr.2
        subst hv
        exact .inr ⟨rfl, q, by rw [Int.toNat_of_nonneg h0]⟩
      · cases h9

theorem run_sliceBounds {b : Bool} {len cap l h : Nat} {lo hi mx : Option Value} (w : World) (hlo : (lo = none ∧ l = 0) ∨ ∃ q, lo = some (.int q (l : Int))) (hhi : (hi = none ∧ h = len ∧ mx = none) ∨ ∃ q, hi = some (.int q (h : Int)))
    (hmx : mx = none ∨ ∃ q, mx = some (.int q (h : Int))) (hlh : l ≤ h) (hhc : h ≤ cap) : (Instr.sliceBounds b len cap lo hi mx).run P w = .ok (l, h, if mx.isSome then h else cap) w := by
  have sb : ∀ (q : IntKind) (n y : Nat) (c : BoundsCode), n ≤ y → (Instr.sliceBound (.int q (n : Int)) y c).run P w = .ok n w := fun q n y c hn => by
    simp [Instr.sliceBound, asIntOf, hn]
  rcases hmx with rfl | ⟨qm, rfl⟩
  · rcases hhi with ⟨rfl, rfl, _⟩ | ⟨qh, rfl⟩ <;> rcases hlo with ⟨rfl, rfl⟩ | ⟨ql, rfl⟩ <;> simp [Instr.sliceBounds, sb, hlh, hhc]
  · rcases hhi with ⟨_, _, h0⟩ | ⟨qh, rfl⟩
    · cases h0
    · rcases hlo with ⟨rfl, rfl⟩ | ⟨ql, rfl⟩ <;> simp [Instr.sliceBounds, sb, hlh, hhc]

theorem RepRow.cut {k : Keep} {M : Mem} {b k' o : Nat} {v : List D} {l n : Nat} (h : RepRow (CC k false M) b k' o v) : RepRow (CC k false M) b k' (o + l * k') ((v.drop l).take n) := by
  rw [RepRow.iff] at h ⊢
  intro i x hx
  rw [List.getElem?_take] at hx
  split at hx
  · rw [List.getElem?_drop] at hx
    obtain ⟨u, h1, h2, h3⟩ := h _ x hx
    refine ⟨u, h1, h2, fun j c hc => ?_⟩
    have := h3 j c hc
    rwa [show o + l * k' + i * k' + j = o + (l + i) * k' + j by rw [Nat.add_mul]; omega]
  · cases hx

theorem RepRow.es {k : Keep} {M : Mem} {b k' o : Nat} {v : List D} {l n : Nat} (h : RepRow (CC k false M) b k' o v) (hn : n ≠ 0) (hf : fitL n (v.map .d) = true) (hl : l < v.length) : k' = n := by
  obtain ⟨u, h1, h2, _⟩ := (RepRow.iff _ _ _ _).1 h l v[l] (List.getElem?_eq_getElem hl)
  have hx := (fitL_iff _).1 hf (.d v[l]) (List.mem_map.2 ⟨_, List.getElem_mem hl, rfl⟩)
  have := (RepA.cells (k := k) (M := M) (x := .d v[l]) h1 (by intro e; rw [e] at hx; exact hn hx.symm)).1
  omega


theorem sliceV_sound {k : Keep} {M : Mem} (hI : Inv k M) {st : Store} (hpre : Pre st M.st) {t : TypeId} {i : TI} (ht : tiOf P t = some i) {x r : AV} {u : Value} {lo hi mx : Option AV} {vlo vhi vmx : Option Value}
    (hx : RepA k M x u) (hlo : RepO k M lo vlo) (hhi : RepO k M hi vhi) (hmx : RepO k M mx vmx) (h : sliceV P st i x lo hi mx = some r) (w : World) :
    ∃ v, (Instr.sliceAt t u vlo vhi vmx).run P w = .ok v w ∧ RepA k M r v := by
  obtain ⟨info, d, h1, h2, h3, h4, h5, h6⟩ := ti_spec ht
  unfold sliceV at h
  rw [h6] at h
  cases d <;> simp only [kOf] at h <;> try (cases h; done)
  · -- a string
    split at h
    · rename_i s
      obtain ⟨l, hl, h9⟩ := Option.bind_eq_some_iff.1 h
      clear h
      obtain ⟨q, hq, h8⟩ := Option.bind_eq_some_iff.1 h9
      clear h9
      obtain ⟨a, rfl, rfl⟩ := hx
      have hmx' : vmx = none := by cases vmx with | none => rfl | some v => exact hmx.elim
      subst hmx'
      by_cases hc : (Nat.ble l q && Nat.ble q a.data.toList.length) = true
      · simp only [hc, cond_true] at h8
        cases h8
        simp only [Bool.and_eq_true] at hc
        have hlq := Nat.le_of_ble_eq_true hc.1
        have hqs := Nat.le_of_ble_eq_true hc.2
        have hsz : a.data.toList.length = a.size := by rw [Array.length_toList]; rfl
        rw [hsz] at hqs hq
        have hb := run_sliceBounds (P := P) (b := false) (len := a.size) (cap := a.size) (lo := vlo) (hi := vhi) (mx := none) w ((bnd_sound hlo hl).imp (fun h => ⟨h.2.1, h.2.2⟩) (fun h => h.2)) ((bnd_sound hhi hq).imp (fun h => ⟨h.2.1, h.2.2, rfl⟩) (fun h => h.2)) (.inl rfl) hlq hqs
        refine ⟨.string (a.extract l q), ?_, _, rfl, ?_⟩
        · simp only [Instr.sliceAt, Sem.run_bind, run_underlying h2, Result.andThen_ok, Instr.slice, Option.isSome_none, Bool.false_eq_true, if_false]
          simp [hb]
        · rw [ByteArray.data_extract, Array.toList_extract, List.extract_eq_take_drop]
      · simp only [Bool.eq_false_iff.2 hc, cond_false] at h8; cases h8
    · cases h
  · -- a slice
    rename_i elem
    obtain ⟨ei, hei, h9⟩ := Option.bind_eq_some_iff.1 h
    clear h
    obtain ⟨n, hn, h8⟩ := Option.bind_eq_some_iff.1 h9
    clear h9
    obtain ⟨l, hl, h9⟩ := Option.bind_eq_some_iff.1 h8
    clear h8
    obtain ⟨q, hq, h8⟩ := Option.bind_eq_some_iff.1 h9
    clear h9
    obtain ⟨m, hm, h9⟩ := Option.bind_eq_some_iff.1 h8
    clear h8
    by_cases hc : (Nat.ble l q && Nat.ble q n && m == q && (hi.isSome || mx.isNone) && !(ei.size == 0)) = true
    case neg => simp [Bool.eq_false_iff.2 hc] at h9
    simp only [hc, cond_true] at h9
    simp only [Bool.and_eq_true, beq_iff_eq, Bool.or_eq_true, Bool.not_eq_true', beq_eq_false_iff_ne] at hc
    obtain ⟨⟨⟨⟨hlq, hqn⟩, rfl⟩, hsome⟩, hs0⟩ := hc
    have hlq := Nat.le_of_ble_eq_true hlq
    have hqn := Nat.le_of_ble_eq_true hqn
    have hz : vmx.isSome = mx.isSome := by cases mx <;> cases vmx <;> first | rfl | exact hmx.elim
    have hrun : ∀ (a : Option Addr) (c : Nat), n ≤ c → (Instr.sliceAt t (.slice a n c) vlo vhi vmx).run P w = .ok (.slice (if (if mx.isSome then m else c) = l then a else a.map (·.add (l * ei.size))) (m - l) ((if mx.isSome then m else c) - l)) w := by
      intro a c hnc
      have hb := run_sliceBounds (P := P) (b := true) (len := n) (cap := c) (lo := vlo) (hi := vhi) (mx := vmx) w ((bnd_sound hlo hl).imp (fun h => ⟨h.2.1, h.2.2⟩) (fun h => h.2))
        (by
          rcases bnd_sound hhi hq with ⟨g1, g2, g3⟩ | ⟨_, g⟩
          · refine .inl ⟨g2, g3, ?_⟩
            subst g1
            have : mx = none := by simpa using hsome
            subst this
            cases vmx with | none => rfl | some v => exact hmx.elim
          · exact .inr g)
        (by
          rcases bnd_sound hmx hm with ⟨g1, g2, g3⟩ | ⟨_, g⟩
          · exact .inl g2
          · exact .inr g) hlq (by omega)
      rw [hz] at hb
      simp only [Instr.sliceAt, Sem.run_bind, run_underlying h2, Result.andThen_ok, Instr.slice, run_sizeOf' hei, hb, Sem.run_pure]
    -- data
    have data : ∀ (v : List D) (a : Option Addr) (c : Nat), n = v.length → n ≤ c → (l == 0 || fitL ei.size (v.map .d)) = true → (v = [] ∨ ∃ b o k', a = some ⟨b, o, none⟩ ∧ RepRow (CC k false M) b k' o v) → ei.size ≠ 0 →
        ((v.drop l).take (m - l) = [] ∨ ∃ b o k', (if (if mx.isSome then m else c) = l then a else a.map (·.add (l * ei.size))) = some ⟨b, o, none⟩ ∧ RepRow (CC k false M) b k' o ((v.drop l).take (m - l))) := by
      intro v a c hnv hnc hf hv hs0
      by_cases hml : m = l
      · left; rw [hml]; simp
      · right
        rcases hv with rfl | ⟨b, o, k', rfl, hrow⟩
        · simp at hnv; omega
        · have hne : (if mx.isSome = true then m else c) ≠ l := by split <;> omega
          rw [if_neg hne]
          have hk : l * k' = l * ei.size := by
            rw [Bool.or_eq_true, beq_iff_eq] at hf
            rcases hf with rfl | hf
            · simp
            · rw [hrow.es hs0 hf (l := l) (by omega)]
          exact ⟨b, o + l * k', k', by rw [Option.map_some, Addr.add_lit, hk], hrow.cut⟩
    have tl : ∀ v : List D, n = v.length → ((v.drop l).take (m - l)).length = m - l := fun v hv => by rw [List.length_take, List.length_drop]; omega
    have cut : ∀ {loc ep es off len : Nat} {a : Option Addr} {c cc : Nat}, RepA k M (.sref loc ep es off len) (.slice a len c) → l ≠ m → m ≤ cc → cc ≤ c → es = ei.size → len = n →
        RepA k M (.sref loc ep es (off + l) (m - l)) (.slice (if cc = l then a else a.map (·.add (l * ei.size))) (m - l) (cc - l)) := by
      intro loc ep es off len a c cc hx hlm hmc hcc he hln
      obtain ⟨y, hy, hep, ⟨a', c', e0, hlc, ha⟩, hrest⟩ := hx
      cases e0
      have hlen0 : len ≠ 0 := by clear hrest; omega
      have hsub : m - l ≤ cc - l := by clear hrest; omega
      have hcl : l ≤ cc := by clear hrest; omega
      have hofm : off + l + (m - l) ≤ off + len := by clear hrest; omega
      have hadd : off + l + (cc - l) ≤ off + c := by clear hrest; omega
      have hne : cc ≠ l := by clear hrest; omega
      rw [if_neg hne]
      refine ⟨y, hy, hep, ⟨_, _, rfl, hsub, fun _ => ?_⟩, fun e => ?_⟩
      · have := ha hlen0
        cases a with | none => simp at this | some a => rfl
      · obtain ⟨hrow, hcase⟩ := hrest e
        clear hrest
        refine ⟨hrow, ?_⟩
        rcases hcase with ⟨_, hv, _, h0⟩ | ⟨hv, hes, hle, b, base, c2, hm0, hv2, hc2, cs0, e0, fz0, hh0, hcap⟩
        · exact absurd h0 hlen0
        · cases hv2
          refine .inr ⟨hv, hes, Nat.le_trans hofm hle, b, base, _, hm0, by rw [Option.map_some, Addr.add_lit, ← he, hes, Nat.add_mul, Nat.add_assoc], hsub, cs0, e0, fz0, hh0, ?_⟩
          exact Nat.le_trans (Nat.add_le_add_left (Nat.mul_le_mul_right _ hadd) _) hcap
    by_cases hmxn : mx.isNone = true
    · simp only [hmxn, cond_true] at h9
      have hms : mx.isSome = false := by cases mx <;> simp_all
      split at h9
      · rename_i loc ep es off len
        by_cases he : (es == ei.size) = true
        · simp only [he, cond_true] at h9
          rw [beq_iff_eq] at he
          simp only [lenV] at hn
          cases hn
          have hx0 := hx
          obtain ⟨y, hy, hep, ⟨a, c, rfl, hlc, ha⟩, hrest⟩ := hx
          by_cases hlm : (l == m) = true
          · simp only [hlm, cond_true] at h9
            cases h9
            rw [beq_iff_eq] at hlm
            subst hlm
            exact ⟨_, hrun a c hlc, _, _, by rw [Nat.sub_self]; rfl, Nat.zero_le _, .inl rfl⟩
          · simp only [Bool.eq_false_iff.2 hlm, cond_false] at h9
            cases h9
            exact ⟨_, hrun a c hlc, cut hx0 (by simpa using hlm) (by rw [hms]; simp only [Bool.false_eq_true, if_false]; omega) (by rw [hms]; simp) he rfl⟩
        · simp [Bool.eq_false_iff.2 he] at h9
      · rename_i v
        by_cases hf : (l == 0 || fitL ei.size (v.map .d)) = true
        · simp only [hf, cond_true] at h9
          cases h9
          simp only [lenV] at hn
          cases hn
          obtain ⟨a, c, rfl, hle, hv⟩ := hx
          exact ⟨_, hrun a c hle, _, _, by rw [tl v rfl], by rw [tl v rfl, hms]; simp; omega, data v a c rfl hle hf hv hs0⟩
        · simp [Bool.eq_false_iff.2 hf] at h9
      · rename_i v
        by_cases hf : (l == 0 || fitL ei.size (v.map .d)) = true
        · simp only [hf, cond_true] at h9
          simp only [lenV] at hn
          cases hn
          obtain ⟨a, rfl, hv⟩ := hx
          by_cases hhn : (m == v.length) = true
          · simp only [hhn, cond_true] at h9
            cases h9
            rw [beq_iff_eq] at hhn
            refine ⟨_, hrun a _ (Nat.le_refl _), _, by rw [tl v rfl, hms]; simp only [Bool.false_eq_true, if_false, hhn], data v a _ rfl (Nat.le_refl _) hf hv hs0⟩
          · simp only [Bool.eq_false_iff.2 hhn, cond_false] at h9
            cases h9
            exact ⟨_, hrun a _ (Nat.le_refl _), _, _, by rw [tl v rfl], by rw [tl v rfl, hms]; simp; omega, data v a _ rfl (Nat.le_refl _) hf hv hs0⟩
        · simp [Bool.eq_false_iff.2 hf] at h9
      · cases h9
        simp only [lenV] at hn
        cases hn
        have hu : u = .slice none 0 0 := hx
        subst hu
        obtain rfl : m = 0 := by omega
        obtain rfl : l = 0 := by omega
        exact ⟨_, hrun none 0 (Nat.le_refl _), by rw [hms]; rfl⟩
      · cases h9
    · simp only [Bool.eq_false_iff.2 hmxn, cond_false] at h9
      have hms : mx.isSome = true := by cases mx <;> simp_all
      have fullv : ∀ (v : List D) (a : Option Addr) (c : Nat), n = v.length → n ≤ c → (l == 0 || fitL ei.size (v.map .d)) = true → (v = [] ∨ ∃ b o k', a = some ⟨b, o, none⟩ ∧ RepRow (CC k false M) b k' o v) →
          RepA k M (.full ((v.drop l).take (m - l))) (.slice (if (if mx.isSome then m else c) = l then a else a.map (·.add (l * ei.size))) (m - l) ((if mx.isSome then m else c) - l)) := fun v a c hv hc hf hr =>
        ⟨_, by rw [tl v hv, hms]; simp only [if_true], data v a c hv hc hf hr hs0⟩
      split at h9
      · rename_i v
        by_cases hf : (l == 0 || fitL ei.size (v.map .d)) = true
        · simp only [hf, cond_true] at h9
          cases h9
          simp only [lenV] at hn
          cases hn
          obtain ⟨a, c, rfl, hle, hv⟩ := hx
          exact ⟨_, hrun a c hle, fullv v a c rfl hle hf hv⟩
        · simp [Bool.eq_false_iff.2 hf] at h9
      · rename_i v
        by_cases hf : (l == 0 || fitL ei.size (v.map .d)) = true
        · simp only [hf, cond_true] at h9
          cases h9
          simp only [lenV] at hn
          cases hn
          obtain ⟨a, rfl, hv⟩ := hx
          exact ⟨_, hrun a _ (Nat.le_refl _), fullv v a _ rfl (Nat.le_refl _) hf hv⟩
        · simp [Bool.eq_false_iff.2 hf] at h9
      · cases h9
        simp only [lenV] at hn
        cases hn
        have hu : u = .slice none 0 0 := hx
        subst hu
        obtain rfl : m = 0 := by omega
        obtain rfl : l = 0 := by omega
        exact ⟨_, hrun none 0 (Nat.le_refl _), by rw [hms]; rfl⟩
      · rename_i loc ep es off len
        by_cases he : (es == ei.size) = true
        · simp only [he, cond_true] at h9
          rw [beq_iff_eq] at he
          simp only [lenV] at hn
          cases hn
          have hx0 := hx
          obtain ⟨y, hy, hep, ⟨a, c, rfl, hlc, ha⟩, hrest⟩ := hx
          by_cases hlm : (l == m) = true
          · simp only [hlm, cond_true] at h9
            cases h9
            rw [beq_iff_eq] at hlm
            subst hlm
            exact ⟨_, hrun a c hlc, _, by rw [hms]; simp only [if_true, Nat.sub_self]; rfl, .inl rfl⟩
          · simp only [Bool.eq_false_iff.2 hlm, cond_false] at h9
            split at h9
            · rename_i v hfz
              cases h9
              have hr := cut (cc := if mx.isSome = true then m else c) hx0 (by simpa using hlm) (by rw [hms]; simp) (by rw [hms]; simp only [if_true]; omega) he rfl
              obtain ⟨a', c', e1, e2, e3⟩ := fz_sound hI hpre 6 _ _ _ hr hfz
              refine ⟨_, hrun a c hlc, a', ?_, e3⟩
              rw [hms] at e1 ⊢
              simp only [if_true] at e1 ⊢
              injection e1 with g1 g2 g3
              rw [g1, g2]
            · cases h9
        · simp [Bool.eq_false_iff.2 he] at h9
      · cases h9

end Go.Eng
