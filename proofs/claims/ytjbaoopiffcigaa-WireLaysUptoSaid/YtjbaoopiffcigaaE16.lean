/- The engine, part 16: every operation; the regions in the order of the text. Conditions: none. -/
import Derived.Test.YtjbaoopiffcigaaE15
set_option linter.unusedVariables false
set_option linter.unusedSimpArgs false
namespace Go.Eng

def Ext (st st' : Store) : Prop := ∃ new, st' = st ++ new ∧ ∀ b ∈ new, BlkForm b

theorem Ext.refl (st : Store) : Ext st st := ⟨[], by simp, by simp⟩

theorem Ext.val {st st' : Store} {x : Option AV} {v : AV} (h : val st x = some (v, st')) : Ext st st' := by
  obtain ⟨_, rfl⟩ := val_some h; exact Ext.refl _

theorem Ext.row {st st' : Store} {size : Nat} {wr : Bool} {l : List AV} {v : AV} (h : newRowV st size wr l = some (v, st')) : Ext st st' := by
  simp only [newRowV] at h
  cases h
  exact ⟨_, rfl, fun b hb => by simp at hb; subst hb; exact ⟨fun h => by simp at h, fun h => by simp at h⟩⟩

theorem Ext.var {st st' : Store} {size : Nat} {vi sh : Bool} {x v : AV} (h : newVarV st size vi sh x = some (v, st')) : Ext st st' := by
  have hv : ∀ y, BlkForm ⟨size, [y], false, false, false⟩ := fun y => ⟨fun _ => ⟨rfl, rfl, rfl⟩, fun h => by simp at h⟩
  unfold newVarV at h
  cases vi with
  | true =>
    simp only [cond_true, Option.some.injEq, Prod.mk.injEq] at h
    obtain ⟨_, rfl⟩ := h
    refine ⟨_, rfl, fun b hb => ?_⟩
    rcases List.mem_cons.1 hb with rfl | hb
    · exact hv _
    · exact ((virtAV_form sh x (st.length + 1)).1 b hb).1
  | false =>
    simp only [cond_false, Option.some.injEq, Prod.mk.injEq] at h
    obtain ⟨_, rfl⟩ := h
    exact ⟨_, rfl, fun b hb => by simp at hb; subst hb; exact hv _⟩

def callO : Op → Bool
  | .call _ => true
  | _ => false

theorem opE_ext {X : Ctx} {an : Ann} {call : Call} {o : Oper} {ρ : Operand → AV} {st st' : Store} {v : AV} (hc : callO o.op = false) (hq : quietO X o.op = true) (h : opE X an call o ρ st = some (v, st')) : Ext st st' := by
  obtain ⟨dst, op, type, pos, after, guard⟩ := o
  unfold opE at h
  simp only at h hq hc
  cases op with
  | move x => exact Ext.val h
  | assign x =>
    cases hvi : flagOf an.virt dst with
    | true =>
      simp only [hvi, cond_true, Option.some.injEq, Prod.mk.injEq] at h
      obtain ⟨_, rfl⟩ := h
      exact ⟨_, rfl, fun b hb => ((virtAV_form _ (ρ x) st.length).1 b hb).1⟩
    | false => simp only [hvi, cond_false] at h; exact Ext.val h
  | pick c x y => exact Ext.val h
  | alloc t =>
    obtain ⟨i, hi, h9⟩ := Option.bind_eq_some_iff.1 h
    obtain ⟨z, hz, h8⟩ := Option.bind_eq_some_iff.1 h9
    cases hc : ((constAV z).cells.length == i.size && !(i.size == 0)) <;> simp only [hc, cond_true, cond_false] at h8
    · cases h8
    · cases hty : flagOf an.ty dst <;> rw [hty] at h8
      · exact Ext.var h8
      · obtain ⟨⟨v0, st0⟩, h6, h7⟩ := Option.map_eq_some_iff.1 h8
        cases h7
        exact (Ext.var h6)
  | box t x =>
    obtain ⟨i, hi, h8⟩ := Option.bind_eq_some_iff.1 h
    cases hc : ((ρ x).cells.length == i.size && !(i.size == 0)) <;> simp only [hc, cond_true, cond_false] at h8
    · cases h8
    · exact Ext.var h8
  | build t ps => obtain ⟨i, hi, h9⟩ := Option.bind_eq_some_iff.1 h; exact Ext.val h9
  | buildSlice t n ps =>
    simp only at h
    unfold buildSl at h
    split at h
    case h_2 => cases h
    split at h
    case h_2 => cases h
    rename_i ei hei
    split at h
    case h_2 => cases h
    rename_i z hz
    cases hcc : (ei.size == 0 || Nat.blt 1000 n || Nat.blt 1000 ei.size || !(fitL ei.size ((ps.toList.map fun p => (p.1, ρ p.2)).map (·.2))) || !((constAV z).cells.length == ei.size)) <;> simp only [hcc, cond_true, cond_false] at h
    · obtain ⟨l, hl, h9⟩ := Option.bind_eq_some_iff.1 h
      split at h9
      · cases h9; exact Ext.refl _
      · exact Ext.row h9
    · cases h
  | load t x => obtain ⟨i, hi, h9⟩ := Option.bind_eq_some_iff.1 h; exact Ext.val h9
  | nilCheck x => exact Ext.val h
  | binOp op t x y t' => exact Ext.val h
  | unOp op t x => exact Ext.val h
  | convert s t x =>
    simp only at h
    unfold convV at h
    split at h
    case h_2 => cases h
    rename_i si di hsi hdi
    split at h
    · exact Ext.val h
    · exact Ext.val h
    · rename_i e s' hk hk2
      split at h
      case h_2 => cases h
      cases hcc : Nat.ble s'.length sliceMost <;> simp only [hcc, cond_true, cond_false] at h
      · cases h
      · exact Ext.row h
    · split at h
      case h_2 => cases h
      split at h
      case h_2 => cases h
      obtain ⟨l, hl, h9⟩ := Option.bind_eq_some_iff.1 h
      exact Ext.val h9
    · cases h
  | makeFunc fn first cap =>
    cases fn with
    | func f =>
      simp only at h
      cases hf : (first.size == 0) <;> simp only [hf, cond_true, cond_false] at h
      · cases h
      · exact Ext.val h
    | _ => cases h
  | slice t x lo hi mx => obtain ⟨i, hi', h9⟩ := Option.bind_eq_some_iff.1 h; exact Ext.val h9
  | fieldAddr t x f => obtain ⟨i, hi, h9⟩ := Option.bind_eq_some_iff.1 h; exact Ext.val h9
  | indexAddr t x ix =>
    obtain ⟨i, hi, h9⟩ := Option.bind_eq_some_iff.1 h
    obtain ⟨n, hn, h8⟩ := Option.bind_eq_some_iff.1 h9
    exact Ext.val h8
  | index t x ix =>
    obtain ⟨i, hi, h9⟩ := Option.bind_eq_some_iff.1 h
    obtain ⟨n, hn, h8⟩ := Option.bind_eq_some_iff.1 h9
    exact Ext.val h8
  | extract x n =>
    simp only at h
    split at h
    · exact Ext.val h
    · cases h
  | call c => simp [callO] at hc
  | store t x y => simp [quietO] at hq
  | _ => cases h

theorem ext_stp {k : Keep} {m : Nat → Option (Nat × Nat)} {st st' : Store} {w : World} (hI : Inv k ⟨m, st, w⟩) (h : Ext st st') :
    Stp k ⟨m, st, w⟩ ⟨m, st', w⟩ ∧ Pre st st' ∧ ∀ i, st.length ≤ i → i < st'.length → m i = none := by
  obtain ⟨new, rfl, hnew⟩ := h
  have hpre : Pre st (st ++ new) := fun i y hy => by rw [List.getElem?_append_left (List.getElem?_eq_some_iff.1 hy).1]; exact hy
  refine ⟨hI.more hpre (by simp) (fun i y hy => ?_), hpre, fun i hi _ => ?_⟩
  · by_cases hi : i < st.length
    · rw [List.getElem?_append_left hi] at hy; exact hI.frm i y hy
    · rw [List.getElem?_append_right (by omega)] at hy; exact hnew y (List.mem_of_getElem? hy)
  · cases hh : m i with
    | none => rfl
    | some p => exact absurd (hI.dom i p hh) (by simp only; omega)

theorem opE_any {X : Ctx} {an : Ann} {call : Call} (hC : CallOk X call) (hP : PrimOk X) {k : Keep} {m : Nat → Option (Nat × Nat)} {st st' : Store} {w : World} (hI : Inv k ⟨m, st, w⟩) {o : Oper} {a : Act} {ρ : Operand → AV} {v : AV}
    (hρ : ∀ x, RepA k ⟨m, st, w⟩ (ρ x) (a.eval x)) (h : opE X an call o ρ st = some (v, st')) {next : Act → World → Prop} {Q : Exit → Act → World → Prop}
    (hn : ∀ m' w' u, RepA k ⟨m', st', w'⟩ v u → Stp k ⟨m, st, w⟩ ⟨m', st', w'⟩ → next (a.put o.dst u) w') : o.wp X.P a w next Q := by
  have quiet : callO o.op = false → quietO X o.op = true → o.wp X.P a w next Q := by
    intro hc hq
    obtain ⟨S1, hpre, hno⟩ := ext_stp hI (opE_ext hc hq h)
    exact opE_quiet (M := ⟨m, st', w⟩) hC S1.inv hq (fun x => RepA.evo S1.evo _ _ (hρ x)) h hpre (fun _ _ h => h) hno (fun m' w' u h1 h2 _ => hn m' w' u h1 (S1.trans h2))
  have h0 := h
  obtain ⟨dst, op, type, pos, after, guard⟩ := o
  cases op with
  | store t x y =>
    unfold opE at h
    obtain ⟨i, hi, h9⟩ := Option.bind_eq_some_iff.1 h
    obtain ⟨rfl, ad, w', e, hrun, hS⟩ := stPtr_sound (P := X.P) (M := ⟨m, st, w⟩) hI hi (hρ x) (hρ y) h9
    unfold Oper.wp
    have hr : (execOp a.eval ⟨dst, .store t x y, type, pos, after, guard⟩).run X.P w = .ok .skip w' := by
      show (do Instr.storeAt t (a.eval x) (a.eval y); pure Next.skip : Sem Next).run X.P w = _
      rw [e]
      have hrun' : (Instr.storeAt t (.pointer (some ad)) (a.eval y)).run X.P w = .ok () w' := by
        simpa only [Instr.storeAt, Instr.sureAddr, Sem.run_bind, Sem.run_pure, Result.andThen_ok] using hrun
      simp only [Sem.run_bind, hrun', Result.andThen_ok, Sem.run_pure]
    rw [hr]
    exact hn m w' undef ⟨[], rfl, rfl⟩ hS
  | call c =>
    obtain ⟨callee, args, types⟩ := c
    have hargs := args_rep hρ args.toList
    cases callee with
    | builtin b =>
      by_cases hb : b = .append
      · subst hb
        unfold opE at h
        simp only [builtinV] at h
        split at h
        · rename_i x y heq
          rw [heq] at hargs
          obtain ⟨u, t, he, hx, u2, t2, rfl, hy, ht⟩ := hargs
          have ht : t2 = [] := ht
          subst ht
          have hae : args.map a.eval = #[u, u2] := by apply Array.ext'; simpa using he
          obtain ⟨v0, h, htag⟩ : ∃ v0, appOp X.P types (flagOf an.wr dst) st x.unt y = some (v0, st') ∧ (v = v0 ∨ ∃ e0, (types[0]?).bind (elemId X.P) = some e0 ∧ tagOk e0 x = true ∧ v = tagS e0 v0) := by
            unfold tagA at h
            cases hty : flagOf an.ty dst <;> simp only [hty, cond_true, cond_false] at h
            · exact ⟨v, h, .inl rfl⟩
            · split at h
              · rename_i e0 he0
                cases hto : tagOk e0 x <;> simp only [hto, cond_true, cond_false] at h
                · exact ⟨v, h, .inl rfl⟩
                · obtain ⟨⟨v0, st0⟩, h6, h7⟩ := Option.map_eq_some_iff.1 h
                  simp only [Prod.mk.injEq] at h7
                  obtain ⟨e1, e2⟩ := h7
                  subst e2
                  exact ⟨v0, h6, .inr ⟨e0, he0, hto, e1.symm⟩⟩
              · exact ⟨v, h, .inl rfl⟩
          unfold appOp at h
          split at h
          case h_2 => cases h
          rename_i ei ti hei hti
          obtain ⟨t0, ht0, hei⟩ := Option.bind_eq_some_iff.1 hei
          obtain ⟨t1, ht1, hti⟩ := Option.bind_eq_some_iff.1 hti
          have happ : (∀ q, ti.k ≠ .int q) ∧ appV st ei (flagOf an.wr dst) x.unt y = some (v0, st') := by
            split at h
            · cases h
            · rename_i hk; exact ⟨hk, h⟩
          unfold elemTI at hei
          split at hei
          case h_2 => cases hei
          rename_i e _ _ _ hts
          obtain ⟨info, d, i1, i2, i3, i4, i5, i6⟩ := ti_spec hts
          obtain ⟨e', rfl, he'⟩ : ∃ e', d = .slice e' ∧ e' = e := by cases d <;> simp [kOf] at i6; exact ⟨_, rfl, i6.symm⟩
          subst he'
          obtain ⟨info1, d1, j1, j2, j3, j4, j5, j6⟩ := ti_spec hti
          have hT : AppT X.P types e' ei := ⟨⟨t0, ht0, i2⟩, ⟨t1, d1, ht1, j2, fun q hq => happ.1 q (by rw [j6, hq]; rfl)⟩, hei⟩
          obtain ⟨w', m', r, g1, g2, g3, g4⟩ := appV_sound (P := X.P) (M := ⟨m, st, w⟩) hI hT type hx.unt hy happ.2
          have g2 : RepA k ⟨m', st', w'⟩ v r := by
            rcases htag with rfl | ⟨e0, he0, hto, rfl⟩
            · exact g2
            · have hee : e0 = e' := by
                rw [ht0] at he0
                have he0 : elemId X.P t0 = some e0 := he0
                unfold elemId at he0
                rw [hts] at he0
                exact (Option.some.inj he0).symm
              subst hee
              cases v0 with
              | sref loc ep es off len =>
                unfold tagS
                by_cases ho : (off == 0) = true
                · simp only [ho, cond_true]
                  have ho : off = 0 := by simpa using ho
                  subst ho
                  refine ⟨g2, g4 ?_⟩
                  cases x with
                  | snil => have hu : u = .slice none 0 0 := hx; subst hu; exact SlTy.none
                  | tsref t' loc' ep' es' len' =>
                    have htt : t' = e0 := by simpa [tagOk] using hto
                    subst htt
                    exact hx.2
                  | _ => simp [tagOk] at hto
                · simp only [Bool.eq_false_iff.2 ho, cond_false]
                  exact g2
              | _ => exact g2
          refine wp_val (w' := w') (u := r) ?_ (hn m' w' r g2 g3)
          show (do pure (Next.value (← Builtin.append_ types type (args.map a.eval))) : Sem Next).run X.P w = _
          rw [hae]
          exact run_value g1
        · cases h
      · -- another builtin
        have hq : quietO X (.call ⟨.builtin b, args, types⟩) = true := by cases b <;> first | rfl | exact absurd rfl hb
        have hst : st' = st := by
          unfold opE at h
          simp only at h
          cases b <;> simp only [builtinV] at h <;> first
            | (cases h; done)
            | exact absurd rfl hb
            | exact (val_some h).2
            | (split at h <;> first | (cases h; done) | exact (val_some h).2)
        subst hst
        exact opE_quiet (M := ⟨m, st', w⟩) hC hI hq hρ h (fun _ _ h => h) (fun _ _ h => h) (fun i h1 h2 => by omega) (fun m' w' u h1 h2 _ => hn m' w' u h1 h2)
    | value f =>
      unfold opE at h
      obtain ⟨⟨g, cap⟩, ht, h9⟩ := Option.bind_eq_some_iff.1 h
      obtain ⟨cs, hcs, hcap⟩ := target_sound (hρ f) ht
      obtain ⟨hE, hcall⟩ := callV_any hC hP hI (RepAs.append hargs hcap) h9
      unfold Oper.wp
      rw [run_call (o := ⟨dst, .call ⟨.value f, args, types⟩, type, pos, after, guard⟩) w rfl rfl hcs hE]
      exact hcall.mono fun e w' ⟨m', r, he, g1, g2⟩ => by subst he; exact hn m' w' r g1 g2
    | invoke r n => unfold opE at h; cases h
  | _ => exact quiet rfl rfl

end Go.Eng
