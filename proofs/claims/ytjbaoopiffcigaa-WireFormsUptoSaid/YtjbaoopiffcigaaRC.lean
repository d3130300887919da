/- WireForms, where what it reads is of bulk at most 1048576: it returns true, and its input reads as it did. Conditions: those of the row. -/
import Derived.Test.YtjbaoopiffcigaaRB
import Derived.Test.YtjbaoopiffcigaaPN
import Derived.WalkKit
import Derived.ProofKit
import Derived.OpenShut
import Derived.JoinedCond
set_option linter.unusedVariables false
set_option linter.unusedSimpArgs false
namespace Go.L25
open Go Go.Eng Go.Proofs
open Nat (reduceShiftRight reduceAnd reduceEqDiff reduceLeDiff)
open Int (reduceToNat)
set_option maxRecDepth 10000
set_option maxHeartbeats 2000000
theorem readR_chk {e : Eo} {f : Fo} (h : readR e = some f) : chkF f = true := by
  unfold readR at h
  split at h
  · split at h
    · rename_i c
      rw [← Option.some.inj h]
      simp only [Bool.and_eq_true] at c
      exact c.1.2
    · cases h
  · cases h
theorem t5 (e : Eo) : pureCall C 5 [(.agg [.lit (.int .i64 (cls e)), .lit (.bool (made e)), .lit (.int .i64 (num e)), .str (bs (cont e)), .sl (List.map encE (els e))])] = some (tf true) := by
  obtain ⟨v, hv, hv', hsm, h12⟩ := t12m e 200 (by omega) (by omega)
  have h8 := t8
  by_cases h0 : v < 0
  · rw [p5]
    simp -implicitDefEqProofs (disch := omega) only [go_sem, Int.reduceAdd, Int.reduceSub, Int.reduceMul, dec_t, dec_f, Nat.reduceBEq, Nat.reduceBNe, reduceShiftRight, reduceAnd, Nat.reduceAdd, Nat.reduceSub, reduceEqDiff, Nat.reduceLT, reduceLeDiff, reduceToNat, Int.reduceLT, Int.reduceLE, Int.reduceEq, reduceIte, reduceCtorEq, cv_8', h12, h8]
  · have hs := (hsm (by omega)).2
    have h13 := t13 e hs
    cases hr : readR e with
    | none =>
      rw [hr] at h13
      have h17 := t17 zF
      simp -implicitDefEqProofs (disch := omega) only [go_sem, Int.reduceAdd, Int.reduceSub, Int.reduceMul, dec_t, dec_f, Nat.reduceBEq, Nat.reduceBNe, reduceShiftRight, reduceAnd, Nat.reduceAdd, Nat.reduceSub, reduceEqDiff, Nat.reduceLT, reduceLeDiff, reduceToNat, Int.reduceLT, Int.reduceLE, Int.reduceEq, reduceIte, reduceCtorEq, zF] at h17
      simp only [rdPR] at h13
      rw [p5]
      simp -implicitDefEqProofs (disch := omega) only [go_sem, Int.reduceAdd, Int.reduceSub, Int.reduceMul, dec_t, dec_f, Nat.reduceBEq, Nat.reduceBNe, reduceShiftRight, reduceAnd, Nat.reduceAdd, Nat.reduceSub, reduceEqDiff, Nat.reduceLT, reduceLeDiff, reduceToNat, Int.reduceLT, Int.reduceLE, Int.reduceEq, reduceIte, reduceCtorEq, cv_8', h12, h8, h13, zF, h17]
    | some f =>
      rw [hr] at h13
      have hc := readR_chk hr
      obtain ⟨hsl, hrl⟩ := read_laid hc
      have h13' := t13 (laidE f) hsl
      rw [hrl] at h13'
      have h17 := t17 f
      have h9 := t9 f
      unfold layR at h9
      rw [hc] at h9
      simp only [if_true] at h9
      simp only [rdPR] at h13 h13'
      rw [p5]
      simp -implicitDefEqProofs (disch := omega) only [go_sem, Int.reduceAdd, Int.reduceSub, Int.reduceMul, dec_t, dec_f, Nat.reduceBEq, Nat.reduceBNe, reduceShiftRight, reduceAnd, Nat.reduceAdd, Nat.reduceSub, reduceEqDiff, Nat.reduceLT, reduceLeDiff, reduceToNat, Int.reduceLT, Int.reduceLE, Int.reduceEq, reduceIte, reduceCtorEq, cv_8', h12, h8, h13, h13', h9, hc, h17]
end Go.L25
namespace Go.Proofs.Ytjbaoopiffcigaa.forms
open Go.ChangeShapes Go.WideShapes Go.ChangeAt Go.RowKit Go.L25 Go.Eng
set_option maxRecDepth 100000
section
variable {H : Type} {enc : TypeId × Value → H} {P : Program}
theorem post_below {f : Func} {s : ChangeSpec} {apart fresh handsOn again : Bool} {W W' : World} {args : Array Value} {v : Value} {ds gs : List (DataW H)} {before pa pv : List MemPlace}
    (hW : DataW.Whole enc P f.params.toList s.vars apart W args.toList ds gs before)
    (hres : ∀ (b : Nat) (sp : Nat → Bool) (hd : Bool), DataW.TrodAll enc P W' b sp hd f.resultTypes.toList (v.resultList f.resultTypes.size) (s.fn H (ds ++ gs)).results [])
    (hargs : ∀ sp : Nat → Bool, (∀ p ∈ before, sp p.block = true) → DataW.TrodAll enc P W' 0 sp true f.params.toList args.toList (s.fn H (ds ++ gs)).args pa)
    (hvars : ∀ sp : Nat → Bool, (∀ p ∈ before, sp p.block = true) → DataW.TrodVars enc P W' sp s.vars (s.fn H (ds ++ gs)).vars pv)
    (hps : before = pa ++ pv) (hb : Below W.heap.size W W')
    (hok : ∀ (j : Nat) (t : TypeId) (r : Value), f.resultTypes[j]? = some t → (v.resultList f.resultTypes.size)[j]? = some r → Value.okWide P W' .any 0 t r) :
    s.post enc P f apart fresh handsOn again W args v W' := by
  have hlt : ∀ p ∈ before, p.block < W.heap.size := fun p hp => hW.lt p hp
  have hold : ∀ p ∈ before, (fun b => decide (b < W.heap.size)) p.block = true := fun p hp => by simpa using hlt p hp
  refine ⟨ds, gs, before, [], pa, pv, hW, hres _ _ _, hargs _ hold, hvars _ hold, World.keptBut_mono (fun p hp => ⟨hp, ?_⟩) (hb.frame (· ∈ before)), fun _ => ?_⟩
  · rw [hps, List.mem_append] at hp
    exact Or.inr hp
  · obtain ⟨_, _, _, _, _, hz, hn⟩ := hW
    refine ⟨hok, _, _, ([] ++ pa) ++ pv, ⟨[] ++ pa, pv, trodAll_append (hargs _ (fun _ _ => rfl)) (hres _ _ _), hvars _ (fun _ _ => rfl), rfl, ?_, ?_⟩, ?_⟩
    · intro b off hp
      have hin : MemPlace.cell b off ∈ before := by rw [hps]; simpa using hp
      rw [hb.frozen (hlt _ hin)]
      exact hz b off hin
    · intro ha
      have := hn ha
      rw [hps] at this
      simpa using this
    · intro p hp _
      rw [hps]
      simpa using hp
end
theorem own : ownKnob Try.prog.godebug = none := by kernel_rfl
theorem rec32 : Try.prog.readableRec 32 = true := by kernel_rfl
theorem laid : laidOutB Try.prog = true := by kernel_rfl
theorem in32 : InBook Try.prog 32 32 := ⟨by decide +kernel, book_self 32⟩
theorem walk {f : FuncId} {x : D} {W : World} {v0 : Value} (ht : pureCall C f [x] = some (tf true)) (hv : RepD (CW W) x v0) :
    Calls Try.prog f #[v0] W fun e w' => e = .returned (.bool true) ∧ Below W.heap.size W w' := by
  have h := (pure_sound callOk (k := keepW W) (M := noMem W) (noMem_inv _ _ (Nat.le_refl _)) (brw := false) (ds := [x]) (vs := [v0]) ht ⟨rfl, fun i y u hy hu => by
    cases i with
    | zero => simp at hy hu; subst hy hu; exact hv
    | succ i => simp at hy⟩ (.inl rfl) (st := []) (st' := []) (wr := false) (v := .d (.lit (.bool true))) rfl (fun i b hb => by simp at hb) (fun i _ h => by simp at h)).2
  refine Calls.mono (P := Try.prog) h ?_
  rintro e w' ⟨m', r, rfl, hr, hS, _⟩
  refine ⟨by rw [show r = .bool true from hr.2], hS.out.os, hS.out.tape, hS.out.output, hS.evo.heap, fun b hb => hS.out.old b hb (fun i o hh => by cases hh)⟩
theorem contract (H : Type) (enc : TypeId × Value → H) (W : World) (base : Nat) (args : Array Value) (ds gs : List (DataW H)) (before : List MemPlace)
    (hval : ∀ (j : Nat) t v, Try.f5.params[j]? = some t → args[j]? = some v → Value.okWide Try.prog W .any base t v)
    (hW : DataW.Whole enc Try.prog Try.f5.params.toList Rows.wireFormsSpec.vars false W args.toList ds gs before) (hk : Rows.uptoSmall H (ds ++ gs) = true) :
    Calls Try.prog 5 args W fun e W' => ∃ v, e = .returned v ∧ Rows.wireFormsSpec.post enc Try.prog Try.f5 false true false false W args v W' := by
  have hW' := hW
  obtain ⟨p, q, hA0, hV, rfl, hfz, hnd⟩ := hW
  have hA : DataW.TrodAll enc Try.prog W 0 (fun _ => true) true Try.f5.params.toList args.toList ds p := hA0
  rw [Try.params5] at hA hval
  obtain ⟨v0, vs0, d0, ds0, p0, q0, hargs, rfl, rfl, h0, r0⟩ := trodAll_cons hA
  obtain ⟨rfl, rfl, rfl⟩ := trodAll_nil r0
  obtain rfl : args = #[v0] := by cases args; simp_all
  obtain ⟨rfl, rfl⟩ := trodVars_none hV
  have hb : Rows.uptoBulk d0 ≤ 1048576 := by
    have h := of_decide_eq_true hk
    simp only [List.append_nil, Rows.uptoBulkAll] at h
    omega
  obtain ⟨fuel, ht⟩ := h0
  have hok := hval 0 32 v0 rfl rfl
  obtain ⟨cs, rfl⟩ : ∃ cs, v0 = .agg cs := by
    unfold Value.okWide at hok
    obtain ⟨d, hd, hf⟩ := Option.bind_eq_some_iff.1 f32
    rw [hd] at hok
    cases d <;> simp [fieldsOf] at hf
    obtain ⟨cs, rfl, _⟩ := hok
    exact ⟨cs, rfl⟩
  obtain ⟨F, hF⟩ := rd_elem (N := 1048576) fuel cs.toList (d0, p0) hb hb ht
  have hrep : RepD (CW W) (encE F) (.agg cs) := by
    rw [encE_cells]
    exact ⟨cs.toList, by simp, hF⟩
  have hlt : ∀ x ∈ p0, x.block < W.heap.size := fun x hx => DataW.trod_lt fuel 32 _ _ ht x hx
  have t3F := t5 F
  rw [← encE_eq] at t3F
  clear hA0
  simp only [List.append_nil] at hW'
  refine (walk t3F hrep).mono fun e W' ⟨he, hg⟩ => ?_
  subst he
  refine ⟨_, rfl, post_below (pa := p0) (pv := []) hW' (fun _ _ _ => (trodAll_cons_mk (shut_bool Try.underlying4 _) trodAll_mk0)) (fun sp hsp => ?_) (fun _ _ => rfl) (by simp) hg (ok_one (by kernel_rfl) rfl (okWide_bool_mk Try.underlying4 _))⟩
  rw [Try.params5]
  refine ⟨p0, [], ⟨fuel, ?_⟩, rfl, by simp⟩
  exact DataW.trod_stays (kids_book laid rec32) (book_sized rec32) (fun h => by cases h) in32 ht (fun x hx => hg.same (hlt x hx)) (fun x hx => hsp x (by simpa using hx))
theorem lifted (os : Os) (started : os.Started) (H : Type) (enc : TypeId × Value → H) (F : Stop.Interp) :
    ReturnsInHanded {} Try.checked os 5 .any ((Rows.OpenSpec.upto Rows.wireFormsSpec).pre6 enc Try.prog Try.f5 Rows.wireFormsUptoRow.domain false) (((Rows.OpenSpec.upto Rows.wireFormsSpec).at F).post enc Try.prog Try.f5 false true false false) := by
  refine returnsInHanded_of_cond (C := Try.checked) (s := Rows.OpenSpec.upto Rows.wireFormsSpec) (k := Rows.uptoSmall) rfl own started (by kernel_rfl) Try.func5
    (OpenSpec.witness (enc := enc) (C := Try.checked) (s := Rows.OpenSpec.upto Rows.wireFormsSpec) (k := Rows.uptoSmall) rfl false ⟨#[], #[.agg #[.int .i64 0, .bool false, .int .i64 0, .string ⟨#[]⟩, .slice none 0 0]], []⟩ 8 (by kernel_rfl) (by kernel_rfl) (by kernel_rfl)
      (x := ([.agg [.lit (.int .i64 0), .lit (.bool false), .lit (.int .i64 0), .lit (.string []), .nil]], [], [])) (by kernel_rfl) rfl (by kernel_rfl)) ?_
  intro W base args ds gs before hval hW _ hk _
  exact contract H enc W base args ds gs before hval hW hk
theorem over : Rows.wireFormsUptoRow.holds Try.pinned (Rows.OpenSpec.upto Rows.wireFormsSpec) :=
  OpenClaim.holds_of_cond 5 Try.f5 rfl rfl rfl rfl rfl rfl rfl ⟨rfl, rfl, rfl, rfl, rfl⟩ rfl rfl rfl rfl rfl (by kernel_rfl) Try.func5 (by kernel_rfl)
    (of_decide_eq_true (by kernel_rfl)) (by unfold Func.isWrapper; first | (rw [if_pos (by decide +kernel)]; kernel_rfl) | (rw [if_neg (by decide +kernel)]; exact ⟨rfl, rfl⟩))
    (fun os started H enc _ F => lifted os started H enc F)
theorem proved : Rows.WireFormsUptoSaid :=
  over
end Go.Proofs.Ytjbaoopiffcigaa.forms
