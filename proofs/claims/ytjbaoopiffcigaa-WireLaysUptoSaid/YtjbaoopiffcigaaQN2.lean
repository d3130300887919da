/- WireLays, where what it reads is of bulk at most 1048576: it returns true, and its input reads as it did. Conditions: those of the row. -/
import Derived.Test.YtjbaoopiffcigaaQN1
import Derived.Test.YtjbaoopiffcigaaQM21
import Derived.WalkKit
import Derived.ProofKit
import Derived.OpenShut
import Derived.JoinedCond
namespace Go.Proofs.Ytjbaoopiffcigaa.lays
open Go.ChangeShapes Go.WideShapes Go.ChangeAt Go.RowKit Go.L25 Go.Eng
set_option linter.unusedVariables false
set_option maxRecDepth 100000

section
variable {H : Type} {enc : TypeId × Value → H} {P : Program}
/-- The row's last step, where all below the heap's old size stands as it stood. -/
theorem post_below {f : Func} {s : ChangeSpec} {apart fresh handsOn again : Bool} {W W' : World} {args : Array Value} {v : Value} {ds gs : List (DataW H)} {before pa pv : List MemPlace}
    (hW : DataW.Whole enc P f.params.toList s.vars apart W args.toList ds gs before)
    (hres : ∀ (b : Nat) (sp : Nat → Bool) (hd : Bool), DataW.TrodAll enc P W' b sp hd f.resultTypes.toList (v.resultList f.resultTypes.size) (s.fn H (ds ++ gs)).results [])
    (hargs : ∀ sp : Nat → Bool, (∀ p ∈ before, sp p.block = true) → DataW.TrodAll enc P W' 0 sp true f.params.toList args.toList (s.fn H (ds ++ gs)).args pa)
    (hvars : ∀ sp : Nat → Bool, (∀ p ∈ before, sp p.block = true) → DataW.TrodVars enc P W' sp s.vars (s.fn H (ds ++ gs)).vars pv)
    (hps : before = pa ++ pv) (hb : Below W.heap.size W W')
    (hok : ∀ (j : Nat) (t : TypeId) (r : Value), f.resultTypes[j]? = some t → (v.resultList f.resultTypes.size)[j]? = some r → Value.okWide P W' .any 0 t r) :
    s.post enc P f apart fresh handsOn again W args v W' := by
  have hlt : ∀ p ∈ before, p.block < W.heap.size := fun p hp => hW.lt p hp
  have hold : ∀ p ∈ before, (fun b => decide (b < W.heap.size)) p.block = true := fun p hp => by simpa using hlt p hp
  refine ⟨ds, gs, before, [], pa, pv, hW, hres _ _ _, hargs _ hold, hvars _ hold, World.keptBut_mono (fun p hp => ⟨hp, ?_⟩) (hb.frame (· ∈ before)), fun _ => ?_⟩
  · rw [hps, List.mem_append] at hp
    exact Or.inr hp
  · obtain ⟨_, _, _, _, _, hz, hn⟩ := hW
    refine ⟨hok, _, _, ([] ++ pa) ++ pv, ⟨[] ++ pa, pv, trodAll_append (hargs _ (fun _ _ => rfl)) (hres _ _ _), hvars _ (fun _ _ => rfl), rfl, ?_, ?_⟩, ?_⟩
    · intro b off hp
      have hin : MemPlace.cell b off ∈ before := by rw [hps]; simpa using hp
      rw [hb.frozen (hlt _ hin)]
      exact hz b off hin
    · intro ha
      have := hn ha
      rw [hps] at this
      simpa using this
    · intro p hp _
      rw [hps]
      simpa using hp
end

theorem own : ownKnob Try.prog.godebug = none := by kernel_rfl
theorem rec27 : Try.prog.readableRec 27 = true := by kernel_rfl
theorem laid : laidOutB Try.prog = true := by kernel_rfl
theorem in27 : InBook Try.prog 27 27 := ⟨by decide +kernel, book_self 27⟩

/-- A pure call that tells true. -/
theorem walk {f : FuncId} {x : D} {W : World} {v0 : Value} (ht : pureCall C f [x] = some (tf true)) (hv : RepD (CW W) x v0) :
    Calls Try.prog f #[v0] W fun e w' => e = .returned (.bool true) ∧ Below W.heap.size W w' := by
  have h := (pure_sound callOk (k := keepW W) (M := noMem W) (noMem_inv _ _ (Nat.le_refl _)) (brw := false) (ds := [x]) (vs := [v0]) ht ⟨rfl, fun i y u hy hu => by
    cases i with
    | zero => simp at hy hu; subst hy hu; exact hv
    | succ i => simp at hy⟩ (.inl rfl) (st := []) (st' := []) (wr := false) (v := .d (.lit (.bool true))) rfl (fun i b hb => by simp at hb) (fun i _ h => by simp at h)).2
  refine Calls.mono (P := Try.prog) h ?_
  rintro e w' ⟨m', r, rfl, hr, hS, _⟩
  refine ⟨by rw [show r = .bool true from hr.2], hS.out.os, hS.out.tape, hS.out.output, hS.evo.heap, fun b hb => hS.out.old b hb (fun i o hh => by cases hh)⟩

/-- What the walk gives for every argument of the row. -/
theorem contract (H : Type) (enc : TypeId × Value → H) (W : World) (base : Nat) (args : Array Value) (ds gs : List (DataW H)) (before : List MemPlace)
    (hval : ∀ (j : Nat) t v, Try.f3.params[j]? = some t → args[j]? = some v → Value.okWide Try.prog W .any base t v)
    (hW : DataW.Whole enc Try.prog Try.f3.params.toList Rows.wireLaysSpec.vars false W args.toList ds gs before) (hk : Rows.uptoSmall H (ds ++ gs) = true) :
    Calls Try.prog 3 args W fun e W' => ∃ v, e = .returned v ∧ Rows.wireLaysSpec.post enc Try.prog Try.f3 false true false false W args v W' := by
  have hW' := hW
  obtain ⟨p, q, hA0, hV, rfl, hfz, hnd⟩ := hW
  have hA : DataW.TrodAll enc Try.prog W 0 (fun _ => true) true Try.f3.params.toList args.toList ds p := hA0
  rw [Try.params3] at hA hval
  obtain ⟨v0, vs0, d0, ds0, p0, q0, hargs, rfl, rfl, h0, r0⟩ := trodAll_cons hA
  obtain ⟨rfl, rfl, rfl⟩ := trodAll_nil r0
  obtain rfl : args = #[v0] := by cases args; simp_all
  obtain ⟨rfl, rfl⟩ := trodVars_none hV
  have hb : Rows.uptoBulk d0 ≤ 1048576 := by
    have h := of_decide_eq_true hk
    simp only [List.append_nil, Rows.uptoBulkAll] at h
    omega
  obtain ⟨fuel, ht⟩ := h0
  have hok := hval 0 27 v0 rfl rfl
  obtain ⟨cs, rfl⟩ : ∃ cs, v0 = .agg cs := by
    unfold Value.okWide at hok
    obtain ⟨d, hd, hf⟩ := Option.bind_eq_some_iff.1 f27
    rw [hd] at hok
    cases d <;> simp [fieldsOf] at hf
    obtain ⟨cs, rfl, _⟩ := hok
    exact ⟨cs, rfl⟩
  obtain ⟨F, hF⟩ := rd_filter (N := 1048576) fuel cs.toList (d0, p0) hb hb ht
  have hrep : RepD (CW W) (encO F) (.agg cs) := by
    rw [encO_cells]
    exact ⟨cs.toList, by simp, hF⟩
  have hlt : ∀ x ∈ p0, x.block < W.heap.size := fun x hx => DataW.trod_lt fuel 27 _ _ ht x hx
  have t3F := t3 F
  rw [← encO_eq] at t3F
  clear hA0
  simp only [List.append_nil] at hW'
  refine (walk t3F hrep).mono fun e W' ⟨he, hg⟩ => ?_
  subst he
  refine ⟨_, rfl, post_below (pa := p0) (pv := []) hW' (fun _ _ _ => (trodAll_cons_mk (shut_bool Try.underlying4 _) trodAll_mk0)) (fun sp hsp => ?_) (fun _ _ => rfl) (by simp) hg (ok_one (by kernel_rfl) rfl (okWide_bool_mk Try.underlying4 _))⟩
  rw [Try.params3]
  refine ⟨p0, [], ⟨fuel, ?_⟩, rfl, by simp⟩
  exact DataW.trod_stays (kids_book laid rec27) (book_sized rec27) (fun h => by cases h) in27 ht (fun x hx => hg.same (hlt x hx)) (fun x hx => hsp x (by simpa using hx))

theorem lifted (os : Os) (started : os.Started) (H : Type) (enc : TypeId × Value → H) (F : Stop.Interp) :
    ReturnsInHanded {} Try.checked os 3 .any ((Rows.OpenSpec.upto Rows.wireLaysSpec).pre6 enc Try.prog Try.f3 Rows.wireLaysUptoRow.domain false) (((Rows.OpenSpec.upto Rows.wireLaysSpec).at F).post enc Try.prog Try.f3 false true false false) := by
  refine returnsInHanded_of_cond (C := Try.checked) (s := Rows.OpenSpec.upto Rows.wireLaysSpec) (k := Rows.uptoSmall) rfl own started (by kernel_rfl) Try.func3
    (OpenSpec.witness (enc := enc) (C := Try.checked) (s := Rows.OpenSpec.upto Rows.wireLaysSpec) (k := Rows.uptoSmall) rfl false ⟨#[], #[.agg #[.int .i64 0, .string ⟨#[]⟩, .string ⟨#[]⟩, .string ⟨#[]⟩, .slice none 0 0, .string ⟨#[]⟩, .bool false, .bool false, .string ⟨#[]⟩, .bool false, .slice none 0 0]], []⟩ 8 (by kernel_rfl) (by kernel_rfl) (by kernel_rfl)
      (x := ([.agg [.lit (.int .i64 0), .lit (.string []), .lit (.string []), .agg [.lit (.string []), .nil, .lit (.string []), .lit (.bool false), .lit (.bool false)], .lit (.string []), .lit (.bool false), .nil]], [], [])) (by kernel_rfl) rfl (by kernel_rfl)) ?_
  intro W base args ds gs before hval hW _ hk _
  exact contract H enc W base args ds gs before hval hW hk

theorem over : Rows.wireLaysUptoRow.holds Try.pinned (Rows.OpenSpec.upto Rows.wireLaysSpec) :=
  OpenClaim.holds_of_cond 3 Try.f3 rfl rfl rfl rfl rfl rfl rfl ⟨rfl, rfl, rfl, rfl, rfl⟩ rfl rfl rfl rfl rfl (by kernel_rfl) Try.func3 (by kernel_rfl)
    (of_decide_eq_true (by kernel_rfl)) (by unfold Func.isWrapper; first | (rw [if_pos (by decide +kernel)]; kernel_rfl) | (rw [if_neg (by decide +kernel)]; exact ⟨rfl, rfl⟩))
    (fun os started H enc _ F => lifted os started H enc F)

theorem proved : Rows.WireLaysUptoSaid :=
  over
end Go.Proofs.Ytjbaoopiffcigaa.lays
