/- RequestSame, where what it reads is of bulk at most 1048576: it returns true, and its inputs read as they did. Conditions: those of the row. -/
import Derived.Test.YtlehedloheojpaaGreatPG
import Derived.WalkKit
import Derived.ProofKit
import Derived.OpenShut
import Derived.JoinedCond
namespace Go.Proofs.YtlehedloheojpaaGreat.same
open Go.ChangeShapes Go.WideShapes Go.ChangeAt Go.RowKit Go.L25 Go.Eng
set_option linter.unusedVariables false
set_option maxRecDepth 100000
section
variable {H : Type} {enc : TypeId × Value → H} {P : Program}
theorem post_below {f : Func} {s : ChangeSpec} {apart fresh handsOn again : Bool} {W W' : World} {args : Array Value} {v : Value} {ds gs : List (DataW H)} {before pa pv : List MemPlace}
    (hW : DataW.Whole enc P f.params.toList s.vars apart W args.toList ds gs before)
    (hres : ∀ (b : Nat) (sp : Nat → Bool) (hd : Bool), DataW.TrodAll enc P W' b sp hd f.resultTypes.toList (v.resultList f.resultTypes.size) (s.fn H (ds ++ gs)).results [])
    (hargs : ∀ sp : Nat → Bool, (∀ p ∈ before, sp p.block = true) → DataW.TrodAll enc P W' 0 sp true f.params.toList args.toList (s.fn H (ds ++ gs)).args pa)
    (hvars : ∀ sp : Nat → Bool, (∀ p ∈ before, sp p.block = true) → DataW.TrodVars enc P W' sp s.vars (s.fn H (ds ++ gs)).vars pv)
    (hps : before = pa ++ pv) (hb : Below W.heap.size W W')
    (hok : ∀ (j : Nat) (t : TypeId) (r : Value), f.resultTypes[j]? = some t → (v.resultList f.resultTypes.size)[j]? = some r → Value.okWide P W' .any 0 t r) :
    s.post enc P f apart fresh handsOn again W args v W' := by
  have hlt : ∀ p ∈ before, p.block < W.heap.size := fun p hp => hW.lt p hp
  have hold : ∀ p ∈ before, (fun b => decide (b < W.heap.size)) p.block = true := fun p hp => by simpa using hlt p hp
  refine ⟨ds, gs, before, [], pa, pv, hW, hres _ _ _, hargs _ hold, hvars _ hold, World.keptBut_mono (fun p hp => ⟨hp, ?_⟩) (hb.frame (· ∈ before)), fun _ => ?_⟩
  · rw [hps, List.mem_append] at hp
    exact Or.inr hp
  · obtain ⟨_, _, _, _, _, hz, hn⟩ := hW
    refine ⟨hok, _, _, ([] ++ pa) ++ pv, ⟨[] ++ pa, pv, trodAll_append (hargs _ (fun _ _ => rfl)) (hres _ _ _), hvars _ (fun _ _ => rfl), rfl, ?_, ?_⟩, ?_⟩
    · intro b off hp
      have hin : MemPlace.cell b off ∈ before := by rw [hps]; simpa using hp
      rw [hb.frozen (hlt _ hin)]
      exact hz b off hin
    · intro ha
      have := hn ha
      rw [hps] at this
      simpa using this
    · intro p hp _
      rw [hps]
      simpa using hp
end
theorem own : ownKnob Tryz.prog.godebug = none := by kernel_rfl
theorem rec33 : Tryz.prog.readableRec 33 = true := by kernel_rfl
theorem laid : laidOutB Tryz.prog = true := by kernel_rfl
theorem in33 : InBook Tryz.prog 33 33 := ⟨by decide +kernel, book_self 33⟩
theorem walk {f : FuncId} {x y : D} {W : World} {v0 v1 : Value} (ht : pureCall C f [x, y] = some (tf true)) (hv : RepD (CW W) x v0) (hv1 : RepD (CW W) y v1) :
    Calls Tryz.prog f #[v0, v1] W fun e W' => e = .returned (.bool true) ∧ Below W.heap.size W W' := by
  have h := (pure_sound callOk (k := keepW W) (M := noMem W) (noMem_inv _ _ (Nat.le_refl _)) (brw := false) (ds := [x, y]) (vs := [v0, v1]) ht ⟨rfl, fun i z u hz hu => by
    match i with
    | 0 => simp at hz hu; subst hz hu; exact hv
    | 1 => simp at hz hu; subst hz hu; exact hv1
    | n + 2 => simp at hz⟩ (.inl rfl) (st := []) (st' := []) (wr := false) (v := .d (.lit (.bool true))) rfl (fun i b hb => by simp at hb) (fun i _ h => by simp at h)).2
  refine Calls.mono (P := Tryz.prog) h ?_
  rintro e w' ⟨m', r, rfl, hr, hS, _⟩
  refine ⟨by rw [show r = .bool true from hr.2], hS.out.os, hS.out.tape, hS.out.output, hS.evo.heap, fun b hb => hS.out.old b hb (fun i o hh => by cases hh)⟩
theorem contract (H : Type) (enc : TypeId × Value → H) (W : World) (base : Nat) (args : Array Value) (ds gs : List (DataW H)) (before : List MemPlace)
    (hval : ∀ (j : Nat) t v, Tryz.f5.params[j]? = some t → args[j]? = some v → Value.okWide Tryz.prog W .any base t v)
    (hW : DataW.Whole enc Tryz.prog Tryz.f5.params.toList Rows.requestSameSpec.vars false W args.toList ds gs before) (hk : Rows.uptoSmall H (ds ++ gs) = true) :
    Calls Tryz.prog 5 args W fun e W' => ∃ v, e = .returned v ∧ Rows.requestSameSpec.post enc Tryz.prog Tryz.f5 false true false false W args v W' := by
  have hW' := hW
  obtain ⟨p, q, hA0, hV, rfl, hfz, hnd⟩ := hW
  have hA : DataW.TrodAll enc Tryz.prog W 0 (fun _ => true) true Tryz.f5.params.toList args.toList ds p := hA0
  rw [Tryz.params5] at hA hval
  obtain ⟨v0, vs0, d0, ds0, p0, q0, hargs, rfl, rfl, h0, r0⟩ := trodAll_cons hA
  obtain ⟨v1, vs1, d1, ds1, p1, q1, hargs1, rfl, rfl, h1, r1⟩ := trodAll_cons r0
  obtain ⟨rfl, rfl, rfl⟩ := trodAll_nil r1
  subst hargs1
  obtain rfl : args = #[v0, v1] := by cases args; simp_all
  obtain ⟨rfl, rfl⟩ := trodVars_none hV
  have hb : Rows.uptoBulk d0 ≤ 1048576 ∧ Rows.uptoBulk d1 ≤ 1048576 := by
    have h := of_decide_eq_true hk
    simp only [List.append_nil, Rows.uptoBulkAll] at h
    omega
  obtain ⟨fuel, ht⟩ := h0
  obtain ⟨fuel1, ht1⟩ := h1
  have hok := hval 0 33 v0 rfl rfl
  have hok1 := hval 1 33 v1 rfl rfl
  have shape : ∀ v, Value.okWide Tryz.prog W .any base 33 v → ∃ cs, v = .agg cs := by
    intro v hok
    unfold Value.okWide at hok
    obtain ⟨d, hd, hf⟩ := Option.bind_eq_some_iff.1 f33
    rw [hd] at hok
    cases d <;> simp [fieldsOf] at hf
    obtain ⟨cs, rfl, _⟩ := hok
    exact ⟨cs, rfl⟩
  obtain ⟨cs, rfl⟩ := shape v0 hok
  obtain ⟨cs1, rfl⟩ := shape v1 hok1
  obtain ⟨F, hF⟩ := rd_request (x := (d0, p0)) hb.1 ht
  obtain ⟨F1, hF1⟩ := rd_request (x := (d1, p1)) hb.2 ht1
  have hrep : RepD (CW W) (encR F) (.agg cs) := by
    rw [encR_cells]
    exact ⟨cs.toList, by simp, hF⟩
  have hrep1 : RepD (CW W) (encR F1) (.agg cs1) := by
    rw [encR_cells]
    exact ⟨cs1.toList, by simp, hF1⟩
  have hlt : ∀ x ∈ p0, x.block < W.heap.size := fun x hx => DataW.trod_lt fuel 33 _ _ ht x hx
  have hlt1 : ∀ x ∈ p1, x.block < W.heap.size := fun x hx => DataW.trod_lt fuel1 33 _ _ ht1 x hx
  have t5F : pureCall C 5 [encR F, encR F1] = some (tf true) := t5 F F1
  clear hA0
  simp only [List.append_nil] at hW'
  refine (walk t5F hrep hrep1).mono fun e W' ⟨he, hg⟩ => ?_
  subst he
  refine ⟨_, rfl, post_below (pa := p0 ++ p1) (pv := []) hW' (fun _ _ _ => (trodAll_cons_mk (shut_bool Tryz.underlying4 _) trodAll_mk0)) (fun sp hsp => ?_) (fun _ _ => rfl) (by simp) hg (ok_one (by kernel_rfl) rfl (okWide_bool_mk Tryz.underlying4 _))⟩
  rw [Tryz.params5]
  refine ⟨p0, p1, ⟨fuel, ?_⟩, ⟨p1, [], ⟨fuel1, ?_⟩, rfl, by simp⟩, rfl⟩
  · exact DataW.trod_stays (kids_book laid rec33) (book_sized rec33) (fun h => by cases h) in33 ht (fun x hx => hg.same (hlt x hx)) (fun x hx => hsp x (by simp [hx]))
  · exact DataW.trod_stays (kids_book laid rec33) (book_sized rec33) (fun h => by cases h) in33 ht1 (fun x hx => hg.same (hlt1 x hx)) (fun x hx => hsp x (by simp [hx]))
theorem lifted (os : Os) (started : os.Started) (H : Type) (enc : TypeId × Value → H) (F : Stop.Interp) :
    ReturnsInHanded {} Tryz.checked os 5 .any ((Rows.OpenSpec.upto Rows.requestSameSpec).pre6 enc Tryz.prog Tryz.f5 Rows.requestSameUptoRow.domain false) (((Rows.OpenSpec.upto Rows.requestSameSpec).at F).post enc Tryz.prog Tryz.f5 false true false false) := by
  refine returnsInHanded_of_cond (C := Tryz.checked) (s := Rows.OpenSpec.upto Rows.requestSameSpec) (k := Rows.uptoSmall) rfl own started (by kernel_rfl) Tryz.func5
    (OpenSpec.witness (enc := enc) (C := Tryz.checked) (s := Rows.OpenSpec.upto Rows.requestSameSpec) (k := Rows.uptoSmall) rfl false ⟨#[], #[.agg #[.int .i64 0, .int .i64 0, .string ⟨#[]⟩, .int .i64 0, .int .i64 0, .string ⟨#[]⟩, .int .i64 0, .int .i64 0, .bool false, .int .i64 0, .string ⟨#[]⟩, .string ⟨#[]⟩, .string ⟨#[]⟩, .slice none 0 0, .string ⟨#[]⟩, .bool false, .bool false, .string ⟨#[]⟩, .bool false, .slice none 0 0, .slice none 0 0, .slice none 0 0, .slice none 0 0, .string ⟨#[]⟩, .bool false, .string ⟨#[]⟩, .bool false, .string ⟨#[]⟩, .string ⟨#[]⟩, .int .i64 0], .agg #[.int .i64 0, .int .i64 0, .string ⟨#[]⟩, .int .i64 0, .int .i64 0, .string ⟨#[]⟩, .int .i64 0, .int .i64 0, .bool false, .int .i64 0, .string ⟨#[]⟩, .string ⟨#[]⟩, .string ⟨#[]⟩, .slice none 0 0, .string ⟨#[]⟩, .bool false, .bool false, .string ⟨#[]⟩, .bool false, .slice none 0 0, .slice none 0 0, .slice none 0 0, .slice none 0 0, .string ⟨#[]⟩, .bool false, .string ⟨#[]⟩, .bool false, .string ⟨#[]⟩, .string ⟨#[]⟩, .int .i64 0]], []⟩ 8 (by kernel_rfl) (by kernel_rfl) (by kernel_rfl)
      (x := ([.agg [.lit (.int .i64 0), .lit (.int .i64 0), .lit (.string []), .lit (.int .i64 0), .lit (.int .i64 0), .lit (.string []), .lit (.int .i64 0), .lit (.int .i64 0), .lit (.bool false), .agg [.lit (.int .i64 0), .lit (.string []), .lit (.string []), .agg [.lit (.string []), .nil, .lit (.string []), .lit (.bool false), .lit (.bool false)], .lit (.string []), .lit (.bool false), .nil], .nil, .nil, .nil, .lit (.string []), .lit (.bool false), .lit (.string []), .lit (.bool false), .agg [.lit (.string []), .lit (.string [])], .lit (.int .i64 0)], .agg [.lit (.int .i64 0), .lit (.int .i64 0), .lit (.string []), .lit (.int .i64 0), .lit (.int .i64 0), .lit (.string []), .lit (.int .i64 0), .lit (.int .i64 0), .lit (.bool false), .agg [.lit (.int .i64 0), .lit (.string []), .lit (.string []), .agg [.lit (.string []), .nil, .lit (.string []), .lit (.bool false), .lit (.bool false)], .lit (.string []), .lit (.bool false), .nil], .nil, .nil, .nil, .lit (.string []), .lit (.bool false), .lit (.string []), .lit (.bool false), .agg [.lit (.string []), .lit (.string [])], .lit (.int .i64 0)]], [], [])) (by kernel_rfl) rfl (by kernel_rfl)) ?_
  intro W base args ds gs before hval hW _ hk _
  exact contract H enc W base args ds gs before hval hW hk
theorem over : Rows.requestSameUptoRow.holds Tryz.pinned (Rows.OpenSpec.upto Rows.requestSameSpec) :=
  OpenClaim.holds_of_cond 5 Tryz.f5 rfl rfl rfl rfl rfl rfl rfl ⟨rfl, rfl, rfl, rfl, rfl⟩ rfl rfl rfl rfl rfl (by kernel_rfl) Tryz.func5 (by kernel_rfl)
    (of_decide_eq_true (by kernel_rfl)) (by unfold Func.isWrapper; first | (rw [if_pos (by decide +kernel)]; kernel_rfl) | (rw [if_neg (by decide +kernel)]; exact ⟨rfl, rfl⟩))
    (fun os started H enc _ F => lifted os started H enc F)
theorem proved : Rows.RequestSameUptoSaid :=
  over
end Go.Proofs.YtlehedloheojpaaGreat.same
