/- WireBack, where what it reads is of bulk at most 1048576: it returns true, and its input reads as it did. Conditions: those of the row. -/
import Derived.Test.YtjbaoopiffcigaaSB
import Derived.Test.YtjbaoopiffcigaaRB
import Derived.Test.YtjbaoopiffcigaaPN
import Derived.WalkKit
import Derived.ProofKit
import Derived.OpenShut
import Derived.JoinedCond
set_option linter.unusedVariables false
set_option linter.unusedSimpArgs false
namespace Go.L25
open Go Go.Eng Go.Proofs
open Nat (reduceShiftRight reduceAnd reduceEqDiff reduceLeDiff)
open Int (reduceToNat)
set_option maxRecDepth 10000
set_option maxHeartbeats 2000000
theorem San_mk {l : Nat} {c : Int} {m : Bool} {n : Int} {t : Bs} {es : List Eo} (h : es.length ≤ 2 ^ 30) (h0 : 0 ≤ c) (h1 : c ≤ 3) (h2 : 0 ≤ n) (h3 : n ≤ 30) (h4 : m = true → t = b0) (h5 : m = false → es = []) (h6 : ∀ g ∈ es, San l g) : San (l + 1) (mkE c m n t es) := by
  refine ⟨h0, h1, h2, h3, fun hm => by show bs t = []; rw [h4 hm]; rfl, fun hm => by rw [mk_els _ _ _ _ _ h]; exact h5 hm, fun g hg => ?_⟩
  rw [mk_els _ _ _ _ _ h] at hg
  exact h6 g hg
theorem San_leaf (l : Nat) (c n : Int) (t : Bs) (h0 : 0 ≤ c) (h1 : c ≤ 3) (h2 : 0 ≤ n) (h3 : n ≤ 30) : San (l + 1) (mkE c false n t []) :=
  San_mk (by simp) h0 h1 h2 h3 (fun h => by cases h) (fun _ => rfl) (fun g hg => by cases hg)
theorem San_mono : ∀ (l : Nat) (e : Eo), San l e → San (l + 1) e
  | 0, e, h => h.elim
  | l + 1, e, h => by
    obtain ⟨h1, h2, h3, h4, h5, h6, h7⟩ := h
    exact ⟨h1, h2, h3, h4, h5, h6, fun g hg => San_mono l g (h7 g hg)⟩
theorem San_laid : ∀ (l : Nat) (f : Fo), dep l f ≤ l → allF f = true → San (l + 2) (laidE f)
  | 0, f, hd, ha => by
    rw [dep] at hd
    omega
  | l + 1, f, hd, ha => by
    obtain ⟨hp, hk⟩ := allF_one ha
    have hdk := dep_kids hd
    obtain ⟨k0, k1⟩ := pOne_kind f hp
    have hkl := kids_le f
    rw [laidE_eq]
    split
    · refine San_mk (by rw [List.length_map]; omega) (by omega) (by omega) k0 k1 (fun _ => rfl) (fun h => by cases h) (fun g hg => ?_)
      obtain ⟨x, hx, rfl⟩ := List.mem_map.1 hg
      exact San_laid l x (hdk x hx) (hk x hx)
    · split
      · exact San_leaf _ _ _ _ (by omega) (by omega) (by omega) (by omega)
      · split
        · refine San_mk (by simp) (by omega) (by omega) (by omega) (by omega) (fun _ => rfl) (fun h => by cases h) (fun g hg => ?_)
          simp only [List.mem_cons, List.not_mem_nil, or_false] at hg
          rcases hg with rfl | rfl
          · exact San_leaf _ _ _ _ (by omega) (by omega) (by omega) (by omega)
          · refine San_mk (pcs_le f) (by omega) (by omega) (by omega) (by omega) (fun _ => rfl) (fun h => by cases h) (fun g hg => ?_)
            unfold pcs at hg
            simp only [List.mem_append, List.mem_map] at hg
            rcases hg with (hg | ⟨x, -, rfl⟩) | hg
            · split at hg
              · simp only [List.mem_cons, List.not_mem_nil, or_false] at hg
                subst hg
                exact San_leaf _ _ _ _ (by omega) (by omega) (by omega) (by omega)
              · cases hg
            · exact San_leaf _ _ _ _ (by omega) (by omega) (by omega) (by omega)
            · split at hg
              · simp only [List.mem_cons, List.not_mem_nil, or_false] at hg
                subst hg
                exact San_leaf _ _ _ _ (by omega) (by omega) (by omega) (by omega)
              · cases hg
        · split
          · refine San_mk (by unfold exs; simp only [List.length_append]; split <;> split <;> split <;> simp) (by omega) (by omega) (by omega) (by omega) (fun _ => rfl) (fun h => by cases h) (fun g hg => ?_)
            unfold exs at hg
            simp only [List.mem_append, List.mem_cons, List.not_mem_nil, or_false] at hg
            rcases hg with ((hg | hg) | rfl) | hg
            · split at hg
              · cases hg
              · simp only [List.mem_cons, List.not_mem_nil, or_false] at hg
                subst hg
                exact San_leaf _ _ _ _ (by omega) (by omega) (by omega) (by omega)
            · split at hg
              · cases hg
              · simp only [List.mem_cons, List.not_mem_nil, or_false] at hg
                subst hg
                exact San_leaf _ _ _ _ (by omega) (by omega) (by omega) (by omega)
            · exact San_leaf _ _ _ _ (by omega) (by omega) (by omega) (by omega)
            · split at hg
              · simp only [List.mem_cons, List.not_mem_nil, or_false] at hg
                subst hg
                exact San_leaf _ _ _ _ (by omega) (by omega) (by omega) (by omega)
              · cases hg
          · refine San_mk (by simp) (by omega) (by omega) k0 k1 (fun _ => rfl) (fun h => by cases h) (fun g hg => ?_)
            simp only [List.mem_cons, List.not_mem_nil, or_false] at hg
            rcases hg with rfl | rfl <;> exact San_leaf _ _ _ _ (by omega) (by omega) (by omega) (by omega)
theorem San_chk {f : Fo} (h : chkF f = true) : San 12 (laidE f) := by
  unfold chkF at h
  simp only [Bool.and_eq_true, decide_eq_true_eq] at h
  obtain ⟨⟨h1, -⟩, h3⟩ := h
  exact San_mono _ _ (San_mono _ _ (San_laid 8 f h1 h3))
theorem t6 (f : Fo) : pureCall C 6 [(.agg [.lit (.int .i64 (kind f)), .str (bs (name f)), .str (bs (value f)), .str (bs (ini f)), .sl (List.map encS (any f)), .str (bs (fin f)), .lit (.bool (hi f)), .lit (.bool (hf f)), .str (bs (rule f)), .lit (.bool (dn f)), .sl (List.map encO (kids f))])] = some (tf true) := by
  obtain ⟨v, hv, hv', h7⟩ := t7 f 150 (by omega) (by omega)
  have h8 := t8
  by_cases h0 : v < 0
  · rw [p6]
    simp -implicitDefEqProofs (maxSteps := 10000000) (disch := omega) only [go_sem, Int.reduceAdd, Int.reduceSub, Int.reduceMul, dec_t, dec_f, Nat.reduceBEq, Nat.reduceBNe, reduceShiftRight, reduceAnd, Nat.reduceAdd, Nat.reduceSub, reduceEqDiff, Nat.reduceLT, reduceLeDiff, reduceToNat, Int.reduceLT, Int.reduceLE, Int.reduceEq, reduceIte, reduceCtorEq, cv_8', h7, h8]
    done
  · have h9 := t9 f
    have h20 := t20 f
    unfold layR at h9
    cases hc : chkF f
    · rw [hc] at h9 h20
      simp only [Bool.false_eq_true, if_false] at h9 h20
      rw [p6]
      simp -implicitDefEqProofs (maxSteps := 10000000) (disch := omega) only [go_sem, Int.reduceAdd, Int.reduceSub, Int.reduceMul, dec_t, dec_f, Nat.reduceBEq, Nat.reduceBNe, reduceShiftRight, reduceAnd, Nat.reduceAdd, Nat.reduceSub, reduceEqDiff, Nat.reduceLT, reduceLeDiff, reduceToNat, Int.reduceLT, Int.reduceLE, Int.reduceEq, reduceIte, reduceCtorEq, cv_8', h7, h8, h9, h20, zE]
      done
    · rw [hc] at h9
      simp only [if_true] at h9
      obtain ⟨hsl, hrl⟩ := read_laid hc
      have h13 := t13 (laidE f) hsl
      rw [hrl] at h13
      simp only [rdPR] at h13
      have h17 := t17 f
      have hsan := San_chk hc
      have h21 := t21 (laidE f) hsan
      by_cases q : 4000 < (encB (laidE f)).length
      · rw [if_pos q, if_pos q] at h21
        rw [p6]
        simp -implicitDefEqProofs (maxSteps := 10000000) (disch := omega) only [go_sem, Int.reduceAdd, Int.reduceSub, Int.reduceMul, dec_t, dec_f, Nat.reduceBEq, Nat.reduceBNe, reduceShiftRight, reduceAnd, Nat.reduceAdd, Nat.reduceSub, reduceEqDiff, Nat.reduceLT, reduceLeDiff, reduceToNat, Int.reduceLT, Int.reduceLE, Int.reduceEq, reduceIte, reduceCtorEq, cv_8', h7, h8, h9, h13, h17, h21]
        done
      · rw [if_neg q, if_neg q] at h21
        have h22 := t22 (laidE f) hsan (by omega)
        rw [p6]
        simp -implicitDefEqProofs (maxSteps := 10000000) (disch := omega) only [go_sem, Int.reduceAdd, Int.reduceSub, Int.reduceMul, dec_t, dec_f, Nat.reduceBEq, Nat.reduceBNe, reduceShiftRight, reduceAnd, Nat.reduceAdd, Nat.reduceSub, reduceEqDiff, Nat.reduceLT, reduceLeDiff, reduceToNat, Int.reduceLT, Int.reduceLE, Int.reduceEq, reduceIte, reduceCtorEq, cv_8', h7, h8, h9, h13, h17, h21, h22]
        done
end Go.L25
namespace Go.Proofs.Ytjbaoopiffcigaa.back
open Go.ChangeShapes Go.WideShapes Go.ChangeAt Go.RowKit Go.L25 Go.Eng
set_option maxRecDepth 100000
section
variable {H : Type} {enc : TypeId × Value → H} {P : Program}
theorem post_below {f : Func} {s : ChangeSpec} {apart fresh handsOn again : Bool} {W W' : World} {args : Array Value} {v : Value} {ds gs : List (DataW H)} {before pa pv : List MemPlace}
    (hW : DataW.Whole enc P f.params.toList s.vars apart W args.toList ds gs before)
    (hres : ∀ (b : Nat) (sp : Nat → Bool) (hd : Bool), DataW.TrodAll enc P W' b sp hd f.resultTypes.toList (v.resultList f.resultTypes.size) (s.fn H (ds ++ gs)).results [])
    (hargs : ∀ sp : Nat → Bool, (∀ p ∈ before, sp p.block = true) → DataW.TrodAll enc P W' 0 sp true f.params.toList args.toList (s.fn H (ds ++ gs)).args pa)
    (hvars : ∀ sp : Nat → Bool, (∀ p ∈ before, sp p.block = true) → DataW.TrodVars enc P W' sp s.vars (s.fn H (ds ++ gs)).vars pv)
    (hps : before = pa ++ pv) (hb : Below W.heap.size W W')
    (hok : ∀ (j : Nat) (t : TypeId) (r : Value), f.resultTypes[j]? = some t → (v.resultList f.resultTypes.size)[j]? = some r → Value.okWide P W' .any 0 t r) :
    s.post enc P f apart fresh handsOn again W args v W' := by
  have hlt : ∀ p ∈ before, p.block < W.heap.size := fun p hp => hW.lt p hp
  have hold : ∀ p ∈ before, (fun b => decide (b < W.heap.size)) p.block = true := fun p hp => by simpa using hlt p hp
  refine ⟨ds, gs, before, [], pa, pv, hW, hres _ _ _, hargs _ hold, hvars _ hold, World.keptBut_mono (fun p hp => ⟨hp, ?_⟩) (hb.frame (· ∈ before)), fun _ => ?_⟩
  · rw [hps, List.mem_append] at hp
    exact Or.inr hp
  · obtain ⟨_, _, _, _, _, hz, hn⟩ := hW
    refine ⟨hok, _, _, ([] ++ pa) ++ pv, ⟨[] ++ pa, pv, trodAll_append (hargs _ (fun _ _ => rfl)) (hres _ _ _), hvars _ (fun _ _ => rfl), rfl, ?_, ?_⟩, ?_⟩
    · intro b off hp
      have hin : MemPlace.cell b off ∈ before := by rw [hps]; simpa using hp
      rw [hb.frozen (hlt _ hin)]
      exact hz b off hin
    · intro ha
      have := hn ha
      rw [hps] at this
      simpa using this
    · intro p hp _
      rw [hps]
      simpa using hp
end
theorem own : ownKnob Try.prog.godebug = none := by kernel_rfl
theorem rec27 : Try.prog.readableRec 27 = true := by kernel_rfl
theorem laid : laidOutB Try.prog = true := by kernel_rfl
theorem in27 : InBook Try.prog 27 27 := ⟨by decide +kernel, book_self 27⟩
theorem walk {f : FuncId} {x : D} {W : World} {v0 : Value} (ht : pureCall C f [x] = some (tf true)) (hv : RepD (CW W) x v0) :
    Calls Try.prog f #[v0] W fun e w' => e = .returned (.bool true) ∧ Below W.heap.size W w' := by
  have h := (pure_sound callOk (k := keepW W) (M := noMem W) (noMem_inv _ _ (Nat.le_refl _)) (brw := false) (ds := [x]) (vs := [v0]) ht ⟨rfl, fun i y u hy hu => by
    cases i with
    | zero => simp at hy hu; subst hy hu; exact hv
    | succ i => simp at hy⟩ (.inl rfl) (st := []) (st' := []) (wr := false) (v := .d (.lit (.bool true))) rfl (fun i b hb => by simp at hb) (fun i _ h => by simp at h)).2
  refine Calls.mono (P := Try.prog) h ?_
  rintro e w' ⟨m', r, rfl, hr, hS, _⟩
  refine ⟨by rw [show r = .bool true from hr.2], hS.out.os, hS.out.tape, hS.out.output, hS.evo.heap, fun b hb => hS.out.old b hb (fun i o hh => by cases hh)⟩
theorem contract (H : Type) (enc : TypeId × Value → H) (W : World) (base : Nat) (args : Array Value) (ds gs : List (DataW H)) (before : List MemPlace)
    (hval : ∀ (j : Nat) t v, Try.f6.params[j]? = some t → args[j]? = some v → Value.okWide Try.prog W .any base t v)
    (hW : DataW.Whole enc Try.prog Try.f6.params.toList Rows.wireBackSpec.vars false W args.toList ds gs before) (hk : Rows.uptoSmall H (ds ++ gs) = true) :
    Calls Try.prog 6 args W fun e W' => ∃ v, e = .returned v ∧ Rows.wireBackSpec.post enc Try.prog Try.f6 false true false false W args v W' := by
  have hW' := hW
  obtain ⟨p, q, hA0, hV, rfl, hfz, hnd⟩ := hW
  have hA : DataW.TrodAll enc Try.prog W 0 (fun _ => true) true Try.f6.params.toList args.toList ds p := hA0
  rw [Try.params6] at hA hval
  obtain ⟨v0, vs0, d0, ds0, p0, q0, hargs, rfl, rfl, h0, r0⟩ := trodAll_cons hA
  obtain ⟨rfl, rfl, rfl⟩ := trodAll_nil r0
  obtain rfl : args = #[v0] := by cases args; simp_all
  obtain ⟨rfl, rfl⟩ := trodVars_none hV
  have hb : Rows.uptoBulk d0 ≤ 1048576 := by
    have h := of_decide_eq_true hk
    simp only [List.append_nil, Rows.uptoBulkAll] at h
    omega
  obtain ⟨fuel, ht⟩ := h0
  have hok := hval 0 27 v0 rfl rfl
  obtain ⟨cs, rfl⟩ : ∃ cs, v0 = .agg cs := by
    unfold Value.okWide at hok
    obtain ⟨d, hd, hf⟩ := Option.bind_eq_some_iff.1 f27
    rw [hd] at hok
    cases d <;> simp [fieldsOf] at hf
    obtain ⟨cs, rfl, _⟩ := hok
    exact ⟨cs, rfl⟩
  obtain ⟨F, hF⟩ := rd_filter (N := 1048576) fuel cs.toList (d0, p0) hb hb ht
  have hrep : RepD (CW W) (encO F) (.agg cs) := by
    rw [encO_cells]
    exact ⟨cs.toList, by simp, hF⟩
  have hlt : ∀ x ∈ p0, x.block < W.heap.size := fun x hx => DataW.trod_lt fuel 27 _ _ ht x hx
  have t6F := t6 F
  rw [← encO_eq] at t6F
  clear hA0
  simp only [List.append_nil] at hW'
  refine (walk t6F hrep).mono fun e W' ⟨he, hg⟩ => ?_
  subst he
  refine ⟨_, rfl, post_below (pa := p0) (pv := []) hW' (fun _ _ _ => (trodAll_cons_mk (shut_bool Try.underlying4 _) trodAll_mk0)) (fun sp hsp => ?_) (fun _ _ => rfl) (by simp) hg (ok_one (by kernel_rfl) rfl (okWide_bool_mk Try.underlying4 _))⟩
  rw [Try.params6]
  refine ⟨p0, [], ⟨fuel, ?_⟩, rfl, by simp⟩
  exact DataW.trod_stays (kids_book laid rec27) (book_sized rec27) (fun h => by cases h) in27 ht (fun x hx => hg.same (hlt x hx)) (fun x hx => hsp x (by simpa using hx))
theorem lifted (os : Os) (started : os.Started) (H : Type) (enc : TypeId × Value → H) (F : Stop.Interp) :
    ReturnsInHanded {} Try.checked os 6 .any ((Rows.OpenSpec.upto Rows.wireBackSpec).pre6 enc Try.prog Try.f6 Rows.wireBackUptoRow.domain false) (((Rows.OpenSpec.upto Rows.wireBackSpec).at F).post enc Try.prog Try.f6 false true false false) := by
  refine returnsInHanded_of_cond (C := Try.checked) (s := Rows.OpenSpec.upto Rows.wireBackSpec) (k := Rows.uptoSmall) rfl own started (by kernel_rfl) Try.func6
    (OpenSpec.witness (enc := enc) (C := Try.checked) (s := Rows.OpenSpec.upto Rows.wireBackSpec) (k := Rows.uptoSmall) rfl false ⟨#[], #[.agg #[.int .i64 0, .string ⟨#[]⟩, .string ⟨#[]⟩, .string ⟨#[]⟩, .slice none 0 0, .string ⟨#[]⟩, .bool false, .bool false, .string ⟨#[]⟩, .bool false, .slice none 0 0]], []⟩ 8 (by kernel_rfl) (by kernel_rfl) (by kernel_rfl)
      (x := ([.agg [.lit (.int .i64 0), .lit (.string []), .lit (.string []), .agg [.lit (.string []), .nil, .lit (.string []), .lit (.bool false), .lit (.bool false)], .lit (.string []), .lit (.bool false), .nil]], [], [])) (by kernel_rfl) rfl (by kernel_rfl)) ?_
  intro W base args ds gs before hval hW _ hk _
  exact contract H enc W base args ds gs before hval hW hk
theorem over : Rows.wireBackUptoRow.holds Try.pinned (Rows.OpenSpec.upto Rows.wireBackSpec) :=
  OpenClaim.holds_of_cond 6 Try.f6 rfl rfl rfl rfl rfl rfl rfl ⟨rfl, rfl, rfl, rfl, rfl⟩ rfl rfl rfl rfl rfl (by kernel_rfl) Try.func6 (by kernel_rfl)
    (of_decide_eq_true (by kernel_rfl)) (by unfold Func.isWrapper; first | (rw [if_pos (by decide +kernel)]; kernel_rfl) | (rw [if_neg (by decide +kernel)]; exact ⟨rfl, rfl⟩))
    (fun os started H enc _ F => lifted os started H enc F)
theorem proved : Rows.WireBackUptoSaid :=
  over
end Go.Proofs.Ytjbaoopiffcigaa.back
