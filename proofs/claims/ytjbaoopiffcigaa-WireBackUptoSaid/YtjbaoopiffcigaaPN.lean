/- Layer 25: builders; the element that an argument reads as. Conditions: none. -/
import Derived.Test.YtjbaoopiffcigaaPL
import Derived.Shelf.Strings.Builder1
import Derived.Test.YtjbaoopiffcigaaRows
import Derived.ChangeBook
import Derived.ChangeStays
import Derived.Deep.Slices
import Derived.Below
import Derived.ChangeSame
set_option linter.unusedVariables false
set_option linter.unusedSimpArgs false
namespace Go.L25
open Go Go.Eng Go.Proofs Go.RowKit
theorem lies71 : liesAt Try.prog Try.prog.depth 71 (3 / Try.prog.cellsOf 71) 0 69 1 = true := by kernel_rfl
theorem u67 : Try.prog.underlying 67 = some (.pointer 69) := by kernel_rfl
theorem u119 : Try.prog.underlying 119 = some .unsafePointer := by kernel_rfl
theorem u88 : Try.prog.underlying 88 = some (.pointer 5) := by kernel_rfl
theorem c5 : Try.prog.cellsOf 5 = 1 := by kernel_rfl
theorem s69 : (Try.prog.info? 69).map (·.size) = some 2 := by kernel_rfl
set_option maxHeartbeats 1000000 in
set_option maxRecDepth 100000 in
theorem r96_fresh (b : Nat) (w : World) (h0 : w.cell? ⟨b, 0, none⟩ = some (.pointer none)) (hsh : w.shape? b = some (71, 3)) (hfz : w.frozen? ⟨b, 0, none⟩ = false) :
    Calls Try.prog 96 #[.pointer (some ⟨b, 0, none⟩)] w fun e w' => e = .returned (.tuple #[]) ∧ w' = w.setCell ⟨b, 0, none⟩ (.pointer (some ⟨b, 0, none⟩)) := by
  obtain ⟨j, hj, hjs⟩ := Option.map_eq_some_iff.1 s69
  go_enter Try.func96, Try.ntmps96
  go_wp2
  rw [Lib.run_to_unsafe w ⟨b, 0, none⟩ u67 u119 hj (by rw [hjs]; decide) hsh (Nat.zero_lt_succ 2)]
  simp only [Result.andThen]
  rw [Oper.upon_value]
  go_wp2
  rw [run_callFunc_extern Try.func100 (by kernel_rfl) (by kernel_rfl) (by kernel_rfl) (e := Extern.AbiNoEscape.same) (by kernel_rfl)]
  rw [Lib.run_noEscape]
  simp only [Result.andThen]
  rw [Oper.upon_value]
  go_wp2
  rw [Lib.run_from_unsafe w ⟨b, 0, none⟩ u119 u67 hj hsh lies71]
  simp only [Result.andThen]
  rw [Oper.upon_value]
  go_wp2
  go_end0
  exact ⟨rfl, rfl⟩
set_option maxHeartbeats 1000000 in
set_option maxRecDepth 100000 in
theorem r96_used (b : Nat) (w : World) (h0 : w.cell? ⟨b, 0, none⟩ = some (.pointer (some ⟨b, 0, none⟩))) :
    Calls Try.prog 96 #[.pointer (some ⟨b, 0, none⟩)] w fun e w' => e = .returned (.tuple #[]) ∧ w' = w := by
  obtain ⟨j, hj, hjs⟩ := Option.map_eq_some_iff.1 s69
  go_enter Try.func96, Try.ntmps96
  go_wp2
  rw [Lib.run_neq_ptr_same w _ u67 hj]
  go_wp2
  go_end0
  exact ⟨rfl, rfl⟩
set_option maxHeartbeats 2000000 in
set_option maxRecDepth 100000 in
theorem r39_nil (b : Nat) (w : World) (c1 : w.cell? ⟨b, 1, none⟩ = some (.slice none 0 0)) :
    Calls Try.prog 39 #[.pointer (some ⟨b, 0, none⟩)] w fun e w' => e = .returned (.string ⟨#[]⟩) ∧ w' = w.drew := by
  have hUS : ∀ W : World, (Builtin.unsafeString_ #[88, 3] 9 #[.pointer none, .int .i64 0]).run Try.prog W = .ok (.string .empty) W := fun W => Lib.run_unsafeString_none W _ _ _ _
  have c1' : w.drew.cell? ⟨b, 1, none⟩ = some (.slice none 0 0) := c1
  have hSD : (Builtin.unsafeSliceData_ #[65] 88 #[.slice none 0 0]).run Try.prog w.drew = .ok (.pointer none) w.drew := rfl
  go_enter Try.func39, Try.ntmps39
  go_wp2
  go_region
  all_goals (go_wp2; go_ret; exact ⟨rfl, rfl⟩)
set_option maxHeartbeats 2000000 in
set_option maxRecDepth 100000 in
theorem r39_row (b g cap cells : Nat) (l : List UInt8) (h0 : l ≠ []) (w : World) (c1 : w.cell? ⟨b, 1, none⟩ = some (.slice (some ⟨g, 0, none⟩) l.length cap)) (hsh : w.shape? g = some (5, cells)) (hle : l.length ≤ cap) (hcs : l.length ≤ cells) (hbig : l.length ≤ 2 ^ 31)
    (hcell : ∀ j x, l[j]? = some x → w.cell? ((⟨g, 0, none⟩ : Addr).add j) = some (.int .u8 x.toNat)) :
    Calls Try.prog 39 #[.pointer (some ⟨b, 0, none⟩)] w fun e w' => e = .returned (.string ⟨l.toArray⟩) ∧ w' = w.drew.freeze ⟨g, 0, none⟩ l.length := by
  have hl0 : l.length ≠ 0 := by simpa using h0
  have c1' : w.drew.cell? ⟨b, 1, none⟩ = some (.slice (some ⟨g, 0, none⟩) l.length cap) := c1
  have hSD : (Builtin.unsafeSliceData_ #[65] 88 #[.slice (some ⟨g, 0, none⟩) l.length cap]).run Try.prog w.drew = .ok (.pointer (some ⟨g, 0, none⟩)) w.drew :=
    Lib.run_unsafeSliceData_row _ _ _ _ _ _ (by omega)
  have hUS : (Builtin.unsafeString_ #[88, 3] 9 #[.pointer (some ⟨g, 0, none⟩), .int .i64 l.length]).run Try.prog w.drew = .ok (.string ⟨l.toArray⟩) (w.drew.freeze ⟨g, 0, none⟩ l.length) :=
    Lib.run_unsafeString_row w.drew 88 3 9 5 u88 c5 g cells hsh l h0 hcs (by omega) hcell
  go_enter Try.func39, Try.ntmps39
  go_wp2
  go_region
  all_goals (go_wp2; go_ret; exact ⟨rfl, rfl⟩)
end Go.L25
namespace Go.L25
open Go Go.Eng Go.Proofs Go.RowKit
theorem ti67 : tiOf Try.prog 67 = some PTI := by kernel_rfl
theorem ti65 : tiOf Try.prog 65 = some STI := by kernel_rfl
theorem cell_ld {k : Keep} {M : Mem} (hI : Inv k M) {loc off b : Nat} {a : AV} {i : TI} (hag : i.agg = false) (hp : PtrRep M loc 1 0 0 (.pointer (some ⟨b, 0, none⟩))) (h : ldPtr0 M.st i (.ptr loc 1 0 off) = some a) :
    ∃ u, M.w.cell? ⟨b, off, none⟩ = some u ∧ RepA k M a u := by
  unfold ldPtr0 at h
  simp only at h
  obtain ⟨x, hx, h⟩ := Option.bind_eq_some_iff.1 h
  obtain ⟨e, he, h⟩ := Option.bind_eq_some_iff.1 h
  obtain ⟨hx1, hx2⟩ := getBlk_some hx
  obtain ⟨y, hy, _, hv, _⟩ := hp
  rw [hx1] at hy; cases hy
  obtain ⟨_, b', base, hm, hb⟩ := hv hx2
  simp only [Value.pointer.injEq, Option.some.injEq, Addr.mk.injEq] at hb
  obtain ⟨rfl, h0, _⟩ := hb
  have hbase : base = 0 := by omega
  subst hbase
  obtain ⟨_, hes, cs, el, fz', hh, hsz, hfr, hel⟩ := hI.blk _ _ _ _ hm hx1
  obtain ⟨v, hv1, hv2, hv3, hv4⟩ := hel _ _ he
  unfold Eng.part at h
  rw [hag] at h
  simp only [cond_false] at h
  have hne : e.cells ≠ [] := by intro q; rw [q] at h; simp at h
  obtain ⟨c1, c2, _, _, c5⟩ := RepA.cells hv1 hne
  have hlt := (List.getElem?_eq_some_iff.1 h).1
  obtain ⟨u, hu⟩ : ∃ u, v.cells[off]? = some u := ⟨_, Array.getElem?_eq_getElem (by omega)⟩
  refine ⟨u, ?_, c5 off a u h hu⟩
  rw [cell_of_row M.w b off cs el fz' hh]
  have := hv4 off u hu
  simpa using this
theorem prim96_ok {k : Keep} {m : Nat → Option (Nat × Nat)} {st st' : Store} {w : World} {args : List AV} {vs : List Value} {v : AV} (h : primCopyCheck args st = some (v, st')) (hI : Inv k ⟨m, st, w⟩) (ha : RepAs k ⟨m, st, w⟩ args vs) :
    Calls Try.prog 96 vs.toArray w (fun e w' => ∃ m' r, e = .returned r ∧ RepA k ⟨m', st', w'⟩ v r ∧ Stp k ⟨m, st, w⟩ ⟨m', st', w'⟩) := by
  unfold primCopyCheck at h
  split at h
  case h_2 => cases h
  rename_i t n loc off
  obtain ⟨u, t2, rfl, hu, ht2⟩ := ha
  have ht2 : t2 = [] := ht2
  subst ht2
  by_cases hc : (t == 71 && n == 3 && off == 0) = true
  case neg => rw [Bool.eq_false_iff.2 hc] at h; cases h
  rw [hc] at h
  simp only [Bool.and_eq_true, beq_iff_eq] at hc
  obtain ⟨⟨rfl, rfl⟩, rfl⟩ := hc
  simp only [cond_true] at h
  obtain ⟨a, hld, h9⟩ := Option.bind_eq_some_iff.1 h
  obtain ⟨hp, b, cs, fz, rfl, hh, hsz⟩ := hu
  obtain ⟨u0, hcell, hr0⟩ := cell_ld (k := k) hI rfl hp hld
  simp only at hcell hh
  have hshape : w.shape? b = some (71, 3) := by simp [World.shape?, hh, hsz]
  cases hn : isNull a with
  | true =>
    rw [hn] at h9
    simp only [cond_true] at h9
    have hu0 : u0 = .pointer none := by
      unfold isNull at hn
      split at hn
      · exact hr0.2
      · cases hn
    subst hu0
    -- not frozen
    obtain ⟨rfl, ad, w1, e1, hrun, hS⟩ := stPtr0_sound (P := Try.prog) (t := 67) (i := PTI) (M := ⟨m, st, w⟩) hI ti67 (p := .ptr loc 1 0 0) (u := .pointer (some ⟨b, 0, none⟩)) hp (v := .tptr 71 3 loc 0) (vv := .pointer (some ⟨b, 0, none⟩)) ⟨hp, b, cs, fz, rfl, hh, hsz⟩ h9
    cases e1
    have hfz : w.frozen? ⟨b, 0, none⟩ = false := by
      have h8 := h9
      unfold stPtr0 at h8
      simp only at h8
      obtain ⟨x, hx, h7⟩ := Option.bind_eq_some_iff.1 h8
      obtain ⟨hx1, hx2⟩ := getBlk_some hx
      have hsh : x.shut = false := by
        cases q : x.shut with
        | false => rfl
        | true => rw [q] at h7; simp at h7
      obtain ⟨y, hy, _, hv, _⟩ := hp
      rw [hx1] at hy; cases hy
      obtain ⟨_, b', base, hm, hb⟩ := hv hx2
      simp only [Value.pointer.injEq, Option.some.injEq, Addr.mk.injEq] at hb
      obtain ⟨rfl, q0, _⟩ := hb
      have hbase : base = 0 := by omega
      subst hbase
      obtain ⟨_, _, cs', el, fz', hh', _, hfr, _⟩ := hI.blk _ _ _ _ hm hx1
      simp only at hh'
      rw [hh] at hh'
      cases hh'
      have := hfr 0 (by omega) (Nat.le_refl _) (fun q => by rw [hsh] at q; cases q)
      unfold World.frozen?
      simp only [hh]
      simpa using this
    have hst := run_storeCells_cells (P := Try.prog) b 0 [.pointer (some ⟨b, 0, none⟩)] 0 w (fun j hj => by
        have : j = 0 := by simp at hj; omega
        subst this
        rw [show (0 + 0 + 0 : Nat) = 0 from rfl, hcell]; rfl) (fun j hj => by
        have : j = 0 := by simp at hj; omega
        subst this
        exact hfz) (fun c hc => by simp at hc; subst hc; rfl)
    have hrun2 : (storeVar 67 ⟨b, 0, none⟩ (.pointer (some ⟨b, 0, none⟩))).run Try.prog w = .ok () (w.setCell ⟨b, 0, none⟩ (.pointer (some ⟨b, 0, none⟩))) := by
      have hs1 : (Value.pointer (some (⟨b, 0, none⟩ : Addr))).cells = #[.pointer (some ⟨b, 0, none⟩)] := rfl
      simp only [storeVar, Sem.run_bind, run_sizeOf' ti67, Result.andThen_ok, hs1]
      simpa [World.setCells, PTI] using hst
    rw [hrun2] at hrun
    injection hrun with _ ew
    subst ew
    refine (r96_fresh b w hcell hshape hfz).mono ?_
    rintro e w' ⟨rfl, rfl⟩
    exact ⟨m, _, rfl, ⟨[], rfl, rfl⟩, hS⟩
  | false =>
    rw [hn] at h9
    simp only [cond_false] at h9
    cases hs : isSelf loc a with
    | false => rw [hs] at h9; cases h9
    | true =>
      rw [hs] at h9
      simp only [cond_true, Option.some.injEq, Prod.mk.injEq] at h9
      obtain ⟨rfl, rfl⟩ := h9
      have hu0 : u0 = .pointer (some ⟨b, 0, none⟩) := by
        unfold isSelf at hs
        split at hs
        · rename_i t' n' l' o'
          simp only [Bool.and_eq_true, beq_iff_eq] at hs
          obtain ⟨⟨⟨rfl, rfl⟩, rfl⟩, rfl⟩ := hs
          obtain ⟨hp', b2, cs2, fz2, rfl, hh2, _⟩ := hr0
          obtain ⟨y, hy, _, hv, _⟩ := hp
          obtain ⟨y', hy', _, hv', _⟩ := hp'
          rw [hy] at hy'; cases hy'
          have hx1 := hld
          unfold ldPtr0 at hx1
          simp only at hx1
          obtain ⟨x, hx, _⟩ := Option.bind_eq_some_iff.1 hx1
          obtain ⟨hx1, hx2⟩ := getBlk_some hx
          simp only at hy
          rw [hx1] at hy; cases hy
          obtain ⟨_, b3, base3, hm3, e3⟩ := hv hx2
          obtain ⟨_, b4, base4, hm4, e4⟩ := hv' hx2
          rw [hm3] at hm4
          cases hm4
          rw [e3, e4]
        · cases hs
      subst hu0
      refine (r96_used b w hcell).mono ?_
      rintro e w' ⟨rfl, rfl⟩
      exact ⟨m, _, rfl, ⟨[], rfl, rfl⟩, Stp.refl hI⟩
theorem stp_freeze {k : Keep} {M : Mem} (hI : Inv k M) {loc g n : Nat} {x : Blk} (hm : M.m loc = some (g, 0)) (hx : M.st[loc]? = some x) (hsh : x.shut = true) (hn : n ≤ x.es * x.elems.length) (hn0 : n ≠ 0)
    {cs : Array Value} {t : TypeId} {lo hi : Nat} (hh : M.w.heap[g]? = some (.cells cs t (lo, hi))) (hlo : lo = 0) :
    Stp k M ⟨M.m, M.st, M.w.freeze ⟨g, 0, none⟩ n⟩ := by
  have hw : M.w.freeze ⟨g, 0, none⟩ n = { M.w with heap := M.w.heap.modify g fun
      | .cells c elem (lo, hi) => .cells c elem (if lo == hi then (0, 0 + n) else (min lo 0, max hi (0 + n)))
      | o => o } := by
    unfold World.freeze
    rw [if_neg hn0]
    rfl
  have hg : (M.w.freeze ⟨g, 0, none⟩ n).heap[g]? = some (.cells cs t (if lo == hi then (0, 0 + n) else (min lo 0, max hi (0 + n)))) := by
    rw [hw]
    simp only [Array.getElem?_modify, if_true, hh, Option.map_some]
  have ho : ∀ b, b ≠ g → (M.w.freeze ⟨g, 0, none⟩ n).heap[b]? = M.w.heap[b]? := by
    intro b hb
    rw [hw]
    simp only [Array.getElem?_modify]
    rw [if_neg (fun e => hb e.symm)]
  have hsize : (M.w.freeze ⟨g, 0, none⟩ n).heap.size = M.w.heap.size := by rw [hw]; simp
  have hos : (M.w.freeze ⟨g, 0, none⟩ n).os = M.w.os := by rw [hw]
  have htp : (M.w.freeze ⟨g, 0, none⟩ n).tape = M.w.tape := by rw [hw]
  have hout : (M.w.freeze ⟨g, 0, none⟩ n).output = M.w.output := by rw [hw]
  generalize M.w.freeze ⟨g, 0, none⟩ n = w1 at *
  have hcell : ∀ b o, cellAt w1 b o = cellAt M.w b o := by
    intro b o
    by_cases hb : b = g
    · subst hb
      rw [show cellAt w1 b o = cs[o]? from cell_of_row w1 b o cs t _ hg, show cellAt M.w b o = cs[o]? from cell_of_row M.w b o cs t _ hh]
    · show World.cell? _ _ = World.cell? _ _
      unfold World.cell?
      rw [ho b hb]
  have hE : Evo M ⟨M.m, M.st, w1⟩ := ⟨Nat.le_refl _, fun i y h => ⟨y, h, Nat.le_refl _, rfl, rfl, fun _ => ⟨rfl, fun _ => rfl, fun _ h => h⟩⟩, fun b o v hv hp => ⟨(hcell b o).trans hv, hp⟩,
    fun b cs' e fz hb => by
      by_cases hbg : b = g
      · subst hbg
        rw [hh] at hb
        cases hb
        refine ⟨cs, _, hg, rfl, fun hz => ?_⟩
        split
        · rfl
        · simp
      · exact ⟨cs', fz, (ho b hbg).trans hb, rfl, id⟩, by rw [hsize]; exact Nat.le_refl _⟩
  refine ⟨⟨hI.inj, hI.dom, hI.low, by simp only [hsize]; exact hI.big, fun i b o y hi hy => ?_, hI.frm⟩, hE, ⟨hos, htp, hout, fun b hb hno => ?_, fun i b o h => .inl ⟨i, o, h⟩⟩⟩
  · obtain ⟨g1, g2, cs2, e2, fz2, g3, g4, g5, g6⟩ := hI.blk i b o y hi hy
    have hall : ∀ (i : Nat) av, y.elems[i]? = some av → ∃ v : Value, RepA k ⟨M.m, M.st, w1⟩ av v ∧ v.cells.size = y.es ∧ (∀ u ∈ v.cells, cellV u = true) ∧ ∀ (j : Nat) u, v.cells[j]? = some u → cs2[o + i * y.es + j]? = some u := fun i av hav => by
      obtain ⟨v, r1, r2⟩ := g6 i av hav
      exact ⟨v, RepA.evo hE _ _ r1, r2⟩
    by_cases hb : b = g
    · subst hb
      have hil : i = loc := hI.inj _ _ _ _ _ hi hm
      subst hil
      rw [hm] at hi
      cases hi
      simp only at hy
      rw [hx] at hy
      cases hy
      rw [hh] at g3
      cases g3
      refine ⟨g1, g2, cs, t, _, hg, g4, fun j hj hj0 hjs => ?_, hall⟩
      have h1 := hjs hsh
      have h2 := g5 j hj hj0 hjs
      subst hlo
      simp only at h2 ⊢
      split <;> simp only <;> omega
    · exact ⟨g1, g2, cs2, e2, fz2, (ho b hb).trans g3, g4, g5, hall⟩
  · exact ho b (fun e => hno loc 0 (by rw [e]; exact hm))
theorem bytes8_spec : ∀ (es : List AV) (l : List UInt8), bytes8 es = some l → es.length = l.length ∧ ∀ (i : Nat) (x : UInt8), l[i]? = some x → es[i]? = some (AV.d (.lit (.int .u8 x.toNat)))
  | [], l, h => by
    simp only [bytes8, Option.some.injEq] at h
    subst h
    exact ⟨rfl, fun i x hx => by simp at hx⟩
  | e :: r, l, h => by
    unfold bytes8 at h
    split at h
    · rename_i heq; cases heq
    · rename_i n r' heq
      cases heq
      by_cases hc : ((UInt8.ofNat n.toNat).toNat : Int) = n
      · rw [decide_eq_true hc] at h
        simp only [cond_true] at h
        obtain ⟨l', h1, rfl⟩ := Option.map_eq_some_iff.1 h
        obtain ⟨q1, q2⟩ := bytes8_spec r l' h1
        refine ⟨by simp [q1], fun i x hx => ?_⟩
        cases i with
        | zero =>
          simp only [List.getElem?_cons_zero, Option.some.injEq] at hx ⊢
          rw [← hx, hc]
        | succ i => simpa using q2 i x (by simpa using hx)
      · rw [decide_eq_false hc] at h; cases h
    · cases h
theorem prim39_ok {k : Keep} {m : Nat → Option (Nat × Nat)} {st st' : Store} {w : World} {args : List AV} {vs : List Value} {v : AV} (h : primString args st = some (v, st')) (hI : Inv k ⟨m, st, w⟩) (ha : RepAs k ⟨m, st, w⟩ args vs) :
    Calls Try.prog 39 vs.toArray w (fun e w' => ∃ m' r, e = .returned r ∧ RepA k ⟨m', st', w'⟩ v r ∧ Stp k ⟨m, st, w⟩ ⟨m', st', w'⟩) := by
  unfold primString at h
  split at h
  case h_2 => cases h
  rename_i t n loc off
  obtain ⟨u, t2, rfl, hu, ht2⟩ := ha
  have ht2 : t2 = [] := ht2
  subst ht2
  by_cases hc : (t == 71 && n == 3 && off == 0) = true
  case neg => rw [Bool.eq_false_iff.2 hc] at h; cases h
  rw [hc] at h
  simp only [Bool.and_eq_true, beq_iff_eq] at hc
  obtain ⟨⟨rfl, rfl⟩, rfl⟩ := hc
  simp only [cond_true] at h
  obtain ⟨a, hld, h9⟩ := Option.bind_eq_some_iff.1 h
  obtain ⟨hp, b, cs, fz, rfl, hh, hsz⟩ := hu
  obtain ⟨u0, hcell, hr0⟩ := cell_ld (k := k) hI rfl hp hld
  simp only at hcell hh
  have hdrew : Stp k ⟨m, st, w⟩ ⟨m, st, w.drew⟩ := drawn_stp hI _
  split at h9
  · simp only [Option.some.injEq, Prod.mk.injEq] at h9
    obtain ⟨rfl, rfl⟩ := h9
    have hu0 : u0 = .slice none 0 0 := hr0
    subst hu0
    refine (r39_nil b w hcell).mono ?_
    rintro e w' ⟨rfl, rfl⟩
    exact ⟨m, _, rfl, ⟨_, rfl, rfl⟩, hdrew⟩
  · rename_i e l2 ep es len
    by_cases he : (e == 5) = true
    case neg => rw [Bool.eq_false_iff.2 he] at h9; cases h9
    rw [he] at h9
    have he : e = 5 := by simpa using he
    subst he
    simp only [cond_true] at h9
    obtain ⟨x, hx, h8⟩ := Option.bind_eq_some_iff.1 h9
    by_cases hc : (x.row && x.shut && x.es == 1 && len == x.elems.length && !(len == 0) && Nat.ble len 1073741824) = true
    case neg => rw [Bool.eq_false_iff.2 hc] at h8; cases h8
    rw [hc] at h8
    simp only [cond_true] at h8
    obtain ⟨l, hl, h7⟩ := Option.map_eq_some_iff.1 h8
    simp only [Prod.mk.injEq] at h7
    obtain ⟨rfl, rfl⟩ := h7
    simp only [Bool.and_eq_true, beq_iff_eq, Bool.not_eq_true', beq_eq_false_iff_ne] at hc
    obtain ⟨⟨⟨⟨⟨hrow, hsh⟩, hes⟩, hlen⟩, hl0⟩, hbig⟩ := hc
    have hbig := Nat.le_of_ble_eq_true hbig
    obtain ⟨hx1, hx2⟩ := getBlk_some hx
    obtain ⟨hs, hty⟩ := hr0
    obtain ⟨y, hy, _, _, hv⟩ := hs
    rw [hx1] at hy; cases hy
    obtain ⟨_, hv⟩ := hv hx2
    have hvirt : x.virt = false := by
      cases q : x.virt with
      | false => rfl
      | true => have := (hI.frm _ _ hx1).2 q; rw [this] at hlen; exact absurd hlen hl0
    rcases hv with ⟨q, _⟩ | ⟨_, hes2, hle2, g, base, c, hm, hu, hlc, cs2, e2, fz2, hh2, hcap⟩
    · rw [hvirt] at q; cases q
    subst hu
    obtain ⟨hb0, cs3, fz3, hh3, hz3⟩ := hty _ _ _ _ _ rfl
    have hbase : base = 0 := by simpa using hb0
    subst hbase
    obtain ⟨hlen2, hget⟩ := bytes8_spec _ _ hl
    obtain ⟨_, _, cs4, e4, fz4, hh4, hsz4, hfr4, hel4⟩ := hI.blk _ _ _ _ hm hx1
    simp only at hh2 hh3 hh4
    obtain ⟨e1, e2', e3⟩ : cs3 = cs4 ∧ 5 = e4 ∧ fz3 = fz4 := by
      rw [hh3] at hh4
      injection hh4 with h
      injection h with a b c
      exact ⟨a, b, c⟩
    subst e1 e2' e3
    obtain ⟨e1, e2', e3⟩ : cs3 = cs2 ∧ 5 = e2 ∧ fz3 = fz2 := by
      rw [hh3] at hh2
      injection hh2 with h
      injection h with a b c
      exact ⟨a, b, c⟩
    subst e1 e2' e3
    have hll : l.length = len := by omega
    have hlne : l ≠ [] := fun q => by rw [q] at hll; simp at hll; omega
    have hcell1 : w.cell? ⟨b, 1, none⟩ = some (.slice (some ⟨g, 0, none⟩) l.length c) := by
      rw [hll]; simpa using hcell
    have hS2 : Stp k ⟨m, st, w.drew⟩ ⟨m, st, w.drew.freeze ⟨g, 0, none⟩ l.length⟩ := by
      obtain ⟨lo, hi⟩ := fz3
      exact stp_freeze (M := ⟨m, st, w.drew⟩) hdrew.inv hm hx1 hsh (by rw [hes]; omega) (by omega) (cs := cs3) (t := 5) (lo := lo) (hi := hi) hh3 hz3
    refine (r39_row b g c cs3.size l hlne w hcell1 (by simp [World.shape?, hh3]) (by omega) (by rw [hes] at hsz4; omega) (by omega) (fun j z hz => ?_)).mono ?_
    · obtain ⟨v, r1, r2, r3, r4⟩ := hel4 j _ (hget j z hz)
      have hv : v = .int .u8 z.toNat := r1.2
      subst hv
      have := r4 0 (.int .u8 z.toNat) rfl
      rw [hes] at this
      rw [show (⟨g, 0, none⟩ : Addr).add j = ⟨g, j, none⟩ by rw [Addr.add_lit]; simp]
      rw [cell_of_row w g j cs3 5 fz3 hh3]
      simpa using this
    · rintro e w' ⟨rfl, rfl⟩
      exact ⟨m, _, rfl, ⟨_, rfl, rfl⟩, hdrew.trans hS2⟩
  · cases h9
theorem primOk : PrimOk X := by
  have hX : ∀ f p, X.prim f = some p → (f = 96 ∧ p = primCopyCheck) ∨ (f = 39 ∧ p = primString) := by
    intro f p h
    have h : primT f = some p := h
    unfold primT at h
    by_cases h1 : (f == 96) = true
    · rw [if_pos h1] at h; exact .inl ⟨by simpa using h1, (Option.some.inj h).symm⟩
    · rw [if_neg h1] at h
      by_cases h2 : (f == 39) = true
      · rw [if_pos h2] at h; exact .inr ⟨by simpa using h2, (Option.some.inj h).symm⟩
      · rw [if_neg h2] at h; cases h
  constructor
  · intro f p hp g args st v st' hg
    simp only at hg
    by_cases hgf : g = f
    · subst hgf
      rw [if_pos rfl] at hg
      rcases hX g p hp with ⟨rfl, rfl⟩ | ⟨rfl, rfl⟩
      · exact ⟨⟨Try.f96, Try.func96, by kernel_rfl, by kernel_rfl⟩, fun k m w vs hI ha => prim96_ok hg hI ha⟩
      · exact ⟨⟨Try.f39, Try.func39, by kernel_rfl, by kernel_rfl⟩, fun k m w vs hI ha => prim39_ok hg hI ha⟩
    · rw [if_neg hgf] at hg; cases hg
  · intro f p hp hpu args st v st' h
    rcases hX f p hp with ⟨rfl, rfl⟩ | ⟨rfl, rfl⟩
    · exact absurd hpu (by decide)
    · unfold primString at h
      split at h
      case h_2 => cases h
      rename_i t n loc off
      by_cases hc : (t == 71 && n == 3 && off == 0) = true
      case neg => rw [Bool.eq_false_iff.2 hc] at h; cases h
      rw [hc] at h
      simp only [cond_true] at h
      obtain ⟨a, hld, h9⟩ := Option.bind_eq_some_iff.1 h
      split at h9
      · simp only [Option.some.injEq, Prod.mk.injEq] at h9; exact h9.2.symm
      · rename_i e l2 ep es len
        cases he : (e == 5) <;> rw [he] at h9
        · cases h9
        · simp only [cond_true] at h9
          obtain ⟨x, hx, h8⟩ := Option.bind_eq_some_iff.1 h9
          cases hc : (x.row && x.shut && x.es == 1 && len == x.elems.length && !(len == 0) && Nat.ble len 1073741824) <;> rw [hc] at h8
          · cases h8
          · simp only [cond_true] at h8
            obtain ⟨l, hl, h7⟩ := Option.map_eq_some_iff.1 h8
            simp only [Prod.mk.injEq] at h7
            exact h7.2.symm
      · cases h9
theorem mixed : X.P.follows .mixedOrders = true := by kernel_rfl
theorem callOk : CallOk X C := callL_sound ctxOk primOk mixed
theorem t8N : isT (callN X 300 8 [] []) = true := by kernel_rfl
theorem t8 : pureCall C 8 [] = some (.one (.d (.lit (.bool true)))) := by
  have h := t8N
  cases hc : callN X 300 8 [] [] with
  | none => rw [hc] at h; cases h
  | some r =>
    rw [hc] at h
    obtain ⟨v, st⟩ := r
    have hv : v = .d (.lit (.bool true)) := by
      unfold isT at h
      split at h
      · rename_i heq; cases heq; rfl
      · cases h
    subst hv
    have hC : C 8 [] [] = some (.d (.lit (.bool true)), st) := callL_iff.2 ⟨300, hc⟩
    show (C 8 [] []).bind prOf = _
    rw [hC]
    rfl
set_option maxRecDepth 10000
set_option maxHeartbeats 2000000
theorem cv_8' (call : Eng.Call) (wr : Bool) (args : List AV) (st : Store) : callV X call wr 8 args st = cvP call wr 8 args st (fzAll (fz false st 6) args) := cv_pure rfl rfl call wr args st
set_option maxRecDepth 100000
section
variable {H : Type} {enc : TypeId × Value → H} {P : Program} {W : World} {base : Nat} {spare : Nat → Bool} {held : Bool}
theorem rd_int {n : Nat} {t : TypeId} {k : IntKind} {c : Value} {y : DataW H × List MemPlace} (hu : P.underlying t = some (.int k)) (h : DataW.trod enc P W base spare held n t [c] = some y) : ∃ v, c = .int k v ∧ y.1 = .lit (.int k v) := by
  cases n with
  | zero => simp [DataW.trod] at h
  | succ n =>
    unfold DataW.trod at h
    rw [hu] at h
    cases c <;> simp at h
    rename_i k' v
    obtain ⟨⟨rfl, _⟩, rfl⟩ := h
    exact ⟨v, rfl, rfl⟩
theorem rd_bool {n : Nat} {t : TypeId} {c : Value} {y : DataW H × List MemPlace} (hu : P.underlying t = some .bool) (h : DataW.trod enc P W base spare held n t [c] = some y) : ∃ v, c = .bool v ∧ y.1 = .lit (.bool v) := by
  cases n with
  | zero => simp [DataW.trod] at h
  | succ n =>
    unfold DataW.trod at h
    rw [hu] at h
    cases c <;> simp at h
    rename_i v
    subst h
    exact ⟨v, rfl, rfl⟩
theorem rd_str {n : Nat} {t : TypeId} {c : Value} {y : DataW H × List MemPlace} (hu : P.underlying t = some .string) (h : DataW.trod enc P W base spare held n t [c] = some y) : ∃ s : ByteArray, c = .string s ∧ y.1 = .lit (.string s.data.toList) := by
  cases n with
  | zero => simp [DataW.trod] at h
  | succ n =>
    unfold DataW.trod at h
    rw [hu] at h
    cases c <;> simp at h
    rename_i s
    obtain ⟨_, rfl⟩ := h
    exact ⟨s, rfl, rfl⟩
def fieldsOf : TypeDesc → Option (List (Nat × Nat))
  | .struct fs => some (fs.toList.map fun f => (f.type, f.offset))
  | _ => none
theorem rd_fields {n : Nat} {t : TypeId} {cs : List Value} {x : DataW H × List MemPlace} {l : List (Nat × Nat)} (hu : (P.underlying t).bind fieldsOf = some l) (h : DataW.trod enc P W base spare held n t cs = some x) :
    ∃ (xs : List (DataW H × List MemPlace)) (m : Nat), x.1 = .agg (xs.map (·.1)) ∧ cs.length = P.cellsOf t ∧ xs.length = l.length ∧
      ∀ (j ty off : Nat), l[j]? = some (ty, off) → ∃ y, xs[j]? = some y ∧ DataW.trod enc P W base spare held m ty ((cs.drop off).take (P.cellsOf ty)) = some y := by
  obtain ⟨d, hd, hf⟩ := Option.bind_eq_some_iff.1 hu
  cases d <;> simp [fieldsOf] at hf
  rename_i fs
  obtain ⟨xs, m, _, rfl, hl, hlen, hx⟩ := DataW.trod_struct hd h
  refine ⟨xs, m, rfl, hl, by rw [← hf]; simpa using hlen, fun j ty off hj => ?_⟩
  rw [← hf, List.getElem?_map, Option.map_eq_some_iff] at hj
  obtain ⟨f, hfj, he⟩ := hj
  simp only [Prod.mk.injEq] at he
  obtain ⟨rfl, rfl⟩ := he
  have hq := hx j f (by rw [← Array.getElem?_toList]; exact hfj)
  have hjl : j < xs.length := by
    have := (List.getElem?_eq_some_iff.1 hfj).1
    rw [hlen]; simpa using this
  refine ⟨xs[j], List.getElem?_eq_getElem hjl, ?_⟩
  rw [hq, List.getElem?_eq_getElem hjl]
theorem cell_spot {w : World} {a : Addr} {v : Value} (h : w.cell? a = some v) : a = ⟨a.block, a.off, none⟩ := by
  obtain ⟨b, o, sp⟩ := a
  cases sp with
  | none => rfl
  | some s =>
    exfalso
    unfold World.cell? at h
    split at h <;> simp at h
end
theorem lists {α : Type} {p : Nat → α → Prop} : ∀ n : Nat, (∀ i, i < n → ∃ x, p i x) → ∃ L : List α, L.length = n ∧ ∀ i x, L[i]? = some x → p i x
  | 0, _ => ⟨[], rfl, fun i x h => by simp at h⟩
  | n + 1, h => by
    obtain ⟨L, hl, hL⟩ := lists n fun i hi => h i (by omega)
    obtain ⟨x, hx⟩ := h n (by omega)
    refine ⟨L ++ [x], by simp [hl], fun i y hy => ?_⟩
    by_cases hi : i < n
    · rw [List.getElem?_append_left (by omega)] at hy; exact hL i y hy
    · rw [List.getElem?_append_right (by omega)] at hy
      have : i = n := by have := (List.getElem?_eq_some_iff.1 hy).1; simp at this; omega
      subst this
      simp [hl] at hy
      rw [← hy]; exact hx
theorem u3 : Try.prog.underlying 3 = some (.int .i64) := by kernel_rfl
theorem u4 : Try.prog.underlying 4 = some .bool := by kernel_rfl
theorem u9 : Try.prog.underlying 9 = some .string := by kernel_rfl
theorem u22 : Try.prog.underlying 22 = some (.slice 9) := by kernel_rfl
theorem u25 : Try.prog.underlying 25 = some (.slice 27) := by kernel_rfl
theorem f24 : (Try.prog.underlying 24).bind fieldsOf = some [(9, 0), (22, 1), (9, 2), (4, 3), (4, 4)] := by kernel_rfl
theorem f27 : (Try.prog.underlying 27).bind fieldsOf = some [(3, 0), (9, 1), (9, 2), (24, 3), (9, 8), (4, 9), (25, 10)] := by kernel_rfl
theorem c3 : Try.prog.cellsOf 3 = 1 := by kernel_rfl
theorem c4 : Try.prog.cellsOf 4 = 1 := by kernel_rfl
theorem c9 : Try.prog.cellsOf 9 = 1 := by kernel_rfl
theorem c22 : Try.prog.cellsOf 22 = 1 := by kernel_rfl
theorem c24 : Try.prog.cellsOf 24 = 5 := by kernel_rfl
theorem c25 : Try.prog.cellsOf 25 = 1 := by kernel_rfl
theorem c27 : Try.prog.cellsOf 27 = 11 := by kernel_rfl
section
variable {H : Type} {enc : TypeId × Value → H} {W : World} {spare : Nat → Bool} {held : Bool}
def keepW (W : World) : Keep := ⟨W.heap.size, fun _ _ => True, fun _ _ _ => trivial⟩
theorem cc_of {W : World} {b o : Nat} {v : Value} (h : W.cell? ⟨b, o, none⟩ = some v) : CC (keepW W) false (noMem W) b o v :=
  ⟨h, trivial, fun i base x hm => by cases hm⟩
abbrev CW (W : World) : Nat → Nat → Value → Prop := CC (keepW W) false (noMem W)
open Ytjbaoopiffcigaa.Rows in
theorem one_le (d : DataW H) : 1 ≤ uptoBulk d := by
  cases d with
  | lit l => cases l <;> simp [uptoBulk]
  | nil => simp [uptoBulk]
  | ptr d => simp [uptoBulk]
  | slice elems spare => simp [uptoBulk]
  | agg parts => simp [uptoBulk]
  | iface t d => simp [uptoBulk]
  | map entries => simp [uptoBulk]
  | held h => simp [uptoBulk]
open Ytjbaoopiffcigaa.Rows in
theorem part_le {d : DataW H} {l : List (DataW H)} (h : d ∈ l) : uptoBulk d ≤ uptoBulkAll l := by
  induction l with
  | nil => cases h
  | cons x r ih =>
    simp only [uptoBulkAll]
    cases List.mem_cons.1 h with
    | inl e => subst e; omega
    | inr e => have := ih e; omega
open Ytjbaoopiffcigaa.Rows in
theorem len_le (l : List (DataW H)) : l.length ≤ uptoBulkAll l := by
  induction l with
  | nil => simp [uptoBulkAll]
  | cons x r ih => have := one_le x; simp only [uptoBulkAll, List.length_cons]; omega
open Ytjbaoopiffcigaa.Rows in
theorem rd_text {n : Nat} {c : Value} {y : DataW H × List MemPlace} (h : DataW.trod enc Try.prog W 0 spare held n 9 [c] = some y) (hb : uptoBulk y.1 ≤ 1048576) : ∃ s : Bs, cellV c = true ∧ RepD (CW W) (.str (bs s)) c := by
  obtain ⟨s, rfl, hy⟩ := rd_str u9 h
  rw [hy] at hb
  simp only [uptoBulk] at hb
  exact ⟨⟨s.data.toList, by omega⟩, rfl, s, rfl, rfl⟩
open Ytjbaoopiffcigaa.Rows in
theorem rd_texts {n : Nat} {c : Value} {y : DataW H × List MemPlace} (h : DataW.trod enc Try.prog W 0 spare held n 22 [c] = some y) (hb : uptoBulk y.1 ≤ 1048576) :
    ∃ l : List Bs, l.length ≤ 2 ^ 28 ∧ cellV c = true ∧ RepD (CW W) (.sl (l.map encS)) c := by
  rcases Go.Deep.open_slice u22 h with ⟨h1, h2⟩ | ⟨a, len, cap, m, k, D, Pl, h1, hba, hl, hm, hmm, h2, hx⟩
  · simp only [List.cons.injEq, and_true] at h1
    subst h1
    exact ⟨[], by simp, rfl, none, 0, rfl, Nat.le_refl _, .inl rfl⟩
  · simp only [List.cons.injEq, and_true] at h1
    subst h1
    rw [h2] at hb
    simp only [uptoBulk] at hb
    have hlm : len ≤ m := by rw [hmm]; split <;> omega
    have hlen := len_le ((List.range len).map D)
    simp only [List.length_map, List.length_range] at hlen
    obtain ⟨L, hL, hp⟩ := lists (α := Bs) (p := fun i s => ∃ v, W.cell? (a.add i) = some v ∧ RepD (CW W) (.str (bs s)) v ∧ cellV v = true) len (fun i hi => by
      obtain ⟨cs', q1, q2⟩ := hx i (by omega)
      rw [c9, Nat.mul_one] at q1
      obtain ⟨_, q3, q4⟩ := World.cells?_some q1
      match cs', q3 with
      | [v], _ =>
        obtain ⟨s, s1, s2⟩ := rd_text q2 (by
          have := part_le (d := D i) (l := (List.range len).map D) (List.mem_map.2 ⟨i, List.mem_range.2 hi, rfl⟩)
          simp only
          omega)
        refine ⟨s, v, ?_, s2, s1⟩
        have := q4 0 (by omega)
        rw [show (a.add i).add 0 = a.add i from rfl] at this
        exact this)
    refine ⟨L, by rw [hL]; omega, rfl, some a, cap, by simp [hL], by simp [hL]; exact hl, ?_⟩
    cases hz : L with
    | nil => exact .inl rfl
    | cons s0 r =>
      right
      obtain ⟨v0, w0, _⟩ := hp 0 s0 (by rw [hz]; rfl)
      have ha := cell_spot w0
      have hsp : a = ⟨a.block, a.off, none⟩ := by
        have h0 : a.add 0 = a := by unfold Addr.add; simp
        rw [h0] at ha; exact ha
      rw [← hz]
      refine ⟨a.block, a.off, 1, by rw [← hsp], (RepRow.iff _ _ _ _).2 fun i x hix => ?_⟩
      rw [List.getElem?_map, Option.map_eq_some_iff] at hix
      obtain ⟨s, hs, rfl⟩ := hix
      obtain ⟨v, w1, w2, w3⟩ := hp i s hs
      refine ⟨v, w2, ?_, fun j u hu => ?_⟩
      · obtain ⟨ba, rfl, _⟩ := w2; rfl
      · obtain ⟨ba, rfl, _⟩ := w2
        have hj : j = 0 := by have := (Array.getElem?_eq_some_iff.1 hu).1; simp [Value.cells] at this; exact this
        subst hj
        have hu : Value.string ba = u := by simpa [Value.cells] using hu
        subst hu
        rw [hsp, Addr.add_lit] at w1
        simpa using cc_of w1
def cellsD (F : Fo) : List D := match encO F with | .agg l => l | _ => []
theorem encO_cells (F : Fo) : encO F = .agg (cellsD F) := by
  unfold cellsD
  rw [encO_eq]
def mkFo (k : Int) (n v i : Bs) (a : List Bs) (e : Bs) (hi hf : Bool) (r : Bs) (d : Bool) (ks : List Fo) (ha : a.length ≤ 2 ^ 28) (hk : ks.length ≤ 2 ^ 30) : Fo :=
  ⟨.mk k n v i a e hi hf r d (ks.map fun (x : Fo) => x.1), .mk ha (by rw [show (ks.map fun (x : Fo) => x.1).length = ks.length from List.length_map _]; exact hk) (fun f hf => by
    obtain ⟨x, -, rfl⟩ := List.mem_map.1 hf
    exact x.2)⟩
theorem mkFo_cells {k n v i a e hi hf r d ks ha hk} : cellsD (mkFo k n v i a e hi hf r d ks ha hk) = [.lit (.int .i64 k), .str (bs n), .str (bs v), .str (bs i), .sl (a.map encS), .str (bs e), .lit (.bool hi), .lit (.bool hf), .str (bs r), .lit (.bool d), .sl (ks.map encO)] := by
  have h : encO (mkFo k n v i a e hi hf r d ks ha hk) = .agg [.lit (.int .i64 k), .str (bs n), .str (bs v), .str (bs i), .sl (a.map encS), .str (bs e), .lit (.bool hi), .lit (.bool hf), .str (bs r), .lit (.bool d), .sl (ks.map encO)] := by
    unfold encO mkFo
    simp only
    rw [encF, encFs_map, List.map_map]
    rfl
  unfold cellsD
  rw [h]
open Ytjbaoopiffcigaa.Rows in
theorem rd_filter : ∀ (N n : Nat) (cs : List Value) (x : DataW H × List MemPlace), uptoBulk x.1 ≤ N → uptoBulk x.1 ≤ 1048576 → DataW.trod enc Try.prog W 0 spare held n 27 cs = some x →
    ∃ F : Fo, RepDs (CW W) (cellsD F) cs
  | 0, n, cs, x, hN, _, h => by have := one_le x.1; omega
  | N + 1, n, cs, x, hN, hb, h => by
    obtain ⟨xs, m, hx, hlen, hxl, hf⟩ := rd_fields f27 h
    rw [c27] at hlen
    match cs, hlen with
    | [k0, k1, k2, k3, k4, k5, k6, k7, k8, k9, k10], _ =>
      obtain ⟨y0, g0, t0⟩ := hf 0 3 0 rfl
      obtain ⟨y1, g1, t1⟩ := hf 1 9 1 rfl
      obtain ⟨y2, g2, t2⟩ := hf 2 9 2 rfl
      obtain ⟨y3, g3, t3⟩ := hf 3 24 3 rfl
      obtain ⟨y4, g4, t4⟩ := hf 4 9 8 rfl
      obtain ⟨y5, g5, t5⟩ := hf 5 4 9 rfl
      obtain ⟨y6, g6, t6⟩ := hf 6 25 10 rfl
      rw [c3] at t0
      rw [c9] at t1 t2 t4
      rw [c24] at t3
      rw [c4] at t5
      rw [c25] at t6
      have hp : ∀ y ∈ xs, uptoBulk y.1 + 1 ≤ uptoBulk x.1 := fun y hy => by
        rw [hx]
        simp only [uptoBulk]
        have := part_le (d := y.1) (l := xs.map (·.1)) (List.mem_map.2 ⟨y, hy, rfl⟩)
        omega
      have b1 := hp y1 (List.mem_of_getElem? g1)
      have b2 := hp y2 (List.mem_of_getElem? g2)
      have b3 := hp y3 (List.mem_of_getElem? g3)
      have b4 := hp y4 (List.mem_of_getElem? g4)
      have b6 := hp y6 (List.mem_of_getElem? g6)
      obtain ⟨kv, e0, _⟩ := rd_int u3 t0
      obtain ⟨sn, en, rn⟩ := rd_text t1 (by omega)
      obtain ⟨sv, ev, rv⟩ := rd_text t2 (by omega)
      obtain ⟨sr, er, rr⟩ := rd_text t4 (by omega)
      obtain ⟨dv, e5, _⟩ := rd_bool u4 t5
      -- pieces
      obtain ⟨ps, m2, hx2, _, hpl, hf2⟩ := rd_fields f24 t3
      obtain ⟨z0, q0, s0⟩ := hf2 0 9 0 rfl
      obtain ⟨z1, q1, s1⟩ := hf2 1 22 1 rfl
      obtain ⟨z2, q2, s2⟩ := hf2 2 9 2 rfl
      obtain ⟨z3, q3, s3⟩ := hf2 3 4 3 rfl
      obtain ⟨z4, q4, s4⟩ := hf2 4 4 4 rfl
      rw [c9] at s0 s2
      rw [c22] at s1
      rw [c4] at s3 s4
      have hp2 : ∀ y ∈ ps, uptoBulk y.1 + 1 ≤ uptoBulk y3.1 := fun y hy => by
        rw [hx2]
        simp only [uptoBulk]
        have := part_le (d := y.1) (l := ps.map (·.1)) (List.mem_map.2 ⟨y, hy, rfl⟩)
        omega
      have d0 := hp2 z0 (List.mem_of_getElem? q0)
      have d1 := hp2 z1 (List.mem_of_getElem? q1)
      have d2 := hp2 z2 (List.mem_of_getElem? q2)
      obtain ⟨si, ei, ri⟩ := rd_text s0 (by omega)
      obtain ⟨la, hla, ea, ra⟩ := rd_texts s1 (by omega)
      obtain ⟨sf, ef, rf⟩ := rd_text s2 (by omega)
      obtain ⟨hiv, e3, _⟩ := rd_bool u4 s3
      obtain ⟨hfv, e4, _⟩ := rd_bool u4 s4
      -- kids
      obtain ⟨ks, hks, ek, rk⟩ : ∃ ks : List Fo, ks.length ≤ 2 ^ 30 ∧ cellV k10 = true ∧ RepD (CW W) (.sl (ks.map encO)) k10 := by
        rcases Go.Deep.open_slice u25 t6 with ⟨h1, h2⟩ | ⟨a, len, cap, mm, k, D, Pl, h1, hba, hl, hm, hmm, h2, hxx⟩
        · have h1 : k10 = .slice none 0 0 := by simpa using h1
          subst h1
          exact ⟨[], by simp, rfl, none, 0, rfl, Nat.le_refl _, .inl rfl⟩
        · have h1 : k10 = .slice (some a) len cap := by simpa using h1
          subst h1
          rw [h2] at b6
          simp only [uptoBulk] at b6
          have hlm : len ≤ mm := by rw [hmm]; split <;> omega
          have hln := len_le ((List.range len).map D)
          simp only [List.length_map, List.length_range] at hln
          obtain ⟨L, hL, hLp⟩ := lists (α := Fo) (p := fun i F => ∃ cs' : List Value, cs'.length = 11 ∧ (∀ j, j < 11 → W.cell? ((a.add (i * 11)).add j) = cs'[j]?) ∧ RepDs (CW W) (cellsD F) cs') len (fun i hi => by
            obtain ⟨cs', r1, r2⟩ := hxx i (by omega)
            rw [c27] at r1
            obtain ⟨_, r3, r4⟩ := World.cells?_some r1
            have := part_le (d := D i) (l := (List.range len).map D) (List.mem_map.2 ⟨i, List.mem_range.2 hi, rfl⟩)
            obtain ⟨F, hF⟩ := rd_filter N k cs' (D i, Pl i) (by simp only; omega) (by simp only; omega) r2
            exact ⟨F, cs', r3, r4, hF⟩)
          refine ⟨L, by omega, rfl, some a, cap, by simp [hL], by simp [hL]; exact hl, ?_⟩
          cases hz : L with
          | nil => exact .inl rfl
          | cons F0 r =>
            right
            obtain ⟨cs0, l0, w0, _⟩ := hLp 0 F0 (by rw [hz]; rfl)
            have hsp : a = ⟨a.block, a.off, none⟩ := by
              have h0 : (a.add (0 * 11)).add 0 = a := by unfold Addr.add; simp
              have hc0 := w0 0 (by omega)
              rw [h0, List.getElem?_eq_getElem (by omega)] at hc0
              exact cell_spot hc0
            rw [← hz]
            refine ⟨a.block, a.off, 11, by rw [← hsp], (RepRow.iff _ _ _ _).2 fun i y hiy => ?_⟩
            rw [List.getElem?_map, Option.map_eq_some_iff] at hiy
            obtain ⟨F, hF, rfl⟩ := hiy
            obtain ⟨cs', l1, w1, w2⟩ := hLp i F hF
            refine ⟨.agg cs'.toArray, by rw [encO_cells]; exact ⟨cs', rfl, w2⟩, by simp [Value.cells, l1], fun j u hu => ?_⟩
            have hu : cs'[j]? = some u := by simpa [Value.cells] using hu
            have hj : j < 11 := by rw [← l1]; exact (List.getElem?_eq_some_iff.1 hu).1
            have := w1 j hj
            rw [hu, hsp, Addr.add_lit, Addr.add_lit] at this
            exact cc_of this
      refine ⟨mkFo kv sn sv si la sf hiv hfv sr dv ks hla hks, ?_⟩
      rw [mkFo_cells]
      subst e0 e5 e3 e4
      exact ⟨_, _, rfl, rfl, ⟨rfl, rfl⟩, _, _, rfl, en, rn, _, _, rfl, ev, rv, _, _, rfl, ei, ri, _, _, rfl, ea, ra, _, _, rfl, ef, rf, _, _, rfl, rfl, ⟨rfl, rfl⟩, _, _, rfl, rfl, ⟨rfl, rfl⟩, _, _, rfl, er, rr, _, _, rfl, rfl, ⟨rfl, rfl⟩, _, _, rfl, ek, rk, rfl⟩
end
set_option maxRecDepth 100000
theorem u30 : Try.prog.underlying 30 = some (.slice 32) := by kernel_rfl
theorem f32 : (Try.prog.underlying 32).bind fieldsOf = some [(3, 0), (4, 1), (3, 2), (9, 3), (30, 4)] := by kernel_rfl
theorem c30 : Try.prog.cellsOf 30 = 1 := by kernel_rfl
theorem c32 : Try.prog.cellsOf 32 = 5 := by kernel_rfl
section
variable {H : Type} {enc : TypeId × Value → H} {W : World} {spare : Nat → Bool} {held : Bool}
def cellsE (F : Eo) : List D := match encE F with | .agg l => l | _ => []
theorem encE_cells (F : Eo) : encE F = .agg (cellsE F) := by
  unfold cellsE
  rw [encE_eq]
theorem mkE_cells {c m n t es} (h : es.length ≤ 2 ^ 30) : cellsE (mkE c m n t es) = [.lit (.int .i64 c), .lit (.bool m), .lit (.int .i64 n), .str (bs t), .sl (List.map encE es)] := by
  unfold cellsE
  rw [encE_mk _ _ _ _ _ h]
open Ytjbaoopiffcigaa.Rows in
theorem rd_elem : ∀ (N n : Nat) (cs : List Value) (x : DataW H × List MemPlace), uptoBulk x.1 ≤ N → uptoBulk x.1 ≤ 1048576 → DataW.trod enc Try.prog W 0 spare held n 32 cs = some x →
    ∃ F : Eo, RepDs (CW W) (cellsE F) cs
  | 0, n, cs, x, hN, _, h => by have := one_le x.1; omega
  | N + 1, n, cs, x, hN, hb, h => by
    obtain ⟨xs, m, hx, hlen, hxl, hf⟩ := rd_fields f32 h
    rw [c32] at hlen
    match cs, hlen with
    | [k0, k1, k2, k3, k10], _ =>
      obtain ⟨y0, g0, t0⟩ := hf 0 3 0 rfl
      obtain ⟨y1, g1, t1⟩ := hf 1 4 1 rfl
      obtain ⟨y2, g2, t2⟩ := hf 2 3 2 rfl
      obtain ⟨y3, g3, t3⟩ := hf 3 9 3 rfl
      obtain ⟨y6, g6, t6⟩ := hf 4 30 4 rfl
      rw [c3] at t0 t2
      rw [c4] at t1
      rw [c9] at t3
      rw [c30] at t6
      have hp : ∀ y ∈ xs, uptoBulk y.1 + 1 ≤ uptoBulk x.1 := fun y hy => by
        rw [hx]
        simp only [uptoBulk]
        have := part_le (d := y.1) (l := xs.map (·.1)) (List.mem_map.2 ⟨y, hy, rfl⟩)
        omega
      have b3 := hp y3 (List.mem_of_getElem? g3)
      have b6 := hp y6 (List.mem_of_getElem? g6)
      obtain ⟨kv, e0, _⟩ := rd_int u3 t0
      obtain ⟨mv, e1, _⟩ := rd_bool u4 t1
      obtain ⟨nv, e2, _⟩ := rd_int u3 t2
      obtain ⟨sn, en, rn⟩ := rd_text t3 (by omega)
      -- kids
      obtain ⟨ks, hks, ek, rk⟩ : ∃ ks : List Eo, ks.length ≤ 2 ^ 30 ∧ cellV k10 = true ∧ RepD (CW W) (.sl (ks.map encE)) k10 := by
        rcases Go.Deep.open_slice u30 t6 with ⟨h1, h2⟩ | ⟨a, len, cap, mm, k, D, Pl, h1, hba, hl, hm, hmm, h2, hxx⟩
        · have h1 : k10 = .slice none 0 0 := by simpa using h1
          subst h1
          exact ⟨[], by simp, rfl, none, 0, rfl, Nat.le_refl _, .inl rfl⟩
        · have h1 : k10 = .slice (some a) len cap := by simpa using h1
          subst h1
          rw [h2] at b6
          simp only [uptoBulk] at b6
          have hlm : len ≤ mm := by rw [hmm]; split <;> omega
          have hln := len_le ((List.range len).map D)
          simp only [List.length_map, List.length_range] at hln
          obtain ⟨L, hL, hLp⟩ := lists (α := Eo) (p := fun i F => ∃ cs' : List Value, cs'.length = 5 ∧ (∀ j, j < 5 → W.cell? ((a.add (i * 5)).add j) = cs'[j]?) ∧ RepDs (CW W) (cellsE F) cs') len (fun i hi => by
            obtain ⟨cs', r1, r2⟩ := hxx i (by omega)
            rw [c32] at r1
            obtain ⟨_, r3, r4⟩ := World.cells?_some r1
            have := part_le (d := D i) (l := (List.range len).map D) (List.mem_map.2 ⟨i, List.mem_range.2 hi, rfl⟩)
            obtain ⟨F, hF⟩ := rd_elem N k cs' (D i, Pl i) (by simp only; omega) (by simp only; omega) r2
            exact ⟨F, cs', r3, r4, hF⟩)
          refine ⟨L, by omega, rfl, some a, cap, by simp [hL], by simp [hL]; exact hl, ?_⟩
          cases hz : L with
          | nil => exact .inl rfl
          | cons F0 r =>
            right
            obtain ⟨cs0, l0, w0, _⟩ := hLp 0 F0 (by rw [hz]; rfl)
            have hsp : a = ⟨a.block, a.off, none⟩ := by
              have h0 : (a.add (0 * 5)).add 0 = a := by unfold Addr.add; simp
              have hc0 := w0 0 (by omega)
              rw [h0, List.getElem?_eq_getElem (by omega)] at hc0
              exact cell_spot hc0
            rw [← hz]
            refine ⟨a.block, a.off, 5, by rw [← hsp], (RepRow.iff _ _ _ _).2 fun i y hiy => ?_⟩
            rw [List.getElem?_map, Option.map_eq_some_iff] at hiy
            obtain ⟨F, hF, rfl⟩ := hiy
            obtain ⟨cs', l1, w1, w2⟩ := hLp i F hF
            refine ⟨.agg cs'.toArray, by rw [encE_cells]; exact ⟨cs', rfl, w2⟩, by simp [Value.cells, l1], fun j u hu => ?_⟩
            have hu : cs'[j]? = some u := by simpa [Value.cells] using hu
            have hj : j < 5 := by rw [← l1]; exact (List.getElem?_eq_some_iff.1 hu).1
            have := w1 j hj
            rw [hu, hsp, Addr.add_lit, Addr.add_lit] at this
            exact cc_of this
      refine ⟨mkE kv mv nv sn ks, ?_⟩
      rw [mkE_cells hks]
      subst e0 e1 e2
      exact ⟨_, _, rfl, rfl, ⟨rfl, rfl⟩, _, _, rfl, rfl, ⟨rfl, rfl⟩, _, _, rfl, rfl, ⟨rfl, rfl⟩, _, _, rfl, en, rn, _, _, rfl, ek, rk, rfl⟩
end
end Go.L25
