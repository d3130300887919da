/- Layer 26: builders; the awake answers. Conditions: none. -/
import Derived.Test.YtlehedloheojpaaGreatPC
import Derived.Shelf.Strings.Builder1
set_option linter.unusedVariables false
set_option linter.unusedSimpArgs false
namespace Go.L25
open Go Go.Eng Go.Proofs Go.RowKit
theorem lies71 : liesAt Tryz.prog Tryz.prog.depth 93 (3 / Tryz.prog.cellsOf 93) 0 91 1 = true := by kernel_rfl
theorem u67 : Tryz.prog.underlying 88 = some (.pointer 91) := by kernel_rfl
theorem u119 : Tryz.prog.underlying 196 = some .unsafePointer := by kernel_rfl
theorem u88 : Tryz.prog.underlying 137 = some (.pointer 5) := by kernel_rfl
theorem c5 : Tryz.prog.cellsOf 5 = 1 := by kernel_rfl
theorem s69 : (Tryz.prog.info? 91).map (·.size) = some 2 := by kernel_rfl
set_option maxHeartbeats 1000000 in
set_option maxRecDepth 100000 in
theorem r96_fresh (b : Nat) (w : World) (h0 : w.cell? ⟨b, 0, none⟩ = some (.pointer none)) (hsh : w.shape? b = some (93, 3)) (hfz : w.frozen? ⟨b, 0, none⟩ = false) :
    Calls Tryz.prog 179 #[.pointer (some ⟨b, 0, none⟩)] w fun e w' => e = .returned (.tuple #[]) ∧ w' = w.setCell ⟨b, 0, none⟩ (.pointer (some ⟨b, 0, none⟩)) := by
  obtain ⟨j, hj, hjs⟩ := Option.map_eq_some_iff.1 s69
  go_enter Tryz.func179, Tryz.ntmps179
  go_wp2
  rw [Lib.run_to_unsafe w ⟨b, 0, none⟩ u67 u119 hj (by rw [hjs]; decide) hsh (Nat.zero_lt_succ 2)]
  simp only [Result.andThen]
  rw [Oper.upon_value]
  go_wp2
  rw [run_callFunc_extern Tryz.func193 (by kernel_rfl) (by kernel_rfl) (by kernel_rfl) (e := Extern.AbiNoEscape.same) (by kernel_rfl)]
  rw [Lib.run_noEscape]
  simp only [Result.andThen]
  rw [Oper.upon_value]
  go_wp2
  rw [Lib.run_from_unsafe w ⟨b, 0, none⟩ u119 u67 hj hsh lies71]
  simp only [Result.andThen]
  rw [Oper.upon_value]
  go_wp2
  go_end0
  exact ⟨rfl, rfl⟩
set_option maxHeartbeats 1000000 in
set_option maxRecDepth 100000 in
theorem r96_used (b : Nat) (w : World) (h0 : w.cell? ⟨b, 0, none⟩ = some (.pointer (some ⟨b, 0, none⟩))) :
    Calls Tryz.prog 179 #[.pointer (some ⟨b, 0, none⟩)] w fun e w' => e = .returned (.tuple #[]) ∧ w' = w := by
  obtain ⟨j, hj, hjs⟩ := Option.map_eq_some_iff.1 s69
  go_enter Tryz.func179, Tryz.ntmps179
  go_wp2
  rw [Lib.run_neq_ptr_same w _ u67 hj]
  go_wp2
  go_end0
  exact ⟨rfl, rfl⟩
set_option maxHeartbeats 2000000 in
set_option maxRecDepth 100000 in
theorem r39_nil (b : Nat) (w : World) (c1 : w.cell? ⟨b, 1, none⟩ = some (.slice none 0 0)) :
    Calls Tryz.prog 54 #[.pointer (some ⟨b, 0, none⟩)] w fun e w' => e = .returned (.string ⟨#[]⟩) ∧ w' = w.drew := by
  have hUS : ∀ W : World, (Builtin.unsafeString_ #[137, 3] 9 #[.pointer none, .int .i64 0]).run Tryz.prog W = .ok (.string .empty) W := fun W => Lib.run_unsafeString_none W _ _ _ _
  have c1' : w.drew.cell? ⟨b, 1, none⟩ = some (.slice none 0 0) := c1
  have hSD : (Builtin.unsafeSliceData_ #[89] 137 #[.slice none 0 0]).run Tryz.prog w.drew = .ok (.pointer none) w.drew := rfl
  go_enter Tryz.func54, Tryz.ntmps54
  go_wp2
  go_region
  all_goals (go_wp2; go_ret; exact ⟨rfl, rfl⟩)
set_option maxHeartbeats 2000000 in
set_option maxRecDepth 100000 in
theorem r39_row (b g cap cells : Nat) (l : List UInt8) (h0 : l ≠ []) (w : World) (c1 : w.cell? ⟨b, 1, none⟩ = some (.slice (some ⟨g, 0, none⟩) l.length cap)) (hsh : w.shape? g = some (5, cells)) (hle : l.length ≤ cap) (hcs : l.length ≤ cells) (hbig : l.length ≤ 2 ^ 31)
    (hcell : ∀ j x, l[j]? = some x → w.cell? ((⟨g, 0, none⟩ : Addr).add j) = some (.int .u8 x.toNat)) :
    Calls Tryz.prog 54 #[.pointer (some ⟨b, 0, none⟩)] w fun e w' => e = .returned (.string ⟨l.toArray⟩) ∧ w' = w.drew.freeze ⟨g, 0, none⟩ l.length := by
  have hl0 : l.length ≠ 0 := by simpa using h0
  have c1' : w.drew.cell? ⟨b, 1, none⟩ = some (.slice (some ⟨g, 0, none⟩) l.length cap) := c1
  have hSD : (Builtin.unsafeSliceData_ #[89] 137 #[.slice (some ⟨g, 0, none⟩) l.length cap]).run Tryz.prog w.drew = .ok (.pointer (some ⟨g, 0, none⟩)) w.drew :=
    Lib.run_unsafeSliceData_row _ _ _ _ _ _ (by omega)
  have hUS : (Builtin.unsafeString_ #[137, 3] 9 #[.pointer (some ⟨g, 0, none⟩), .int .i64 l.length]).run Tryz.prog w.drew = .ok (.string ⟨l.toArray⟩) (w.drew.freeze ⟨g, 0, none⟩ l.length) :=
    Lib.run_unsafeString_row w.drew 137 3 9 5 u88 c5 g cells hsh l h0 hcs (by omega) hcell
  go_enter Tryz.func54, Tryz.ntmps54
  go_wp2
  go_region
  all_goals (go_wp2; go_ret; exact ⟨rfl, rfl⟩)
end Go.L25
namespace Go.L25
open Go Go.Eng Go.Proofs Go.RowKit
theorem ti67 : tiOf Tryz.prog 88 = some PTI := by kernel_rfl
theorem ti65 : tiOf Tryz.prog 89 = some STI := by kernel_rfl
theorem cell_ld {k : Keep} {M : Mem} (hI : Inv k M) {loc off b : Nat} {a : AV} {i : TI} (hag : i.agg = false) (hp : PtrRep M loc 1 0 0 (.pointer (some ⟨b, 0, none⟩))) (h : ldPtr0 M.st i (.ptr loc 1 0 off) = some a) :
    ∃ u, M.w.cell? ⟨b, off, none⟩ = some u ∧ RepA k M a u := by
  unfold ldPtr0 at h
  simp only at h
  obtain ⟨x, hx, h⟩ := Option.bind_eq_some_iff.1 h
  obtain ⟨e, he, h⟩ := Option.bind_eq_some_iff.1 h
  obtain ⟨hx1, hx2⟩ := getBlk_some hx
  obtain ⟨y, hy, _, hv, _⟩ := hp
  rw [hx1] at hy; cases hy
  obtain ⟨_, b', base, hm, hb⟩ := hv hx2
  simp only [Value.pointer.injEq, Option.some.injEq, Addr.mk.injEq] at hb
  obtain ⟨rfl, h0, _⟩ := hb
  have hbase : base = 0 := by omega
  subst hbase
  obtain ⟨_, hes, cs, el, fz', hh, hsz, hfr, hel⟩ := hI.blk _ _ _ _ hm hx1
  obtain ⟨v, hv1, hv2, hv3, hv4⟩ := hel _ _ he
  unfold Eng.part at h
  rw [hag] at h
  simp only [cond_false] at h
  have hne : e.cells ≠ [] := by intro q; rw [q] at h; simp at h
  obtain ⟨c1, c2, _, _, c5⟩ := RepA.cells hv1 hne
  have hlt := (List.getElem?_eq_some_iff.1 h).1
  obtain ⟨u, hu⟩ : ∃ u, v.cells[off]? = some u := ⟨_, Array.getElem?_eq_getElem (by omega)⟩
  refine ⟨u, ?_, c5 off a u h hu⟩
  rw [cell_of_row M.w b off cs el fz' hh]
  have := hv4 off u hu
  simpa using this
theorem prim96_ok {k : Keep} {m : Nat → Option (Nat × Nat)} {st st' : Store} {w : World} {args : List AV} {vs : List Value} {v : AV} (h : primCopyCheck args st = some (v, st')) (hI : Inv k ⟨m, st, w⟩) (ha : RepAs k ⟨m, st, w⟩ args vs) :
    Calls Tryz.prog 179 vs.toArray w (fun e w' => ∃ m' r, e = .returned r ∧ RepA k ⟨m', st', w'⟩ v r ∧ Stp k ⟨m, st, w⟩ ⟨m', st', w'⟩) := by
  unfold primCopyCheck at h
  split at h
  case h_2 => cases h
  rename_i t n loc off
  obtain ⟨u, t2, rfl, hu, ht2⟩ := ha
  have ht2 : t2 = [] := ht2
  subst ht2
  by_cases hc : (t == 93 && n == 3 && off == 0) = true
  case neg => rw [Bool.eq_false_iff.2 hc] at h; cases h
  rw [hc] at h
  simp only [Bool.and_eq_true, beq_iff_eq] at hc
  obtain ⟨⟨rfl, rfl⟩, rfl⟩ := hc
  simp only [cond_true] at h
  obtain ⟨a, hld, h9⟩ := Option.bind_eq_some_iff.1 h
  obtain ⟨hp, b, cs, fz, rfl, hh, hsz⟩ := hu
  obtain ⟨u0, hcell, hr0⟩ := cell_ld (k := k) hI rfl hp hld
  simp only at hcell hh
  have hshape : w.shape? b = some (93, 3) := by simp [World.shape?, hh, hsz]
  cases hn : isNull a with
  | true =>
    rw [hn] at h9
    simp only [cond_true] at h9
    have hu0 : u0 = .pointer none := by
      unfold isNull at hn
      split at hn
      · exact hr0.2
      · cases hn
    subst hu0
    -- not frozen
    obtain ⟨rfl, ad, w1, e1, hrun, hS⟩ := stPtr0_sound (P := Tryz.prog) (t := 88) (i := PTI) (M := ⟨m, st, w⟩) hI ti67 (p := .ptr loc 1 0 0) (u := .pointer (some ⟨b, 0, none⟩)) hp (v := .tptr 93 3 loc 0) (vv := .pointer (some ⟨b, 0, none⟩)) ⟨hp, b, cs, fz, rfl, hh, hsz⟩ h9
    cases e1
    have hfz : w.frozen? ⟨b, 0, none⟩ = false := by
      have h8 := h9
      unfold stPtr0 at h8
      simp only at h8
      obtain ⟨x, hx, h7⟩ := Option.bind_eq_some_iff.1 h8
      obtain ⟨hx1, hx2⟩ := getBlk_some hx
      have hsh : x.shut = false := by
        cases q : x.shut with
        | false => rfl
        | true => rw [q] at h7; simp at h7
      obtain ⟨y, hy, _, hv, _⟩ := hp
      rw [hx1] at hy; cases hy
      obtain ⟨_, b', base, hm, hb⟩ := hv hx2
      simp only [Value.pointer.injEq, Option.some.injEq, Addr.mk.injEq] at hb
      obtain ⟨rfl, q0, _⟩ := hb
      have hbase : base = 0 := by omega
      subst hbase
      obtain ⟨_, _, cs', el, fz', hh', _, hfr, _⟩ := hI.blk _ _ _ _ hm hx1
      simp only at hh'
      rw [hh] at hh'
      cases hh'
      have := hfr 0 (by omega) (Nat.le_refl _) (fun q => by rw [hsh] at q; cases q)
      unfold World.frozen?
      simp only [hh]
      simpa using this
    have hst := run_storeCells_cells (P := Tryz.prog) b 0 [.pointer (some ⟨b, 0, none⟩)] 0 w (fun j hj => by
        have : j = 0 := by simp at hj; omega
        subst this
        rw [show (0 + 0 + 0 : Nat) = 0 from rfl, hcell]; rfl) (fun j hj => by
        have : j = 0 := by simp at hj; omega
        subst this
        exact hfz) (fun c hc => by simp at hc; subst hc; rfl)
    have hrun2 : (storeVar 88 ⟨b, 0, none⟩ (.pointer (some ⟨b, 0, none⟩))).run Tryz.prog w = .ok () (w.setCell ⟨b, 0, none⟩ (.pointer (some ⟨b, 0, none⟩))) := by
      have hs1 : (Value.pointer (some (⟨b, 0, none⟩ : Addr))).cells = #[.pointer (some ⟨b, 0, none⟩)] := rfl
      simp only [storeVar, Sem.run_bind, run_sizeOf' ti67, Result.andThen_ok, hs1]
      simpa [World.setCells, PTI] using hst
    rw [hrun2] at hrun
    injection hrun with _ ew
    subst ew
    refine (r96_fresh b w hcell hshape hfz).mono ?_
    rintro e w' ⟨rfl, rfl⟩
    exact ⟨m, _, rfl, ⟨[], rfl, rfl⟩, hS⟩
  | false =>
    rw [hn] at h9
    simp only [cond_false] at h9
    cases hs : isSelf loc a with
    | false => rw [hs] at h9; cases h9
    | true =>
      rw [hs] at h9
      simp only [cond_true, Option.some.injEq, Prod.mk.injEq] at h9
      obtain ⟨rfl, rfl⟩ := h9
      have hu0 : u0 = .pointer (some ⟨b, 0, none⟩) := by
        unfold isSelf at hs
        split at hs
        · rename_i t' n' l' o'
          simp only [Bool.and_eq_true, beq_iff_eq] at hs
          obtain ⟨⟨⟨rfl, rfl⟩, rfl⟩, rfl⟩ := hs
          obtain ⟨hp', b2, cs2, fz2, rfl, hh2, _⟩ := hr0
          obtain ⟨y, hy, _, hv, _⟩ := hp
          obtain ⟨y', hy', _, hv', _⟩ := hp'
          rw [hy] at hy'; cases hy'
          have hx1 := hld
          unfold ldPtr0 at hx1
          simp only at hx1
          obtain ⟨x, hx, _⟩ := Option.bind_eq_some_iff.1 hx1
          obtain ⟨hx1, hx2⟩ := getBlk_some hx
          simp only at hy
          rw [hx1] at hy; cases hy
          obtain ⟨_, b3, base3, hm3, e3⟩ := hv hx2
          obtain ⟨_, b4, base4, hm4, e4⟩ := hv' hx2
          rw [hm3] at hm4
          cases hm4
          rw [e3, e4]
        · cases hs
      subst hu0
      refine (r96_used b w hcell).mono ?_
      rintro e w' ⟨rfl, rfl⟩
      exact ⟨m, _, rfl, ⟨[], rfl, rfl⟩, Stp.refl hI⟩
theorem stp_freeze {k : Keep} {M : Mem} (hI : Inv k M) {loc g n : Nat} {x : Blk} (hm : M.m loc = some (g, 0)) (hx : M.st[loc]? = some x) (hsh : x.shut = true) (hn : n ≤ x.es * x.elems.length) (hn0 : n ≠ 0)
    {cs : Array Value} {t : TypeId} {lo hi : Nat} (hh : M.w.heap[g]? = some (.cells cs t (lo, hi))) (hlo : lo = 0) :
    Stp k M ⟨M.m, M.st, M.w.freeze ⟨g, 0, none⟩ n⟩ := by
  have hw : M.w.freeze ⟨g, 0, none⟩ n = { M.w with heap := M.w.heap.modify g fun
      | .cells c elem (lo, hi) => .cells c elem (if lo == hi then (0, 0 + n) else (min lo 0, max hi (0 + n)))
      | o => o } := by
    unfold World.freeze
    rw [if_neg hn0]
    rfl
  have hg : (M.w.freeze ⟨g, 0, none⟩ n).heap[g]? = some (.cells cs t (if lo == hi then (0, 0 + n) else (min lo 0, max hi (0 + n)))) := by
    rw [hw]
    simp only [Array.getElem?_modify, if_true, hh, Option.map_some]
  have ho : ∀ b, b ≠ g → (M.w.freeze ⟨g, 0, none⟩ n).heap[b]? = M.w.heap[b]? := by
    intro b hb
    rw [hw]
    simp only [Array.getElem?_modify]
    rw [if_neg (fun e => hb e.symm)]
  have hsize : (M.w.freeze ⟨g, 0, none⟩ n).heap.size = M.w.heap.size := by rw [hw]; simp
  have hos : (M.w.freeze ⟨g, 0, none⟩ n).os = M.w.os := by rw [hw]
  have htp : (M.w.freeze ⟨g, 0, none⟩ n).tape = M.w.tape := by rw [hw]
  have hout : (M.w.freeze ⟨g, 0, none⟩ n).output = M.w.output := by rw [hw]
  generalize M.w.freeze ⟨g, 0, none⟩ n = w1 at *
  have hcell : ∀ b o, cellAt w1 b o = cellAt M.w b o := by
    intro b o
    by_cases hb : b = g
    · subst hb
      rw [show cellAt w1 b o = cs[o]? from cell_of_row w1 b o cs t _ hg, show cellAt M.w b o = cs[o]? from cell_of_row M.w b o cs t _ hh]
    · show World.cell? _ _ = World.cell? _ _
      unfold World.cell?
      rw [ho b hb]
  have hE : Evo M ⟨M.m, M.st, w1⟩ := ⟨Nat.le_refl _, fun i y h => ⟨y, h, Nat.le_refl _, rfl, rfl, fun _ => ⟨rfl, fun _ => rfl, fun _ h => h⟩⟩, fun b o v hv hp => ⟨(hcell b o).trans hv, hp⟩,
    fun b cs' e fz hb => by
      by_cases hbg : b = g
      · subst hbg
        rw [hh] at hb
        cases hb
        refine ⟨cs, _, hg, rfl, fun hz => ?_⟩
        split
        · rfl
        · simp
      · exact ⟨cs', fz, (ho b hbg).trans hb, rfl, id⟩, by rw [hsize]; exact Nat.le_refl _⟩
  refine ⟨⟨hI.inj, hI.dom, hI.low, by simp only [hsize]; exact hI.big, fun i b o y hi hy => ?_, hI.frm⟩, hE, ⟨hos, htp, hout, fun b hb hno => ?_, fun i b o h => .inl ⟨i, o, h⟩⟩⟩
  · obtain ⟨g1, g2, cs2, e2, fz2, g3, g4, g5, g6⟩ := hI.blk i b o y hi hy
    have hall : ∀ (i : Nat) av, y.elems[i]? = some av → ∃ v : Value, RepA k ⟨M.m, M.st, w1⟩ av v ∧ v.cells.size = y.es ∧ (∀ u ∈ v.cells, cellV u = true) ∧ ∀ (j : Nat) u, v.cells[j]? = some u → cs2[o + i * y.es + j]? = some u := fun i av hav => by
      obtain ⟨v, r1, r2⟩ := g6 i av hav
      exact ⟨v, RepA.evo hE _ _ r1, r2⟩
    by_cases hb : b = g
    · subst hb
      have hil : i = loc := hI.inj _ _ _ _ _ hi hm
      subst hil
      rw [hm] at hi
      cases hi
      simp only at hy
      rw [hx] at hy
      cases hy
      rw [hh] at g3
      cases g3
      refine ⟨g1, g2, cs, t, _, hg, g4, fun j hj hj0 hjs => ?_, hall⟩
      have h1 := hjs hsh
      have h2 := g5 j hj hj0 hjs
      subst hlo
      simp only at h2 ⊢
      split <;> simp only <;> omega
    · exact ⟨g1, g2, cs2, e2, fz2, (ho b hb).trans g3, g4, g5, hall⟩
  · exact ho b (fun e => hno loc 0 (by rw [e]; exact hm))
theorem bytes8_spec : ∀ (es : List AV) (l : List UInt8), bytes8 es = some l → es.length = l.length ∧ ∀ (i : Nat) (x : UInt8), l[i]? = some x → es[i]? = some (AV.d (.lit (.int .u8 x.toNat)))
  | [], l, h => by
    simp only [bytes8, Option.some.injEq] at h
    subst h
    exact ⟨rfl, fun i x hx => by simp at hx⟩
  | e :: r, l, h => by
    unfold bytes8 at h
    split at h
    · rename_i heq; cases heq
    · rename_i n r' heq
      cases heq
      by_cases hc : ((UInt8.ofNat n.toNat).toNat : Int) = n
      · rw [decide_eq_true hc] at h
        simp only [cond_true] at h
        obtain ⟨l', h1, rfl⟩ := Option.map_eq_some_iff.1 h
        obtain ⟨q1, q2⟩ := bytes8_spec r l' h1
        refine ⟨by simp [q1], fun i x hx => ?_⟩
        cases i with
        | zero =>
          simp only [List.getElem?_cons_zero, Option.some.injEq] at hx ⊢
          rw [← hx, hc]
        | succ i => simpa using q2 i x (by simpa using hx)
      · rw [decide_eq_false hc] at h; cases h
    · cases h
theorem prim39_ok {k : Keep} {m : Nat → Option (Nat × Nat)} {st st' : Store} {w : World} {args : List AV} {vs : List Value} {v : AV} (h : primString args st = some (v, st')) (hI : Inv k ⟨m, st, w⟩) (ha : RepAs k ⟨m, st, w⟩ args vs) :
    Calls Tryz.prog 54 vs.toArray w (fun e w' => ∃ m' r, e = .returned r ∧ RepA k ⟨m', st', w'⟩ v r ∧ Stp k ⟨m, st, w⟩ ⟨m', st', w'⟩) := by
  unfold primString at h
  split at h
  case h_2 => cases h
  rename_i t n loc off
  obtain ⟨u, t2, rfl, hu, ht2⟩ := ha
  have ht2 : t2 = [] := ht2
  subst ht2
  by_cases hc : (t == 93 && n == 3 && off == 0) = true
  case neg => rw [Bool.eq_false_iff.2 hc] at h; cases h
  rw [hc] at h
  simp only [Bool.and_eq_true, beq_iff_eq] at hc
  obtain ⟨⟨rfl, rfl⟩, rfl⟩ := hc
  simp only [cond_true] at h
  obtain ⟨a, hld, h9⟩ := Option.bind_eq_some_iff.1 h
  obtain ⟨hp, b, cs, fz, rfl, hh, hsz⟩ := hu
  obtain ⟨u0, hcell, hr0⟩ := cell_ld (k := k) hI rfl hp hld
  simp only at hcell hh
  have hdrew : Stp k ⟨m, st, w⟩ ⟨m, st, w.drew⟩ := drawn_stp hI _
  split at h9
  · simp only [Option.some.injEq, Prod.mk.injEq] at h9
    obtain ⟨rfl, rfl⟩ := h9
    have hu0 : u0 = .slice none 0 0 := hr0
    subst hu0
    refine (r39_nil b w hcell).mono ?_
    rintro e w' ⟨rfl, rfl⟩
    exact ⟨m, _, rfl, ⟨_, rfl, rfl⟩, hdrew⟩
  · rename_i e l2 ep es len
    by_cases he : (e == 5) = true
    case neg => rw [Bool.eq_false_iff.2 he] at h9; cases h9
    rw [he] at h9
    have he : e = 5 := by simpa using he
    subst he
    simp only [cond_true] at h9
    obtain ⟨x, hx, h8⟩ := Option.bind_eq_some_iff.1 h9
    by_cases hc : (x.row && x.shut && x.es == 1 && len == x.elems.length && !(len == 0) && Nat.ble len 1073741824) = true
    case neg => rw [Bool.eq_false_iff.2 hc] at h8; cases h8
    rw [hc] at h8
    simp only [cond_true] at h8
    obtain ⟨l, hl, h7⟩ := Option.map_eq_some_iff.1 h8
    simp only [Prod.mk.injEq] at h7
    obtain ⟨rfl, rfl⟩ := h7
    simp only [Bool.and_eq_true, beq_iff_eq, Bool.not_eq_true', beq_eq_false_iff_ne] at hc
    obtain ⟨⟨⟨⟨⟨hrow, hsh⟩, hes⟩, hlen⟩, hl0⟩, hbig⟩ := hc
    have hbig := Nat.le_of_ble_eq_true hbig
    obtain ⟨hx1, hx2⟩ := getBlk_some hx
    obtain ⟨hs, hty⟩ := hr0
    obtain ⟨y, hy, _, _, hv⟩ := hs
    rw [hx1] at hy; cases hy
    obtain ⟨_, hv⟩ := hv hx2
    have hvirt : x.virt = false := by
      cases q : x.virt with
      | false => rfl
      | true => have := (hI.frm _ _ hx1).2 q; rw [this] at hlen; exact absurd hlen hl0
    rcases hv with ⟨q, _⟩ | ⟨_, hes2, hle2, g, base, c, hm, hu, hlc, cs2, e2, fz2, hh2, hcap⟩
    · rw [hvirt] at q; cases q
    subst hu
    obtain ⟨hb0, cs3, fz3, hh3, hz3⟩ := hty _ _ _ _ _ rfl
    have hbase : base = 0 := by simpa using hb0
    subst hbase
    obtain ⟨hlen2, hget⟩ := bytes8_spec _ _ hl
    obtain ⟨_, _, cs4, e4, fz4, hh4, hsz4, hfr4, hel4⟩ := hI.blk _ _ _ _ hm hx1
    simp only at hh2 hh3 hh4
    obtain ⟨e1, e2', e3⟩ : cs3 = cs4 ∧ 5 = e4 ∧ fz3 = fz4 := by
      rw [hh3] at hh4
      injection hh4 with h
      injection h with a b c
      exact ⟨a, b, c⟩
    subst e1 e2' e3
    obtain ⟨e1, e2', e3⟩ : cs3 = cs2 ∧ 5 = e2 ∧ fz3 = fz2 := by
      rw [hh3] at hh2
      injection hh2 with h
      injection h with a b c
      exact ⟨a, b, c⟩
    subst e1 e2' e3
    have hll : l.length = len := by omega
    have hlne : l ≠ [] := fun q => by rw [q] at hll; simp at hll; omega
    have hcell1 : w.cell? ⟨b, 1, none⟩ = some (.slice (some ⟨g, 0, none⟩) l.length c) := by
      rw [hll]; simpa using hcell
    have hS2 : Stp k ⟨m, st, w.drew⟩ ⟨m, st, w.drew.freeze ⟨g, 0, none⟩ l.length⟩ := by
      obtain ⟨lo, hi⟩ := fz3
      exact stp_freeze (M := ⟨m, st, w.drew⟩) hdrew.inv hm hx1 hsh (by rw [hes]; omega) (by omega) (cs := cs3) (t := 5) (lo := lo) (hi := hi) hh3 hz3
    refine (r39_row b g c cs3.size l hlne w hcell1 (by simp [World.shape?, hh3]) (by omega) (by rw [hes] at hsz4; omega) (by omega) (fun j z hz => ?_)).mono ?_
    · obtain ⟨v, r1, r2, r3, r4⟩ := hel4 j _ (hget j z hz)
      have hv : v = .int .u8 z.toNat := r1.2
      subst hv
      have := r4 0 (.int .u8 z.toNat) rfl
      rw [hes] at this
      rw [show (⟨g, 0, none⟩ : Addr).add j = ⟨g, j, none⟩ by rw [Addr.add_lit]; simp]
      rw [cell_of_row w g j cs3 5 fz3 hh3]
      simpa using this
    · rintro e w' ⟨rfl, rfl⟩
      exact ⟨m, _, rfl, ⟨_, rfl, rfl⟩, hdrew.trans hS2⟩
  · cases h9
theorem primOk : PrimOk X := by
  have hX : ∀ f p, X.prim f = some p → (f = 179 ∧ p = primCopyCheck) ∨ (f = 54 ∧ p = primString) := by
    intro f p h
    have h : primT f = some p := h
    unfold primT at h
    by_cases h1 : (f == 179) = true
    · rw [if_pos h1] at h; exact .inl ⟨by simpa using h1, (Option.some.inj h).symm⟩
    · rw [if_neg h1] at h
      by_cases h2 : (f == 54) = true
      · rw [if_pos h2] at h; exact .inr ⟨by simpa using h2, (Option.some.inj h).symm⟩
      · rw [if_neg h2] at h; cases h
  constructor
  · intro f p hp g args st v st' hg
    simp only at hg
    by_cases hgf : g = f
    · subst hgf
      rw [if_pos rfl] at hg
      rcases hX g p hp with ⟨rfl, rfl⟩ | ⟨rfl, rfl⟩
      · exact ⟨⟨Tryz.f179, Tryz.func179, by kernel_rfl, by kernel_rfl⟩, fun k m w vs hI ha => prim96_ok hg hI ha⟩
      · exact ⟨⟨Tryz.f54, Tryz.func54, by kernel_rfl, by kernel_rfl⟩, fun k m w vs hI ha => prim39_ok hg hI ha⟩
    · rw [if_neg hgf] at hg; cases hg
  · intro f p hp hpu args st v st' h
    rcases hX f p hp with ⟨rfl, rfl⟩ | ⟨rfl, rfl⟩
    · exact absurd hpu (by decide)
    · unfold primString at h
      split at h
      case h_2 => cases h
      rename_i t n loc off
      by_cases hc : (t == 93 && n == 3 && off == 0) = true
      case neg => rw [Bool.eq_false_iff.2 hc] at h; cases h
      rw [hc] at h
      simp only [cond_true] at h
      obtain ⟨a, hld, h9⟩ := Option.bind_eq_some_iff.1 h
      split at h9
      · simp only [Option.some.injEq, Prod.mk.injEq] at h9; exact h9.2.symm
      · rename_i e l2 ep es len
        cases he : (e == 5) <;> rw [he] at h9
        · cases h9
        · simp only [cond_true] at h9
          obtain ⟨x, hx, h8⟩ := Option.bind_eq_some_iff.1 h9
          cases hc : (x.row && x.shut && x.es == 1 && len == x.elems.length && !(len == 0) && Nat.ble len 1073741824) <;> rw [hc] at h8
          · cases h8
          · simp only [cond_true] at h8
            obtain ⟨l, hl, h7⟩ := Option.map_eq_some_iff.1 h8
            simp only [Prod.mk.injEq] at h7
            exact h7.2.symm
      · cases h9
theorem mixed : X.P.follows .mixedOrders = true := by kernel_rfl
theorem callOk : CallOk X C := callL_sound ctxOk primOk mixed
theorem t9N : isT (callN X 400 9 [] []) = true := by kernel_rfl
set_option maxRecDepth 100000 in
theorem t9 : pureCall C 9 [] = some (.one (.d (.lit (.bool true)))) := by
  have h := t9N
  cases hc : callN X 400 9 [] [] with
  | none => rw [hc] at h; cases h
  | some r =>
    rw [hc] at h
    obtain ⟨v, st⟩ := r
    have hv : v = .d (.lit (.bool true)) := by
      unfold isT at h
      split at h
      · rename_i heq; cases heq; rfl
      · cases h
    subst hv
    have hC : C 9 [] [] = some (.d (.lit (.bool true)), st) := callL_iff.2 ⟨400, hc⟩
    show (C 9 [] []).bind prOf = _
    rw [hC]
    rfl
end Go.L25
