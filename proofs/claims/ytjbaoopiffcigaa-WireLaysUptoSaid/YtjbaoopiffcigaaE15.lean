/- The engine, part 15: what is dropped; every operation. Conditions: none. -/
import Derived.Test.YtjbaoopiffcigaaE14
set_option linter.unusedVariables false
set_option linter.unusedSimpArgs false
namespace Go.Eng

def trimM (M : Mem) (n0 : Nat) : Mem := ⟨fun i => if i < n0 then M.m i else none, M.st.take n0, M.w⟩

theorem trim_get {M : Mem} {n0 i : Nat} {x : Blk} (h : (trimM M n0).st[i]? = some x) : i < n0 ∧ M.st[i]? = some x := by
  have h' : (M.st.take n0)[i]? = some x := h
  rw [List.getElem?_take] at h'
  split at h'
  · exact ⟨by assumption, h'⟩
  · cases h'

theorem trim_get' {M : Mem} {n0 i : Nat} {x : Blk} (hi : i < n0) (h : M.st[i]? = some x) : (trimM M n0).st[i]? = some x := by
  show (M.st.take n0)[i]? = some x
  rw [List.getElem?_take, if_pos hi]; exact h

theorem trim_m {M : Mem} {n0 i : Nat} {p : Nat × Nat} (h : (trimM M n0).m i = some p) : i < n0 ∧ M.m i = some p := by
  have h' : (if i < n0 then M.m i else none) = some p := h
  split at h'
  · exact ⟨by assumption, h'⟩
  · cases h'

theorem trim_m' {M : Mem} {n0 i : Nat} (hi : i < n0) : (trimM M n0).m i = M.m i := if_pos hi

theorem CC.trim {k : Keep} {M : Mem} (n0 : Nat) : ∀ b o v, CC k false M b o v → CC k false (trimM M n0) b o v :=
  fun b o v ⟨h1, h2, h3⟩ => ⟨h1, h2, fun i base x hm hx => h3 i base x (trim_m hm).2 (trim_get hx).2⟩

mutual
theorem RepA.trim {k : Keep} {M : Mem} (n0 : Nat) : ∀ (x : AV) (v : Value), x.under1 n0 = true → RepA k M x v → RepA k (trimM M n0) x v
  | .d x, v, _, hx => RepD.mono (CC.trim n0) x v hx
  | .snil, v, _, hx => hx
  | .full l, v, _, ⟨a, e, hl⟩ => ⟨a, e, hl.imp id fun ⟨b, o, k', ea, hr⟩ => ⟨b, o, k', ea, RepRow.mono (CC.trim n0) b k' o l hr⟩⟩
  | .ptr loc ep idx off, v, hu, ⟨x, hx, he, hv, hp⟩ => by
    have hlt : loc < n0 := Nat.le_of_ble_eq_true hu
    exact ⟨x, trim_get' hlt hx, he, fun e => by obtain ⟨g1, b, base, hm, g2⟩ := hv e; exact ⟨g1, b, base, by rw [trim_m' hlt]; exact hm, g2⟩, hp⟩
  | .sref loc ep es off len, v, hu, ⟨x, hx, he, hs, hv⟩ => by
    have hlt : loc < n0 := Nat.le_of_ble_eq_true hu
    exact ⟨x, trim_get' hlt hx, he, hs, fun e => by
      obtain ⟨g1, g2⟩ := hv e
      refine ⟨g1, g2.imp id fun ⟨a1, a2, a3, b, base, c, hm, a4⟩ => ⟨a1, a2, a3, b, base, c, by rw [trim_m' hlt]; exact hm, a4⟩⟩⟩
  | .eptr x off, v, _, ⟨b, o, u, e, hx, hj⟩ => ⟨b, o, u, e, RepD.mono (CC.trim n0) x u hx, fun j c hc => CC.trim n0 _ _ _ (hj j c hc)⟩
  | .tptr t n loc off, v, hu, ⟨⟨x, hx, he, hv, hp⟩, h2⟩ => by
    have hlt : loc < n0 := Nat.le_of_ble_eq_true hu
    exact ⟨⟨x, trim_get' hlt hx, he, fun e => by obtain ⟨g1, b, base, hm, g2⟩ := hv e; exact ⟨g1, b, base, by rw [trim_m' hlt]; exact hm, g2⟩, hp⟩, h2⟩
  | .tsref t loc ep es len, v, hu, ⟨⟨x, hx, he, hs, hv⟩, h2⟩ => by
    have hlt : loc < n0 := Nat.le_of_ble_eq_true hu
    exact ⟨⟨x, trim_get' hlt hx, he, hs, fun e => by
      obtain ⟨g1, g2⟩ := hv e
      refine ⟨g1, g2.imp id fun ⟨a1, a2, a3, b, base, c, hm, a4⟩ => ⟨a1, a2, a3, b, base, c, by rw [trim_m' hlt]; exact hm, a4⟩⟩⟩, h2⟩
  | .fn f cap, v, hu, ⟨cs, e, hl⟩ => ⟨cs, e, RepAs.trim n0 cap cs (by simpa [AV.under1] using hu) hl⟩
  | .agg l, v, hu, ⟨cs, e, hl, hc⟩ => ⟨cs, e, RepAs.trim n0 l cs (by simpa [AV.under1] using hu) hl, hc⟩
  | .tup l, v, hu, ⟨cs, e, hl⟩ => ⟨cs, e, RepAs.trim n0 l cs (by simpa [AV.under1] using hu) hl⟩
  | .undef, v, _, _ => trivial
theorem RepAs.trim {k : Keep} {M : Mem} (n0 : Nat) : ∀ (l : List AV) (vs : List Value), AV.under1s n0 l = true → RepAs k M l vs → RepAs k (trimM M n0) l vs
  | [], vs, _, hx => hx
  | x :: r, vs, hu, ⟨v, t, e, hx, hr⟩ => by
    simp only [AV.under1s, Bool.and_eq_true] at hu
    exact ⟨v, t, e, RepA.trim n0 x v hu.1 hx, RepAs.trim n0 r t hu.2 hr⟩
end

theorem under1s_get : ∀ {l : List AV} {n i : Nat} {x : AV}, AV.under1s n l = true → l[i]? = some x → x.under1 n = true
  | [], n, i, x, _, h => by simp at h
  | a :: r, n, 0, x, h, hx => by simp at hx; subst hx; simp only [AV.under1s, Bool.and_eq_true] at h; exact h.1
  | a :: r, n, i + 1, x, h, hx => by simp only [AV.under1s, Bool.and_eq_true] at h; exact under1s_get h.2 (by simpa using hx)

theorem belowB_get : ∀ {l : Store} {n i : Nat} {x : Blk}, belowB n l = true → l[i]? = some x → AV.under1s n x.elems = true
  | [], n, i, x, _, h => by simp at h
  | a :: r, n, 0, x, h, hx => by simp at hx; subst hx; simp only [belowB, Bool.and_eq_true] at h; exact h.1
  | a :: r, n, i + 1, x, h, hx => by simp only [belowB, Bool.and_eq_true] at h; exact belowB_get h.2 (by simpa using hx)

theorem trim_stp {k : Keep} {M M1 : Mem} (hS : Stp k M M1) {n0 : Nat} (hn : M.st.length = n0) (hb : belowB n0 (M1.st.take n0) = true) : Stp k M (trimM M1 n0) := by
  have hI := hS.inv
  refine ⟨⟨fun i j b o o' hi hj => hI.inj _ _ _ _ _ (trim_m hi).2 (trim_m hj).2, fun i p hi => ?_, fun i b o hi => hI.low _ _ _ (trim_m hi).2, hI.big, fun i b o x hi hx => ?_, fun i x hx => hI.frm i x (trim_get hx).2⟩, ?_, ?_⟩
  · have h1 := hI.dom _ _ (trim_m hi).2
    have h2 := (trim_m hi).1
    show i < (M1.st.take n0).length
    rw [List.length_take]; omega
  · obtain ⟨g1, g2, cs, e, fz, g3, g4, g5, g6⟩ := hI.blk _ _ _ _ (trim_m hi).2 (trim_get hx).2
    refine ⟨g1, g2, cs, e, fz, g3, g4, g5, fun j av hj => ?_⟩
    obtain ⟨v, h1, h2⟩ := g6 j av hj
    exact ⟨v, RepA.trim n0 av v (under1s_get (belowB_get hb hx) hj) h1, h2⟩
  · refine ⟨?_, fun i x hx => ?_, fun b o v hv hp => ?_, hS.evo.size, hS.evo.heap⟩
    · show M.st.length ≤ (M1.st.take n0).length
      have := hS.evo.len
      rw [List.length_take]; omega
    · have hlt := (List.getElem?_eq_some_iff.1 hx).1
      obtain ⟨y, hy, h1, h2, h3, h4⟩ := hS.evo.blk i x hx
      exact ⟨y, trim_get' (by omega) hy, h1, h2, h3, fun e => by
        obtain ⟨q1, q2, q3⟩ := h4 e
        exact ⟨q1, q2, fun p hp => by rw [trim_m' (by omega)]; exact q3 p hp⟩⟩
    · obtain ⟨h1, h2⟩ := hS.evo.cell b o v hv hp
      exact ⟨h1, fun i base x hm hx => h2 i base x (trim_m hm).2 (trim_get hx).2⟩
  · exact ⟨hS.out.os, hS.out.tape, hS.out.output, hS.out.old, fun i b o hi => hS.out.new i b o (trim_m hi).2⟩

theorem trimR_sound {k : Keep} {M : Mem} {v : AV} {u : Value} {m1 : Nat → Option (Nat × Nat)} {st1 : Store} {w1 : World} (hS : Stp k M ⟨m1, st1, w1⟩) (hr : RepA k ⟨m1, st1, w1⟩ v u) {n0 : Nat} (hn : M.st.length = n0) {v' : AV} {st' : Store}
    (h : trimR n0 (v, st1) = (v', st')) : ∃ m', RepA k ⟨m', st', w1⟩ v' u ∧ Stp k M ⟨m', st', w1⟩ := by
  unfold trimR at h
  by_cases hc : (v.under1 n0 && belowB n0 (st1.take n0)) = true
  · simp only [hc, cond_true, Prod.mk.injEq] at h
    obtain ⟨rfl, rfl⟩ := h
    simp only [Bool.and_eq_true] at hc
    exact ⟨_, RepA.trim (M := ⟨m1, st1, w1⟩) n0 v u hc.1 hr, trim_stp hS hn hc.2⟩
  · simp only [Bool.eq_false_iff.2 hc, cond_false, Prod.mk.injEq] at h
    obtain ⟨rfl, rfl⟩ := h
    exact ⟨m1, hr, hS⟩

/-- The primitives that a context names. -/
def PrimOk (X : Ctx) : Prop := (∀ f p, X.prim f = some p → CallOk X (fun g args st => if g = f then p args st else none)) ∧
  ∀ f p, X.prim f = some p → X.pure f = true → ∀ args st v st', p args st = some (v, st') → st' = st

theorem callV_any {X : Ctx} {call : Call} (hC : CallOk X call) (hP : PrimOk X) {k : Keep} {m : Nat → Option (Nat × Nat)} {st st' : Store} {w : World} (hI : Inv k ⟨m, st, w⟩) {wr : Bool} {f : FuncId} {args : List AV} {vs : List Value} {v : AV}
    (ha : RepAs k ⟨m, st, w⟩ args vs) (h : callV X call wr f args st = some (v, st')) :
    EnterOk X.P f ∧ Calls X.P f vs.toArray w (fun e w' => ∃ m' r, e = .returned r ∧ RepA k ⟨m', st', w'⟩ v r ∧ Stp k ⟨m, st, w⟩ ⟨m', st', w'⟩) := by
  cases hp : X.prim f with
  | some p =>
    have hpc := hP.1 f p hp
    unfold callV at h
    rw [hp] at h
    obtain ⟨hE, hcall⟩ := hpc f args st v st' (by simpa using h)
    exact ⟨hE, hcall k m w vs hI ha⟩
  | none =>
    cases hpu : X.pure f with
    | true =>
      have hext : ∃ new, st' = st ++ new ∧ ∀ b ∈ new, BlkForm b := by
        have hin : ∀ pr, prIn wr st pr = (v, st') → ∃ new, st' = st ++ new ∧ ∀ b ∈ new, BlkForm b := by
          have hpv : ∀ (lone : Bool) (pv : PV) (v : AV) (st' : Store), pvIn wr lone st pv = (v, st') → ∃ new, st' = st ++ new ∧ ∀ b ∈ new, BlkForm b := by
            intro lone pv v st' hh
            cases pv <;> simp only [pvIn, Prod.mk.injEq] at hh <;> obtain ⟨_, rfl⟩ := hh
            · exact ⟨[], by simp, by simp⟩
            · exact ⟨_, rfl, fun b hb => by simp at hb; subst hb; exact ⟨fun h => by simp at h, fun h => by simp at h⟩⟩
            · exact ⟨[], by simp, by simp⟩
            · exact ⟨[], by simp, by simp⟩
          intro pr hh
          cases pr with
          | unit => simp only [prIn, Prod.mk.injEq] at hh; obtain ⟨_, rfl⟩ := hh; exact ⟨[], by simp, by simp⟩
          | one pv => exact hpv true pv v st' hh
          | tup pv l =>
            cases hpi : pvIn wr false st pv with
            | mk v0 st0 =>
              simp only [prIn, hpi, Prod.mk.injEq] at hh
              obtain ⟨_, rfl⟩ := hh
              exact hpv false pv v0 st0 hpi
        have h' := h
        unfold callV at h'
        rw [hp] at h'
        simp only [hpu, cond_true] at h'
        split at h'
        · obtain ⟨pr, hpr, hh⟩ := Option.map_eq_some_iff.1 h'
          exact hin pr hh
        · obtain ⟨ds, hds, h9⟩ := Option.bind_eq_some_iff.1 h'
          obtain ⟨pr, hpr, h8⟩ := Option.bind_eq_some_iff.1 h9
          cases hf : pr.flat with
          | false => rw [hf] at h8; simp at h8
          | true => rw [hf] at h8; simp only [cond_true, Option.some.injEq] at h8; exact hin pr h8
      obtain ⟨new, rfl, hnew⟩ := hext
      have S1 : Stp k ⟨m, st, w⟩ ⟨m, st ++ new, w⟩ := hI.more (fun i y hy => by rw [List.getElem?_append_left (List.getElem?_eq_some_iff.1 hy).1]; exact hy) (by simp) (fun i y hy => by
        by_cases hi : i < st.length
        · rw [List.getElem?_append_left hi] at hy; exact hI.frm i y hy
        · rw [List.getElem?_append_right (by omega)] at hy; exact hnew y (List.mem_of_getElem? hy))
      have hno : ∀ i, st.length ≤ i → i < (st ++ new).length → m i = none := fun i hi _ => by
        cases hh : m i with
        | none => rfl
        | some p => exact absurd (hI.dom i p hh) (by simp only; omega)
      obtain ⟨hE, hcall⟩ := callV_pure hC S1.inv hpu hp (RepAs.evo S1.evo _ _ ha) h (fun i y hy => by simp only; rw [List.getElem?_append_left (List.getElem?_eq_some_iff.1 hy).1]; exact hy) (fun _ _ h => h) hno
      exact ⟨hE, hcall.mono fun e w' ⟨m', r, he, g1, g2, _⟩ => ⟨m', r, he, g1, S1.trans g2⟩⟩
    | false =>
      unfold callV at h
      rw [hp] at h
      simp only [hpu, cond_false] at h
      obtain ⟨⟨v1, st1⟩, hc, ht⟩ := Option.map_eq_some_iff.1 h
      obtain ⟨hE, hcall⟩ := hC f args st v1 st1 hc
      refine ⟨hE, (hcall k m w vs hI ha).mono fun e w' ⟨m1, r, he, g1, g2⟩ => ?_⟩
      obtain ⟨m', q1, q2⟩ := trimR_sound g2 g1 rfl ht
      exact ⟨m', r, he, q1, q2⟩

end Go.Eng
