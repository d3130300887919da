/- The engine, part 18: regions whose order is drawn. Conditions: none. -/
import Derived.Test.YtjbaoopiffcigaaE17
set_option linter.unusedVariables false
set_option linter.unusedSimpArgs false
namespace Go.Eng

theorem opE_congr {X : Ctx} {an : Ann} {call : Call} {o : Oper} {ρ ρ' : Operand → AV} {st : Store} (h : ∀ x ∈ o.op.operands, ρ x = ρ' x) : opE X an call o ρ st = opE X an call o ρ' st := by
  obtain ⟨dst, op, type, pos, after, guard⟩ := o
  have pairs : ∀ ps : Array (Nat × Operand), (∀ x ∈ (ps.toList.map (·.2)).toArray, ρ x = ρ' x) → (ps.toList.map fun p => (p.1, ρ p.2)) = (ps.toList.map fun p => (p.1, ρ' p.2)) := fun ps hp =>
    List.map_congr_left fun p hm => by rw [hp p.2 (by simp only [List.mem_toArray, List.mem_map]; exact ⟨p, hm, rfl⟩)]
  have opt : ∀ x : Option Operand, (∀ y ∈ x.toArray, ρ y = ρ' y) → x.map ρ = x.map ρ' := fun x hx => by
    cases x with
    | none => rfl
    | some y => simp [hx y (by simp)]
  cases op <;> simp only [Op.operands] at h <;> unfold opE <;> simp only
  case move x => rw [h x (by simp)]
  case assign x => rw [h x (by simp)]
  case pick c x y => rw [h c (by simp), h x (by simp), h y (by simp)]
  case box t x => rw [h x (by simp)]
  case build t ps => rw [pairs ps h]
  case buildSlice t n ps => rw [pairs ps h]
  case load t x => rw [h x (by simp)]
  case store t x y => rw [h x (by simp), h y (by simp)]
  case nilCheck x => rw [h x (by simp)]
  case binOp op t x y t' => rw [h x (by simp), h y (by simp)]
  case unOp op t x => rw [h x (by simp)]
  case convert s t x => rw [h x (by simp)]
  case makeFunc fn first cap =>
    have : cap.toList.map ρ = cap.toList.map ρ' := List.map_congr_left fun x hx => h x (Array.mem_append.2 (.inr (by simpa using hx)))
    rw [this]
  case slice t x lo hi mx => rw [h x (by simp), opt lo (fun y hy => h y (by simp at hy ⊢; simp [hy])), opt hi (fun y hy => h y (by simp at hy ⊢; simp [hy])), opt mx (fun y hy => h y (by simp at hy ⊢; simp [hy]))]
  case fieldAddr t x f => rw [h x (by simp)]
  case indexAddr t x ix => rw [h x (by simp), h ix (by simp)]
  case index t x ix => rw [h x (by simp), h ix (by simp)]
  case extract x n => rw [h x (by simp)]
  case call c =>
    have ha : c.args.toList.map ρ = c.args.toList.map ρ' := List.map_congr_left fun x hx => h x (by unfold Call.operands; exact Array.mem_append.2 (.inr (by simpa using hx)))
    rw [ha]
    cases hc : c.callee with
    | value f => simp only; rw [h f (by simp [Call.operands, hc])]
    | _ => rfl

/-- An operation that neither reads nor writes memory. -/
theorem val_any {st st' : Store} {x : Option AV} {v : AV} (h : val st x = some (v, st')) : st' = st ∧ ∀ st2, val st2 x = some (v, st2) := by
  obtain ⟨rfl, rfl⟩ := val_some h
  exact ⟨rfl, fun st2 => rfl⟩

theorem bare_spec {X : Ctx} {an : Ann} {call : Call} {o : Oper} {ρ : Operand → AV} {st st' : Store} {v : AV} (hb : bareO an o = true) (h : opE X an call o ρ st = some (v, st')) :
    quietO X o.op = true ∧ st' = st ∧ ∀ st2, opE X an call o ρ st2 = some (v, st2) := by
  obtain ⟨dst, op, type, pos, after, guard⟩ := o
  unfold opE at h ⊢
  cases op <;> simp only [bareO] at hb <;> try (cases hb; done)
  all_goals try simp only at h ⊢
  case move x => exact ⟨rfl, val_any h⟩
  case assign x =>
    have hv : flagOf an.virt dst = false := by simpa using hb
    simp only [hv, cond_false] at h ⊢
    exact ⟨rfl, val_any h⟩
  case pick c x y => exact ⟨rfl, val_any h⟩
  case fieldAddr t x f =>
    obtain ⟨i, hi, h9⟩ := Option.bind_eq_some_iff.1 h
    obtain ⟨e, g⟩ := val_any h9
    exact ⟨rfl, e, fun st2 => by rw [hi]; exact g st2⟩
  case unOp op t x => exact ⟨rfl, val_any h⟩
  case extract x n =>
    split at h
    · exact ⟨rfl, val_any h⟩
    · cases h
  case makeFunc fn first cap =>
    cases fn with
    | func f =>
      simp only at h ⊢
      cases hf : (first.size == 0) <;> simp only [hf, cond_true, cond_false] at h ⊢
      · cases h
      · exact ⟨rfl, val_any h⟩
    | _ => cases h
  case nilCheck x => exact ⟨rfl, val_any h⟩
  case indexAddr t x ix =>
    obtain ⟨i, hi, h9⟩ := Option.bind_eq_some_iff.1 h
    obtain ⟨n, hn, h8⟩ := Option.bind_eq_some_iff.1 h9
    obtain ⟨e, g⟩ := val_any h8
    exact ⟨rfl, e, fun st2 => by rw [hi]; simp only [Option.bind_some]; rw [hn]; exact g st2⟩
  case index t x ix =>
    obtain ⟨i, hi, h9⟩ := Option.bind_eq_some_iff.1 h
    obtain ⟨n, hn, h8⟩ := Option.bind_eq_some_iff.1 h9
    obtain ⟨e, g⟩ := val_any h8
    exact ⟨rfl, e, fun st2 => by rw [hi]; simp only [Option.bind_some]; rw [hn]; exact g st2⟩
  case call c =>
    obtain ⟨callee, args, types⟩ := c
    cases callee with
    | builtin b =>
      cases b <;> simp only at hb <;> try (cases hb; done)
      · simp only [builtinV] at h ⊢
        split at h
        · exact ⟨rfl, val_any h⟩
        · cases h
      · simp only [builtinV] at h ⊢
        exact ⟨rfl, val_any h⟩
      · simp only [builtinV] at h ⊢
        exact ⟨rfl, val_any h⟩
    | _ => cases hb

theorem pvIn_ext {wr lone : Bool} {st st' : Store} {pv : PV} {v : AV} (hh : pvIn wr lone st pv = (v, st')) : Ext st st' := by
  cases pv <;> simp only [pvIn, Prod.mk.injEq] at hh <;> obtain ⟨_, rfl⟩ := hh
  · exact Ext.refl _
  · exact ⟨_, rfl, fun b hb => by simp at hb; subst hb; exact ⟨fun h => by simp at h, fun h => by simp at h⟩⟩
  · exact Ext.refl _
  · exact Ext.refl _

theorem prIn_ext {wr : Bool} {st st' : Store} {pr : PR} {v : AV} (hh : prIn wr st pr = (v, st')) : Ext st st' := by
  cases pr with
  | unit => simp only [prIn, Prod.mk.injEq] at hh; obtain ⟨_, rfl⟩ := hh; exact Ext.refl _
  | one pv => exact pvIn_ext hh
  | tup pv l =>
    cases hpi : pvIn wr false st pv with
    | mk v0 st0 =>
      simp only [prIn, hpi, Prod.mk.injEq] at hh
      obtain ⟨_, rfl⟩ := hh
      exact pvIn_ext hpi

theorem callV_ext {X : Ctx} {call : Call} {wr : Bool} {f : FuncId} {args : List AV} {st st' : Store} {v : AV} (hp : X.prim f = none) (hpu : X.pure f = true) (h' : callV X call wr f args st = some (v, st')) : Ext st st' := by
  unfold callV at h'
  rw [hp] at h'
  simp only [hpu, cond_true] at h'
  split at h'
  · obtain ⟨pr, hpr, hh⟩ := Option.map_eq_some_iff.1 h'
    exact prIn_ext hh
  · obtain ⟨ds, hds, h9⟩ := Option.bind_eq_some_iff.1 h'
    obtain ⟨pr, hpr, h8⟩ := Option.bind_eq_some_iff.1 h9
    cases hf : pr.flat with
    | false => rw [hf] at h8; simp at h8
    | true => rw [hf] at h8; simp only [cond_true, Option.some.injEq] at h8; exact prIn_ext h8

/-- A quiet operation makes at most new blocks. -/
theorem quiet_ext {X : Ctx} {an : Ann} {call : Call} {o : Oper} {t : List (Nat × AV)} {st st' : Store} {v : AV} (hq : quietO X o.op = true) (h : opE X an call o (opv t) st = some (v, st')) : Ext st st' := by
  cases hc : callO o.op with
  | false => exact opE_ext hc hq h
  | true =>
    obtain ⟨dst, op, type, pos, after, guard⟩ := o
    cases op <;> simp only [callO] at hc <;> try (cases hc; done)
    rename_i c
    obtain ⟨callee, args, types⟩ := c
    unfold opE at h
    simp only at h hq
    cases callee with
    | builtin b =>
      cases b <;> simp only [builtinV] at h <;> first
        | (cases h; done)
        | (simp [quietO] at hq; done)
        | exact Ext.val h
        | (split at h <;> first | (cases h; done) | exact Ext.val h)
    | value f =>
      cases f with
      | func g =>
        simp only [quietO, Bool.and_eq_true, Option.isNone_iff_eq_none] at hq
        simp only [opv, targetOf, Option.bind_some] at h
        exact callV_ext hq.2 hq.1 h
      | _ => simp [quietO] at hq
    | invoke => simp [quietO] at hq

theorem Ext.trans {a b c : Store} (h : Ext a b) (g : Ext b c) : Ext a c := by
  obtain ⟨n1, rfl, h1⟩ := h
  obtain ⟨n2, rfl, h2⟩ := g
  exact ⟨n1 ++ n2, by simp, fun b hb => (List.mem_append.1 hb).elim (h1 b) (h2 b)⟩

theorem Ext.pre {a b : Store} (h : Ext a b) : Pre a b := by
  obtain ⟨n, rfl, _⟩ := h
  intro i y hy; rw [List.getElem?_append_left (List.getElem?_eq_some_iff.1 hy).1]; exact hy

theorem Ext.le {a b : Store} (h : Ext a b) : a.length ≤ b.length := by
  obtain ⟨n, rfl, _⟩ := h; simp

end Go.Eng
