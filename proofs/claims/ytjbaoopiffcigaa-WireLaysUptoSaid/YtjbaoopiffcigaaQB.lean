/- The engine, part 26: rules for both ways of a condition. Conditions: none. -/
import Derived.Test.YtjbaoopiffcigaaQG4
set_option linter.unusedVariables false
set_option linter.unusedSimpArgs false
namespace Go.Eng
def br {α : Type} (b : Bool) (x y : α) : α := bif b then x else y
theorem br_t {α : Type} (x y : α) : br true x y = x := rfl
theorem br_f {α : Type} (x y : α) : br false x y = y := rfl
theorem br_s {α : Type} (b : Bool) (x : α) : br b x x = x := by cases b <;> rfl
theorem br_n {α : Type} (b : Bool) (x y : α) : br (!b) x y = br b y x := by cases b <;> rfl
theorem br_cond {α : Type} (b : Bool) (x y : α) : br b x y = bif b then x else y := rfl
theorem br_ite {α : Type} (b : Bool) (x y : α) : br b x y = if b = true then x else y := by cases b <;> rfl
theorem br_dec {α : Type} {p : Prop} [Decidable p] (x y : α) : br (decide p) x y = if p then x else y := by
  by_cases h : p <;> simp [h, br]
theorem contK_br (k : S → RS) (b : Bool) (x y : RS) : contK k (br b x y) = br b (contK k x) (contK k y) := by cases b <;> rfl
theorem blkK_br (i : Nat) (b : Bool) (x y : RS) : blkK i (br b x y) = br b (blkK i x) (blkK i y) := by cases b <;> rfl
theorem behK_br (m : Nat) (b : Bool) (x y : Option S) : behK m (br b x y) = br b (behK m x) (behK m y) := by cases b <;> rfl
theorem loopK_br (m k : Nat) (n : S → RS) (b : Bool) (x y : RS) : loopK m k n (br b x y) = br b (loopK m k n x) (loopK m k n y) := by cases b <;> rfl
theorem nx_br (X : Ctx) (an : Ann) (call : Call) (ops : Array Oper) (r : List Oper) (t : List (Nat × AV)) (d : Option Nat) (b : Bool) (x y : R) : nx X an call ops r t d (br b x y) = br b (nx X an call ops r t d x) (nx X an call ops r t d y) := by cases b <;> rfl
theorem tailK_br (an : Ann) (ops : Array Oper) (l : List Oper) (b : Bool) (x y : Option S) : L25.tailK an ops l (br b x y) = br b (L25.tailK an ops l x) (L25.tailK an ops l y) := by cases b <;> rfl
theorem obind_br {α β : Type} (b : Bool) (x y : Option α) (f : α → Option β) : (br b x y).bind f = br b (x.bind f) (y.bind f) := by cases b <;> rfl
theorem omap_br {α β : Type} (b : Bool) (x y : Option α) (f : α → β) : (br b x y).map f = br b (x.map f) (y.map f) := by cases b <;> rfl
def replT (k : Nat) (b : Bool) : List (Nat × AV) → List (Nat × AV)
  | [] => []
  | (j, v) :: r => bif j == k then (j, .d (.lit (.bool b))) :: r else (j, v) :: replT k b r
theorem replT_eq {k : Nat} {b : Bool} : ∀ {t : List (Nat × AV)}, look t k = .d (.lit (.bool b)) → replT k b t = t
  | [], h => rfl
  | (j, v) :: r, h => by
    rw [look] at h
    rw [replT]
    cases e : j == k with
    | true => rw [e] at h; rw [show v = .d (.lit (.bool b)) from h]; rfl
    | false => rw [e] at h; rw [replT_eq (t := r) h]; rfl
def condB (k : Nat) (v : AV) (a b : S → RS) (s : S) : RS := match v with
  | .d (.lit (.bool v)) => br v (a ⟨replT k true s.t, s.st⟩) (b ⟨replT k false s.t, s.st⟩)
  | _ => none
theorem so_condB (k : Nat) (a b : S → RS) (s : S) : condK (opv s.t (.tmp k)) a b s = condB k (look s.t k) a b s := by
  show (asB (look s.t k)).bind _ = _
  unfold condB
  split
  · rename_i v h
    rw [h]
    show (bif v then a s else b s) = _
    cases v
    · rw [replT_eq h]; rfl
    · rw [replT_eq h]; rfl
  · rename_i h
    generalize look s.t k = v at h ⊢
    unfold asB
    split
    · exact absurd rfl (h _)
    · rfl
theorem condB_br (k : Nat) (v : Bool) (a b : S → RS) (t : List (Nat × AV)) (st : Store) : condB k (.d (.lit (.bool v))) a b ⟨t, st⟩ = br v (a ⟨replT k true t, st⟩) (b ⟨replT k false t, st⟩) := rfl
section
variable {X : Ctx} {an : Ann} {call : Call} {ops : Array Oper} {r : List Oper} {t : List (Nat × AV)} {st : Store} {d : Option Nat} {ty : TypeId} {ps : String} {af : Array Edge} {o : Oper}
def grdB (X : Ctx) (an : Ann) (call : Call) (ops : Array Oper) (o : Oper) (r : List Oper) (w : Bool) (k : Nat) (t : List (Nat × AV)) (st : Store) (v : AV) : Option S := match v with
  | .d (.lit (.bool b)) => br b (bif w then stepsO X an call ops (o :: r) ⟨replT k true t, st⟩ else stepsO X an call ops r ⟨putD (replT k true t) o.dst (.tup []), st⟩)
      (bif w then stepsO X an call ops r ⟨putD (replT k false t) o.dst (.tup []), st⟩ else stepsO X an call ops (o :: r) ⟨replT k false t, st⟩)
  | .tup [] => stepsO X an call ops r ⟨putD t o.dst (.tup []), st⟩
  | _ => none
def grdBo (X : Ctx) (an : Ann) (call : Call) (ops : Array Oper) (o : Oper) (r : List Oper) (w : Bool) (t : List (Nat × AV)) (st : Store) : Option Nat → Option S
  | some k => grdB X an call ops o r w k t st (look t k)
  | none => none
theorem grdBo_s (w : Bool) (k : Nat) : grdBo X an call ops o r w t st (some k) = grdB X an call ops o r w k t st (look t k) := rfl
theorem so_grdB (op : Op) (j : Nat) (w : Bool) : stepsO X an call ops (⟨d, op, ty, ps, af, some (j, w)⟩ :: r) ⟨t, st⟩ = grdBo X an call ops ⟨d, op, ty, ps, af, none⟩ r w t st (gdst ops j) := by
  rw [so_grd]
  cases gdst ops j with
  | none => rfl
  | some k =>
    show grdK _ _ _ _ _ _ _ _ _ (some (look t k)) = grdB _ _ _ _ _ _ _ _ _ _ (look t k)
    unfold grdB
    split
    · rename_i b h
      rw [h]
      cases b <;> cases w <;> simp only [grd_tt, grd_tf, grd_ft, grd_ff, replT_eq h] <;> rfl
    · rename_i h
      rw [h, grd_sk]
    · rename_i h1 h2
      generalize look t k = v at h1 h2 ⊢
      unfold grdK
      split
      · rename_i b e; exact absurd (Option.some.inj e) (h1 b)
      · rename_i e; exact absurd (Option.some.inj e) h2
      · rfl
theorem grdB_t (k : Nat) (v : Bool) : grdB X an call ops o r true k t st (.d (.lit (.bool v))) = br v (stepsO X an call ops (o :: r) ⟨replT k true t, st⟩) (stepsO X an call ops r ⟨putD (replT k false t) o.dst (.tup []), st⟩) := rfl
theorem grdB_f (k : Nat) (v : Bool) : grdB X an call ops o r false k t st (.d (.lit (.bool v))) = br v (stepsO X an call ops r ⟨putD (replT k true t) o.dst (.tup []), st⟩) (stepsO X an call ops (o :: r) ⟨replT k false t, st⟩) := rfl
theorem grdB_k (k : Nat) (w : Bool) : grdB X an call ops o r w k t st (.tup []) = stepsO X an call ops r ⟨putD t o.dst (.tup []), st⟩ := rfl
end
def bbK (k : TK) (r : Option AV) : Option AV := match k with | .bool => r | _ => none
theorem bb_bool (r : Option AV) : bbK .bool r = r := rfl
theorem bb_eql (P : Program) (t : TypeId) (st : Store) (a b : Bool) : binV P t .eql st (.d (.lit (.bool a))) (.d (.lit (.bool b))) = bbK (tkOf P t) (some (.d (.lit (.bool (a == b))))) := by
  show (match tkOf P t with | .bool => (binB .eql a b).map AV.d | _ => none) = _
  cases tkOf P t <;> rfl
theorem bb_neq (P : Program) (t : TypeId) (st : Store) (a b : Bool) : binV P t .neq st (.d (.lit (.bool a))) (.d (.lit (.bool b))) = bbK (tkOf P t) (some (.d (.lit (.bool (!(a == b)))))) := by
  show (match tkOf P t with | .bool => (binB .neq a b).map AV.d | _ => none) = _
  cases tkOf P t <;> rfl
theorem bq_tr (b : Bool) : (b == true) = b := by cases b <;> rfl
theorem bq_tl (b : Bool) : (true == b) = b := by cases b <;> rfl
theorem bq_fr (b : Bool) : (b == false) = !b := by cases b <;> rfl
theorem bq_fl (b : Bool) : (false == b) = !b := by cases b <;> rfl
/-! ### the check of a drawn region's tail -/
section
variable {X : Ctx} {an : Ann} {ops : Array Oper} {r : List Oper} {t : List (Nat × AV)} {st : Store} {d : Option Nat} {ty : TypeId} {ps : String} {af : Array Edge}
def okL : Option (List Acc) → Bool
  | some r => apartL r
  | none => false
theorem okL_s (r : List Acc) : okL (some r) = apartL r := rfl
theorem tok_eq (l : List Oper) (s : S) : tailOk X an ops l s = okL (tailA X an ops l s) := by
  unfold tailOk okL
  cases tailA X an ops l s <;> rfl
def tK (X : Ctx) (an : Ann) (ops : Array Oper) (r : List Oper) : Option Acc → Option S → Option (List Acc)
  | some a, some s' => (tailA X an ops r s').map (a :: ·)
  | _, _ => none
theorem tK_s (a : Acc) (s : S) : tK X an ops r (some a) (some s) = (tailA X an ops r s).map (a :: ·) := rfl
theorem tA_nil (s : S) : tailA X an ops [] s = some [] := rfl
theorem so_one (call : Call) (o : Oper) (s : S) : stepsO X an call ops [o] s = stepO X an call ops o s := by
  show (stepO X an call ops o s).bind _ = _
  cases stepO X an call ops o s <;> rfl
theorem tA_cons (o : Oper) (s : S) : tailA X an ops (o :: r) s = tK X an ops r (accO X an o s) (stepsO X an noCall ops [o] s) := by
  rw [tailA, so_one]
  cases accO X an o s <;> cases stepO X an noCall ops o s <;> rfl
def accW : AV → Option Acc
  | .ptr loc _ _ _ => some (.at loc true)
  | _ => none
def accR : AV → Option Acc
  | .ptr loc _ _ _ => some (.at loc false)
  | .eptr _ _ => some .no
  | _ => none
theorem accW_p (a b c e : Nat) : accW (.ptr a b c e) = some (.at a true) := rfl
theorem accR_p (a b c e : Nat) : accR (.ptr a b c e) = some (.at a false) := rfl
theorem accR_e (x : D) (a : Nat) : accR (.eptr x a) = some .no := rfl
theorem ao_store (ty' : TypeId) (a v : Operand) : accO X an ⟨d, .store ty' a v, ty, ps, af, none⟩ ⟨t, st⟩ = accW (opv t a).unt := by
  show (match (opv t a).unt with | .ptr loc _ _ _ => some (Acc.at loc true) | _ => none) = _
  cases (opv t a).unt <;> rfl
theorem ao_load (ty' : TypeId) (a : Operand) : accO X an ⟨d, .load ty' a, ty, ps, af, none⟩ ⟨t, st⟩ = accR (opv t a).unt := by
  show (match (opv t a).unt with | .ptr loc _ _ _ => some (Acc.at loc false) | .eptr _ _ => some .no | _ => none) = _
  cases (opv t a).unt <;> rfl
theorem ao_callf (f : FuncId) (args : Array Operand) (tys : Array TypeId) (s : S) : accO X an ⟨d, .call ⟨.value (.func f), args, tys⟩, ty, ps, af, none⟩ s = bif X.pure f && (X.prim f).isSome then some .all else none := rfl
theorem ao_move (x : Operand) (s : S) : accO X an ⟨d, .move x, ty, ps, af, none⟩ s = some .no := rfl
theorem ao_assign (x : Operand) (s : S) : accO X an ⟨d, .assign x, ty, ps, af, none⟩ s = bif !(flagOf an.virt d) then some .no else none := rfl
theorem ao_pick (a b c : Operand) (s : S) : accO X an ⟨d, .pick a b c, ty, ps, af, none⟩ s = some .no := rfl
theorem ao_field (ty' : TypeId) (x : Operand) (f : Nat) (s : S) : accO X an ⟨d, .fieldAddr ty' x f, ty, ps, af, none⟩ s = some .no := rfl
theorem ao_un (op : UnOp) (ty' : TypeId) (x : Operand) (s : S) : accO X an ⟨d, .unOp op ty' x, ty, ps, af, none⟩ s = some .no := rfl
theorem ao_ext (x : Operand) (k : Nat) (s : S) : accO X an ⟨d, .extract x k, ty, ps, af, none⟩ s = some .no := rfl
theorem ao_nil (x : Operand) (s : S) : accO X an ⟨d, .nilCheck x, ty, ps, af, none⟩ s = some .no := rfl
theorem ao_ixa (ty' : TypeId) (x i : Operand) (s : S) : accO X an ⟨d, .indexAddr ty' x i, ty, ps, af, none⟩ s = some .no := rfl
theorem ao_ix (ty' : TypeId) (x i : Operand) (s : S) : accO X an ⟨d, .index ty' x i, ty, ps, af, none⟩ s = some .no := rfl
theorem ao_len (args : Array Operand) (tys : Array TypeId) (s : S) : accO X an ⟨d, .call ⟨.builtin .len, args, tys⟩, ty, ps, af, none⟩ s = some .no := rfl
theorem ao_max (args : Array Operand) (tys : Array TypeId) (s : S) : accO X an ⟨d, .call ⟨.builtin .max, args, tys⟩, ty, ps, af, none⟩ s = some .no := rfl
theorem ao_min (args : Array Operand) (tys : Array TypeId) (s : S) : accO X an ⟨d, .call ⟨.builtin .min, args, tys⟩, ty, ps, af, none⟩ s = some .no := rfl
end
theorem rep_1 {α : Type} (a : α) : List.replicate 1 a = [a] := rfl
theorem rep_0 {α : Type} (a : α) : List.replicate 0 a = [] := rfl
attribute [go_sem] okL_s tok_eq tK_s tA_nil tA_cons accW_p accR_p accR_e ao_store ao_load ao_callf ao_move ao_assign ao_pick ao_field ao_un ao_ext ao_nil ao_ixa ao_ix ao_len ao_max ao_min apartL apart1 List.all_cons List.all_nil rep_1 rep_0
theorem strMost_eq : strMost = 1152921504606846976 := rfl
attribute [go_sem] replT condB_br grdBo_s grdB_t grdB_f grdB_k br_t br_f bb_bool bb_eql bb_neq bq_tr bq_tl bq_fr bq_fl Bool.not_not strMost_eq
end Go.Eng
