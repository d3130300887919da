/- Layer 25: filters as data; words, searches, pieces. Conditions: none. -/
import Derived.Test.YtjbaoopiffcigaaPC
set_option linter.unusedVariables false
set_option linter.unusedSimpArgs false
namespace Go.Eng
def br {α : Type} (b : Bool) (x y : α) : α := bif b then x else y
theorem br_t {α : Type} (x y : α) : br true x y = x := rfl
theorem br_f {α : Type} (x y : α) : br false x y = y := rfl
theorem br_s {α : Type} (b : Bool) (x : α) : br b x x = x := by cases b <;> rfl
theorem br_n {α : Type} (b : Bool) (x y : α) : br (!b) x y = br b y x := by cases b <;> rfl
theorem br_cond {α : Type} (b : Bool) (x y : α) : br b x y = bif b then x else y := rfl
theorem br_ite {α : Type} (b : Bool) (x y : α) : br b x y = if b = true then x else y := by cases b <;> rfl
theorem br_dec {α : Type} {p : Prop} [Decidable p] (x y : α) : br (decide p) x y = if p then x else y := by
  by_cases h : p <;> simp [h, br]
theorem contK_br (k : S → RS) (b : Bool) (x y : RS) : contK k (br b x y) = br b (contK k x) (contK k y) := by cases b <;> rfl
theorem blkK_br (i : Nat) (b : Bool) (x y : RS) : blkK i (br b x y) = br b (blkK i x) (blkK i y) := by cases b <;> rfl
theorem behK_br (m : Nat) (b : Bool) (x y : Option S) : behK m (br b x y) = br b (behK m x) (behK m y) := by cases b <;> rfl
theorem loopK_br (m k : Nat) (n : S → RS) (b : Bool) (x y : RS) : loopK m k n (br b x y) = br b (loopK m k n x) (loopK m k n y) := by cases b <;> rfl
theorem nx_br (X : Ctx) (an : Ann) (call : Call) (ops : Array Oper) (r : List Oper) (t : List (Nat × AV)) (d : Option Nat) (b : Bool) (x y : R) : nx X an call ops r t d (br b x y) = br b (nx X an call ops r t d x) (nx X an call ops r t d y) := by cases b <;> rfl
theorem tailK_br (an : Ann) (ops : Array Oper) (l : List Oper) (b : Bool) (x y : Option S) : L25.tailK an ops l (br b x y) = br b (L25.tailK an ops l x) (L25.tailK an ops l y) := by cases b <;> rfl
theorem obind_br {α β : Type} (b : Bool) (x y : Option α) (f : α → Option β) : (br b x y).bind f = br b (x.bind f) (y.bind f) := by cases b <;> rfl
theorem omap_br {α β : Type} (b : Bool) (x y : Option α) (f : α → β) : (br b x y).map f = br b (x.map f) (y.map f) := by cases b <;> rfl
def replT (k : Nat) (b : Bool) : List (Nat × AV) → List (Nat × AV)
  | [] => []
  | (j, v) :: r => bif j == k then (j, .d (.lit (.bool b))) :: r else (j, v) :: replT k b r
theorem replT_eq {k : Nat} {b : Bool} : ∀ {t : List (Nat × AV)}, look t k = .d (.lit (.bool b)) → replT k b t = t
  | [], h => rfl
  | (j, v) :: r, h => by
    rw [look] at h
    rw [replT]
    cases e : j == k with
    | true => rw [e] at h; rw [show v = .d (.lit (.bool b)) from h]; rfl
    | false => rw [e] at h; rw [replT_eq (t := r) h]; rfl
def condB (k : Nat) (v : AV) (a b : S → RS) (s : S) : RS := match v with
  | .d (.lit (.bool v)) => br v (a ⟨replT k true s.t, s.st⟩) (b ⟨replT k false s.t, s.st⟩)
  | _ => none
theorem so_condB (k : Nat) (a b : S → RS) (s : S) : condK (opv s.t (.tmp k)) a b s = condB k (look s.t k) a b s := by
  show (asB (look s.t k)).bind _ = _
  unfold condB
  split
  · rename_i v h
    rw [h]
    show (bif v then a s else b s) = _
    cases v
    · rw [replT_eq h]; rfl
    · rw [replT_eq h]; rfl
  · rename_i h
    generalize look s.t k = v at h ⊢
    unfold asB
    split
    · exact absurd rfl (h _)
    · rfl
theorem condB_br (k : Nat) (v : Bool) (a b : S → RS) (t : List (Nat × AV)) (st : Store) : condB k (.d (.lit (.bool v))) a b ⟨t, st⟩ = br v (a ⟨replT k true t, st⟩) (b ⟨replT k false t, st⟩) := rfl
section
variable {X : Ctx} {an : Ann} {call : Call} {ops : Array Oper} {r : List Oper} {t : List (Nat × AV)} {st : Store} {d : Option Nat} {ty : TypeId} {ps : String} {af : Array Edge} {o : Oper}
def grdB (X : Ctx) (an : Ann) (call : Call) (ops : Array Oper) (o : Oper) (r : List Oper) (w : Bool) (k : Nat) (t : List (Nat × AV)) (st : Store) (v : AV) : Option S := match v with
  | .d (.lit (.bool b)) => br b (bif w then stepsO X an call ops (o :: r) ⟨replT k true t, st⟩ else stepsO X an call ops r ⟨putD (replT k true t) o.dst (.tup []), st⟩)
      (bif w then stepsO X an call ops r ⟨putD (replT k false t) o.dst (.tup []), st⟩ else stepsO X an call ops (o :: r) ⟨replT k false t, st⟩)
  | .tup [] => stepsO X an call ops r ⟨putD t o.dst (.tup []), st⟩
  | _ => none
def grdBo (X : Ctx) (an : Ann) (call : Call) (ops : Array Oper) (o : Oper) (r : List Oper) (w : Bool) (t : List (Nat × AV)) (st : Store) : Option Nat → Option S
  | some k => grdB X an call ops o r w k t st (look t k)
  | none => none
theorem grdBo_s (w : Bool) (k : Nat) : grdBo X an call ops o r w t st (some k) = grdB X an call ops o r w k t st (look t k) := rfl
theorem so_grdB (op : Op) (j : Nat) (w : Bool) : stepsO X an call ops (⟨d, op, ty, ps, af, some (j, w)⟩ :: r) ⟨t, st⟩ = grdBo X an call ops ⟨d, op, ty, ps, af, none⟩ r w t st (gdst ops j) := by
  rw [so_grd]
  cases gdst ops j with
  | none => rfl
  | some k =>
    show grdK _ _ _ _ _ _ _ _ _ (some (look t k)) = grdB _ _ _ _ _ _ _ _ _ _ (look t k)
    unfold grdB
    split
    · rename_i b h
      rw [h]
      cases b <;> cases w <;> simp only [grd_tt, grd_tf, grd_ft, grd_ff, replT_eq h] <;> rfl
    · rename_i h
      rw [h, grd_sk]
    · rename_i h1 h2
      generalize look t k = v at h1 h2 ⊢
      unfold grdK
      split
      · rename_i b e; exact absurd (Option.some.inj e) (h1 b)
      · rename_i e; exact absurd (Option.some.inj e) h2
      · rfl
theorem grdB_t (k : Nat) (v : Bool) : grdB X an call ops o r true k t st (.d (.lit (.bool v))) = br v (stepsO X an call ops (o :: r) ⟨replT k true t, st⟩) (stepsO X an call ops r ⟨putD (replT k false t) o.dst (.tup []), st⟩) := rfl
theorem grdB_f (k : Nat) (v : Bool) : grdB X an call ops o r false k t st (.d (.lit (.bool v))) = br v (stepsO X an call ops r ⟨putD (replT k true t) o.dst (.tup []), st⟩) (stepsO X an call ops (o :: r) ⟨replT k false t, st⟩) := rfl
theorem grdB_k (k : Nat) (w : Bool) : grdB X an call ops o r w k t st (.tup []) = stepsO X an call ops r ⟨putD t o.dst (.tup []), st⟩ := rfl
end
def bbK (k : TK) (r : Option AV) : Option AV := match k with | .bool => r | _ => none
theorem bb_bool (r : Option AV) : bbK .bool r = r := rfl
theorem bb_eql (P : Program) (t : TypeId) (st : Store) (a b : Bool) : binV P t .eql st (.d (.lit (.bool a))) (.d (.lit (.bool b))) = bbK (tkOf P t) (some (.d (.lit (.bool (a == b))))) := by
  show (match tkOf P t with | .bool => (binB .eql a b).map AV.d | _ => none) = _
  cases tkOf P t <;> rfl
theorem bb_neq (P : Program) (t : TypeId) (st : Store) (a b : Bool) : binV P t .neq st (.d (.lit (.bool a))) (.d (.lit (.bool b))) = bbK (tkOf P t) (some (.d (.lit (.bool (!(a == b)))))) := by
  show (match tkOf P t with | .bool => (binB .neq a b).map AV.d | _ => none) = _
  cases tkOf P t <;> rfl
theorem bq_tr (b : Bool) : (b == true) = b := by cases b <;> rfl
theorem bq_tl (b : Bool) : (true == b) = b := by cases b <;> rfl
theorem bq_fr (b : Bool) : (b == false) = !b := by cases b <;> rfl
theorem bq_fl (b : Bool) : (false == b) = !b := by cases b <;> rfl
section
variable {X : Ctx} {an : Ann} {ops : Array Oper} {r : List Oper} {t : List (Nat × AV)} {st : Store} {d : Option Nat} {ty : TypeId} {ps : String} {af : Array Edge}
def okL : Option (List Acc) → Bool
  | some r => apartL r
  | none => false
theorem okL_s (r : List Acc) : okL (some r) = apartL r := rfl
theorem tok_eq (l : List Oper) (s : S) : tailOk X an ops l s = okL (tailA X an ops l s) := by
  unfold tailOk okL
  cases tailA X an ops l s <;> rfl
def tK (X : Ctx) (an : Ann) (ops : Array Oper) (r : List Oper) : Option Acc → Option S → Option (List Acc)
  | some a, some s' => (tailA X an ops r s').map (a :: ·)
  | _, _ => none
theorem tK_s (a : Acc) (s : S) : tK X an ops r (some a) (some s) = (tailA X an ops r s).map (a :: ·) := rfl
theorem tA_nil (s : S) : tailA X an ops [] s = some [] := rfl
theorem so_one (call : Call) (o : Oper) (s : S) : stepsO X an call ops [o] s = stepO X an call ops o s := by
  show (stepO X an call ops o s).bind _ = _
  cases stepO X an call ops o s <;> rfl
theorem tA_cons (o : Oper) (s : S) : tailA X an ops (o :: r) s = tK X an ops r (accO X an o s) (stepsO X an noCall ops [o] s) := by
  rw [tailA, so_one]
  cases accO X an o s <;> cases stepO X an noCall ops o s <;> rfl
def accW : AV → Option Acc
  | .ptr loc _ _ _ => some (.at loc true)
  | _ => none
def accR : AV → Option Acc
  | .ptr loc _ _ _ => some (.at loc false)
  | .eptr _ _ => some .no
  | _ => none
theorem accW_p (a b c e : Nat) : accW (.ptr a b c e) = some (.at a true) := rfl
theorem accR_p (a b c e : Nat) : accR (.ptr a b c e) = some (.at a false) := rfl
theorem accR_e (x : D) (a : Nat) : accR (.eptr x a) = some .no := rfl
theorem ao_store (ty' : TypeId) (a v : Operand) : accO X an ⟨d, .store ty' a v, ty, ps, af, none⟩ ⟨t, st⟩ = accW (opv t a).unt := by
  show (match (opv t a).unt with | .ptr loc _ _ _ => some (Acc.at loc true) | _ => none) = _
  cases (opv t a).unt <;> rfl
theorem ao_load (ty' : TypeId) (a : Operand) : accO X an ⟨d, .load ty' a, ty, ps, af, none⟩ ⟨t, st⟩ = accR (opv t a).unt := by
  show (match (opv t a).unt with | .ptr loc _ _ _ => some (Acc.at loc false) | .eptr _ _ => some .no | _ => none) = _
  cases (opv t a).unt <;> rfl
def accI : AV → AV → Option Acc
  | .d (.lit (.int _ _)), .d (.lit (.int _ _)) => some .no
  | _, _ => none
theorem accI_i (k k' : IntKind) (a b : Int) : accI (.d (.lit (.int k a))) (.d (.lit (.int k' b))) = some .no := rfl
theorem ao_bin (op : BinOp) (ty' u : TypeId) (x y : Operand) : accO X an ⟨d, .binOp op ty' x y u, ty, ps, af, none⟩ ⟨t, st⟩ = accI (opv t x) (opv t y) := by
  show (match opv t x, opv t y with | .d (.lit (.int _ _)), .d (.lit (.int _ _)) => some Acc.no | _, _ => none) = _
  rfl
theorem ao_callf (f : FuncId) (args : Array Operand) (tys : Array TypeId) (s : S) : accO X an ⟨d, .call ⟨.value (.func f), args, tys⟩, ty, ps, af, none⟩ s = bif X.pure f && (X.prim f).isSome then some .all else none := rfl
theorem ao_move (x : Operand) (s : S) : accO X an ⟨d, .move x, ty, ps, af, none⟩ s = some .no := rfl
theorem ao_assign (x : Operand) (s : S) : accO X an ⟨d, .assign x, ty, ps, af, none⟩ s = bif !(flagOf an.virt d) then some .no else none := rfl
theorem ao_pick (a b c : Operand) (s : S) : accO X an ⟨d, .pick a b c, ty, ps, af, none⟩ s = some .no := rfl
theorem ao_field (ty' : TypeId) (x : Operand) (f : Nat) (s : S) : accO X an ⟨d, .fieldAddr ty' x f, ty, ps, af, none⟩ s = some .no := rfl
theorem ao_un (op : UnOp) (ty' : TypeId) (x : Operand) (s : S) : accO X an ⟨d, .unOp op ty' x, ty, ps, af, none⟩ s = some .no := rfl
theorem ao_ext (x : Operand) (k : Nat) (s : S) : accO X an ⟨d, .extract x k, ty, ps, af, none⟩ s = some .no := rfl
theorem ao_nil (x : Operand) (s : S) : accO X an ⟨d, .nilCheck x, ty, ps, af, none⟩ s = some .no := rfl
theorem ao_ixa (ty' : TypeId) (x i : Operand) (s : S) : accO X an ⟨d, .indexAddr ty' x i, ty, ps, af, none⟩ s = some .no := rfl
theorem ao_ix (ty' : TypeId) (x i : Operand) (s : S) : accO X an ⟨d, .index ty' x i, ty, ps, af, none⟩ s = some .no := rfl
theorem ao_len (args : Array Operand) (tys : Array TypeId) (s : S) : accO X an ⟨d, .call ⟨.builtin .len, args, tys⟩, ty, ps, af, none⟩ s = some .no := rfl
theorem ao_max (args : Array Operand) (tys : Array TypeId) (s : S) : accO X an ⟨d, .call ⟨.builtin .max, args, tys⟩, ty, ps, af, none⟩ s = some .no := rfl
theorem ao_min (args : Array Operand) (tys : Array TypeId) (s : S) : accO X an ⟨d, .call ⟨.builtin .min, args, tys⟩, ty, ps, af, none⟩ s = some .no := rfl
end
theorem rep_1 {α : Type} (a : α) : List.replicate 1 a = [a] := rfl
theorem rep_0 {α : Type} (a : α) : List.replicate 0 a = [] := rfl
attribute [go_sem] accI_i ao_bin okL_s tok_eq tK_s tA_nil tA_cons accW_p accR_p accR_e ao_store ao_load ao_callf ao_move ao_assign ao_pick ao_field ao_un ao_ext ao_nil ao_ixa ao_ix ao_len ao_max ao_min apartL apart1 List.all_cons List.all_nil rep_1 rep_0
theorem strMost_eq : strMost = 1152921504606846976 := rfl
attribute [go_sem] replT condB_br grdBo_s grdB_t grdB_f grdB_k br_t br_f bb_bool bb_eql bb_neq bq_tr bq_tl bq_fr bq_fl Bool.not_not strMost_eq
end Go.Eng
namespace Go.L25
open Go Go.Eng Go.Proofs
open Nat (reduceShiftRight reduceAnd reduceEqDiff reduceLeDiff)
open Int (reduceToNat)
def Bs : Type := { l : List UInt8 // l.length ≤ 2 ^ 30 }
def bs (s : Bs) : List UInt8 := s.1
theorem bs_le (s : Bs) : (bs s).length ≤ 2 ^ 30 := s.2
def encS (s : Bs) : D := .str (bs s)
inductive F where
  | mk (kind : Int) (name value ini : Bs) (any : List Bs) (fin : Bs) (hi hf : Bool) (rule : Bs) (dn : Bool) (kids : List F)
inductive OkF : F → Prop where
  | mk {k n v i a e hi hf r d kids} (ha : a.length ≤ 2 ^ 28) (hk : kids.length ≤ 2 ^ 30) (all : ∀ f ∈ kids, OkF f) : OkF (.mk k n v i a e hi hf r d kids)
theorem OkF.kids {k n v i a e hi hf r d kids} (h : OkF (.mk k n v i a e hi hf r d kids)) : kids.length ≤ 2 ^ 30 ∧ ∀ (j : Nat) (hj : j < kids.length), OkF kids[j] := by
  cases h with | mk ha hk all => exact ⟨hk, fun j hj => all _ (List.getElem_mem hj)⟩
theorem OkF.mem {k n v i a e hi hf r d kids} (h : OkF (.mk k n v i a e hi hf r d kids)) {f : F} (hf : f ∈ kids) : OkF f := by
  cases h with | mk ha hk all => exact all _ hf
mutual
def encF : F → D
  | .mk k n v i a e hi hf r d kids => .agg [.lit (.int .i64 k), .str (bs n), .str (bs v), .str (bs i), .sl (a.map encS), .str (bs e), .lit (.bool hi), .lit (.bool hf), .str (bs r), .lit (.bool d), .sl (encFs kids)]
def encFs : List F → List D
  | [] => []
  | f :: r => encF f :: encFs r
end
theorem encFs_map : ∀ l : List F, encFs l = l.map encF
  | [] => by rw [encFs]; rfl
  | f :: r => by rw [encFs, encFs_map r]; rfl
def Fo : Type := { f : F // OkF f }
def kind : Fo → Int | ⟨.mk k _ _ _ _ _ _ _ _ _ _, _⟩ => k
def name : Fo → Bs | ⟨.mk _ n _ _ _ _ _ _ _ _ _, _⟩ => n
def value : Fo → Bs | ⟨.mk _ _ v _ _ _ _ _ _ _ _, _⟩ => v
def ini : Fo → Bs | ⟨.mk _ _ _ i _ _ _ _ _ _ _, _⟩ => i
def any : Fo → List Bs | ⟨.mk _ _ _ _ a _ _ _ _ _ _, _⟩ => a
def fin : Fo → Bs | ⟨.mk _ _ _ _ _ e _ _ _ _ _, _⟩ => e
def hi : Fo → Bool | ⟨.mk _ _ _ _ _ _ h _ _ _ _, _⟩ => h
def hf : Fo → Bool | ⟨.mk _ _ _ _ _ _ _ h _ _ _, _⟩ => h
def rule : Fo → Bs | ⟨.mk _ _ _ _ _ _ _ _ r _ _, _⟩ => r
def dn : Fo → Bool | ⟨.mk _ _ _ _ _ _ _ _ _ d _, _⟩ => d
def kids : Fo → List Fo | ⟨.mk _ _ _ _ _ _ _ _ _ _ ks, h⟩ => ks.attach.map fun ⟨k, hk⟩ => ⟨k, h.mem hk⟩
def encO (f : Fo) : D := encF f.1
theorem encO_eq (f : Fo) : encO f = (.agg [.lit (.int .i64 (kind f)), .str (bs (name f)), .str (bs (value f)), .str (bs (ini f)), .sl (List.map encS (any f)), .str (bs (fin f)), .lit (.bool (hi f)), .lit (.bool (hf f)), .str (bs (rule f)), .lit (.bool (dn f)), .sl (List.map encO (kids f))]) := by
  obtain ⟨⟨k, n, v, i, a, e, hi, hf, r, d, ks⟩, h⟩ := f
  show encF _ = _
  rw [encF, encFs_map]
  have : ks.map encF = (kids ⟨.mk k n v i a e hi hf r d ks, h⟩).map encO := by
    show _ = (ks.attach.map _).map encO
    rw [List.map_map]
    conv => lhs; rw [← List.attach_map_val (l := ks)]
    rfl
  rw [this]
  rfl
theorem any_28 (f : Fo) : (any f).length ≤ 2 ^ 28 := by
  obtain ⟨⟨k, n, v, i, a, e, hi, hf, r, d, ks⟩, h⟩ := f
  cases h with | mk ha hk all => exact ha
theorem any_le (f : Fo) : (any f).length ≤ 2 ^ 30 := Nat.le_trans (any_28 f) (by decide)
theorem kids_le (f : Fo) : (kids f).length ≤ 2 ^ 30 := by
  obtain ⟨⟨k, n, v, i, a, e, hi, hf, r, d, ks⟩, h⟩ := f
  have : (kids ⟨.mk k n v i a e hi hf r d ks, h⟩).length = ks.length := (List.length_map _).trans List.length_attach
  rw [this]
  cases h with | mk ha hk all => exact hk
noncomputable def sz (f : Fo) : Nat := SizeOf.sizeOf f.1
theorem kids_lt {f g : Fo} (h : g ∈ kids f) : sz g < sz f := by
  obtain ⟨⟨k, n, v, i, a, e, hi, hf, r, d, ks⟩, ok⟩ := f
  have h' : g ∈ ks.attach.map (fun (x : { x // x ∈ ks }) => (⟨x.1, ok.mem x.2⟩ : Fo)) := h
  obtain ⟨x, -, rfl⟩ := List.mem_map.1 h'
  have := List.sizeOf_lt_of_mem x.2
  show SizeOf.sizeOf x.1 < SizeOf.sizeOf (F.mk k n v i a e hi hf r d ks)
  simp only [F.mk.sizeOf_spec]
  omega
theorem encS_eq (s : Bs) : encS s = .str (bs s) := rfl
attribute [go_sem] encO_eq encS_eq
theorem drop_cons {α : Type} {l : List α} {j : Nat} {a : α} {r : List α} (h : l.drop j = a :: r) : j < l.length ∧ l[j]? = some a ∧ l.drop (j + 1) = r ∧ a ∈ l := by
  have h1 : l[j]? = some a := by
    have := congrArg (fun x => x[0]?) h
    simpa [List.getElem?_drop] using this
  have h2 := (List.getElem?_eq_some_iff.1 h1).1
  refine ⟨h2, h1, ?_, List.mem_of_getElem? h1⟩
  have := congrArg List.tail h
  simpa using this
theorem drop_nil {α : Type} {l : List α} {j : Nat} (h : l.drop j = []) : l.length ≤ j := by simpa using h
def dep : Nat → Fo → Nat
  | 0, _ => 1
  | l + 1, f => ((kids f).map (dep l)).foldl (fun a b => if a < b then b else a) 0 + 1
theorem foldmax_le (m : Nat) : ∀ (L : List Nat) (a : Nat), a ≤ m → (∀ x ∈ L, x ≤ m) → L.foldl (fun a b => if a < b then b else a) a ≤ m
  | [], a, h, _ => h
  | x :: r, a, h, hx => foldmax_le m r _ (by have := hx x (by simp); show (if a < x then x else a) ≤ m; split <;> omega) (fun y hy => hx y (by simp [hy]))
theorem dep_le : ∀ (l : Nat) (f : Fo), dep l f ≤ l + 1
  | 0, _ => by simp [dep]
  | l + 1, f => by
    simp only [dep]
    have := foldmax_le (l + 1) ((kids f).map (dep l)) 0 (by omega) (fun x hx => by
      obtain ⟨g, _, rfl⟩ := List.mem_map.1 hx
      exact dep_le l g)
    omega
noncomputable def par (f : Fo) (n : Nat) : Nat := min ((kids f).attach.foldl (fun n k => if n ≤ 60 then par k.1 n else n) (n + 1)) 61
termination_by sz f
decreasing_by exact kids_lt k.2
noncomputable def pars (l : List Fo) (n : Nat) : Nat := l.foldl (fun n k => if n ≤ 60 then par k n else n) n
theorem par_eq (f : Fo) (n : Nat) : par f n = min (pars (kids f) (n + 1)) 61 := by
  rw [par, pars]
  congr 1
  exact List.foldl_attach (l := kids f) (f := fun n k => if n ≤ 60 then par k n else n) (b := n + 1)
theorem par_le (f : Fo) (n : Nat) : par f n ≤ 61 := by rw [par_eq]; omega
def lit (n : Int) : PR := .one (.d (.lit (.int .i64 n)))
def tf (b : Bool) : PR := .one (.d (.lit (.bool b)))
attribute [go_sem] lit tf
set_option maxRecDepth 10000
theorem t54 : ∀ (l : Nat) (f : Fo), l ≤ 100 → pureCall C 54 [(.agg [.lit (.int .i64 (kind f)), .str (bs (name f)), .str (bs (value f)), .str (bs (ini f)), .sl (List.map encS (any f)), .str (bs (fin f)), .lit (.bool (hi f)), .lit (.bool (hf f)), .str (bs (rule f)), .lit (.bool (dn f)), .sl (List.map encO (kids f))]), .lit (.int .i64 l)] = some (lit (dep l f))
  | 0, f, hl => by
    have e : dep 0 f = 1 := rfl
    have hkl := kids_le f
    rw [p54, e]
    simp -implicitDefEqProofs (disch := omega) only [go_sem, Int.reduceAdd, Int.reduceSub, Int.reduceMul, dec_t, dec_f, Nat.reduceBEq, Nat.reduceBNe, reduceShiftRight, reduceAnd, Nat.reduceAdd, Nat.reduceSub, reduceEqDiff, Nat.reduceLT, reduceLeDiff, reduceToNat, Int.reduceLT, Int.reduceLE, Int.reduceEq, reduceIte, reduceCtorEq]
    rw [r_n54_8]
    by_cases h : 0 < (kids f).length
    · simp -implicitDefEqProofs (disch := omega) only [go_sem, Int.reduceAdd, Int.reduceSub, Int.reduceMul, dec_t, dec_f, Nat.reduceBEq, Nat.reduceBNe, reduceShiftRight, reduceAnd, Nat.reduceAdd, Nat.reduceSub, reduceEqDiff, Nat.reduceLT, reduceLeDiff, reduceToNat, Int.reduceLT, Int.reduceLE, Int.reduceEq, reduceIte, reduceCtorEq]
      rfl
    · simp -implicitDefEqProofs (disch := omega) only [go_sem, Int.reduceAdd, Int.reduceSub, Int.reduceMul, dec_t, dec_f, Nat.reduceBEq, Nat.reduceBNe, reduceShiftRight, reduceAnd, Nat.reduceAdd, Nat.reduceSub, reduceEqDiff, Nat.reduceLT, reduceLeDiff, reduceToNat, Int.reduceLT, Int.reduceLE, Int.reduceEq, reduceIte, reduceCtorEq]
      rfl
  | l + 1, f, hl => by
    have hkl := kids_le f
    have key : ∀ (r : List Fo) (j b : Nat) (x y : Int), x = j → y = b → b ≤ l + 1 → (kids f).drop j = r →
        ∃ x', n54_8 ⟨[(1, .d (.lit (.int .i64 (l + 1 : Nat)))), (2, .ptr 0 1 0 0), (5, .d (.lit (.int .i64 y))), (6, .d (.lit (.int .i64 x)))], [⟨11, [.d (.agg [.lit (.int .i64 (kind f)), .str (bs (name f)), .str (bs (value f)), .str (bs (ini f)), .sl (List.map encS (any f)), .str (bs (fin f)), .lit (.bool (hi f)), .lit (.bool (hf f)), .str (bs (rule f)), .lit (.bool (dn f)), .sl (List.map encO (kids f))])], false, false, false⟩]⟩ =
          some (.exit 0, ⟨[(1, .d (.lit (.int .i64 (l + 1 : Nat)))), (2, .ptr 0 1 0 0), (5, .d (.lit (.int .i64 ((r.map (dep l)).foldl (fun a b => if a < b then b else a) b : Nat)))), (6, x'), (15, .d (.lit (.bool false)))], [⟨11, [.d (.agg [.lit (.int .i64 (kind f)), .str (bs (name f)), .str (bs (value f)), .str (bs (ini f)), .sl (List.map encS (any f)), .str (bs (fin f)), .lit (.bool (hi f)), .lit (.bool (hf f)), .str (bs (rule f)), .lit (.bool (dn f)), .sl (List.map encO (kids f))])], false, false, false⟩]⟩) := by
      intro r
      induction r with
      | nil =>
        intro j b x y hx hy hb hd
        have hd := drop_nil hd
        refine ⟨.d (.lit (.int .i64 x)), ?_⟩
        simp only [List.map_nil, List.foldl_nil]
        subst hy
        rw [r_n54_8]
        simp -implicitDefEqProofs (disch := omega) only [go_sem, Int.reduceAdd, Int.reduceSub, Int.reduceMul, dec_t, dec_f, Nat.reduceBEq, Nat.reduceBNe, reduceShiftRight, reduceAnd, Nat.reduceAdd, Nat.reduceSub, reduceEqDiff, Nat.reduceLT, reduceLeDiff, reduceToNat, Int.reduceLT, Int.reduceLE, Int.reduceEq, reduceIte, reduceCtorEq]
      | cons g r ih =>
        intro j b x y hx hy hb hd
        obtain ⟨g1, g2, g3, g4⟩ := drop_cons hd
        have hnat : Int.toNat x = j := by omega
        have hc := t54 l g (by omega)
        have hd' := dep_le l g
        have hw : ((l + 1 : Nat) : Int) - 1 = l := by omega
        rw [List.map_cons, List.foldl_cons]
        by_cases hq : b < dep l g
        · rw [if_pos hq]
          obtain ⟨x', h⟩ := ih (j + 1) (dep l g) (x + 1) (dep l g : Nat) (by omega) rfl (by omega) g3
          refine ⟨x', ?_⟩
          rw [r_n54_8]
          generalize List.foldl _ (dep l g) _ = w at h ⊢
          simp -implicitDefEqProofs (disch := omega) only [go_sem, Int.reduceAdd, Int.reduceSub, Int.reduceMul, dec_t, dec_f, Nat.reduceBEq, Nat.reduceBNe, reduceShiftRight, reduceAnd, Nat.reduceAdd, Nat.reduceSub, reduceEqDiff, Nat.reduceLT, reduceLeDiff, reduceToNat, Int.reduceLT, Int.reduceLE, Int.reduceEq, reduceIte, reduceCtorEq, g2, hnat, hw, hc, lit, h]
        · rw [if_neg hq]
          obtain ⟨x', h⟩ := ih (j + 1) b (x + 1) y (by omega) hy (by omega) g3
          refine ⟨x', ?_⟩
          rw [r_n54_8]
          generalize List.foldl _ b _ = w at h ⊢
          simp -implicitDefEqProofs (disch := omega) only [go_sem, Int.reduceAdd, Int.reduceSub, Int.reduceMul, dec_t, dec_f, Nat.reduceBEq, Nat.reduceBNe, reduceShiftRight, reduceAnd, Nat.reduceAdd, Nat.reduceSub, reduceEqDiff, Nat.reduceLT, reduceLeDiff, reduceToNat, Int.reduceLT, Int.reduceLE, Int.reduceEq, reduceIte, reduceCtorEq, g2, hnat, hw, hc, lit, h]
    obtain ⟨x', h⟩ := key (kids f) 0 0 0 0 rfl rfl (by omega) rfl
    have hle := dep_le (l + 1) f
    rw [p54]
    simp only [dep] at hle ⊢
    generalize List.foldl _ 0 _ = w at h hle ⊢
    simp -implicitDefEqProofs (disch := omega) only [go_sem, Int.reduceAdd, Int.reduceSub, Int.reduceMul, dec_t, dec_f, Nat.reduceBEq, Nat.reduceBNe, reduceShiftRight, reduceAnd, Nat.reduceAdd, Nat.reduceSub, reduceEqDiff, Nat.reduceLT, reduceLeDiff, reduceToNat, Int.reduceLT, Int.reduceLE, Int.reduceEq, reduceIte, reduceCtorEq, h]
    (first | done | rfl)
theorem t34 (f : Fo) : pureCall C 34 [(.agg [.lit (.int .i64 (kind f)), .str (bs (name f)), .str (bs (value f)), .str (bs (ini f)), .sl (List.map encS (any f)), .str (bs (fin f)), .lit (.bool (hi f)), .lit (.bool (hf f)), .str (bs (rule f)), .lit (.bool (dn f)), .sl (List.map encO (kids f))])] = some (lit (dep 8 f)) := by
  have h : pureCall C 54 [(.agg [.lit (.int .i64 (kind f)), .str (bs (name f)), .str (bs (value f)), .str (bs (ini f)), .sl (List.map encS (any f)), .str (bs (fin f)), .lit (.bool (hi f)), .lit (.bool (hf f)), .str (bs (rule f)), .lit (.bool (dn f)), .sl (List.map encO (kids f))]), .lit (.int .i64 8)] = some (lit (dep 8 f)) := t54 8 f (by omega)
  rw [p34]
  simp -implicitDefEqProofs (disch := omega) only [go_sem, Int.reduceAdd, Int.reduceSub, Int.reduceMul, dec_t, dec_f, Nat.reduceBEq, Nat.reduceBNe, reduceShiftRight, reduceAnd, Nat.reduceAdd, Nat.reduceSub, reduceEqDiff, Nat.reduceLT, reduceLeDiff, reduceToNat, Int.reduceLT, Int.reduceLE, Int.reduceEq, reduceIte, reduceCtorEq, h, lit]
theorem t55 (f : Fo) (q : Nat) (hq : q ≤ 61) : pureCall C 55 [(.agg [.lit (.int .i64 (kind f)), .str (bs (name f)), .str (bs (value f)), .str (bs (ini f)), .sl (List.map encS (any f)), .str (bs (fin f)), .lit (.bool (hi f)), .lit (.bool (hf f)), .str (bs (rule f)), .lit (.bool (dn f)), .sl (List.map encO (kids f))]), .lit (.int .i64 q)] = some (lit (par f q)) := by
  have IH : ∀ g ∈ kids f, ∀ q : Nat, q ≤ 61 → pureCall C 55 [(.agg [.lit (.int .i64 (kind g)), .str (bs (name g)), .str (bs (value g)), .str (bs (ini g)), .sl (List.map encS (any g)), .str (bs (fin g)), .lit (.bool (hi g)), .lit (.bool (hf g)), .str (bs (rule g)), .lit (.bool (dn g)), .sl (List.map encO (kids g))]), .lit (.int .i64 q)] = some (lit (par g q)) := fun g hg q hq => t55 g q hq
  have hkl := kids_le f
  have key : ∀ (r : List Fo) (j m : Nat) (x y : Int), x = j → y = m → (kids f).drop j = r → m ≤ 62 →
      ∃ x', n55_8 ⟨[(1, .d (.lit (.int .i64 y))), (2, .ptr 0 1 0 0), (5, .d (.lit (.int .i64 x)))], [⟨11, [.d (.agg [.lit (.int .i64 (kind f)), .str (bs (name f)), .str (bs (value f)), .str (bs (ini f)), .sl (List.map encS (any f)), .str (bs (fin f)), .lit (.bool (hi f)), .lit (.bool (hf f)), .str (bs (rule f)), .lit (.bool (dn f)), .sl (List.map encO (kids f))])], false, false, false⟩]⟩ =
        some (.exit 0, ⟨[(1, .d (.lit (.int .i64 (pars r m)))), (2, .ptr 0 1 0 0), (5, x'), (16, .d (.lit (.bool false)))], [⟨11, [.d (.agg [.lit (.int .i64 (kind f)), .str (bs (name f)), .str (bs (value f)), .str (bs (ini f)), .sl (List.map encS (any f)), .str (bs (fin f)), .lit (.bool (hi f)), .lit (.bool (hf f)), .str (bs (rule f)), .lit (.bool (dn f)), .sl (List.map encO (kids f))])], false, false, false⟩]⟩) := by
    intro r
    induction r with
    | nil =>
      intro j m x y hx hy hd hm
      have hd := drop_nil hd
      refine ⟨.d (.lit (.int .i64 x)), ?_⟩
      rw [show pars [] m = m from rfl]
      subst hy
      rw [r_n55_8]
      simp -implicitDefEqProofs (disch := omega) only [go_sem, Int.reduceAdd, Int.reduceSub, Int.reduceMul, dec_t, dec_f, Nat.reduceBEq, Nat.reduceBNe, reduceShiftRight, reduceAnd, Nat.reduceAdd, Nat.reduceSub, reduceEqDiff, Nat.reduceLT, reduceLeDiff, reduceToNat, Int.reduceLT, Int.reduceLE, Int.reduceEq, reduceIte, reduceCtorEq]
    | cons g r ih =>
      intro j m x y hx hy hd hm
      obtain ⟨g1, g2, g3, g4⟩ := drop_cons hd
      have hnat : Int.toNat x = j := by omega
      by_cases h2 : m ≤ 60
      · have hc := IH g g4 m (by omega)
        rw [← hy] at hc
        rw [show pars (g :: r) m = pars r (par g m) by simp only [pars, List.foldl_cons, if_pos h2]]
        obtain ⟨x', h⟩ := ih (j + 1) (par g m) (x + 1) (par g m) (by omega) rfl g3 (by have := par_le g m; omega)
        refine ⟨x', ?_⟩
        rw [r_n55_8]
        simp -implicitDefEqProofs (disch := omega) only [go_sem, Int.reduceAdd, Int.reduceSub, Int.reduceMul, dec_t, dec_f, Nat.reduceBEq, Nat.reduceBNe, reduceShiftRight, reduceAnd, Nat.reduceAdd, Nat.reduceSub, reduceEqDiff, Nat.reduceLT, reduceLeDiff, reduceToNat, Int.reduceLT, Int.reduceLE, Int.reduceEq, reduceIte, reduceCtorEq, g2, hnat, hc, lit, h]
      · have e : ∀ l : List Fo, pars l m = m := by
          intro l
          induction l with
          | nil => rfl
          | cons a l ihl => simp only [pars, List.foldl_cons, if_neg h2] at ihl ⊢; exact ihl
        refine ⟨.d (.lit (.int .i64 x)), ?_⟩
        rw [e]
        subst hy
        rw [r_n55_8]
        simp -implicitDefEqProofs (disch := omega) only [go_sem, Int.reduceAdd, Int.reduceSub, Int.reduceMul, dec_t, dec_f, Nat.reduceBEq, Nat.reduceBNe, reduceShiftRight, reduceAnd, Nat.reduceAdd, Nat.reduceSub, reduceEqDiff, Nat.reduceLT, reduceLeDiff, reduceToNat, Int.reduceLT, Int.reduceLE, Int.reduceEq, reduceIte, reduceCtorEq]
        (try (simp (disch := omega) only [dec_t, dec_f, if_true, if_false]))
  obtain ⟨x', h⟩ := key (kids f) 0 (q + 1) 0 ((q : Int) + 1) rfl rfl rfl (by omega)
  rw [p55, par_eq]
  generalize pars (kids f) (q + 1) = w at h ⊢
  by_cases hb : 61 < w
  · rw [show min w 61 = 61 by omega]
    simp -implicitDefEqProofs (disch := omega) only [go_sem, Int.reduceAdd, Int.reduceSub, Int.reduceMul, dec_t, dec_f, Nat.reduceBEq, Nat.reduceBNe, reduceShiftRight, reduceAnd, Nat.reduceAdd, Nat.reduceSub, reduceEqDiff, Nat.reduceLT, reduceLeDiff, reduceToNat, Int.reduceLT, Int.reduceLE, Int.reduceEq, reduceIte, reduceCtorEq, h]
    (first | done | rfl)
  · rw [show min w 61 = w by omega]
    simp -implicitDefEqProofs (disch := omega) only [go_sem, Int.reduceAdd, Int.reduceSub, Int.reduceMul, dec_t, dec_f, Nat.reduceBEq, Nat.reduceBNe, reduceShiftRight, reduceAnd, Nat.reduceAdd, Nat.reduceSub, reduceEqDiff, Nat.reduceLT, reduceLeDiff, reduceToNat, Int.reduceLT, Int.reduceLE, Int.reduceEq, reduceIte, reduceCtorEq, h]
    (first | done | rfl)
termination_by sz f
decreasing_by exact kids_lt hg
noncomputable def cnt8 (f : Fo) : Nat := if 8 < dep 8 f then 61 else par f 0
theorem t35 (f : Fo) : pureCall C 35 [(.agg [.lit (.int .i64 (kind f)), .str (bs (name f)), .str (bs (value f)), .str (bs (ini f)), .sl (List.map encS (any f)), .str (bs (fin f)), .lit (.bool (hi f)), .lit (.bool (hf f)), .str (bs (rule f)), .lit (.bool (dn f)), .sl (List.map encO (kids f))])] = some (lit (cnt8 f)) := by
  have h1 := t34 f
  have h2 : pureCall C 55 [(.agg [.lit (.int .i64 (kind f)), .str (bs (name f)), .str (bs (value f)), .str (bs (ini f)), .sl (List.map encS (any f)), .str (bs (fin f)), .lit (.bool (hi f)), .lit (.bool (hf f)), .str (bs (rule f)), .lit (.bool (dn f)), .sl (List.map encO (kids f))]), .lit (.int .i64 0)] = some (.one (.d (.lit (.int .i64 (par f 0))))) := t55 f 0 (by omega)
  rw [p35]
  by_cases hd : 8 < dep 8 f
  · rw [show cnt8 f = 61 from if_pos hd]
    simp -implicitDefEqProofs (disch := omega) only [go_sem, Int.reduceAdd, Int.reduceSub, Int.reduceMul, dec_t, dec_f, Nat.reduceBEq, Nat.reduceBNe, reduceShiftRight, reduceAnd, Nat.reduceAdd, Nat.reduceSub, reduceEqDiff, Nat.reduceLT, reduceLeDiff, reduceToNat, Int.reduceLT, Int.reduceLE, Int.reduceEq, reduceIte, reduceCtorEq, h1, lit]
    (first | done | rfl)
  · rw [show cnt8 f = par f 0 from if_neg hd]
    simp -implicitDefEqProofs (disch := omega) only [go_sem, Int.reduceAdd, Int.reduceSub, Int.reduceMul, dec_t, dec_f, Nat.reduceBEq, Nat.reduceBNe, reduceShiftRight, reduceAnd, Nat.reduceAdd, Nat.reduceSub, reduceEqDiff, Nat.reduceLT, reduceLeDiff, reduceToNat, Int.reduceLT, Int.reduceLE, Int.reduceEq, reduceIte, reduceCtorEq, h1, lit, h2]
set_option maxRecDepth 10000
set_option maxHeartbeats 4000000
def small (c : UInt8) : Bool := 97 ≤ c.toNat && c.toNat ≤ 122
theorem t92 (c : UInt8) : pureCall C 92 [.lit (.int .u8 c.toNat)] = some (tf (small c)) := by
  rw [p92]
  generalize hs : small c = s
  unfold small at hs
  by_cases h1 : 97 ≤ c.toNat
  · by_cases h2 : c.toNat ≤ 122
    · simp only [h1, h2, decide_true, Bool.and_true] at hs
      subst hs
      simp -implicitDefEqProofs (disch := omega) only [go_sem, Int.reduceAdd, Int.reduceSub, Int.reduceMul, dec_t, dec_f, Nat.reduceBEq, Nat.reduceBNe, reduceShiftRight, reduceAnd, Nat.reduceAdd, Nat.reduceSub, reduceEqDiff, Nat.reduceLT, reduceLeDiff, reduceToNat, Int.reduceLT, Int.reduceLE, Int.reduceEq, reduceIte, reduceCtorEq]
    · simp only [h1, h2, decide_true, decide_false, Bool.and_false] at hs
      subst hs
      simp -implicitDefEqProofs (disch := omega) only [go_sem, Int.reduceAdd, Int.reduceSub, Int.reduceMul, dec_t, dec_f, Nat.reduceBEq, Nat.reduceBNe, reduceShiftRight, reduceAnd, Nat.reduceAdd, Nat.reduceSub, reduceEqDiff, Nat.reduceLT, reduceLeDiff, reduceToNat, Int.reduceLT, Int.reduceLE, Int.reduceEq, reduceIte, reduceCtorEq]
  · simp only [h1, decide_false, Bool.false_and] at hs
    subst hs
    simp -implicitDefEqProofs (disch := omega) only [go_sem, Int.reduceAdd, Int.reduceSub, Int.reduceMul, dec_t, dec_f, Nat.reduceBEq, Nat.reduceBNe, reduceShiftRight, reduceAnd, Nat.reduceAdd, Nat.reduceSub, reduceEqDiff, Nat.reduceLT, reduceLeDiff, reduceToNat, Int.reduceLT, Int.reduceLE, Int.reduceEq, reduceIte, reduceCtorEq]
theorem e_le (s : Bs) : (bs s).length ≤ 2 ^ 30 := bs_le s
def wordC (c : UInt8) : Bool := small c || (48 ≤ c.toNat && c.toNat ≤ 57) || c.toNat == 45
def word (s : List UInt8) : Bool := match s with
  | [] => false
  | c :: r => decide (r.length ≤ 15) && small c && r.all wordC
theorem beq_nil : ∀ s : List UInt8, List.beq s [] = decide (s = [])
  | [] => rfl
  | c :: r => by simp [List.beq]
theorem t75 (s : Bs) : pureCall C 75 [.str (bs s)] = some (tf (word (bs s))) := by
  rw [p75]
  have hlen := bs_le s
  generalize bs s = l at hlen ⊢
  match l, hlen with
  | [], _ => (rw [show word [] = false from rfl]; simp -implicitDefEqProofs (disch := omega) only [go_sem, Int.reduceAdd, Int.reduceSub, Int.reduceMul, dec_t, dec_f, Nat.reduceBEq, Nat.reduceBNe, reduceShiftRight, reduceAnd, Nat.reduceAdd, Nat.reduceSub, reduceEqDiff, Nat.reduceLT, reduceLeDiff, reduceToNat, Int.reduceLT, Int.reduceLE, Int.reduceEq, reduceIte, reduceCtorEq])
  | c :: r, hlen =>
    have hc := t92 c
    simp only [List.length_cons] at hlen
    generalize hw : word (c :: r) = w
    unfold word at hw
    by_cases h1 : r.length ≤ 15
    · cases h2 : small c with
      | false =>
        rw [h2] at hc
        simp only [h2, Bool.and_false, Bool.false_and] at hw
        subst hw
        simp -implicitDefEqProofs (disch := omega) only [go_sem, Int.reduceAdd, Int.reduceSub, Int.reduceMul, dec_t, dec_f, Nat.reduceBEq, Nat.reduceBNe, reduceShiftRight, reduceAnd, Nat.reduceAdd, Nat.reduceSub, reduceEqDiff, Nat.reduceLT, reduceLeDiff, reduceToNat, Int.reduceLT, Int.reduceLE, Int.reduceEq, reduceIte, reduceCtorEq, hc]
      | true =>
        rw [h2] at hc
        simp only [h1, h2, decide_true, Bool.true_and] at hw
        have key : ∀ (r' : List UInt8) (j : Nat) (x : Int), x = j → (c :: r).drop j = r' → 1 ≤ j →
            ∃ x', n75_14 ⟨[(0, .d (.str (c :: r))), (3, .d (.lit (.int .i64 x)))], []⟩ =
              some (if r'.all wordC then (.exit 0, ⟨[(0, .d (.str (c :: r))), (3, x'), (21, .d (.lit (.bool false)))], []⟩) else (.ret, ⟨[(2, .d (.lit (.bool false)))], []⟩)) := by
          intro r'
          induction r' with
          | nil =>
            intro j x hx hd hj
            have hd := drop_nil hd
            refine ⟨.d (.lit (.int .i64 x)), ?_⟩
            rw [r_n75_14]
            simp only [List.length_cons] at hd
            simp -implicitDefEqProofs (disch := omega) only [go_sem, Int.reduceAdd, Int.reduceSub, Int.reduceMul, dec_t, dec_f, Nat.reduceBEq, Nat.reduceBNe, reduceShiftRight, reduceAnd, Nat.reduceAdd, Nat.reduceSub, reduceEqDiff, Nat.reduceLT, reduceLeDiff, reduceToNat, Int.reduceLT, Int.reduceLE, Int.reduceEq, reduceIte, reduceCtorEq]
            (first | done | rfl)
          | cons c' r' ih =>
            intro j x hx hd hj
            obtain ⟨g1, g2, g3, -⟩ := drop_cons hd
            simp only [List.length_cons] at g1
            have hc' := t92 c'
            have hnat : Int.toNat x = j := by omega
            obtain ⟨x', h⟩ := ih (j + 1) (x + 1) (by omega) g3 (by omega)
            cases hs : wordC c' with
            | false =>
              rw [show (c' :: r').all wordC = false by simp [hs]]
              unfold wordC at hs
              simp only [Bool.or_eq_false_iff, Bool.and_eq_false_iff, decide_eq_false_iff_not, beq_eq_false_iff_ne] at hs
              obtain ⟨⟨q1, q2⟩, q3⟩ := hs
              rw [q1] at hc'
              refine ⟨.undef, ?_⟩
              rw [r_n75_14]
              simp -implicitDefEqProofs (disch := omega) only [go_sem, Int.reduceAdd, Int.reduceSub, Int.reduceMul, dec_t, dec_f, Nat.reduceBEq, Nat.reduceBNe, reduceShiftRight, reduceAnd, Nat.reduceAdd, Nat.reduceSub, reduceEqDiff, Nat.reduceLT, reduceLeDiff, reduceToNat, Int.reduceLT, Int.reduceLE, Int.reduceEq, reduceIte, reduceCtorEq]
              rcases Nat.lt_or_ge c'.toNat 48 with p1 | p1 <;> rcases Nat.lt_or_ge 57 c'.toNat with p2 | p2 <;> first | omega | (simp -implicitDefEqProofs (disch := omega) only [go_sem, Int.reduceAdd, Int.reduceSub, Int.reduceMul, dec_t, dec_f, Nat.reduceBEq, Nat.reduceBNe, reduceShiftRight, reduceAnd, Nat.reduceAdd, Nat.reduceSub, reduceEqDiff, Nat.reduceLT, reduceLeDiff, reduceToNat, Int.reduceLT, Int.reduceLE, Int.reduceEq, reduceIte, reduceCtorEq, hc', g2, hnat]); try rfl
            | true =>
              refine ⟨x', ?_⟩
              rw [r_n75_14]
              rw [show (c' :: r').all wordC = r'.all wordC by simp [hs]]
              unfold wordC at hs
              simp only [Bool.or_eq_true, Bool.and_eq_true, decide_eq_true_eq, beq_iff_eq] at hs
              simp -implicitDefEqProofs (disch := omega) only [go_sem, Int.reduceAdd, Int.reduceSub, Int.reduceMul, dec_t, dec_f, Nat.reduceBEq, Nat.reduceBNe, reduceShiftRight, reduceAnd, Nat.reduceAdd, Nat.reduceSub, reduceEqDiff, Nat.reduceLT, reduceLeDiff, reduceToNat, Int.reduceLT, Int.reduceLE, Int.reduceEq, reduceIte, reduceCtorEq]
              cases q1 : small c' with
              | true =>
                rw [q1] at hc'
                simp -implicitDefEqProofs (disch := omega) only [go_sem, Int.reduceAdd, Int.reduceSub, Int.reduceMul, dec_t, dec_f, Nat.reduceBEq, Nat.reduceBNe, reduceShiftRight, reduceAnd, Nat.reduceAdd, Nat.reduceSub, reduceEqDiff, Nat.reduceLT, reduceLeDiff, reduceToNat, Int.reduceLT, Int.reduceLE, Int.reduceEq, reduceIte, reduceCtorEq, hc', g2, hnat, h]
              | false =>
                rw [q1] at hc' hs
                simp only [Bool.false_eq_true, false_or] at hs
                rcases Nat.lt_or_ge c'.toNat 48 with p1 | p1 <;> rcases Nat.lt_or_ge 57 c'.toNat with p2 | p2 <;> rcases Decidable.em (c'.toNat = 45) with p3 | p3 <;> first | omega | (simp -implicitDefEqProofs (disch := omega) only [go_sem, Int.reduceAdd, Int.reduceSub, Int.reduceMul, dec_t, dec_f, Nat.reduceBEq, Nat.reduceBNe, reduceShiftRight, reduceAnd, Nat.reduceAdd, Nat.reduceSub, reduceEqDiff, Nat.reduceLT, reduceLeDiff, reduceToNat, Int.reduceLT, Int.reduceLE, Int.reduceEq, reduceIte, reduceCtorEq, hc', g2, hnat]) <;> simp only [h]
        obtain ⟨x', h⟩ := key r 1 1 rfl rfl (by omega)
        simp -implicitDefEqProofs (disch := omega) only [go_sem, Int.reduceAdd, Int.reduceSub, Int.reduceMul, dec_t, dec_f, Nat.reduceBEq, Nat.reduceBNe, reduceShiftRight, reduceAnd, Nat.reduceAdd, Nat.reduceSub, reduceEqDiff, Nat.reduceLT, reduceLeDiff, reduceToNat, Int.reduceLT, Int.reduceLE, Int.reduceEq, reduceIte, reduceCtorEq, hc, h]
        cases hr : r.all wordC with
        | true =>
          rw [hr] at hw
          subst hw
          simp -implicitDefEqProofs (disch := omega) only [go_sem, Int.reduceAdd, Int.reduceSub, Int.reduceMul, dec_t, dec_f, Nat.reduceBEq, Nat.reduceBNe, reduceShiftRight, reduceAnd, Nat.reduceAdd, Nat.reduceSub, reduceEqDiff, Nat.reduceLT, reduceLeDiff, reduceToNat, Int.reduceLT, Int.reduceLE, Int.reduceEq, reduceIte, reduceCtorEq]
        | false =>
          rw [hr] at hw
          subst hw
          simp -implicitDefEqProofs (disch := omega) only [go_sem, Int.reduceAdd, Int.reduceSub, Int.reduceMul, dec_t, dec_f, Nat.reduceBEq, Nat.reduceBNe, reduceShiftRight, reduceAnd, Nat.reduceAdd, Nat.reduceSub, reduceEqDiff, Nat.reduceLT, reduceLeDiff, reduceToNat, Int.reduceLT, Int.reduceLE, Int.reduceEq, reduceIte, reduceCtorEq]
    · simp only [h1, decide_false, Bool.false_and] at hw
      subst hw
      simp -implicitDefEqProofs (disch := omega) only [go_sem, Int.reduceAdd, Int.reduceSub, Int.reduceMul, dec_t, dec_f, Nat.reduceBEq, Nat.reduceBNe, reduceShiftRight, reduceAnd, Nat.reduceAdd, Nat.reduceSub, reduceEqDiff, Nat.reduceLT, reduceLeDiff, reduceToNat, Int.reduceLT, Int.reduceLE, Int.reduceEq, reduceIte, reduceCtorEq]
set_option maxRecDepth 10000
set_option maxHeartbeats 4000000
def fnd {α : Type} (p : α → Bool) : List α → Nat → Int
  | [], _ => -1
  | a :: r, j => if p a then (j : Int) else fnd p r (j + 1)
def fndO {α : Type} (p : α → Bool) : List α → Nat → Option Nat
  | [], _ => none
  | a :: r, j => if p a then some j else fndO p r (j + 1)
def ofO : Option Nat → Int
  | none => -1
  | some q => q
theorem fnd_O {α : Type} (p : α → Bool) : ∀ (l : List α) (j : Nat), fnd p l j = ofO (fndO p l j)
  | [], _ => rfl
  | a :: r, j => by
    simp only [fnd, fndO]
    split
    · rfl
    · exact fnd_O p r (j + 1)
theorem fnd_any {α : Type} (p : α → Bool) : ∀ (l : List α) (j : Nat), l.any p = decide (0 ≤ fnd p l j)
  | [], _ => rfl
  | a :: r, j => by
    by_cases h : p a = true
    · have e : fnd p (a :: r) j = (j : Int) := by simp only [fnd]; rw [if_pos h]
      simp only [e, List.any_cons, h]; simp
    · have e : fnd p (a :: r) j = fnd p r (j + 1) := by simp only [fnd]; rw [if_neg h]
      simp only [e, List.any_cons, h, ← fnd_any p r (j + 1)]; simp
theorem t94 (s : Bs) : pureCall C 94 [.str (bs s)] = some (tf (decide (400 < (bs s).length))) := by
  have := bs_le s
  rw [p94]
  by_cases h : 400 < (bs s).length
  · rw [show decide (400 < (bs s).length) = true by simpa using h]
    simp -implicitDefEqProofs (maxSteps := 10000000) (disch := omega) only [go_sem, Int.reduceAdd, Int.reduceSub, Int.reduceMul, dec_t, dec_f, Nat.reduceBEq, Nat.reduceBNe, reduceShiftRight, reduceAnd, Nat.reduceAdd, Nat.reduceSub, reduceEqDiff, Nat.reduceLT, reduceLeDiff, reduceToNat, Int.reduceLT, Int.reduceLE, Int.reduceEq, reduceIte, reduceCtorEq]
  · rw [show decide (400 < (bs s).length) = false by simpa using h]
    simp -implicitDefEqProofs (maxSteps := 10000000) (disch := omega) only [go_sem, Int.reduceAdd, Int.reduceSub, Int.reduceMul, dec_t, dec_f, Nat.reduceBEq, Nat.reduceBNe, reduceShiftRight, reduceAnd, Nat.reduceAdd, Nat.reduceSub, reduceEqDiff, Nat.reduceLT, reduceLeDiff, reduceToNat, Int.reduceLT, Int.reduceLE, Int.reduceEq, reduceIte, reduceCtorEq]
theorem t98 (t : List UInt8) (l : List Bs) (hl : l.length ≤ 2 ^ 30) : pureCall C 98 [.sl (l.map encS), .str t] = some (lit (fnd (fun s => List.beq t (bs s)) l 0)) := by
  have key : ∀ (r' : List Bs) (j : Nat) (x : Int), x = j → l.drop j = r' →
      ∃ x', n98_6 ⟨[(0, .d (.sl (l.map encS))), (1, .d (.str t)), (7, .d (.lit (.int .i64 l.length))), (8, .d (.lit (.int .i64 x)))], []⟩ =
        some (match fndO (fun s => List.beq t (bs s)) r' j with
          | none => (.exit 0, ⟨[(0, .d (.sl (l.map encS))), (1, .d (.str t)), (7, .d (.lit (.int .i64 l.length))), (8, x'), (9, .d (.lit (.bool false)))], []⟩)
          | some q => (.ret, ⟨[(4, .d (.lit (.int .i64 q)))], []⟩)) := by
    intro r'
    induction r' with
    | nil =>
      intro j x hx hd
      have hd := drop_nil hd
      refine ⟨.d (.lit (.int .i64 x)), ?_⟩
      rw [r_n98_6, show fndO (fun s => List.beq t (bs s)) [] j = none from rfl]
      simp -implicitDefEqProofs (maxSteps := 10000000) (disch := omega) only [go_sem, Int.reduceAdd, Int.reduceSub, Int.reduceMul, dec_t, dec_f, Nat.reduceBEq, Nat.reduceBNe, reduceShiftRight, reduceAnd, Nat.reduceAdd, Nat.reduceSub, reduceEqDiff, Nat.reduceLT, reduceLeDiff, reduceToNat, Int.reduceLT, Int.reduceLE, Int.reduceEq, reduceIte, reduceCtorEq]
    | cons c' r' ih =>
      intro j x hx hd
      obtain ⟨g1, g2, g3, g4⟩ := drop_cons hd
      have hnat : Int.toNat x = j := by omega
      obtain ⟨x', h⟩ := ih (j + 1) (x + 1) (by omega) g3
      have he : encS c' = .str (bs c') := rfl
      cases hs : (fun s => List.beq t (bs s)) c' with
      | true =>
        simp only at hs
        have hs := hs
        refine ⟨.undef, ?_⟩
        rw [r_n98_6, show fndO (fun s => List.beq t (bs s)) (c' :: r') j = some j by simp only [fndO]; rw [if_pos hs]]
        clear ih h
        
        simp -implicitDefEqProofs (maxSteps := 10000000) (disch := omega) only [go_sem, Int.reduceAdd, Int.reduceSub, Int.reduceMul, dec_t, dec_f, Nat.reduceBEq, Nat.reduceBNe, reduceShiftRight, reduceAnd, Nat.reduceAdd, Nat.reduceSub, reduceEqDiff, Nat.reduceLT, reduceLeDiff, reduceToNat, Int.reduceLT, Int.reduceLE, Int.reduceEq, reduceIte, reduceCtorEq, g2, hnat, hs, he]
        rw [hx]
      | false =>
        simp only at hs
        have hs := hs
        refine ⟨x', ?_⟩
        rw [r_n98_6, show fndO (fun s => List.beq t (bs s)) (c' :: r') j = fndO (fun s => List.beq t (bs s)) r' (j + 1) by simp only [fndO]; rw [if_neg (by rw [hs]; exact Bool.false_ne_true)]]
        clear ih
        
        generalize fndO (fun s => List.beq t (bs s)) r' (j + 1) = w at h ⊢
        simp -implicitDefEqProofs (maxSteps := 10000000) (disch := omega) only [go_sem, Int.reduceAdd, Int.reduceSub, Int.reduceMul, dec_t, dec_f, Nat.reduceBEq, Nat.reduceBNe, reduceShiftRight, reduceAnd, Nat.reduceAdd, Nat.reduceSub, reduceEqDiff, Nat.reduceLT, reduceLeDiff, reduceToNat, Int.reduceLT, Int.reduceLE, Int.reduceEq, reduceIte, reduceCtorEq, g2, hnat, hs, he, h]
  obtain ⟨x', h⟩ := key l 0 0 rfl (by simp)
  rw [p98, fnd_O]
  generalize fndO (fun s => List.beq t (bs s)) l 0 = w at h ⊢
  simp -implicitDefEqProofs (maxSteps := 10000000) (disch := omega) only [go_sem, Int.reduceAdd, Int.reduceSub, Int.reduceMul, dec_t, dec_f, Nat.reduceBEq, Nat.reduceBNe, reduceShiftRight, reduceAnd, Nat.reduceAdd, Nat.reduceSub, reduceEqDiff, Nat.reduceLT, reduceLeDiff, reduceToNat, Int.reduceLT, Int.reduceLE, Int.reduceEq, reduceIte, reduceCtorEq]
  simp only [h]
  cases w with
  | none =>
    simp -implicitDefEqProofs (maxSteps := 10000000) (disch := omega) only [go_sem, Int.reduceAdd, Int.reduceSub, Int.reduceMul, dec_t, dec_f, Nat.reduceBEq, Nat.reduceBNe, reduceShiftRight, reduceAnd, Nat.reduceAdd, Nat.reduceSub, reduceEqDiff, Nat.reduceLT, reduceLeDiff, reduceToNat, Int.reduceLT, Int.reduceLE, Int.reduceEq, reduceIte, reduceCtorEq]
    (first | done | rfl)
  | some q =>
    simp -implicitDefEqProofs (maxSteps := 10000000) (disch := omega) only [go_sem, Int.reduceAdd, Int.reduceSub, Int.reduceMul, dec_t, dec_f, Nat.reduceBEq, Nat.reduceBNe, reduceShiftRight, reduceAnd, Nat.reduceAdd, Nat.reduceSub, reduceEqDiff, Nat.reduceLT, reduceLeDiff, reduceToNat, Int.reduceLT, Int.reduceLE, Int.reduceEq, reduceIte, reduceCtorEq]
    (first | done | rfl)
theorem t93 (t : List UInt8) (l : List Bs) (hl : l.length ≤ 2 ^ 30) : pureCall C 93 [.sl (l.map encS), .str t] = some (tf (l.any (fun s => List.beq t (bs s)))) := by
  have h := t98 t l hl 
  rw [fnd_any (fun s => List.beq t (bs s)) l 0, p93]
  generalize fnd (fun s => List.beq t (bs s)) l 0 = w at h ⊢
  by_cases hw : 0 ≤ w
  · rw [show decide (0 ≤ w) = true by simpa using hw]
    simp -implicitDefEqProofs (maxSteps := 10000000) (disch := omega) only [go_sem, Int.reduceAdd, Int.reduceSub, Int.reduceMul, dec_t, dec_f, Nat.reduceBEq, Nat.reduceBNe, reduceShiftRight, reduceAnd, Nat.reduceAdd, Nat.reduceSub, reduceEqDiff, Nat.reduceLT, reduceLeDiff, reduceToNat, Int.reduceLT, Int.reduceLE, Int.reduceEq, reduceIte, reduceCtorEq, h]
    (first | done | rfl)
  · rw [show decide (0 ≤ w) = false by simpa using hw]
    simp -implicitDefEqProofs (maxSteps := 10000000) (disch := omega) only [go_sem, Int.reduceAdd, Int.reduceSub, Int.reduceMul, dec_t, dec_f, Nat.reduceBEq, Nat.reduceBNe, reduceShiftRight, reduceAnd, Nat.reduceAdd, Nat.reduceSub, reduceEqDiff, Nat.reduceLT, reduceLeDiff, reduceToNat, Int.reduceLT, Int.reduceLE, Int.reduceEq, reduceIte, reduceCtorEq, h]
    (first | done | rfl)
theorem t99 (l : List Bs) (hl : l.length ≤ 2 ^ 30) : pureCall C 99 [.sl (l.map encS), .lit (.func (.func 94) #[] #[])] = some (lit (fnd (fun s => decide (400 < (bs s).length)) l 0)) := by
  have key : ∀ (r' : List Bs) (j : Nat) (x : Int), x = j → l.drop j = r' →
      ∃ x', n99_6 ⟨[(0, .d (.sl (l.map encS))), (1, .d (.lit (.func (.func 94) #[] #[]))), (7, .d (.lit (.int .i64 l.length))), (8, .d (.lit (.int .i64 x)))], []⟩ =
        some (match fndO (fun s => decide (400 < (bs s).length)) r' j with
          | none => (.exit 0, ⟨[(0, .d (.sl (l.map encS))), (1, .d (.lit (.func (.func 94) #[] #[]))), (7, .d (.lit (.int .i64 l.length))), (8, x'), (9, .d (.lit (.bool false)))], []⟩)
          | some q => (.ret, ⟨[(4, .d (.lit (.int .i64 q)))], []⟩)) := by
    intro r'
    induction r' with
    | nil =>
      intro j x hx hd
      have hd := drop_nil hd
      refine ⟨.d (.lit (.int .i64 x)), ?_⟩
      rw [r_n99_6, show fndO (fun s => decide (400 < (bs s).length)) [] j = none from rfl]
      simp -implicitDefEqProofs (maxSteps := 10000000) (disch := omega) only [go_sem, Int.reduceAdd, Int.reduceSub, Int.reduceMul, dec_t, dec_f, Nat.reduceBEq, Nat.reduceBNe, reduceShiftRight, reduceAnd, Nat.reduceAdd, Nat.reduceSub, reduceEqDiff, Nat.reduceLT, reduceLeDiff, reduceToNat, Int.reduceLT, Int.reduceLE, Int.reduceEq, reduceIte, reduceCtorEq]
    | cons c' r' ih =>
      intro j x hx hd
      obtain ⟨g1, g2, g3, g4⟩ := drop_cons hd
      have hnat : Int.toNat x = j := by omega
      obtain ⟨x', h⟩ := ih (j + 1) (x + 1) (by omega) g3
      have hc := t94 c'
      have he : encS c' = .str (bs c') := rfl
      cases hs : (fun s => decide (400 < (bs s).length)) c' with
      | true =>
        simp only at hs
        rw [hs] at hc
        refine ⟨.undef, ?_⟩
        rw [r_n99_6, show fndO (fun s => decide (400 < (bs s).length)) (c' :: r') j = some j by simp only [fndO]; rw [if_pos hs]]
        clear ih h
        
        simp -implicitDefEqProofs (maxSteps := 10000000) (disch := omega) only [go_sem, Int.reduceAdd, Int.reduceSub, Int.reduceMul, dec_t, dec_f, Nat.reduceBEq, Nat.reduceBNe, reduceShiftRight, reduceAnd, Nat.reduceAdd, Nat.reduceSub, reduceEqDiff, Nat.reduceLT, reduceLeDiff, reduceToNat, Int.reduceLT, Int.reduceLE, Int.reduceEq, reduceIte, reduceCtorEq, g2, hnat, hc, he]
        rw [hx]
      | false =>
        simp only at hs
        rw [hs] at hc
        refine ⟨x', ?_⟩
        rw [r_n99_6, show fndO (fun s => decide (400 < (bs s).length)) (c' :: r') j = fndO (fun s => decide (400 < (bs s).length)) r' (j + 1) by simp only [fndO]; rw [if_neg (by rw [hs]; exact Bool.false_ne_true)]]
        clear ih
        
        generalize fndO (fun s => decide (400 < (bs s).length)) r' (j + 1) = w at h ⊢
        simp -implicitDefEqProofs (maxSteps := 10000000) (disch := omega) only [go_sem, Int.reduceAdd, Int.reduceSub, Int.reduceMul, dec_t, dec_f, Nat.reduceBEq, Nat.reduceBNe, reduceShiftRight, reduceAnd, Nat.reduceAdd, Nat.reduceSub, reduceEqDiff, Nat.reduceLT, reduceLeDiff, reduceToNat, Int.reduceLT, Int.reduceLE, Int.reduceEq, reduceIte, reduceCtorEq, g2, hnat, hc, he, h]
  obtain ⟨x', h⟩ := key l 0 0 rfl (by simp)
  rw [p99, fnd_O]
  generalize fndO (fun s => decide (400 < (bs s).length)) l 0 = w at h ⊢
  simp -implicitDefEqProofs (maxSteps := 10000000) (disch := omega) only [go_sem, Int.reduceAdd, Int.reduceSub, Int.reduceMul, dec_t, dec_f, Nat.reduceBEq, Nat.reduceBNe, reduceShiftRight, reduceAnd, Nat.reduceAdd, Nat.reduceSub, reduceEqDiff, Nat.reduceLT, reduceLeDiff, reduceToNat, Int.reduceLT, Int.reduceLE, Int.reduceEq, reduceIte, reduceCtorEq]
  simp only [h]
  cases w with
  | none =>
    simp -implicitDefEqProofs (maxSteps := 10000000) (disch := omega) only [go_sem, Int.reduceAdd, Int.reduceSub, Int.reduceMul, dec_t, dec_f, Nat.reduceBEq, Nat.reduceBNe, reduceShiftRight, reduceAnd, Nat.reduceAdd, Nat.reduceSub, reduceEqDiff, Nat.reduceLT, reduceLeDiff, reduceToNat, Int.reduceLT, Int.reduceLE, Int.reduceEq, reduceIte, reduceCtorEq]
    (first | done | rfl)
  | some q =>
    simp -implicitDefEqProofs (maxSteps := 10000000) (disch := omega) only [go_sem, Int.reduceAdd, Int.reduceSub, Int.reduceMul, dec_t, dec_f, Nat.reduceBEq, Nat.reduceBNe, reduceShiftRight, reduceAnd, Nat.reduceAdd, Nat.reduceSub, reduceEqDiff, Nat.reduceLT, reduceLeDiff, reduceToNat, Int.reduceLT, Int.reduceLE, Int.reduceEq, reduceIte, reduceCtorEq]
    (first | done | rfl)
theorem t95 (l : List Bs) (hl : l.length ≤ 2 ^ 30) : pureCall C 95 [.sl (l.map encS), .lit (.func (.func 94) #[] #[])] = some (tf (l.any (fun s => decide (400 < (bs s).length)))) := by
  have h := t99  l hl 
  rw [fnd_any (fun s => decide (400 < (bs s).length)) l 0, p95]
  generalize fnd (fun s => decide (400 < (bs s).length)) l 0 = w at h ⊢
  by_cases hw : 0 ≤ w
  · rw [show decide (0 ≤ w) = true by simpa using hw]
    simp -implicitDefEqProofs (maxSteps := 10000000) (disch := omega) only [go_sem, Int.reduceAdd, Int.reduceSub, Int.reduceMul, dec_t, dec_f, Nat.reduceBEq, Nat.reduceBNe, reduceShiftRight, reduceAnd, Nat.reduceAdd, Nat.reduceSub, reduceEqDiff, Nat.reduceLT, reduceLeDiff, reduceToNat, Int.reduceLT, Int.reduceLE, Int.reduceEq, reduceIte, reduceCtorEq, h]
    (first | done | rfl)
  · rw [show decide (0 ≤ w) = false by simpa using hw]
    simp -implicitDefEqProofs (maxSteps := 10000000) (disch := omega) only [go_sem, Int.reduceAdd, Int.reduceSub, Int.reduceMul, dec_t, dec_f, Nat.reduceBEq, Nat.reduceBNe, reduceShiftRight, reduceAnd, Nat.reduceAdd, Nat.reduceSub, reduceEqDiff, Nat.reduceLT, reduceLeDiff, reduceToNat, Int.reduceLT, Int.reduceLE, Int.reduceEq, reduceIte, reduceCtorEq, h]
    (first | done | rfl)
def pEmpty (i : Bs) (a : List Bs) (e : Bs) (hi hf : Bool) : Bool := List.beq (bs i) [] && List.beq (bs e) [] && a.isEmpty && !hi && !hf
theorem beq_app (x y : List UInt8) : List.beq (x ++ y) [] = (List.beq x [] && List.beq y []) := by cases x <;> cases y <;> rfl
theorem lenz {α : Type} (a : List α) : decide ((a.length : Int) = 0) = a.isEmpty := by cases a with
  | nil => rfl
  | cons x r => exact decide_eq_false (by simp only [List.length_cons]; omega)
theorem t74 (i : Bs) (a : List Bs) (e : Bs) (hi hf : Bool) (ha : a.length ≤ 2 ^ 30) : pureCall C 74 [.agg [.str (bs i), .sl (a.map encS), .str (bs e), .lit (.bool hi), .lit (.bool hf)]] = some (tf (pEmpty i a e hi hf)) := by
  have h1 := bs_le i
  have h2 := bs_le e
  rw [p74]
  simp -implicitDefEqProofs (maxSteps := 10000000) (disch := omega) only [go_sem, Int.reduceAdd, Int.reduceSub, Int.reduceMul, dec_t, dec_f, Nat.reduceBEq, Nat.reduceBNe, reduceShiftRight, reduceAnd, Nat.reduceAdd, Nat.reduceSub, reduceEqDiff, Nat.reduceLT, reduceLeDiff, reduceToNat, Int.reduceLT, Int.reduceLE, Int.reduceEq, reduceIte, reduceCtorEq, ↓so_condB, ↓so_grdB, contK_br, blkK_br, behK_br, loopK_br, nx_br, tailK_br, obind_br, omap_br, lenz, beq_app]
  unfold pEmpty
  generalize List.beq (bs i) [] = b1
  generalize List.beq (bs e) [] = b2
  generalize a.isEmpty = b3
  cases b1 <;> cases b2 <;> cases b3 <;> cases hi <;> cases hf <;> rfl
def pcOk (i : Bs) (a : List Bs) (e : Bs) (hi hf : Bool) : Bool := !(!hi && !hf && a.isEmpty) && decide (a.length ≤ 6) && !(hi == List.beq (bs i) []) && !(hf == List.beq (bs e) []) && !(a.any fun s => List.beq [] (bs s))
theorem t76 (i : Bs) (a : List Bs) (e : Bs) (hi hf : Bool) (ha : a.length ≤ 2 ^ 30) : pureCall C 76 [.agg [.str (bs i), .sl (a.map encS), .str (bs e), .lit (.bool hi), .lit (.bool hf)]] = some (lit (if pcOk i a e hi hf then 0 else 2)) := by
  have h := t93 [] a ha
  have e6 : decide ((6 : Int) < a.length) = !decide (a.length ≤ 6) := by
    rw [← decide_not]; exact decide_eq_decide.2 (by omega)
  rw [p76]
  simp -implicitDefEqProofs (maxSteps := 10000000) (disch := omega) only [go_sem, Int.reduceAdd, Int.reduceSub, Int.reduceMul, dec_t, dec_f, Nat.reduceBEq, Nat.reduceBNe, reduceShiftRight, reduceAnd, Nat.reduceAdd, Nat.reduceSub, reduceEqDiff, Nat.reduceLT, reduceLeDiff, reduceToNat, Int.reduceLT, Int.reduceLE, Int.reduceEq, reduceIte, reduceCtorEq, ↓so_condB, ↓so_grdB, contK_br, blkK_br, behK_br, loopK_br, nx_br, tailK_br, obind_br, omap_br, lenz, h, e6]
  unfold pcOk
  generalize a.any (fun s => List.beq [] (bs s)) = w
  generalize List.beq (bs i) [] = b1
  generalize List.beq (bs e) [] = b2
  generalize a.isEmpty = b3
  generalize decide (a.length ≤ 6) = b4
  cases b1 <;> cases b2 <;> cases b3 <;> cases b4 <;> cases hi <;> cases hf <;> cases w <;> rfl
def pShort (i : Bs) (a : List Bs) (e : Bs) : Bool := !(decide (400 < (bs i).length)) && !(decide (400 < (bs e).length)) && !(a.any fun s => decide (400 < (bs s).length))
theorem t77 (i : Bs) (a : List Bs) (e : Bs) (hi hf : Bool) (ha : a.length ≤ 2 ^ 30) : pureCall C 77 [.agg [.str (bs i), .sl (a.map encS), .str (bs e), .lit (.bool hi), .lit (.bool hf)]] = some (tf (pShort i a e)) := by
  have h := t95 a ha
  have h1 := t94 i
  have h2 := t94 e
  unfold pShort
  rw [p77]
  generalize a.any (fun s => decide (400 < (bs s).length)) = w at h ⊢
  generalize decide (400 < (bs i).length) = w1 at h1 ⊢
  generalize decide (400 < (bs e).length) = w2 at h2 ⊢
  cases w <;> cases w1 <;> cases w2 <;> (simp -implicitDefEqProofs (maxSteps := 10000000) (disch := omega) only [go_sem, Int.reduceAdd, Int.reduceSub, Int.reduceMul, dec_t, dec_f, Nat.reduceBEq, Nat.reduceBNe, reduceShiftRight, reduceAnd, Nat.reduceAdd, Nat.reduceSub, reduceEqDiff, Nat.reduceLT, reduceLeDiff, reduceToNat, Int.reduceLT, Int.reduceLE, Int.reduceEq, reduceIte, reduceCtorEq, h, h1, h2]) <;> (first | done | rfl)
theorem t78 (s : Bs) : pureCall C 78 [.str (bs s)] = some (tf (List.beq (bs s) [] || word (bs s))) := by
  have h := t75 s
  rw [p78]
  generalize bs s = l at h ⊢
  generalize word l = w at h ⊢
  cases l <;> cases w <;> (simp -implicitDefEqProofs (maxSteps := 10000000) (disch := omega) only [go_sem, Int.reduceAdd, Int.reduceSub, Int.reduceMul, dec_t, dec_f, Nat.reduceBEq, Nat.reduceBNe, reduceShiftRight, reduceAnd, Nat.reduceAdd, Nat.reduceSub, reduceEqDiff, Nat.reduceLT, reduceLeDiff, reduceToNat, Int.reduceLT, Int.reduceLE, Int.reduceEq, reduceIte, reduceCtorEq, h]) <;> (first | done | rfl)
end Go.L25
