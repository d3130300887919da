/- Layer 26: filters and values held against each other. Conditions: none. -/
import Derived.Test.YtlehedloheojpaaGreatPC
set_option linter.unusedVariables false
set_option linter.unusedSimpArgs false
namespace Go.Eng
def br {α : Type} (b : Bool) (x y : α) : α := bif b then x else y
theorem br_t {α : Type} (x y : α) : br true x y = x := rfl
theorem br_f {α : Type} (x y : α) : br false x y = y := rfl
theorem br_s {α : Type} (b : Bool) (x : α) : br b x x = x := by cases b <;> rfl
theorem br_n {α : Type} (b : Bool) (x y : α) : br (!b) x y = br b y x := by cases b <;> rfl
theorem br_cond {α : Type} (b : Bool) (x y : α) : br b x y = bif b then x else y := rfl
theorem br_ite {α : Type} (b : Bool) (x y : α) : br b x y = if b = true then x else y := by cases b <;> rfl
theorem br_dec {α : Type} {p : Prop} [Decidable p] (x y : α) : br (decide p) x y = if p then x else y := by
  by_cases h : p <;> simp [h, br]
theorem contK_br (k : S → RS) (b : Bool) (x y : RS) : contK k (br b x y) = br b (contK k x) (contK k y) := by cases b <;> rfl
theorem blkK_br (i : Nat) (b : Bool) (x y : RS) : blkK i (br b x y) = br b (blkK i x) (blkK i y) := by cases b <;> rfl
theorem behK_br (m : Nat) (b : Bool) (x y : Option S) : behK m (br b x y) = br b (behK m x) (behK m y) := by cases b <;> rfl
theorem loopK_br (m k : Nat) (n : S → RS) (b : Bool) (x y : RS) : loopK m k n (br b x y) = br b (loopK m k n x) (loopK m k n y) := by cases b <;> rfl
theorem nx_br (X : Ctx) (an : Ann) (call : Call) (ops : Array Oper) (r : List Oper) (t : List (Nat × AV)) (d : Option Nat) (b : Bool) (x y : R) : nx X an call ops r t d (br b x y) = br b (nx X an call ops r t d x) (nx X an call ops r t d y) := by cases b <;> rfl
theorem tailK_br (an : Ann) (ops : Array Oper) (l : List Oper) (b : Bool) (x y : Option S) : L25.tailK an ops l (br b x y) = br b (L25.tailK an ops l x) (L25.tailK an ops l y) := by cases b <;> rfl
theorem obind_br {α β : Type} (b : Bool) (x y : Option α) (f : α → Option β) : (br b x y).bind f = br b (x.bind f) (y.bind f) := by cases b <;> rfl
theorem omap_br {α β : Type} (b : Bool) (x y : Option α) (f : α → β) : (br b x y).map f = br b (x.map f) (y.map f) := by cases b <;> rfl
def replT (k : Nat) (b : Bool) : List (Nat × AV) → List (Nat × AV)
  | [] => []
  | (j, v) :: r => bif j == k then (j, .d (.lit (.bool b))) :: r else (j, v) :: replT k b r
theorem replT_eq {k : Nat} {b : Bool} : ∀ {t : List (Nat × AV)}, look t k = .d (.lit (.bool b)) → replT k b t = t
  | [], h => rfl
  | (j, v) :: r, h => by
    rw [look] at h
    rw [replT]
    cases e : j == k with
    | true => rw [e] at h; rw [show v = .d (.lit (.bool b)) from h]; rfl
    | false => rw [e] at h; rw [replT_eq (t := r) h]; rfl
def condB (k : Nat) (v : AV) (a b : S → RS) (s : S) : RS := match v with
  | .d (.lit (.bool v)) => br v (a ⟨replT k true s.t, s.st⟩) (b ⟨replT k false s.t, s.st⟩)
  | _ => none
theorem so_condB (k : Nat) (a b : S → RS) (s : S) : condK (opv s.t (.tmp k)) a b s = condB k (look s.t k) a b s := by
  show (asB (look s.t k)).bind _ = _
  unfold condB
  split
  · rename_i v h
    rw [h]
    show (bif v then a s else b s) = _
    cases v
    · rw [replT_eq h]; rfl
    · rw [replT_eq h]; rfl
  · rename_i h
    generalize look s.t k = v at h ⊢
    unfold asB
    split
    · exact absurd rfl (h _)
    · rfl
theorem condB_br (k : Nat) (v : Bool) (a b : S → RS) (t : List (Nat × AV)) (st : Store) : condB k (.d (.lit (.bool v))) a b ⟨t, st⟩ = br v (a ⟨replT k true t, st⟩) (b ⟨replT k false t, st⟩) := rfl
section
variable {X : Ctx} {an : Ann} {call : Call} {ops : Array Oper} {r : List Oper} {t : List (Nat × AV)} {st : Store} {d : Option Nat} {ty : TypeId} {ps : String} {af : Array Edge} {o : Oper}
def grdB (X : Ctx) (an : Ann) (call : Call) (ops : Array Oper) (o : Oper) (r : List Oper) (w : Bool) (k : Nat) (t : List (Nat × AV)) (st : Store) (v : AV) : Option S := match v with
  | .d (.lit (.bool b)) => br b (bif w then stepsO X an call ops (o :: r) ⟨replT k true t, st⟩ else stepsO X an call ops r ⟨putD (replT k true t) o.dst (.tup []), st⟩)
      (bif w then stepsO X an call ops r ⟨putD (replT k false t) o.dst (.tup []), st⟩ else stepsO X an call ops (o :: r) ⟨replT k false t, st⟩)
  | .tup [] => stepsO X an call ops r ⟨putD t o.dst (.tup []), st⟩
  | _ => none
def grdBo (X : Ctx) (an : Ann) (call : Call) (ops : Array Oper) (o : Oper) (r : List Oper) (w : Bool) (t : List (Nat × AV)) (st : Store) : Option Nat → Option S
  | some k => grdB X an call ops o r w k t st (look t k)
  | none => none
theorem grdBo_s (w : Bool) (k : Nat) : grdBo X an call ops o r w t st (some k) = grdB X an call ops o r w k t st (look t k) := rfl
theorem so_grdB (op : Op) (j : Nat) (w : Bool) : stepsO X an call ops (⟨d, op, ty, ps, af, some (j, w)⟩ :: r) ⟨t, st⟩ = grdBo X an call ops ⟨d, op, ty, ps, af, none⟩ r w t st (gdst ops j) := by
  rw [so_grd]
  cases gdst ops j with
  | none => rfl
  | some k =>
    show grdK _ _ _ _ _ _ _ _ _ (some (look t k)) = grdB _ _ _ _ _ _ _ _ _ _ (look t k)
    unfold grdB
    split
    · rename_i b h
      rw [h]
      cases b <;> cases w <;> simp only [grd_tt, grd_tf, grd_ft, grd_ff, replT_eq h] <;> rfl
    · rename_i h
      rw [h, grd_sk]
    · rename_i h1 h2
      generalize look t k = v at h1 h2 ⊢
      unfold grdK
      split
      · rename_i b e; exact absurd (Option.some.inj e) (h1 b)
      · rename_i e; exact absurd (Option.some.inj e) h2
      · rfl
theorem grdB_t (k : Nat) (v : Bool) : grdB X an call ops o r true k t st (.d (.lit (.bool v))) = br v (stepsO X an call ops (o :: r) ⟨replT k true t, st⟩) (stepsO X an call ops r ⟨putD (replT k false t) o.dst (.tup []), st⟩) := rfl
theorem grdB_f (k : Nat) (v : Bool) : grdB X an call ops o r false k t st (.d (.lit (.bool v))) = br v (stepsO X an call ops r ⟨putD (replT k true t) o.dst (.tup []), st⟩) (stepsO X an call ops (o :: r) ⟨replT k false t, st⟩) := rfl
theorem grdB_k (k : Nat) (w : Bool) : grdB X an call ops o r w k t st (.tup []) = stepsO X an call ops r ⟨putD t o.dst (.tup []), st⟩ := rfl
end
def bbK (k : TK) (r : Option AV) : Option AV := match k with | .bool => r | _ => none
theorem bb_bool (r : Option AV) : bbK .bool r = r := rfl
theorem bb_eql (P : Program) (t : TypeId) (st : Store) (a b : Bool) : binV P t .eql st (.d (.lit (.bool a))) (.d (.lit (.bool b))) = bbK (tkOf P t) (some (.d (.lit (.bool (a == b))))) := by
  show (match tkOf P t with | .bool => (binB .eql a b).map AV.d | _ => none) = _
  cases tkOf P t <;> rfl
theorem bb_neq (P : Program) (t : TypeId) (st : Store) (a b : Bool) : binV P t .neq st (.d (.lit (.bool a))) (.d (.lit (.bool b))) = bbK (tkOf P t) (some (.d (.lit (.bool (!(a == b)))))) := by
  show (match tkOf P t with | .bool => (binB .neq a b).map AV.d | _ => none) = _
  cases tkOf P t <;> rfl
theorem bq_tr (b : Bool) : (b == true) = b := by cases b <;> rfl
theorem bq_tl (b : Bool) : (true == b) = b := by cases b <;> rfl
theorem bq_fr (b : Bool) : (b == false) = !b := by cases b <;> rfl
theorem bq_fl (b : Bool) : (false == b) = !b := by cases b <;> rfl
section
variable {X : Ctx} {an : Ann} {ops : Array Oper} {r : List Oper} {t : List (Nat × AV)} {st : Store} {d : Option Nat} {ty : TypeId} {ps : String} {af : Array Edge}
def okL : Option (List Acc) → Bool
  | some r => apartL r
  | none => false
theorem okL_s (r : List Acc) : okL (some r) = apartL r := rfl
theorem tok_eq (l : List Oper) (s : S) : tailOk X an ops l s = okL (tailA X an ops l s) := by
  unfold tailOk okL
  cases tailA X an ops l s <;> rfl
def tK (X : Ctx) (an : Ann) (ops : Array Oper) (r : List Oper) : Option Acc → Option S → Option (List Acc)
  | some a, some s' => (tailA X an ops r s').map (a :: ·)
  | _, _ => none
theorem tK_s (a : Acc) (s : S) : tK X an ops r (some a) (some s) = (tailA X an ops r s).map (a :: ·) := rfl
theorem tA_nil (s : S) : tailA X an ops [] s = some [] := rfl
theorem so_one (call : Call) (o : Oper) (s : S) : stepsO X an call ops [o] s = stepO X an call ops o s := by
  show (stepO X an call ops o s).bind _ = _
  cases stepO X an call ops o s <;> rfl
theorem tA_cons (o : Oper) (s : S) : tailA X an ops (o :: r) s = tK X an ops r (accO X an o s) (stepsO X an noCall ops [o] s) := by
  rw [tailA, so_one]
  cases accO X an o s <;> cases stepO X an noCall ops o s <;> rfl
def accW : AV → Option Acc
  | .ptr loc _ _ _ => some (.at loc true)
  | _ => none
def accR : AV → Option Acc
  | .ptr loc _ _ _ => some (.at loc false)
  | .eptr _ _ => some .no
  | _ => none
theorem accW_p (a b c e : Nat) : accW (.ptr a b c e) = some (.at a true) := rfl
theorem accR_p (a b c e : Nat) : accR (.ptr a b c e) = some (.at a false) := rfl
theorem accR_e (x : D) (a : Nat) : accR (.eptr x a) = some .no := rfl
theorem ao_store (ty' : TypeId) (a v : Operand) : accO X an ⟨d, .store ty' a v, ty, ps, af, none⟩ ⟨t, st⟩ = accW (opv t a).unt := by
  show (match (opv t a).unt with | .ptr loc _ _ _ => some (Acc.at loc true) | _ => none) = _
  cases (opv t a).unt <;> rfl
theorem ao_load (ty' : TypeId) (a : Operand) : accO X an ⟨d, .load ty' a, ty, ps, af, none⟩ ⟨t, st⟩ = accR (opv t a).unt := by
  show (match (opv t a).unt with | .ptr loc _ _ _ => some (Acc.at loc false) | .eptr _ _ => some .no | _ => none) = _
  cases (opv t a).unt <;> rfl
def accI : AV → AV → Option Acc
  | .d (.lit (.int _ _)), .d (.lit (.int _ _)) => some .no
  | _, _ => none
theorem accI_i (k k' : IntKind) (a b : Int) : accI (.d (.lit (.int k a))) (.d (.lit (.int k' b))) = some .no := rfl
theorem ao_bin (op : BinOp) (ty' u : TypeId) (x y : Operand) : accO X an ⟨d, .binOp op ty' x y u, ty, ps, af, none⟩ ⟨t, st⟩ = accI (opv t x) (opv t y) := by
  show (match opv t x, opv t y with | .d (.lit (.int _ _)), .d (.lit (.int _ _)) => some Acc.no | _, _ => none) = _
  rfl
theorem ao_callf (f : FuncId) (args : Array Operand) (tys : Array TypeId) (s : S) : accO X an ⟨d, .call ⟨.value (.func f), args, tys⟩, ty, ps, af, none⟩ s = bif X.pure f && (X.prim f).isSome then some .all else none := rfl
theorem ao_move (x : Operand) (s : S) : accO X an ⟨d, .move x, ty, ps, af, none⟩ s = some .no := rfl
theorem ao_assign (x : Operand) (s : S) : accO X an ⟨d, .assign x, ty, ps, af, none⟩ s = bif !(flagOf an.virt d) then some .no else none := rfl
theorem ao_pick (a b c : Operand) (s : S) : accO X an ⟨d, .pick a b c, ty, ps, af, none⟩ s = some .no := rfl
theorem ao_field (ty' : TypeId) (x : Operand) (f : Nat) (s : S) : accO X an ⟨d, .fieldAddr ty' x f, ty, ps, af, none⟩ s = some .no := rfl
theorem ao_un (op : UnOp) (ty' : TypeId) (x : Operand) (s : S) : accO X an ⟨d, .unOp op ty' x, ty, ps, af, none⟩ s = some .no := rfl
theorem ao_ext (x : Operand) (k : Nat) (s : S) : accO X an ⟨d, .extract x k, ty, ps, af, none⟩ s = some .no := rfl
theorem ao_nil (x : Operand) (s : S) : accO X an ⟨d, .nilCheck x, ty, ps, af, none⟩ s = some .no := rfl
theorem ao_ixa (ty' : TypeId) (x i : Operand) (s : S) : accO X an ⟨d, .indexAddr ty' x i, ty, ps, af, none⟩ s = some .no := rfl
theorem ao_ix (ty' : TypeId) (x i : Operand) (s : S) : accO X an ⟨d, .index ty' x i, ty, ps, af, none⟩ s = some .no := rfl
theorem ao_len (args : Array Operand) (tys : Array TypeId) (s : S) : accO X an ⟨d, .call ⟨.builtin .len, args, tys⟩, ty, ps, af, none⟩ s = some .no := rfl
theorem ao_max (args : Array Operand) (tys : Array TypeId) (s : S) : accO X an ⟨d, .call ⟨.builtin .max, args, tys⟩, ty, ps, af, none⟩ s = some .no := rfl
theorem ao_min (args : Array Operand) (tys : Array TypeId) (s : S) : accO X an ⟨d, .call ⟨.builtin .min, args, tys⟩, ty, ps, af, none⟩ s = some .no := rfl
end
theorem rep_1 {α : Type} (a : α) : List.replicate 1 a = [a] := rfl
theorem rep_0 {α : Type} (a : α) : List.replicate 0 a = [] := rfl
attribute [go_sem] accI_i ao_bin okL_s tok_eq tK_s tA_nil tA_cons accW_p accR_p accR_e ao_store ao_load ao_callf ao_move ao_assign ao_pick ao_field ao_un ao_ext ao_nil ao_ixa ao_ix ao_len ao_max ao_min apartL apart1 List.all_cons List.all_nil rep_1 rep_0
theorem strMost_eq : strMost = 1152921504606846976 := rfl
attribute [go_sem] replT condB_br grdBo_s grdB_t grdB_f grdB_k br_t br_f bb_bool bb_eql bb_neq bq_tr bq_tl bq_fr bq_fl Bool.not_not strMost_eq
end Go.Eng
namespace Go.L25
open Go Go.Eng Go.Proofs
def Bs : Type := { l : List UInt8 // l.length ≤ 2 ^ 30 }
def bs (s : Bs) : List UInt8 := s.1
theorem bs_le (s : Bs) : (bs s).length ≤ 2 ^ 30 := s.2
def encS (s : Bs) : D := .str (bs s)
inductive F where
  | mk (kind : Int) (name value ini : Bs) (any : List Bs) (fin : Bs) (hi hf : Bool) (rule : Bs) (dn : Bool) (kids : List F)
inductive OkF : F → Prop where
  | mk {k n v i a e hi hf r d kids} (ha : a.length ≤ 2 ^ 28) (hk : kids.length ≤ 2 ^ 30) (all : ∀ f ∈ kids, OkF f) : OkF (.mk k n v i a e hi hf r d kids)
theorem OkF.kids {k n v i a e hi hf r d kids} (h : OkF (.mk k n v i a e hi hf r d kids)) : kids.length ≤ 2 ^ 30 ∧ ∀ (j : Nat) (hj : j < kids.length), OkF kids[j] := by
  cases h with | mk ha hk all => exact ⟨hk, fun j hj => all _ (List.getElem_mem hj)⟩
theorem OkF.mem {k n v i a e hi hf r d kids} (h : OkF (.mk k n v i a e hi hf r d kids)) {f : F} (hf : f ∈ kids) : OkF f := by
  cases h with | mk ha hk all => exact all _ hf
mutual
def encF : F → D
  | .mk k n v i a e hi hf r d kids => .agg [.lit (.int .i64 k), .str (bs n), .str (bs v), .str (bs i), .sl (a.map encS), .str (bs e), .lit (.bool hi), .lit (.bool hf), .str (bs r), .lit (.bool d), .sl (encFs kids)]
def encFs : List F → List D
  | [] => []
  | f :: r => encF f :: encFs r
end
theorem encFs_map : ∀ l : List F, encFs l = l.map encF
  | [] => by rw [encFs]; rfl
  | f :: r => by rw [encFs, encFs_map r]; rfl
def Fo : Type := { f : F // OkF f }
def kind : Fo → Int | ⟨.mk k _ _ _ _ _ _ _ _ _ _, _⟩ => k
def name : Fo → Bs | ⟨.mk _ n _ _ _ _ _ _ _ _ _, _⟩ => n
def value : Fo → Bs | ⟨.mk _ _ v _ _ _ _ _ _ _ _, _⟩ => v
def ini : Fo → Bs | ⟨.mk _ _ _ i _ _ _ _ _ _ _, _⟩ => i
def any : Fo → List Bs | ⟨.mk _ _ _ _ a _ _ _ _ _ _, _⟩ => a
def fin : Fo → Bs | ⟨.mk _ _ _ _ _ e _ _ _ _ _, _⟩ => e
def hi : Fo → Bool | ⟨.mk _ _ _ _ _ _ h _ _ _ _, _⟩ => h
def hf : Fo → Bool | ⟨.mk _ _ _ _ _ _ _ h _ _ _, _⟩ => h
def rule : Fo → Bs | ⟨.mk _ _ _ _ _ _ _ _ r _ _, _⟩ => r
def dn : Fo → Bool | ⟨.mk _ _ _ _ _ _ _ _ _ d _, _⟩ => d
def kids : Fo → List Fo | ⟨.mk _ _ _ _ _ _ _ _ _ _ ks, h⟩ => ks.attach.map fun ⟨k, hk⟩ => ⟨k, h.mem hk⟩
def encO (f : Fo) : D := encF f.1
theorem encO_eq (f : Fo) : encO f = (.agg [.lit (.int .i64 (kind f)), .str (bs (name f)), .str (bs (value f)), .str (bs (ini f)), .sl (List.map encS (any f)), .str (bs (fin f)), .lit (.bool (hi f)), .lit (.bool (hf f)), .str (bs (rule f)), .lit (.bool (dn f)), .sl (List.map encO (kids f))]) := by
  obtain ⟨⟨k, n, v, i, a, e, hi, hf, r, d, ks⟩, h⟩ := f
  show encF _ = _
  rw [encF, encFs_map]
  have : ks.map encF = (kids ⟨.mk k n v i a e hi hf r d ks, h⟩).map encO := by
    show _ = (ks.attach.map _).map encO
    rw [List.map_map]
    conv => lhs; rw [← List.attach_map_val (l := ks)]
    rfl
  rw [this]
  rfl
theorem any_28 (f : Fo) : (any f).length ≤ 2 ^ 28 := by
  obtain ⟨⟨k, n, v, i, a, e, hi, hf, r, d, ks⟩, h⟩ := f
  cases h with | mk ha hk all => exact ha
theorem any_le (f : Fo) : (any f).length ≤ 2 ^ 30 := Nat.le_trans (any_28 f) (by decide)
theorem kids_le (f : Fo) : (kids f).length ≤ 2 ^ 30 := by
  obtain ⟨⟨k, n, v, i, a, e, hi, hf, r, d, ks⟩, h⟩ := f
  have : (kids ⟨.mk k n v i a e hi hf r d ks, h⟩).length = ks.length := (List.length_map _).trans List.length_attach
  rw [this]
  cases h with | mk ha hk all => exact hk
noncomputable def sz (f : Fo) : Nat := SizeOf.sizeOf f.1
theorem kids_lt {f g : Fo} (h : g ∈ kids f) : sz g < sz f := by
  obtain ⟨⟨k, n, v, i, a, e, hi, hf, r, d, ks⟩, ok⟩ := f
  have h' : g ∈ ks.attach.map (fun (x : { x // x ∈ ks }) => (⟨x.1, ok.mem x.2⟩ : Fo)) := h
  obtain ⟨x, -, rfl⟩ := List.mem_map.1 h'
  have := List.sizeOf_lt_of_mem x.2
  show SizeOf.sizeOf x.1 < SizeOf.sizeOf (F.mk k n v i a e hi hf r d ks)
  simp only [F.mk.sizeOf_spec]
  omega
theorem encS_eq (s : Bs) : encS s = .str (bs s) := rfl
attribute [go_sem] encO_eq encS_eq
theorem drop_cons {α : Type} {l : List α} {j : Nat} {a : α} {r : List α} (h : l.drop j = a :: r) : j < l.length ∧ l[j]? = some a ∧ l.drop (j + 1) = r ∧ a ∈ l := by
  have h1 : l[j]? = some a := by
    have := congrArg (fun x => x[0]?) h
    simpa [List.getElem?_drop] using this
  have h2 := (List.getElem?_eq_some_iff.1 h1).1
  refine ⟨h2, h1, ?_, List.mem_of_getElem? h1⟩
  have := congrArg List.tail h
  simpa using this
theorem drop_nil {α : Type} {l : List α} {j : Nat} (h : l.drop j = []) : l.length ≤ j := by simpa using h
def dep : Nat → Fo → Nat
  | 0, _ => 1
  | l + 1, f => ((kids f).map (dep l)).foldl (fun a b => if a < b then b else a) 0 + 1
theorem foldmax_le (m : Nat) : ∀ (L : List Nat) (a : Nat), a ≤ m → (∀ x ∈ L, x ≤ m) → L.foldl (fun a b => if a < b then b else a) a ≤ m
  | [], a, h, _ => h
  | x :: r, a, h, hx => foldmax_le m r _ (by have := hx x (by simp); show (if a < x then x else a) ≤ m; split <;> omega) (fun y hy => hx y (by simp [hy]))
theorem dep_le : ∀ (l : Nat) (f : Fo), dep l f ≤ l + 1
  | 0, _ => by simp [dep]
  | l + 1, f => by
    simp only [dep]
    have := foldmax_le (l + 1) ((kids f).map (dep l)) 0 (by omega) (fun x hx => by
      obtain ⟨g, _, rfl⟩ := List.mem_map.1 hx
      exact dep_le l g)
    omega
noncomputable def par (f : Fo) (n : Nat) : Nat := min ((kids f).attach.foldl (fun n k => if n ≤ 60 then par k.1 n else n) (n + 1)) 61
termination_by sz f
decreasing_by exact kids_lt k.2
noncomputable def pars (l : List Fo) (n : Nat) : Nat := l.foldl (fun n k => if n ≤ 60 then par k n else n) n
theorem par_eq (f : Fo) (n : Nat) : par f n = min (pars (kids f) (n + 1)) 61 := by
  rw [par, pars]
  congr 1
  exact List.foldl_attach (l := kids f) (f := fun n k => if n ≤ 60 then par k n else n) (b := n + 1)
theorem par_le (f : Fo) (n : Nat) : par f n ≤ 61 := by rw [par_eq]; omega
def lit (n : Int) : PR := .one (.d (.lit (.int .i64 n)))
def tf (b : Bool) : PR := .one (.d (.lit (.bool b)))
attribute [go_sem] lit tf
end Go.L25
namespace Go.Eng
section
variable {ops : Array Oper} {t : List (Nat × AV)} {st : Store} {d : Option Nat} {ty : TypeId} {ps : String} {af : Array Edge}
theorem ag_store (ty' : TypeId) (a v : Operand) (g : Option (Nat × Bool)) : accG ops ⟨d, .store ty' a v, ty, ps, af, g⟩ ⟨t, st⟩ = accW (opv t a).unt := by
  show (match (opv t a).unt with | .ptr loc _ _ _ => some (Acc.at loc true) | _ => none) = _
  cases (opv t a).unt <;> rfl
theorem ag_load (ty' : TypeId) (a : Operand) : accG ops ⟨d, .load ty' a, ty, ps, af, none⟩ ⟨t, st⟩ = accR (opv t a).unt := by
  show (match (opv t a).unt with | .ptr loc _ _ _ => some (Acc.at loc false) | .eptr _ _ => some .no | _ => none) = _
  cases (opv t a).unt <;> rfl
theorem ag_field (ty' : TypeId) (x : Operand) (f : Nat) (g : Option (Nat × Bool)) (s : S) : accG ops ⟨d, .fieldAddr ty' x f, ty, ps, af, g⟩ s = none := rfl
theorem ag_alloc (ty' : TypeId) (g : Option (Nat × Bool)) (s : S) : accG ops ⟨d, .alloc ty', ty, ps, af, g⟩ s = none := rfl
theorem ag_move (x : Operand) (g : Option (Nat × Bool)) (s : S) : accG ops ⟨d, .move x, ty, ps, af, g⟩ s = none := rfl
theorem ag_ixa (ty' : TypeId) (x i : Operand) (g : Option (Nat × Bool)) (s : S) : accG ops ⟨d, .indexAddr ty' x i, ty, ps, af, g⟩ s = none := rfl
theorem l1_no (a : Nat) : late1 (some (some .no)) (some (some (.at a true))) = true := rfl
theorem l1_at (a b : Nat) : late1 (some (some (.at a false))) (some (some (.at b true))) = !(a == b) := rfl
theorem lk_nil (r : List (Option Acc)) : lateOk [] r = true := rfl
theorem lk_cons (i j : Nat) (ps : List (Nat × Nat)) (r : List (Option Acc)) : lateOk ((i, j) :: ps) r = (late1 r[i]? r[j]? && lateOk ps r) := rfl
end
attribute [go_sem] ag_store ag_load ag_field ag_alloc ag_move ag_ixa l1_no l1_at lk_nil lk_cons
end Go.Eng
namespace Go.L25
open Go Go.Eng Go.Proofs
open Nat (reduceShiftRight reduceAnd reduceEqDiff reduceLeDiff)
open Int (reduceToNat)
set_option maxRecDepth 10000
set_option maxHeartbeats 1000000
section
open Classical
noncomputable def dq {α : Type} (a b : α) : Bool := decide (a = b)
theorem dq_t {α : Type} {a b : α} (h : a = b) : dq a b = true := by unfold dq; exact decide_eq_true h
theorem dq_f {α : Type} {a b : α} (h : ¬ a = b) : dq a b = false := by unfold dq; exact decide_eq_false h
theorem dq_self {α : Type} (a : α) : dq a a = true := dq_t rfl
theorem dq_iff {α β : Type} {a b : α} {c d : β} (h : a = b ↔ c = d) : dq a b = dq c d := by
  by_cases q : a = b
  · rw [dq_t q, dq_t (h.1 q)]
  · rw [dq_f q, dq_f (fun e => q (h.2 e))]
theorem dq_cons {α : Type} (c d : α) (r s : List α) : dq (c :: r) (d :: s) = (dq c d && dq r s) := by
  by_cases q : c = d
  · subst q
    rw [dq_self, Bool.true_and]
    exact dq_iff ⟨fun e => (List.cons.inj e).2, fun e => by rw [e]⟩
  · rw [dq_f q, dq_f (fun e => q (List.cons.inj e).1)]; rfl
theorem dq_and {α β γ : Type} {a b : α} {c d : β} {e f : γ} (h : a = b ↔ (c = d ∧ e = f)) : dq a b = (dq c d && dq e f) := by
  by_cases q : c = d
  · by_cases q2 : e = f
    · rw [dq_t q, dq_t q2, dq_t (h.2 ⟨q, q2⟩)]; rfl
    · rw [dq_f q2, dq_f (fun x => q2 (h.1 x).2), Bool.and_false]
  · rw [dq_f q, dq_f (fun x => q (h.1 x).1)]; rfl
theorem dq_len {α : Type} {a b : List α} (h : ¬ a.length = b.length) : dq a b = false := dq_f fun e => h (by rw [e])
end
theorem bs_inj {a b : Bs} (h : bs a = bs b) : a = b := Subtype.ext h
theorem beq_dq (a b : Bs) : List.beq (bs a) (bs b) = dq a b := by
  by_cases q : a = b
  · subst q; rw [dq_self]; exact (beq_self_eq_true (bs a) : (bs a == bs a) = true)
  · rw [dq_f q]
    cases h : List.beq (bs a) (bs b) with
    | false => rfl
    | true => exact absurd (bs_inj (eq_of_beq (a := bs a) (b := bs b) h)) q
theorem t43 (l m : List Bs) (hl : l.length ≤ 2 ^ 28) (hm : m.length ≤ 2 ^ 28) : pureCall C 43 [.sl (List.map encS l), .sl (List.map encS m)] = some (tf (dq l m)) := by
  by_cases hlen : l.length = m.length
  · have key : ∀ (r s : List Bs) (j : Nat) (x : Int), x = j → l.drop j = r → m.drop j = s →
        ∃ x', n43_14 ⟨[(0, .d (.sl (List.map encS l))), (1, .d (.sl (List.map encS m))), (5, .d (.lit (.int .i64 x)))], []⟩ =
          some (bif dq r s then (.exit 0, ⟨[(0, .d (.sl (List.map encS l))), (1, .d (.sl (List.map encS m))), (5, x'), (14, .d (.lit (.bool false)))], []⟩) else (.ret, ⟨[(4, .d (.lit (.bool false)))], []⟩)) := by
      intro r
      induction r with
      | nil =>
        intro s j x hx hd hd2
        have hd := drop_nil hd
        have hs : s = [] := by rw [← hd2]; exact List.drop_eq_nil_of_le (by omega)
        refine ⟨.d (.lit (.int .i64 x)), ?_⟩
        rw [r_n43_14, dq_t hs.symm]
        simp -implicitDefEqProofs (maxSteps := 10000000) (disch := omega) only [go_sem, Int.reduceAdd, Int.reduceSub, Int.reduceMul, dec_t, dec_f, Nat.reduceBEq, Nat.reduceBNe, reduceShiftRight, reduceAnd, Nat.reduceAdd, Nat.reduceSub, reduceEqDiff, Nat.reduceLT, reduceLeDiff, reduceToNat, Int.reduceLT, Int.reduceLE, Int.reduceEq, reduceIte, reduceCtorEq]
      | cons c r ih =>
        intro s j x hx hd hd2
        obtain ⟨g1, g2, g3, g4⟩ := drop_cons hd
        cases s with
        | nil => have := drop_nil hd2; omega
        | cons d s =>
          obtain ⟨f1, f2, f3, f4⟩ := drop_cons hd2
          have hnat : Int.toNat x = j := by omega
          obtain ⟨x', h⟩ := ih s (j + 1) (x + 1) (by omega) g3 f3
          rw [dq_cons]
          have hb := beq_dq c d
          refine ⟨x', ?_⟩
          generalize dq r s = w at h ⊢
          generalize dq c d = v at hb ⊢
          clear ih
          rw [r_n43_14]
          cases v
          · simp -implicitDefEqProofs (maxSteps := 10000000) (disch := omega) only [go_sem, Int.reduceAdd, Int.reduceSub, Int.reduceMul, dec_t, dec_f, Nat.reduceBEq, Nat.reduceBNe, reduceShiftRight, reduceAnd, Nat.reduceAdd, Nat.reduceSub, reduceEqDiff, Nat.reduceLT, reduceLeDiff, reduceToNat, Int.reduceLT, Int.reduceLE, Int.reduceEq, reduceIte, reduceCtorEq, g2, f2, hnat, hb]
          · simp -implicitDefEqProofs (maxSteps := 10000000) (disch := omega) only [go_sem, Int.reduceAdd, Int.reduceSub, Int.reduceMul, dec_t, dec_f, Nat.reduceBEq, Nat.reduceBNe, reduceShiftRight, reduceAnd, Nat.reduceAdd, Nat.reduceSub, reduceEqDiff, Nat.reduceLT, reduceLeDiff, reduceToNat, Int.reduceLT, Int.reduceLE, Int.reduceEq, reduceIte, reduceCtorEq, g2, f2, hnat, hb, h]
    obtain ⟨x', h⟩ := key l m 0 0 rfl rfl rfl
    generalize dq l m = w at h ⊢
    rw [p43]
    cases w
    · simp -implicitDefEqProofs (maxSteps := 10000000) (disch := omega) only [go_sem, Int.reduceAdd, Int.reduceSub, Int.reduceMul, dec_t, dec_f, Nat.reduceBEq, Nat.reduceBNe, reduceShiftRight, reduceAnd, Nat.reduceAdd, Nat.reduceSub, reduceEqDiff, Nat.reduceLT, reduceLeDiff, reduceToNat, Int.reduceLT, Int.reduceLE, Int.reduceEq, reduceIte, reduceCtorEq]
      simp -implicitDefEqProofs (maxSteps := 10000000) (disch := omega) only [go_sem, Int.reduceAdd, Int.reduceSub, Int.reduceMul, dec_t, dec_f, Nat.reduceBEq, Nat.reduceBNe, reduceShiftRight, reduceAnd, Nat.reduceAdd, Nat.reduceSub, reduceEqDiff, Nat.reduceLT, reduceLeDiff, reduceToNat, Int.reduceLT, Int.reduceLE, Int.reduceEq, reduceIte, reduceCtorEq, h]
    · simp -implicitDefEqProofs (maxSteps := 10000000) (disch := omega) only [go_sem, Int.reduceAdd, Int.reduceSub, Int.reduceMul, dec_t, dec_f, Nat.reduceBEq, Nat.reduceBNe, reduceShiftRight, reduceAnd, Nat.reduceAdd, Nat.reduceSub, reduceEqDiff, Nat.reduceLT, reduceLeDiff, reduceToNat, Int.reduceLT, Int.reduceLE, Int.reduceEq, reduceIte, reduceCtorEq]
      simp -implicitDefEqProofs (maxSteps := 10000000) (disch := omega) only [go_sem, Int.reduceAdd, Int.reduceSub, Int.reduceMul, dec_t, dec_f, Nat.reduceBEq, Nat.reduceBNe, reduceShiftRight, reduceAnd, Nat.reduceAdd, Nat.reduceSub, reduceEqDiff, Nat.reduceLT, reduceLeDiff, reduceToNat, Int.reduceLT, Int.reduceLE, Int.reduceEq, reduceIte, reduceCtorEq, h]
  · rw [dq_len hlen, p43]
    simp -implicitDefEqProofs (maxSteps := 10000000) (disch := omega) only [go_sem, Int.reduceAdd, Int.reduceSub, Int.reduceMul, dec_t, dec_f, Nat.reduceBEq, Nat.reduceBNe, reduceShiftRight, reduceAnd, Nat.reduceAdd, Nat.reduceSub, reduceEqDiff, Nat.reduceLT, reduceLeDiff, reduceToNat, Int.reduceLT, Int.reduceLE, Int.reduceEq, reduceIte, reduceCtorEq]
set_option maxRecDepth 10000
set_option maxHeartbeats 1000000
theorem dq_bool (a b : Bool) : dq a b = (a == b) := by cases a <;> cases b <;> first | exact dq_t rfl | exact dq_f (by simp)
theorem t49 (l m : List Bs) (hl : l.length ≤ 2 ^ 28) (hm : m.length ≤ 2 ^ 28) : pureCall C 49 [.sl (List.map encS l), .sl (List.map encS m)] = some (tf (dq l m)) := by
  by_cases hlen : l.length = m.length
  · have key : ∀ (r s : List Bs) (j : Nat) (x : Int), x = j → l.drop j = r → m.drop j = s →
        ∃ x', n49_14 ⟨[(0, .d (.sl (List.map encS l))), (1, .d (.sl (List.map encS m))), (12, .d (.lit (.int .i64 (l.length : Nat)))), (13, .d (.lit (.int .i64 x)))], []⟩ =
          some (bif dq r s then (.exit 0, ⟨[(0, .d (.sl (List.map encS l))), (1, .d (.sl (List.map encS m))), (12, .d (.lit (.int .i64 (l.length : Nat)))), (13, x'), (14, .d (.lit (.bool false)))], []⟩) else (.ret, ⟨[(4, .d (.lit (.bool false)))], []⟩)) := by
      intro r
      induction r with
      | nil =>
        intro s j x hx hd hd2
        have hd := drop_nil hd
        have hs : s = [] := by rw [← hd2]; exact List.drop_eq_nil_of_le (by omega)
        refine ⟨.d (.lit (.int .i64 x)), ?_⟩
        rw [r_n49_14, dq_t hs.symm]
        simp -implicitDefEqProofs (maxSteps := 10000000) (disch := omega) only [go_sem, Int.reduceAdd, Int.reduceSub, Int.reduceMul, dec_t, dec_f, Nat.reduceBEq, Nat.reduceBNe, reduceShiftRight, reduceAnd, Nat.reduceAdd, Nat.reduceSub, reduceEqDiff, Nat.reduceLT, reduceLeDiff, reduceToNat, Int.reduceLT, Int.reduceLE, Int.reduceEq, reduceIte, reduceCtorEq]
      | cons c r ih =>
        intro s j x hx hd hd2
        obtain ⟨g1, g2, g3, g4⟩ := drop_cons hd
        cases s with
        | nil => have := drop_nil hd2; omega
        | cons d s =>
          obtain ⟨f1, f2, f3, f4⟩ := drop_cons hd2
          have hnat : Int.toNat x = j := by omega
          obtain ⟨x', h⟩ := ih s (j + 1) (x + 1) (by omega) g3 f3
          rw [dq_cons]
          have hb := beq_dq c d
          refine ⟨x', ?_⟩
          generalize dq r s = w at h ⊢
          generalize dq c d = v at hb ⊢
          clear ih
          rw [r_n49_14]
          cases v
          · simp -implicitDefEqProofs (maxSteps := 10000000) (disch := omega) only [go_sem, Int.reduceAdd, Int.reduceSub, Int.reduceMul, dec_t, dec_f, Nat.reduceBEq, Nat.reduceBNe, reduceShiftRight, reduceAnd, Nat.reduceAdd, Nat.reduceSub, reduceEqDiff, Nat.reduceLT, reduceLeDiff, reduceToNat, Int.reduceLT, Int.reduceLE, Int.reduceEq, reduceIte, reduceCtorEq, g2, f2, hnat, hb]
          · simp -implicitDefEqProofs (maxSteps := 10000000) (disch := omega) only [go_sem, Int.reduceAdd, Int.reduceSub, Int.reduceMul, dec_t, dec_f, Nat.reduceBEq, Nat.reduceBNe, reduceShiftRight, reduceAnd, Nat.reduceAdd, Nat.reduceSub, reduceEqDiff, Nat.reduceLT, reduceLeDiff, reduceToNat, Int.reduceLT, Int.reduceLE, Int.reduceEq, reduceIte, reduceCtorEq, g2, f2, hnat, hb, h]
    obtain ⟨x', h⟩ := key l m 0 0 rfl rfl rfl
    generalize dq l m = w at h ⊢
    rw [p49]
    cases w
    · simp -implicitDefEqProofs (maxSteps := 10000000) (disch := omega) only [go_sem, Int.reduceAdd, Int.reduceSub, Int.reduceMul, dec_t, dec_f, Nat.reduceBEq, Nat.reduceBNe, reduceShiftRight, reduceAnd, Nat.reduceAdd, Nat.reduceSub, reduceEqDiff, Nat.reduceLT, reduceLeDiff, reduceToNat, Int.reduceLT, Int.reduceLE, Int.reduceEq, reduceIte, reduceCtorEq]
      simp -implicitDefEqProofs (maxSteps := 10000000) (disch := omega) only [go_sem, Int.reduceAdd, Int.reduceSub, Int.reduceMul, dec_t, dec_f, Nat.reduceBEq, Nat.reduceBNe, reduceShiftRight, reduceAnd, Nat.reduceAdd, Nat.reduceSub, reduceEqDiff, Nat.reduceLT, reduceLeDiff, reduceToNat, Int.reduceLT, Int.reduceLE, Int.reduceEq, reduceIte, reduceCtorEq, h]
    · simp -implicitDefEqProofs (maxSteps := 10000000) (disch := omega) only [go_sem, Int.reduceAdd, Int.reduceSub, Int.reduceMul, dec_t, dec_f, Nat.reduceBEq, Nat.reduceBNe, reduceShiftRight, reduceAnd, Nat.reduceAdd, Nat.reduceSub, reduceEqDiff, Nat.reduceLT, reduceLeDiff, reduceToNat, Int.reduceLT, Int.reduceLE, Int.reduceEq, reduceIte, reduceCtorEq]
      simp -implicitDefEqProofs (maxSteps := 10000000) (disch := omega) only [go_sem, Int.reduceAdd, Int.reduceSub, Int.reduceMul, dec_t, dec_f, Nat.reduceBEq, Nat.reduceBNe, reduceShiftRight, reduceAnd, Nat.reduceAdd, Nat.reduceSub, reduceEqDiff, Nat.reduceLT, reduceLeDiff, reduceToNat, Int.reduceLT, Int.reduceLE, Int.reduceEq, reduceIte, reduceCtorEq, h]
  · rw [dq_len hlen, p49]
    simp -implicitDefEqProofs (maxSteps := 10000000) (disch := omega) only [go_sem, Int.reduceAdd, Int.reduceSub, Int.reduceMul, dec_t, dec_f, Nat.reduceBEq, Nat.reduceBNe, reduceShiftRight, reduceAnd, Nat.reduceAdd, Nat.reduceSub, reduceEqDiff, Nat.reduceLT, reduceLeDiff, reduceToNat, Int.reduceLT, Int.reduceLE, Int.reduceEq, reduceIte, reduceCtorEq]
theorem t111k (i i' e e' : Bs) (a a' : List Bs) (hi hi' hf hf' : Bool) (ha : a.length ≤ 2 ^ 28) (hlen : a.length = a'.length) : ∀ (r s : List Bs) (j : Nat) (x : Int), x = j → a.drop j = r → a'.drop j = s →
    ∃ x', n111_14 ⟨[(2, .ptr 0 1 0 0), (3, .ptr 1 1 0 0), (5, .d (.lit (.int .i64 x)))], [⟨5, [.d (.agg [.str (bs i), .sl (a.map encS), .str (bs e), .lit (.bool hi), .lit (.bool hf)])], false, false, false⟩, ⟨5, [.d (.agg [.str (bs i'), .sl (a'.map encS), .str (bs e'), .lit (.bool hi'), .lit (.bool hf')])], false, false, false⟩]⟩ =
      some (bif dq r s then (.exit 0, ⟨[(2, .ptr 0 1 0 0), (3, .ptr 1 1 0 0), (5, x'), (45, .d (.lit (.bool false)))], [⟨5, [.d (.agg [.str (bs i), .sl (a.map encS), .str (bs e), .lit (.bool hi), .lit (.bool hf)])], false, false, false⟩, ⟨5, [.d (.agg [.str (bs i'), .sl (a'.map encS), .str (bs e'), .lit (.bool hi'), .lit (.bool hf')])], false, false, false⟩]⟩)
        else (.ret, ⟨[(4, .d (.lit (.bool false)))], [⟨5, [.d (.agg [.str (bs i), .sl (a.map encS), .str (bs e), .lit (.bool hi), .lit (.bool hf)])], false, false, false⟩, ⟨5, [.d (.agg [.str (bs i'), .sl (a'.map encS), .str (bs e'), .lit (.bool hi'), .lit (.bool hf')])], false, false, false⟩]⟩)) := by
  intro r
  induction r with
  | nil =>
    intro s j x hx hd hd2
    have hd := drop_nil hd
    have hs : s = [] := by rw [← hd2]; exact List.drop_eq_nil_of_le (by omega)
    refine ⟨.d (.lit (.int .i64 x)), ?_⟩
    rw [r_n111_14, dq_t hs.symm]
    simp -implicitDefEqProofs (maxSteps := 10000000) (disch := omega) only [go_sem, Int.reduceAdd, Int.reduceSub, Int.reduceMul, dec_t, dec_f, Nat.reduceBEq, Nat.reduceBNe, reduceShiftRight, reduceAnd, Nat.reduceAdd, Nat.reduceSub, reduceEqDiff, Nat.reduceLT, reduceLeDiff, reduceToNat, Int.reduceLT, Int.reduceLE, Int.reduceEq, reduceIte, reduceCtorEq]
  | cons c r ih =>
    intro s j x hx hd hd2
    obtain ⟨g1, g2, g3, g4⟩ := drop_cons hd
    cases s with
    | nil => have := drop_nil hd2; omega
    | cons d s =>
      obtain ⟨f1, f2, f3, f4⟩ := drop_cons hd2
      have hnat : Int.toNat x = j := by omega
      obtain ⟨x', h⟩ := ih s (j + 1) (x + 1) (by omega) g3 f3
      rw [dq_cons]
      have hb := beq_dq c d
      refine ⟨x', ?_⟩
      generalize dq r s = w at h ⊢
      generalize dq c d = v at hb ⊢
      clear ih
      rw [r_n111_14]
      cases v
      · simp -implicitDefEqProofs (maxSteps := 10000000) (disch := omega) only [go_sem, Int.reduceAdd, Int.reduceSub, Int.reduceMul, dec_t, dec_f, Nat.reduceBEq, Nat.reduceBNe, reduceShiftRight, reduceAnd, Nat.reduceAdd, Nat.reduceSub, reduceEqDiff, Nat.reduceLT, reduceLeDiff, reduceToNat, Int.reduceLT, Int.reduceLE, Int.reduceEq, reduceIte, reduceCtorEq, g2, f2, hnat, hb]
      · simp -implicitDefEqProofs (maxSteps := 10000000) (disch := omega) only [go_sem, Int.reduceAdd, Int.reduceSub, Int.reduceMul, dec_t, dec_f, Nat.reduceBEq, Nat.reduceBNe, reduceShiftRight, reduceAnd, Nat.reduceAdd, Nat.reduceSub, reduceEqDiff, Nat.reduceLT, reduceLeDiff, reduceToNat, Int.reduceLT, Int.reduceLE, Int.reduceEq, reduceIte, reduceCtorEq, g2, f2, hnat, hb, h]
theorem t111 (i i' e e' : Bs) (a a' : List Bs) (hi hi' hf hf' : Bool) (ha : a.length ≤ 2 ^ 28) (ha' : a'.length ≤ 2 ^ 28) : pureCall C 111 [.agg [.str (bs i), .sl (a.map encS), .str (bs e), .lit (.bool hi), .lit (.bool hf)], .agg [.str (bs i'), .sl (a'.map encS), .str (bs e'), .lit (.bool hi'), .lit (.bool hf')]] =
    some (tf (dq i i' && (dq e e' && (dq hi hi' && (dq hf hf' && dq a a'))))) := by
  have b1 := beq_dq i i'
  have b2 := beq_dq e e'
  rw [dq_bool, dq_bool]
  rw [p111]
  generalize dq i i' = v1 at b1 ⊢
  generalize dq e e' = v2 at b2 ⊢
  generalize b3 : (hi == hi') = v3
  generalize b4 : (hf == hf') = v4
  cases v1
  · simp -implicitDefEqProofs (maxSteps := 10000000) (disch := omega) only [go_sem, Int.reduceAdd, Int.reduceSub, Int.reduceMul, dec_t, dec_f, Nat.reduceBEq, Nat.reduceBNe, reduceShiftRight, reduceAnd, Nat.reduceAdd, Nat.reduceSub, reduceEqDiff, Nat.reduceLT, reduceLeDiff, reduceToNat, Int.reduceLT, Int.reduceLE, Int.reduceEq, reduceIte, reduceCtorEq, b1]
  cases v2
  · simp -implicitDefEqProofs (maxSteps := 10000000) (disch := omega) only [go_sem, Int.reduceAdd, Int.reduceSub, Int.reduceMul, dec_t, dec_f, Nat.reduceBEq, Nat.reduceBNe, reduceShiftRight, reduceAnd, Nat.reduceAdd, Nat.reduceSub, reduceEqDiff, Nat.reduceLT, reduceLeDiff, reduceToNat, Int.reduceLT, Int.reduceLE, Int.reduceEq, reduceIte, reduceCtorEq, b1, b2]
  cases v3
  · simp -implicitDefEqProofs (maxSteps := 10000000) (disch := omega) only [go_sem, Int.reduceAdd, Int.reduceSub, Int.reduceMul, dec_t, dec_f, Nat.reduceBEq, Nat.reduceBNe, reduceShiftRight, reduceAnd, Nat.reduceAdd, Nat.reduceSub, reduceEqDiff, Nat.reduceLT, reduceLeDiff, reduceToNat, Int.reduceLT, Int.reduceLE, Int.reduceEq, reduceIte, reduceCtorEq, b1, b2, b3]
  cases v4
  · simp -implicitDefEqProofs (maxSteps := 10000000) (disch := omega) only [go_sem, Int.reduceAdd, Int.reduceSub, Int.reduceMul, dec_t, dec_f, Nat.reduceBEq, Nat.reduceBNe, reduceShiftRight, reduceAnd, Nat.reduceAdd, Nat.reduceSub, reduceEqDiff, Nat.reduceLT, reduceLeDiff, reduceToNat, Int.reduceLT, Int.reduceLE, Int.reduceEq, reduceIte, reduceCtorEq, b1, b2, b3, b4]
  by_cases hlen : a.length = a'.length
  · obtain ⟨x', h⟩ := t111k i i' e e' a a' hi hi' hf hf' ha hlen a a' 0 0 rfl rfl rfl
    generalize dq a a' = w at h ⊢
    cases w <;> (simp -implicitDefEqProofs (maxSteps := 10000000) (disch := omega) only [go_sem, Int.reduceAdd, Int.reduceSub, Int.reduceMul, dec_t, dec_f, Nat.reduceBEq, Nat.reduceBNe, reduceShiftRight, reduceAnd, Nat.reduceAdd, Nat.reduceSub, reduceEqDiff, Nat.reduceLT, reduceLeDiff, reduceToNat, Int.reduceLT, Int.reduceLE, Int.reduceEq, reduceIte, reduceCtorEq, b1, b2, b3, b4, h])
  · rw [dq_len hlen]
    simp -implicitDefEqProofs (maxSteps := 10000000) (disch := omega) only [go_sem, Int.reduceAdd, Int.reduceSub, Int.reduceMul, dec_t, dec_f, Nat.reduceBEq, Nat.reduceBNe, reduceShiftRight, reduceAnd, Nat.reduceAdd, Nat.reduceSub, reduceEqDiff, Nat.reduceLT, reduceLeDiff, reduceToNat, Int.reduceLT, Int.reduceLE, Int.reduceEq, reduceIte, reduceCtorEq, b1, b2, b3, b4]
set_option maxRecDepth 10000
set_option maxHeartbeats 1000000
theorem dq_true {α : Type} {a b : α} : dq a b = true ↔ a = b := by
  by_cases q : a = b
  · rw [dq_t q]; simp [q]
  · rw [dq_f q]; simp [q]
theorem dq_int (x y : Int) : decide (x = y) = dq x y := by
  by_cases q : x = y
  · rw [dq_t q]; exact decide_eq_true q
  · rw [dq_f q]; exact decide_eq_false q
theorem Fo_ext {f g : Fo} (h1 : kind f = kind g) (h2 : name f = name g) (h3 : value f = value g) (h4 : ini f = ini g) (h5 : any f = any g) (h6 : fin f = fin g) (h7 : hi f = hi g) (h8 : hf f = hf g) (h9 : rule f = rule g) (h10 : dn f = dn g) (h11 : kids f = kids g) : f = g := by
  obtain ⟨⟨k, n, v, i, a, e, x, y, r, d, ks⟩, hf⟩ := f
  obtain ⟨⟨k', n', v', i', a', e', x', y', r', d', ks'⟩, hg⟩ := g
  have hk : ∀ (k : Int) (n v i : Bs) (a : List Bs) (e : Bs) (x y : Bool) (r : Bs) (d : Bool) (ks : List F) (h : OkF (.mk k n v i a e x y r d ks)), (kids ⟨.mk k n v i a e x y r d ks, h⟩).map (fun (z : Fo) => z.1) = ks := by
    intro k n v i a e x y r d ks h
    show (ks.attach.map _).map _ = ks
    rw [List.map_map]
    exact List.attach_map_subtype_val ks
  have h12 : ks = ks' := (hk k n v i a e x y r d ks hf).symm.trans ((congrArg (fun (l : List Fo) => l.map (fun (z : Fo) => z.1)) h11).trans (hk k' n' v' i' a' e' x' y' r' d' ks' hg))
  have e1 : k = k' := h1
  have e2 : n = n' := h2
  have e3 : v = v' := h3
  have e4 : i = i' := h4
  have e5 : a = a' := h5
  have e6 : e = e' := h6
  have e7 : x = x' := h7
  have e8 : y = y' := h8
  have e9 : r = r' := h9
  have e10 : d = d' := h10
  subst e1 e2 e3 e4 e5 e6 e7 e8 e9 e10 h12
  rfl
theorem dq_Fo (a b : Fo) : dq a b = (dq (kind a) (kind b) && (dq (name a) (name b) && (dq (value a) (value b) && (dq (rule a) (rule b) && (dq (dn a) (dn b) && ((dq (ini a) (ini b) && (dq (fin a) (fin b) && (dq (hi a) (hi b) && (dq (hf a) (hf b) && dq (any a) (any b))))) && dq (kids a) (kids b))))))) := by
  rw [Bool.eq_iff_iff]
  simp only [Bool.and_eq_true, dq_true]
  constructor
  · rintro rfl; simp
  · rintro ⟨h1, h2, h3, h4, h5, ⟨h6, h7, h8, h9, h10⟩, h11⟩
    exact Fo_ext h1 h2 h3 h6 h10 h7 h8 h9 h4 h5 h11
theorem t44k (a b : Fo) (hlen : (kids a).length = (kids b).length) (IH : ∀ c ∈ kids a, ∀ d, pureCall C 44 [(.agg [.lit (.int .i64 (kind c)), .str (bs (name c)), .str (bs (value c)), .str (bs (ini c)), .sl (List.map encS (any c)), .str (bs (fin c)), .lit (.bool (hi c)), .lit (.bool (hf c)), .str (bs (rule c)), .lit (.bool (dn c)), .sl (List.map encO (kids c))]), (.agg [.lit (.int .i64 (kind d)), .str (bs (name d)), .str (bs (value d)), .str (bs (ini d)), .sl (List.map encS (any d)), .str (bs (fin d)), .lit (.bool (hi d)), .lit (.bool (hf d)), .str (bs (rule d)), .lit (.bool (dn d)), .sl (List.map encO (kids d))])] = some (tf (dq c d))) : ∀ (r s : List Fo) (j : Nat) (x : Int), x = j → (kids a).drop j = r → (kids b).drop j = s →
    ∃ x', n44_14 ⟨[(2, .ptr 0 1 0 0), (3, .ptr 1 1 0 0), (5, .d (.lit (.int .i64 x)))], [⟨11, [.d (.agg [.lit (.int .i64 (kind a)), .str (bs (name a)), .str (bs (value a)), .str (bs (ini a)), .sl (List.map encS (any a)), .str (bs (fin a)), .lit (.bool (hi a)), .lit (.bool (hf a)), .str (bs (rule a)), .lit (.bool (dn a)), .sl (List.map encO (kids a))])], false, false, false⟩, ⟨11, [.d (.agg [.lit (.int .i64 (kind b)), .str (bs (name b)), .str (bs (value b)), .str (bs (ini b)), .sl (List.map encS (any b)), .str (bs (fin b)), .lit (.bool (hi b)), .lit (.bool (hf b)), .str (bs (rule b)), .lit (.bool (dn b)), .sl (List.map encO (kids b))])], false, false, false⟩]⟩ =
      some (bif dq r s then (.exit 0, ⟨[(2, .ptr 0 1 0 0), (3, .ptr 1 1 0 0), (5, x'), (60, .d (.lit (.bool false)))], [⟨11, [.d (.agg [.lit (.int .i64 (kind a)), .str (bs (name a)), .str (bs (value a)), .str (bs (ini a)), .sl (List.map encS (any a)), .str (bs (fin a)), .lit (.bool (hi a)), .lit (.bool (hf a)), .str (bs (rule a)), .lit (.bool (dn a)), .sl (List.map encO (kids a))])], false, false, false⟩, ⟨11, [.d (.agg [.lit (.int .i64 (kind b)), .str (bs (name b)), .str (bs (value b)), .str (bs (ini b)), .sl (List.map encS (any b)), .str (bs (fin b)), .lit (.bool (hi b)), .lit (.bool (hf b)), .str (bs (rule b)), .lit (.bool (dn b)), .sl (List.map encO (kids b))])], false, false, false⟩]⟩)
        else (.ret, ⟨[(4, .d (.lit (.bool false)))], [⟨11, [.d (.agg [.lit (.int .i64 (kind a)), .str (bs (name a)), .str (bs (value a)), .str (bs (ini a)), .sl (List.map encS (any a)), .str (bs (fin a)), .lit (.bool (hi a)), .lit (.bool (hf a)), .str (bs (rule a)), .lit (.bool (dn a)), .sl (List.map encO (kids a))])], false, false, false⟩, ⟨11, [.d (.agg [.lit (.int .i64 (kind b)), .str (bs (name b)), .str (bs (value b)), .str (bs (ini b)), .sl (List.map encS (any b)), .str (bs (fin b)), .lit (.bool (hi b)), .lit (.bool (hf b)), .str (bs (rule b)), .lit (.bool (dn b)), .sl (List.map encO (kids b))])], false, false, false⟩]⟩)) := by
  have hla := kids_le a
  intro r
  induction r with
  | nil =>
    intro s j x hx hd hd2
    have hd := drop_nil hd
    have hs : s = [] := by rw [← hd2]; exact List.drop_eq_nil_of_le (by omega)
    refine ⟨.d (.lit (.int .i64 x)), ?_⟩
    rw [r_n44_14, dq_t hs.symm]
    simp -implicitDefEqProofs (maxSteps := 10000000) (disch := omega) only [go_sem, Int.reduceAdd, Int.reduceSub, Int.reduceMul, dec_t, dec_f, Nat.reduceBEq, Nat.reduceBNe, reduceShiftRight, reduceAnd, Nat.reduceAdd, Nat.reduceSub, reduceEqDiff, Nat.reduceLT, reduceLeDiff, reduceToNat, Int.reduceLT, Int.reduceLE, Int.reduceEq, reduceIte, reduceCtorEq]
  | cons c r ih =>
    intro s j x hx hd hd2
    obtain ⟨g1, g2, g3, g4⟩ := drop_cons hd
    cases s with
    | nil => have := drop_nil hd2; omega
    | cons d s =>
      obtain ⟨f1, f2, f3, f4⟩ := drop_cons hd2
      have hnat : Int.toNat x = j := by omega
      obtain ⟨x', h⟩ := ih s (j + 1) (x + 1) (by omega) g3 f3
      rw [dq_cons]
      have hb := IH c g4 d
      refine ⟨x', ?_⟩
      generalize dq r s = w at h ⊢
      generalize dq c d = v at hb ⊢
      clear ih IH
      rw [r_n44_14]
      cases v
      · simp -implicitDefEqProofs (maxSteps := 10000000) (disch := omega) only [go_sem, Int.reduceAdd, Int.reduceSub, Int.reduceMul, dec_t, dec_f, Nat.reduceBEq, Nat.reduceBNe, reduceShiftRight, reduceAnd, Nat.reduceAdd, Nat.reduceSub, reduceEqDiff, Nat.reduceLT, reduceLeDiff, reduceToNat, Int.reduceLT, Int.reduceLE, Int.reduceEq, reduceIte, reduceCtorEq, g2, f2, hnat, hb]
      · simp -implicitDefEqProofs (maxSteps := 10000000) (disch := omega) only [go_sem, Int.reduceAdd, Int.reduceSub, Int.reduceMul, dec_t, dec_f, Nat.reduceBEq, Nat.reduceBNe, reduceShiftRight, reduceAnd, Nat.reduceAdd, Nat.reduceSub, reduceEqDiff, Nat.reduceLT, reduceLeDiff, reduceToNat, Int.reduceLT, Int.reduceLE, Int.reduceEq, reduceIte, reduceCtorEq, g2, f2, hnat, hb, h]
theorem t44s (a b : Fo) (IH : ∀ c ∈ kids a, ∀ d, pureCall C 44 [(.agg [.lit (.int .i64 (kind c)), .str (bs (name c)), .str (bs (value c)), .str (bs (ini c)), .sl (List.map encS (any c)), .str (bs (fin c)), .lit (.bool (hi c)), .lit (.bool (hf c)), .str (bs (rule c)), .lit (.bool (dn c)), .sl (List.map encO (kids c))]), (.agg [.lit (.int .i64 (kind d)), .str (bs (name d)), .str (bs (value d)), .str (bs (ini d)), .sl (List.map encS (any d)), .str (bs (fin d)), .lit (.bool (hi d)), .lit (.bool (hf d)), .str (bs (rule d)), .lit (.bool (dn d)), .sl (List.map encO (kids d))])] = some (tf (dq c d))) : pureCall C 44 [(.agg [.lit (.int .i64 (kind a)), .str (bs (name a)), .str (bs (value a)), .str (bs (ini a)), .sl (List.map encS (any a)), .str (bs (fin a)), .lit (.bool (hi a)), .lit (.bool (hf a)), .str (bs (rule a)), .lit (.bool (dn a)), .sl (List.map encO (kids a))]), (.agg [.lit (.int .i64 (kind b)), .str (bs (name b)), .str (bs (value b)), .str (bs (ini b)), .sl (List.map encS (any b)), .str (bs (fin b)), .lit (.bool (hi b)), .lit (.bool (hf b)), .str (bs (rule b)), .lit (.bool (dn b)), .sl (List.map encO (kids b))])] = some (tf (dq a b)) := by
  have hla := kids_le a
  have hlb := kids_le b
  have b0 := dq_int (kind a) (kind b)
  have b1 := beq_dq (name a) (name b)
  have b2 := beq_dq (value a) (value b)
  have b3 := beq_dq (rule a) (rule b)
  have h111 := t111 (ini a) (ini b) (fin a) (fin b) (any a) (any b) (hi a) (hi b) (hf a) (hf b) (any_28 a) (any_28 b)
  rw [dq_Fo]
  rw [dq_bool (dn a)]
  generalize (dq (ini a) (ini b) && (dq (fin a) (fin b) && (dq (hi a) (hi b) && (dq (hf a) (hf b) && dq (any a) (any b))))) = v5 at h111 ⊢
  generalize dq (kind a) (kind b) = v0 at b0 ⊢
  generalize dq (name a) (name b) = v1 at b1 ⊢
  generalize dq (value a) (value b) = v2 at b2 ⊢
  generalize dq (rule a) (rule b) = v3 at b3 ⊢
  generalize b4 : (dn a == dn b) = v4
  have b6 := dq_int ((kids a).length : Nat) ((kids b).length : Nat)
  generalize hv6 : dq (((kids a).length : Nat) : Int) ((kids b).length : Nat) = v6 at b6
  rw [p44]
  simp -implicitDefEqProofs (maxSteps := 10000000) (disch := omega) only [go_sem, Int.reduceAdd, Int.reduceSub, Int.reduceMul, dec_t, dec_f, Nat.reduceBEq, Nat.reduceBNe, reduceShiftRight, reduceAnd, Nat.reduceAdd, Nat.reduceSub, reduceEqDiff, Nat.reduceLT, reduceLeDiff, reduceToNat, Int.reduceLT, Int.reduceLE, Int.reduceEq, reduceIte, reduceCtorEq, b0, b1, b2, b3, b4, b6, h111]
  cases v0
  · simp -implicitDefEqProofs (maxSteps := 10000000) (disch := omega) only [go_sem, Int.reduceAdd, Int.reduceSub, Int.reduceMul, dec_t, dec_f, Nat.reduceBEq, Nat.reduceBNe, reduceShiftRight, reduceAnd, Nat.reduceAdd, Nat.reduceSub, reduceEqDiff, Nat.reduceLT, reduceLeDiff, reduceToNat, Int.reduceLT, Int.reduceLE, Int.reduceEq, reduceIte, reduceCtorEq]
  simp -implicitDefEqProofs (maxSteps := 10000000) (disch := omega) only [go_sem, Int.reduceAdd, Int.reduceSub, Int.reduceMul, dec_t, dec_f, Nat.reduceBEq, Nat.reduceBNe, reduceShiftRight, reduceAnd, Nat.reduceAdd, Nat.reduceSub, reduceEqDiff, Nat.reduceLT, reduceLeDiff, reduceToNat, Int.reduceLT, Int.reduceLE, Int.reduceEq, reduceIte, reduceCtorEq, b0, b1, b2, b3, b4, b6, h111]
  cases v1
  · simp -implicitDefEqProofs (maxSteps := 10000000) (disch := omega) only [go_sem, Int.reduceAdd, Int.reduceSub, Int.reduceMul, dec_t, dec_f, Nat.reduceBEq, Nat.reduceBNe, reduceShiftRight, reduceAnd, Nat.reduceAdd, Nat.reduceSub, reduceEqDiff, Nat.reduceLT, reduceLeDiff, reduceToNat, Int.reduceLT, Int.reduceLE, Int.reduceEq, reduceIte, reduceCtorEq]
  simp -implicitDefEqProofs (maxSteps := 10000000) (disch := omega) only [go_sem, Int.reduceAdd, Int.reduceSub, Int.reduceMul, dec_t, dec_f, Nat.reduceBEq, Nat.reduceBNe, reduceShiftRight, reduceAnd, Nat.reduceAdd, Nat.reduceSub, reduceEqDiff, Nat.reduceLT, reduceLeDiff, reduceToNat, Int.reduceLT, Int.reduceLE, Int.reduceEq, reduceIte, reduceCtorEq, b0, b1, b2, b3, b4, b6, h111]
  cases v2
  · simp -implicitDefEqProofs (maxSteps := 10000000) (disch := omega) only [go_sem, Int.reduceAdd, Int.reduceSub, Int.reduceMul, dec_t, dec_f, Nat.reduceBEq, Nat.reduceBNe, reduceShiftRight, reduceAnd, Nat.reduceAdd, Nat.reduceSub, reduceEqDiff, Nat.reduceLT, reduceLeDiff, reduceToNat, Int.reduceLT, Int.reduceLE, Int.reduceEq, reduceIte, reduceCtorEq]
  simp -implicitDefEqProofs (maxSteps := 10000000) (disch := omega) only [go_sem, Int.reduceAdd, Int.reduceSub, Int.reduceMul, dec_t, dec_f, Nat.reduceBEq, Nat.reduceBNe, reduceShiftRight, reduceAnd, Nat.reduceAdd, Nat.reduceSub, reduceEqDiff, Nat.reduceLT, reduceLeDiff, reduceToNat, Int.reduceLT, Int.reduceLE, Int.reduceEq, reduceIte, reduceCtorEq, b0, b1, b2, b3, b4, b6, h111]
  cases v3
  · simp -implicitDefEqProofs (maxSteps := 10000000) (disch := omega) only [go_sem, Int.reduceAdd, Int.reduceSub, Int.reduceMul, dec_t, dec_f, Nat.reduceBEq, Nat.reduceBNe, reduceShiftRight, reduceAnd, Nat.reduceAdd, Nat.reduceSub, reduceEqDiff, Nat.reduceLT, reduceLeDiff, reduceToNat, Int.reduceLT, Int.reduceLE, Int.reduceEq, reduceIte, reduceCtorEq]
  simp -implicitDefEqProofs (maxSteps := 10000000) (disch := omega) only [go_sem, Int.reduceAdd, Int.reduceSub, Int.reduceMul, dec_t, dec_f, Nat.reduceBEq, Nat.reduceBNe, reduceShiftRight, reduceAnd, Nat.reduceAdd, Nat.reduceSub, reduceEqDiff, Nat.reduceLT, reduceLeDiff, reduceToNat, Int.reduceLT, Int.reduceLE, Int.reduceEq, reduceIte, reduceCtorEq, b0, b1, b2, b3, b4, b6, h111]
  cases v4
  · simp -implicitDefEqProofs (maxSteps := 10000000) (disch := omega) only [go_sem, Int.reduceAdd, Int.reduceSub, Int.reduceMul, dec_t, dec_f, Nat.reduceBEq, Nat.reduceBNe, reduceShiftRight, reduceAnd, Nat.reduceAdd, Nat.reduceSub, reduceEqDiff, Nat.reduceLT, reduceLeDiff, reduceToNat, Int.reduceLT, Int.reduceLE, Int.reduceEq, reduceIte, reduceCtorEq]
  simp -implicitDefEqProofs (maxSteps := 10000000) (disch := omega) only [go_sem, Int.reduceAdd, Int.reduceSub, Int.reduceMul, dec_t, dec_f, Nat.reduceBEq, Nat.reduceBNe, reduceShiftRight, reduceAnd, Nat.reduceAdd, Nat.reduceSub, reduceEqDiff, Nat.reduceLT, reduceLeDiff, reduceToNat, Int.reduceLT, Int.reduceLE, Int.reduceEq, reduceIte, reduceCtorEq, b0, b1, b2, b3, b4, b6, h111]
  cases v5
  · simp -implicitDefEqProofs (maxSteps := 10000000) (disch := omega) only [go_sem, Int.reduceAdd, Int.reduceSub, Int.reduceMul, dec_t, dec_f, Nat.reduceBEq, Nat.reduceBNe, reduceShiftRight, reduceAnd, Nat.reduceAdd, Nat.reduceSub, reduceEqDiff, Nat.reduceLT, reduceLeDiff, reduceToNat, Int.reduceLT, Int.reduceLE, Int.reduceEq, reduceIte, reduceCtorEq]
  simp -implicitDefEqProofs (maxSteps := 10000000) (disch := omega) only [go_sem, Int.reduceAdd, Int.reduceSub, Int.reduceMul, dec_t, dec_f, Nat.reduceBEq, Nat.reduceBNe, reduceShiftRight, reduceAnd, Nat.reduceAdd, Nat.reduceSub, reduceEqDiff, Nat.reduceLT, reduceLeDiff, reduceToNat, Int.reduceLT, Int.reduceLE, Int.reduceEq, reduceIte, reduceCtorEq, b0, b1, b2, b3, b4, b6, h111]
  cases v6
  · have hlen : ¬ (kids a).length = (kids b).length := fun e => by rw [e, dq_self] at hv6; cases hv6
    rw [dq_len hlen]
    simp -implicitDefEqProofs (maxSteps := 10000000) (disch := omega) only [go_sem, Int.reduceAdd, Int.reduceSub, Int.reduceMul, dec_t, dec_f, Nat.reduceBEq, Nat.reduceBNe, reduceShiftRight, reduceAnd, Nat.reduceAdd, Nat.reduceSub, reduceEqDiff, Nat.reduceLT, reduceLeDiff, reduceToNat, Int.reduceLT, Int.reduceLE, Int.reduceEq, reduceIte, reduceCtorEq]
  have hlen : (kids a).length = (kids b).length := by
    have := dq_true.1 hv6
    omega
  obtain ⟨x', h⟩ := t44k a b hlen IH (kids a) (kids b) 0 0 rfl rfl rfl
  generalize dq (kids a) (kids b) = w at h ⊢
  clear IH
  simp -implicitDefEqProofs (maxSteps := 10000000) (disch := omega) only [go_sem, Int.reduceAdd, Int.reduceSub, Int.reduceMul, dec_t, dec_f, Nat.reduceBEq, Nat.reduceBNe, reduceShiftRight, reduceAnd, Nat.reduceAdd, Nat.reduceSub, reduceEqDiff, Nat.reduceLT, reduceLeDiff, reduceToNat, Int.reduceLT, Int.reduceLE, Int.reduceEq, reduceIte, reduceCtorEq]
  cases w
  · simp -implicitDefEqProofs (maxSteps := 10000000) (disch := omega) only [go_sem, Int.reduceAdd, Int.reduceSub, Int.reduceMul, dec_t, dec_f, Nat.reduceBEq, Nat.reduceBNe, reduceShiftRight, reduceAnd, Nat.reduceAdd, Nat.reduceSub, reduceEqDiff, Nat.reduceLT, reduceLeDiff, reduceToNat, Int.reduceLT, Int.reduceLE, Int.reduceEq, reduceIte, reduceCtorEq, h]
  · simp -implicitDefEqProofs (maxSteps := 10000000) (disch := omega) only [go_sem, Int.reduceAdd, Int.reduceSub, Int.reduceMul, dec_t, dec_f, Nat.reduceBEq, Nat.reduceBNe, reduceShiftRight, reduceAnd, Nat.reduceAdd, Nat.reduceSub, reduceEqDiff, Nat.reduceLT, reduceLeDiff, reduceToNat, Int.reduceLT, Int.reduceLE, Int.reduceEq, reduceIte, reduceCtorEq, h]
theorem t44 (a b : Fo) : pureCall C 44 [(.agg [.lit (.int .i64 (kind a)), .str (bs (name a)), .str (bs (value a)), .str (bs (ini a)), .sl (List.map encS (any a)), .str (bs (fin a)), .lit (.bool (hi a)), .lit (.bool (hf a)), .str (bs (rule a)), .lit (.bool (dn a)), .sl (List.map encO (kids a))]), (.agg [.lit (.int .i64 (kind b)), .str (bs (name b)), .str (bs (value b)), .str (bs (ini b)), .sl (List.map encS (any b)), .str (bs (fin b)), .lit (.bool (hi b)), .lit (.bool (hf b)), .str (bs (rule b)), .lit (.bool (dn b)), .sl (List.map encO (kids b))])] = some (tf (dq a b)) := t44s a b fun c hc d => t44 c d
termination_by sz a
decreasing_by exact kids_lt hc
set_option maxRecDepth 10000
set_option maxHeartbeats 1000000
theorem t112 (l m : List Fo) (hl : l.length ≤ 2 ^ 30) (hm : m.length ≤ 2 ^ 30) (IH : ∀ c ∈ l, ∀ d, pureCall C 46 [(.agg [.lit (.int .i64 (kind c)), .str (bs (name c)), .str (bs (value c)), .str (bs (ini c)), .sl (List.map encS (any c)), .str (bs (fin c)), .lit (.bool (hi c)), .lit (.bool (hf c)), .str (bs (rule c)), .lit (.bool (dn c)), .sl (List.map encO (kids c))]), (.agg [.lit (.int .i64 (kind d)), .str (bs (name d)), .str (bs (value d)), .str (bs (ini d)), .sl (List.map encS (any d)), .str (bs (fin d)), .lit (.bool (hi d)), .lit (.bool (hf d)), .str (bs (rule d)), .lit (.bool (dn d)), .sl (List.map encO (kids d))])] = some (tf (dq c d))) : pureCall C 112 [.sl (List.map encO l), .sl (List.map encO m), .lit (.func (.func 46) #[] #[])] = some (tf (dq l m)) := by
  have b6 := dq_int (l.length : Nat) (m.length : Nat)
  by_cases hlen : l.length = m.length
  · have key : ∀ (r s : List Fo) (j : Nat) (x : Int), x = j → l.drop j = r → m.drop j = s →
        ∃ x' st', n112_14 ⟨[(1, .d (.sl (List.map encO m))), (2, .d (.lit (.func (.func 46) #[] #[]))), (15, .d (.sl (List.map encO l))), (16, .d (.lit (.int .i64 (l.length : Nat)))), (17, .d (.lit (.int .i64 x)))], []⟩ =
          some (bif dq r s then (.exit 0, ⟨[(1, .d (.sl (List.map encO m))), (2, .d (.lit (.func (.func 46) #[] #[]))), (15, .d (.sl (List.map encO l))), (16, .d (.lit (.int .i64 (l.length : Nat)))), (17, x'), (18, .d (.lit (.bool false)))], []⟩) else (.ret, ⟨[(6, .d (.lit (.bool false)))], st'⟩)) := by
      intro r
      induction r with
      | nil =>
        intro s j x hx hd hd2
        have hd := drop_nil hd
        have hs : s = [] := by rw [← hd2]; exact List.drop_eq_nil_of_le (by omega)
        refine ⟨.d (.lit (.int .i64 x)), [], ?_⟩
        rw [r_n112_14, dq_t hs.symm]
        simp -implicitDefEqProofs (maxSteps := 10000000) (disch := omega) only [go_sem, Int.reduceAdd, Int.reduceSub, Int.reduceMul, dec_t, dec_f, Nat.reduceBEq, Nat.reduceBNe, reduceShiftRight, reduceAnd, Nat.reduceAdd, Nat.reduceSub, reduceEqDiff, Nat.reduceLT, reduceLeDiff, reduceToNat, Int.reduceLT, Int.reduceLE, Int.reduceEq, reduceIte, reduceCtorEq]
      | cons c r ih =>
        intro s j x hx hd hd2
        obtain ⟨g1, g2, g3, g4⟩ := drop_cons hd
        cases s with
        | nil => have := drop_nil hd2; omega
        | cons d s =>
          obtain ⟨f1, f2, f3, f4⟩ := drop_cons hd2
          have hnat : Int.toNat x = j := by omega
          obtain ⟨x', st', h⟩ := ih s (j + 1) (x + 1) (by omega) g3 f3
          rw [dq_cons]
          have hb := IH c g4 d
          generalize dq r s = w at h ⊢
          generalize dq c d = v at hb ⊢
          clear ih IH
          cases v
          · refine ⟨.undef, [⟨11, [.d (.agg [.lit (.int .i64 (kind c)), .str (bs (name c)), .str (bs (value c)), .str (bs (ini c)), .sl (List.map encS (any c)), .str (bs (fin c)), .lit (.bool (hi c)), .lit (.bool (hf c)), .str (bs (rule c)), .lit (.bool (dn c)), .sl (List.map encO (kids c))])], false, false, false⟩, ⟨11, [.d (.agg [.lit (.int .i64 (kind d)), .str (bs (name d)), .str (bs (value d)), .str (bs (ini d)), .sl (List.map encS (any d)), .str (bs (fin d)), .lit (.bool (hi d)), .lit (.bool (hf d)), .str (bs (rule d)), .lit (.bool (dn d)), .sl (List.map encO (kids d))])], false, false, false⟩], ?_⟩
            rw [r_n112_14]
            simp -implicitDefEqProofs (maxSteps := 10000000) (disch := omega) only [go_sem, Int.reduceAdd, Int.reduceSub, Int.reduceMul, dec_t, dec_f, Nat.reduceBEq, Nat.reduceBNe, reduceShiftRight, reduceAnd, Nat.reduceAdd, Nat.reduceSub, reduceEqDiff, Nat.reduceLT, reduceLeDiff, reduceToNat, Int.reduceLT, Int.reduceLE, Int.reduceEq, reduceIte, reduceCtorEq, g2, f2, hnat, hb]
          · refine ⟨x', st', ?_⟩
            rw [r_n112_14]
            simp -implicitDefEqProofs (maxSteps := 10000000) (disch := omega) only [go_sem, Int.reduceAdd, Int.reduceSub, Int.reduceMul, dec_t, dec_f, Nat.reduceBEq, Nat.reduceBNe, reduceShiftRight, reduceAnd, Nat.reduceAdd, Nat.reduceSub, reduceEqDiff, Nat.reduceLT, reduceLeDiff, reduceToNat, Int.reduceLT, Int.reduceLE, Int.reduceEq, reduceIte, reduceCtorEq, g2, f2, hnat, hb, h]
    obtain ⟨x', st', h⟩ := key l m 0 0 rfl rfl rfl
    generalize dq l m = w at h ⊢
    clear IH
    rw [p112]
    simp -implicitDefEqProofs (maxSteps := 10000000) (disch := omega) only [go_sem, Int.reduceAdd, Int.reduceSub, Int.reduceMul, dec_t, dec_f, Nat.reduceBEq, Nat.reduceBNe, reduceShiftRight, reduceAnd, Nat.reduceAdd, Nat.reduceSub, reduceEqDiff, Nat.reduceLT, reduceLeDiff, reduceToNat, Int.reduceLT, Int.reduceLE, Int.reduceEq, reduceIte, reduceCtorEq]
    cases w
    · simp -implicitDefEqProofs (maxSteps := 10000000) (disch := omega) only [go_sem, Int.reduceAdd, Int.reduceSub, Int.reduceMul, dec_t, dec_f, Nat.reduceBEq, Nat.reduceBNe, reduceShiftRight, reduceAnd, Nat.reduceAdd, Nat.reduceSub, reduceEqDiff, Nat.reduceLT, reduceLeDiff, reduceToNat, Int.reduceLT, Int.reduceLE, Int.reduceEq, reduceIte, reduceCtorEq, h]
    · simp -implicitDefEqProofs (maxSteps := 10000000) (disch := omega) only [go_sem, Int.reduceAdd, Int.reduceSub, Int.reduceMul, dec_t, dec_f, Nat.reduceBEq, Nat.reduceBNe, reduceShiftRight, reduceAnd, Nat.reduceAdd, Nat.reduceSub, reduceEqDiff, Nat.reduceLT, reduceLeDiff, reduceToNat, Int.reduceLT, Int.reduceLE, Int.reduceEq, reduceIte, reduceCtorEq, h]
  · rw [dq_len hlen, p112]
    clear IH
    simp -implicitDefEqProofs (maxSteps := 10000000) (disch := omega) only [go_sem, Int.reduceAdd, Int.reduceSub, Int.reduceMul, dec_t, dec_f, Nat.reduceBEq, Nat.reduceBNe, reduceShiftRight, reduceAnd, Nat.reduceAdd, Nat.reduceSub, reduceEqDiff, Nat.reduceLT, reduceLeDiff, reduceToNat, Int.reduceLT, Int.reduceLE, Int.reduceEq, reduceIte, reduceCtorEq]
theorem t46s (a b : Fo) (IH : ∀ c ∈ kids a, ∀ d, pureCall C 46 [(.agg [.lit (.int .i64 (kind c)), .str (bs (name c)), .str (bs (value c)), .str (bs (ini c)), .sl (List.map encS (any c)), .str (bs (fin c)), .lit (.bool (hi c)), .lit (.bool (hf c)), .str (bs (rule c)), .lit (.bool (dn c)), .sl (List.map encO (kids c))]), (.agg [.lit (.int .i64 (kind d)), .str (bs (name d)), .str (bs (value d)), .str (bs (ini d)), .sl (List.map encS (any d)), .str (bs (fin d)), .lit (.bool (hi d)), .lit (.bool (hf d)), .str (bs (rule d)), .lit (.bool (dn d)), .sl (List.map encO (kids d))])] = some (tf (dq c d))) : pureCall C 46 [(.agg [.lit (.int .i64 (kind a)), .str (bs (name a)), .str (bs (value a)), .str (bs (ini a)), .sl (List.map encS (any a)), .str (bs (fin a)), .lit (.bool (hi a)), .lit (.bool (hf a)), .str (bs (rule a)), .lit (.bool (dn a)), .sl (List.map encO (kids a))]), (.agg [.lit (.int .i64 (kind b)), .str (bs (name b)), .str (bs (value b)), .str (bs (ini b)), .sl (List.map encS (any b)), .str (bs (fin b)), .lit (.bool (hi b)), .lit (.bool (hf b)), .str (bs (rule b)), .lit (.bool (dn b)), .sl (List.map encO (kids b))])] = some (tf (dq a b)) := by
  have hla := kids_le a
  have hlb := kids_le b
  have b0 := dq_int (kind a) (kind b)
  have b1 := beq_dq (name a) (name b)
  have b2 := beq_dq (value a) (value b)
  have b3 := beq_dq (rule a) (rule b)
  have b5 := beq_dq (ini a) (ini b)
  have b6 := beq_dq (fin a) (fin b)
  have h112 := t112 (kids a) (kids b) hla hlb IH
  clear IH
  generalize hw : dq (kids a) (kids b) = w at h112
  have h49 := t49 (any a) (any b) (any_28 a) (any_28 b)
  rw [dq_Fo]
  rw [hw]
  rw [dq_bool (dn a), dq_bool (hi a), dq_bool (hf a)]
  generalize dq (any a) (any b) = v9 at h49 ⊢
  generalize dq (kind a) (kind b) = v0 at b0 ⊢
  generalize dq (name a) (name b) = v1 at b1 ⊢
  generalize dq (value a) (value b) = v2 at b2 ⊢
  generalize dq (rule a) (rule b) = v3 at b3 ⊢
  generalize dq (ini a) (ini b) = v5 at b5 ⊢
  generalize dq (fin a) (fin b) = v6 at b6 ⊢
  generalize b4 : (dn a == dn b) = v4
  generalize b7 : (hi a == hi b) = v7
  generalize b8 : (hf a == hf b) = v8
  rw [p46]
  simp -implicitDefEqProofs (maxSteps := 10000000) (disch := omega) only [go_sem, Int.reduceAdd, Int.reduceSub, Int.reduceMul, dec_t, dec_f, Nat.reduceBEq, Nat.reduceBNe, reduceShiftRight, reduceAnd, Nat.reduceAdd, Nat.reduceSub, reduceEqDiff, Nat.reduceLT, reduceLeDiff, reduceToNat, Int.reduceLT, Int.reduceLE, Int.reduceEq, reduceIte, reduceCtorEq, b0, b1, b2, b3, b4, b5, b6, b7, b8, h49]
  cases v0
  · simp -implicitDefEqProofs (maxSteps := 10000000) (disch := omega) only [go_sem, Int.reduceAdd, Int.reduceSub, Int.reduceMul, dec_t, dec_f, Nat.reduceBEq, Nat.reduceBNe, reduceShiftRight, reduceAnd, Nat.reduceAdd, Nat.reduceSub, reduceEqDiff, Nat.reduceLT, reduceLeDiff, reduceToNat, Int.reduceLT, Int.reduceLE, Int.reduceEq, reduceIte, reduceCtorEq]
  simp -implicitDefEqProofs (maxSteps := 10000000) (disch := omega) only [go_sem, Int.reduceAdd, Int.reduceSub, Int.reduceMul, dec_t, dec_f, Nat.reduceBEq, Nat.reduceBNe, reduceShiftRight, reduceAnd, Nat.reduceAdd, Nat.reduceSub, reduceEqDiff, Nat.reduceLT, reduceLeDiff, reduceToNat, Int.reduceLT, Int.reduceLE, Int.reduceEq, reduceIte, reduceCtorEq, b0, b1, b2, b3, b4, b5, b6, b7, b8, h49]
  cases v1
  · simp -implicitDefEqProofs (maxSteps := 10000000) (disch := omega) only [go_sem, Int.reduceAdd, Int.reduceSub, Int.reduceMul, dec_t, dec_f, Nat.reduceBEq, Nat.reduceBNe, reduceShiftRight, reduceAnd, Nat.reduceAdd, Nat.reduceSub, reduceEqDiff, Nat.reduceLT, reduceLeDiff, reduceToNat, Int.reduceLT, Int.reduceLE, Int.reduceEq, reduceIte, reduceCtorEq]
  simp -implicitDefEqProofs (maxSteps := 10000000) (disch := omega) only [go_sem, Int.reduceAdd, Int.reduceSub, Int.reduceMul, dec_t, dec_f, Nat.reduceBEq, Nat.reduceBNe, reduceShiftRight, reduceAnd, Nat.reduceAdd, Nat.reduceSub, reduceEqDiff, Nat.reduceLT, reduceLeDiff, reduceToNat, Int.reduceLT, Int.reduceLE, Int.reduceEq, reduceIte, reduceCtorEq, b0, b1, b2, b3, b4, b5, b6, b7, b8, h49]
  cases v2
  · simp -implicitDefEqProofs (maxSteps := 10000000) (disch := omega) only [go_sem, Int.reduceAdd, Int.reduceSub, Int.reduceMul, dec_t, dec_f, Nat.reduceBEq, Nat.reduceBNe, reduceShiftRight, reduceAnd, Nat.reduceAdd, Nat.reduceSub, reduceEqDiff, Nat.reduceLT, reduceLeDiff, reduceToNat, Int.reduceLT, Int.reduceLE, Int.reduceEq, reduceIte, reduceCtorEq]
  simp -implicitDefEqProofs (maxSteps := 10000000) (disch := omega) only [go_sem, Int.reduceAdd, Int.reduceSub, Int.reduceMul, dec_t, dec_f, Nat.reduceBEq, Nat.reduceBNe, reduceShiftRight, reduceAnd, Nat.reduceAdd, Nat.reduceSub, reduceEqDiff, Nat.reduceLT, reduceLeDiff, reduceToNat, Int.reduceLT, Int.reduceLE, Int.reduceEq, reduceIte, reduceCtorEq, b0, b1, b2, b3, b4, b5, b6, b7, b8, h49]
  cases v3
  · simp -implicitDefEqProofs (maxSteps := 10000000) (disch := omega) only [go_sem, Int.reduceAdd, Int.reduceSub, Int.reduceMul, dec_t, dec_f, Nat.reduceBEq, Nat.reduceBNe, reduceShiftRight, reduceAnd, Nat.reduceAdd, Nat.reduceSub, reduceEqDiff, Nat.reduceLT, reduceLeDiff, reduceToNat, Int.reduceLT, Int.reduceLE, Int.reduceEq, reduceIte, reduceCtorEq]
  simp -implicitDefEqProofs (maxSteps := 10000000) (disch := omega) only [go_sem, Int.reduceAdd, Int.reduceSub, Int.reduceMul, dec_t, dec_f, Nat.reduceBEq, Nat.reduceBNe, reduceShiftRight, reduceAnd, Nat.reduceAdd, Nat.reduceSub, reduceEqDiff, Nat.reduceLT, reduceLeDiff, reduceToNat, Int.reduceLT, Int.reduceLE, Int.reduceEq, reduceIte, reduceCtorEq, b0, b1, b2, b3, b4, b5, b6, b7, b8, h49]
  cases v4
  · simp -implicitDefEqProofs (maxSteps := 10000000) (disch := omega) only [go_sem, Int.reduceAdd, Int.reduceSub, Int.reduceMul, dec_t, dec_f, Nat.reduceBEq, Nat.reduceBNe, reduceShiftRight, reduceAnd, Nat.reduceAdd, Nat.reduceSub, reduceEqDiff, Nat.reduceLT, reduceLeDiff, reduceToNat, Int.reduceLT, Int.reduceLE, Int.reduceEq, reduceIte, reduceCtorEq]
  simp -implicitDefEqProofs (maxSteps := 10000000) (disch := omega) only [go_sem, Int.reduceAdd, Int.reduceSub, Int.reduceMul, dec_t, dec_f, Nat.reduceBEq, Nat.reduceBNe, reduceShiftRight, reduceAnd, Nat.reduceAdd, Nat.reduceSub, reduceEqDiff, Nat.reduceLT, reduceLeDiff, reduceToNat, Int.reduceLT, Int.reduceLE, Int.reduceEq, reduceIte, reduceCtorEq, b0, b1, b2, b3, b4, b5, b6, b7, b8, h49]
  cases v5
  · simp -implicitDefEqProofs (maxSteps := 10000000) (disch := omega) only [go_sem, Int.reduceAdd, Int.reduceSub, Int.reduceMul, dec_t, dec_f, Nat.reduceBEq, Nat.reduceBNe, reduceShiftRight, reduceAnd, Nat.reduceAdd, Nat.reduceSub, reduceEqDiff, Nat.reduceLT, reduceLeDiff, reduceToNat, Int.reduceLT, Int.reduceLE, Int.reduceEq, reduceIte, reduceCtorEq]
  simp -implicitDefEqProofs (maxSteps := 10000000) (disch := omega) only [go_sem, Int.reduceAdd, Int.reduceSub, Int.reduceMul, dec_t, dec_f, Nat.reduceBEq, Nat.reduceBNe, reduceShiftRight, reduceAnd, Nat.reduceAdd, Nat.reduceSub, reduceEqDiff, Nat.reduceLT, reduceLeDiff, reduceToNat, Int.reduceLT, Int.reduceLE, Int.reduceEq, reduceIte, reduceCtorEq, b0, b1, b2, b3, b4, b5, b6, b7, b8, h49]
  cases v6
  · simp -implicitDefEqProofs (maxSteps := 10000000) (disch := omega) only [go_sem, Int.reduceAdd, Int.reduceSub, Int.reduceMul, dec_t, dec_f, Nat.reduceBEq, Nat.reduceBNe, reduceShiftRight, reduceAnd, Nat.reduceAdd, Nat.reduceSub, reduceEqDiff, Nat.reduceLT, reduceLeDiff, reduceToNat, Int.reduceLT, Int.reduceLE, Int.reduceEq, reduceIte, reduceCtorEq]
  simp -implicitDefEqProofs (maxSteps := 10000000) (disch := omega) only [go_sem, Int.reduceAdd, Int.reduceSub, Int.reduceMul, dec_t, dec_f, Nat.reduceBEq, Nat.reduceBNe, reduceShiftRight, reduceAnd, Nat.reduceAdd, Nat.reduceSub, reduceEqDiff, Nat.reduceLT, reduceLeDiff, reduceToNat, Int.reduceLT, Int.reduceLE, Int.reduceEq, reduceIte, reduceCtorEq, b0, b1, b2, b3, b4, b5, b6, b7, b8, h49]
  cases v7
  · simp -implicitDefEqProofs (maxSteps := 10000000) (disch := omega) only [go_sem, Int.reduceAdd, Int.reduceSub, Int.reduceMul, dec_t, dec_f, Nat.reduceBEq, Nat.reduceBNe, reduceShiftRight, reduceAnd, Nat.reduceAdd, Nat.reduceSub, reduceEqDiff, Nat.reduceLT, reduceLeDiff, reduceToNat, Int.reduceLT, Int.reduceLE, Int.reduceEq, reduceIte, reduceCtorEq]
  simp -implicitDefEqProofs (maxSteps := 10000000) (disch := omega) only [go_sem, Int.reduceAdd, Int.reduceSub, Int.reduceMul, dec_t, dec_f, Nat.reduceBEq, Nat.reduceBNe, reduceShiftRight, reduceAnd, Nat.reduceAdd, Nat.reduceSub, reduceEqDiff, Nat.reduceLT, reduceLeDiff, reduceToNat, Int.reduceLT, Int.reduceLE, Int.reduceEq, reduceIte, reduceCtorEq, b0, b1, b2, b3, b4, b5, b6, b7, b8, h49]
  cases v8
  · simp -implicitDefEqProofs (maxSteps := 10000000) (disch := omega) only [go_sem, Int.reduceAdd, Int.reduceSub, Int.reduceMul, dec_t, dec_f, Nat.reduceBEq, Nat.reduceBNe, reduceShiftRight, reduceAnd, Nat.reduceAdd, Nat.reduceSub, reduceEqDiff, Nat.reduceLT, reduceLeDiff, reduceToNat, Int.reduceLT, Int.reduceLE, Int.reduceEq, reduceIte, reduceCtorEq]
  simp -implicitDefEqProofs (maxSteps := 10000000) (disch := omega) only [go_sem, Int.reduceAdd, Int.reduceSub, Int.reduceMul, dec_t, dec_f, Nat.reduceBEq, Nat.reduceBNe, reduceShiftRight, reduceAnd, Nat.reduceAdd, Nat.reduceSub, reduceEqDiff, Nat.reduceLT, reduceLeDiff, reduceToNat, Int.reduceLT, Int.reduceLE, Int.reduceEq, reduceIte, reduceCtorEq, b0, b1, b2, b3, b4, b5, b6, b7, b8, h49]
  cases v9
  · simp -implicitDefEqProofs (maxSteps := 10000000) (disch := omega) only [go_sem, Int.reduceAdd, Int.reduceSub, Int.reduceMul, dec_t, dec_f, Nat.reduceBEq, Nat.reduceBNe, reduceShiftRight, reduceAnd, Nat.reduceAdd, Nat.reduceSub, reduceEqDiff, Nat.reduceLT, reduceLeDiff, reduceToNat, Int.reduceLT, Int.reduceLE, Int.reduceEq, reduceIte, reduceCtorEq]
  simp -implicitDefEqProofs (maxSteps := 10000000) (disch := omega) only [go_sem, Int.reduceAdd, Int.reduceSub, Int.reduceMul, dec_t, dec_f, Nat.reduceBEq, Nat.reduceBNe, reduceShiftRight, reduceAnd, Nat.reduceAdd, Nat.reduceSub, reduceEqDiff, Nat.reduceLT, reduceLeDiff, reduceToNat, Int.reduceLT, Int.reduceLE, Int.reduceEq, reduceIte, reduceCtorEq, b0, b1, b2, b3, b4, b5, b6, b7, b8, h49, h112]
theorem t46 (a b : Fo) : pureCall C 46 [(.agg [.lit (.int .i64 (kind a)), .str (bs (name a)), .str (bs (value a)), .str (bs (ini a)), .sl (List.map encS (any a)), .str (bs (fin a)), .lit (.bool (hi a)), .lit (.bool (hf a)), .str (bs (rule a)), .lit (.bool (dn a)), .sl (List.map encO (kids a))]), (.agg [.lit (.int .i64 (kind b)), .str (bs (name b)), .str (bs (value b)), .str (bs (ini b)), .sl (List.map encS (any b)), .str (bs (fin b)), .lit (.bool (hi b)), .lit (.bool (hf b)), .str (bs (rule b)), .lit (.bool (dn b)), .sl (List.map encO (kids b))])] = some (tf (dq a b)) := t46s a b fun c hc d => t46 c d
termination_by sz a
decreasing_by exact kids_lt hc
set_option maxRecDepth 10000
set_option maxHeartbeats 1000000
def Vl : Type := { p : Bs × List Bs // p.2.length ≤ 2 ^ 28 }
def vn (v : Vl) : Bs := v.1.1
def vv (v : Vl) : List Bs := v.1.2
theorem vv_le (v : Vl) : (vv v).length ≤ 2 ^ 28 := v.2
def encV (v : Vl) : D := (.agg [.str (bs (vn v)), .sl (List.map encS (vv v))])
@[go_sem] theorem encV_eq (v : Vl) : encV v = (.agg [.str (bs (vn v)), .sl (List.map encS (vv v))]) := rfl
def Ch : Type := { p : Int × Bs × List Bs // p.2.2.length ≤ 2 ^ 28 }
def ck (v : Ch) : Int := v.1.1
def cn (v : Ch) : Bs := v.1.2.1
def cv (v : Ch) : List Bs := v.1.2.2
theorem cv_le (v : Ch) : (cv v).length ≤ 2 ^ 28 := v.2
def encC (v : Ch) : D := (.agg [.lit (.int .i64 (ck v)), .str (bs (cn v)), .sl (List.map encS (cv v))])
@[go_sem] theorem encC_eq (v : Ch) : encC v = (.agg [.lit (.int .i64 (ck v)), .str (bs (cn v)), .sl (List.map encS (cv v))]) := rfl
theorem dq_Vl (a b : Vl) : dq a b = (dq (vn a) (vn b) && dq (vv a) (vv b)) :=
  dq_and ⟨fun h => by subst h; exact ⟨rfl, rfl⟩, fun ⟨h1, h2⟩ => Subtype.ext (Prod.ext h1 h2)⟩
theorem dq_Ch (a b : Ch) : dq a b = (dq (ck a) (ck b) && (dq (cn a) (cn b) && dq (cv a) (cv b))) := by
  rw [Bool.eq_iff_iff]
  simp only [Bool.and_eq_true, dq_true]
  exact ⟨fun h => by subst h; exact ⟨rfl, rfl, rfl⟩, fun ⟨h1, h2, h3⟩ => Subtype.ext (Prod.ext h1 (Prod.ext h2 h3))⟩
theorem t48 (a b : Vl) : pureCall C 48 [(.agg [.str (bs (vn a)), .sl (List.map encS (vv a))]), (.agg [.str (bs (vn b)), .sl (List.map encS (vv b))])] = some (tf (dq a b)) := by
  have b1 := beq_dq (vn a) (vn b)
  have h49 := t49 (vv a) (vv b) (vv_le a) (vv_le b)
  rw [dq_Vl]
  generalize dq (vn a) (vn b) = v1 at b1 ⊢
  generalize dq (vv a) (vv b) = v2 at h49 ⊢
  rw [p48]
  simp -implicitDefEqProofs (maxSteps := 10000000) (disch := omega) only [go_sem, Int.reduceAdd, Int.reduceSub, Int.reduceMul, dec_t, dec_f, Nat.reduceBEq, Nat.reduceBNe, reduceShiftRight, reduceAnd, Nat.reduceAdd, Nat.reduceSub, reduceEqDiff, Nat.reduceLT, reduceLeDiff, reduceToNat, Int.reduceLT, Int.reduceLE, Int.reduceEq, reduceIte, reduceCtorEq, b1, h49]
  cases v1
  · simp -implicitDefEqProofs (maxSteps := 10000000) (disch := omega) only [go_sem, Int.reduceAdd, Int.reduceSub, Int.reduceMul, dec_t, dec_f, Nat.reduceBEq, Nat.reduceBNe, reduceShiftRight, reduceAnd, Nat.reduceAdd, Nat.reduceSub, reduceEqDiff, Nat.reduceLT, reduceLeDiff, reduceToNat, Int.reduceLT, Int.reduceLE, Int.reduceEq, reduceIte, reduceCtorEq]
  simp -implicitDefEqProofs (maxSteps := 10000000) (disch := omega) only [go_sem, Int.reduceAdd, Int.reduceSub, Int.reduceMul, dec_t, dec_f, Nat.reduceBEq, Nat.reduceBNe, reduceShiftRight, reduceAnd, Nat.reduceAdd, Nat.reduceSub, reduceEqDiff, Nat.reduceLT, reduceLeDiff, reduceToNat, Int.reduceLT, Int.reduceLE, Int.reduceEq, reduceIte, reduceCtorEq, b1, h49]
def vOf (c : Ch) : Vl := ⟨(cn c, cv c), cv_le c⟩
theorem t47 (a b : Ch) : pureCall C 47 [(.agg [.lit (.int .i64 (ck a)), .str (bs (cn a)), .sl (List.map encS (cv a))]), (.agg [.lit (.int .i64 (ck b)), .str (bs (cn b)), .sl (List.map encS (cv b))])] = some (tf (dq a b)) := by
  have b0 := dq_int (ck a) (ck b)
  have h48 := t48 (vOf a) (vOf b)
  rw [dq_Vl] at h48
  change pureCall C 48 [.agg [.str (bs (cn a)), .sl (List.map encS (cv a))], .agg [.str (bs (cn b)), .sl (List.map encS (cv b))]] = some (tf (dq (cn a) (cn b) && dq (cv a) (cv b))) at h48
  rw [dq_Ch]
  generalize dq (ck a) (ck b) = v1 at b0 ⊢
  generalize (dq (cn a) (cn b) && dq (cv a) (cv b)) = v2 at h48 ⊢
  rw [p47]
  simp -implicitDefEqProofs (maxSteps := 10000000) (disch := omega) only [go_sem, Int.reduceAdd, Int.reduceSub, Int.reduceMul, dec_t, dec_f, Nat.reduceBEq, Nat.reduceBNe, reduceShiftRight, reduceAnd, Nat.reduceAdd, Nat.reduceSub, reduceEqDiff, Nat.reduceLT, reduceLeDiff, reduceToNat, Int.reduceLT, Int.reduceLE, Int.reduceEq, reduceIte, reduceCtorEq, b0, h48]
  cases v1
  · simp -implicitDefEqProofs (maxSteps := 10000000) (disch := omega) only [go_sem, Int.reduceAdd, Int.reduceSub, Int.reduceMul, dec_t, dec_f, Nat.reduceBEq, Nat.reduceBNe, reduceShiftRight, reduceAnd, Nat.reduceAdd, Nat.reduceSub, reduceEqDiff, Nat.reduceLT, reduceLeDiff, reduceToNat, Int.reduceLT, Int.reduceLE, Int.reduceEq, reduceIte, reduceCtorEq]
  simp -implicitDefEqProofs (maxSteps := 10000000) (disch := omega) only [go_sem, Int.reduceAdd, Int.reduceSub, Int.reduceMul, dec_t, dec_f, Nat.reduceBEq, Nat.reduceBNe, reduceShiftRight, reduceAnd, Nat.reduceAdd, Nat.reduceSub, reduceEqDiff, Nat.reduceLT, reduceLeDiff, reduceToNat, Int.reduceLT, Int.reduceLE, Int.reduceEq, reduceIte, reduceCtorEq, b0, h48]
theorem t51 (l m : List Vl) (hl : l.length ≤ 2 ^ 28) (hm : m.length ≤ 2 ^ 28) : pureCall C 51 [.sl (List.map encV l), .sl (List.map encV m), .lit (.func (.func 48) #[] #[])] = some (tf (dq l m)) := by
  by_cases hlen : l.length = m.length
  · have key : ∀ (r s : List Vl) (j : Nat) (x : Int), x = j → l.drop j = r → m.drop j = s →
        ∃ x' st', n51_14 ⟨[(1, .d (.sl (List.map encV m))), (2, .d (.lit (.func (.func 48) #[] #[]))), (15, .d (.sl (List.map encV l))), (16, .d (.lit (.int .i64 (l.length : Nat)))), (17, .d (.lit (.int .i64 x)))], []⟩ =
          some (bif dq r s then (.exit 0, ⟨[(1, .d (.sl (List.map encV m))), (2, .d (.lit (.func (.func 48) #[] #[]))), (15, .d (.sl (List.map encV l))), (16, .d (.lit (.int .i64 (l.length : Nat)))), (17, x'), (18, .d (.lit (.bool false)))], []⟩) else (.ret, ⟨[(6, .d (.lit (.bool false)))], st'⟩)) := by
      intro r
      induction r with
      | nil =>
        intro s j x hx hd hd2
        have hd := drop_nil hd
        have hs : s = [] := by rw [← hd2]; exact List.drop_eq_nil_of_le (by omega)
        refine ⟨.d (.lit (.int .i64 x)), [], ?_⟩
        rw [r_n51_14, dq_t hs.symm]
        simp -implicitDefEqProofs (maxSteps := 10000000) (disch := omega) only [go_sem, Int.reduceAdd, Int.reduceSub, Int.reduceMul, dec_t, dec_f, Nat.reduceBEq, Nat.reduceBNe, reduceShiftRight, reduceAnd, Nat.reduceAdd, Nat.reduceSub, reduceEqDiff, Nat.reduceLT, reduceLeDiff, reduceToNat, Int.reduceLT, Int.reduceLE, Int.reduceEq, reduceIte, reduceCtorEq]
      | cons c r ih =>
        intro s j x hx hd hd2
        obtain ⟨g1, g2, g3, g4⟩ := drop_cons hd
        cases s with
        | nil => have := drop_nil hd2; omega
        | cons d s =>
          obtain ⟨f1, f2, f3, f4⟩ := drop_cons hd2
          have hnat : Int.toNat x = j := by omega
          obtain ⟨x', st', h⟩ := ih s (j + 1) (x + 1) (by omega) g3 f3
          rw [dq_cons]
          have hb := t48 c d
          generalize dq r s = w at h ⊢
          generalize dq c d = v at hb ⊢
          clear ih
          cases v
          · refine ⟨.undef, [⟨2, [.d (.agg [.str (bs (vn c)), .sl (List.map encS (vv c))])], false, false, false⟩, ⟨2, [.d (.agg [.str (bs (vn d)), .sl (List.map encS (vv d))])], false, false, false⟩], ?_⟩
            rw [r_n51_14]
            simp -implicitDefEqProofs (maxSteps := 10000000) (disch := omega) only [go_sem, Int.reduceAdd, Int.reduceSub, Int.reduceMul, dec_t, dec_f, Nat.reduceBEq, Nat.reduceBNe, reduceShiftRight, reduceAnd, Nat.reduceAdd, Nat.reduceSub, reduceEqDiff, Nat.reduceLT, reduceLeDiff, reduceToNat, Int.reduceLT, Int.reduceLE, Int.reduceEq, reduceIte, reduceCtorEq, g2, f2, hnat, hb]
          · refine ⟨x', st', ?_⟩
            rw [r_n51_14]
            simp -implicitDefEqProofs (maxSteps := 10000000) (disch := omega) only [go_sem, Int.reduceAdd, Int.reduceSub, Int.reduceMul, dec_t, dec_f, Nat.reduceBEq, Nat.reduceBNe, reduceShiftRight, reduceAnd, Nat.reduceAdd, Nat.reduceSub, reduceEqDiff, Nat.reduceLT, reduceLeDiff, reduceToNat, Int.reduceLT, Int.reduceLE, Int.reduceEq, reduceIte, reduceCtorEq, g2, f2, hnat, hb, h]
    obtain ⟨x', st', h⟩ := key l m 0 0 rfl rfl rfl
    generalize dq l m = w at h ⊢
    rw [p51]
    simp -implicitDefEqProofs (maxSteps := 10000000) (disch := omega) only [go_sem, Int.reduceAdd, Int.reduceSub, Int.reduceMul, dec_t, dec_f, Nat.reduceBEq, Nat.reduceBNe, reduceShiftRight, reduceAnd, Nat.reduceAdd, Nat.reduceSub, reduceEqDiff, Nat.reduceLT, reduceLeDiff, reduceToNat, Int.reduceLT, Int.reduceLE, Int.reduceEq, reduceIte, reduceCtorEq]
    cases w
    · simp -implicitDefEqProofs (maxSteps := 10000000) (disch := omega) only [go_sem, Int.reduceAdd, Int.reduceSub, Int.reduceMul, dec_t, dec_f, Nat.reduceBEq, Nat.reduceBNe, reduceShiftRight, reduceAnd, Nat.reduceAdd, Nat.reduceSub, reduceEqDiff, Nat.reduceLT, reduceLeDiff, reduceToNat, Int.reduceLT, Int.reduceLE, Int.reduceEq, reduceIte, reduceCtorEq, h]
    · simp -implicitDefEqProofs (maxSteps := 10000000) (disch := omega) only [go_sem, Int.reduceAdd, Int.reduceSub, Int.reduceMul, dec_t, dec_f, Nat.reduceBEq, Nat.reduceBNe, reduceShiftRight, reduceAnd, Nat.reduceAdd, Nat.reduceSub, reduceEqDiff, Nat.reduceLT, reduceLeDiff, reduceToNat, Int.reduceLT, Int.reduceLE, Int.reduceEq, reduceIte, reduceCtorEq, h]
  · rw [dq_len hlen, p51]
    simp -implicitDefEqProofs (maxSteps := 10000000) (disch := omega) only [go_sem, Int.reduceAdd, Int.reduceSub, Int.reduceMul, dec_t, dec_f, Nat.reduceBEq, Nat.reduceBNe, reduceShiftRight, reduceAnd, Nat.reduceAdd, Nat.reduceSub, reduceEqDiff, Nat.reduceLT, reduceLeDiff, reduceToNat, Int.reduceLT, Int.reduceLE, Int.reduceEq, reduceIte, reduceCtorEq]
theorem t50 (l m : List Ch) (hl : l.length ≤ 2 ^ 28) (hm : m.length ≤ 2 ^ 28) : pureCall C 50 [.sl (List.map encC l), .sl (List.map encC m), .lit (.func (.func 47) #[] #[])] = some (tf (dq l m)) := by
  by_cases hlen : l.length = m.length
  · have key : ∀ (r s : List Ch) (j : Nat) (x : Int), x = j → l.drop j = r → m.drop j = s →
        ∃ x' st', n50_14 ⟨[(1, .d (.sl (List.map encC m))), (2, .d (.lit (.func (.func 47) #[] #[]))), (15, .d (.sl (List.map encC l))), (16, .d (.lit (.int .i64 (l.length : Nat)))), (17, .d (.lit (.int .i64 x)))], []⟩ =
          some (bif dq r s then (.exit 0, ⟨[(1, .d (.sl (List.map encC m))), (2, .d (.lit (.func (.func 47) #[] #[]))), (15, .d (.sl (List.map encC l))), (16, .d (.lit (.int .i64 (l.length : Nat)))), (17, x'), (18, .d (.lit (.bool false)))], []⟩) else (.ret, ⟨[(6, .d (.lit (.bool false)))], st'⟩)) := by
      intro r
      induction r with
      | nil =>
        intro s j x hx hd hd2
        have hd := drop_nil hd
        have hs : s = [] := by rw [← hd2]; exact List.drop_eq_nil_of_le (by omega)
        refine ⟨.d (.lit (.int .i64 x)), [], ?_⟩
        rw [r_n50_14, dq_t hs.symm]
        simp -implicitDefEqProofs (maxSteps := 10000000) (disch := omega) only [go_sem, Int.reduceAdd, Int.reduceSub, Int.reduceMul, dec_t, dec_f, Nat.reduceBEq, Nat.reduceBNe, reduceShiftRight, reduceAnd, Nat.reduceAdd, Nat.reduceSub, reduceEqDiff, Nat.reduceLT, reduceLeDiff, reduceToNat, Int.reduceLT, Int.reduceLE, Int.reduceEq, reduceIte, reduceCtorEq]
      | cons c r ih =>
        intro s j x hx hd hd2
        obtain ⟨g1, g2, g3, g4⟩ := drop_cons hd
        cases s with
        | nil => have := drop_nil hd2; omega
        | cons d s =>
          obtain ⟨f1, f2, f3, f4⟩ := drop_cons hd2
          have hnat : Int.toNat x = j := by omega
          obtain ⟨x', st', h⟩ := ih s (j + 1) (x + 1) (by omega) g3 f3
          rw [dq_cons]
          have hb := t47 c d
          generalize dq r s = w at h ⊢
          generalize dq c d = v at hb ⊢
          clear ih
          cases v
          · refine ⟨.undef, [⟨3, [.d (.agg [.lit (.int .i64 (ck c)), .str (bs (cn c)), .sl (List.map encS (cv c))])], false, false, false⟩, ⟨3, [.d (.agg [.lit (.int .i64 (ck d)), .str (bs (cn d)), .sl (List.map encS (cv d))])], false, false, false⟩], ?_⟩
            rw [r_n50_14]
            simp -implicitDefEqProofs (maxSteps := 10000000) (disch := omega) only [go_sem, Int.reduceAdd, Int.reduceSub, Int.reduceMul, dec_t, dec_f, Nat.reduceBEq, Nat.reduceBNe, reduceShiftRight, reduceAnd, Nat.reduceAdd, Nat.reduceSub, reduceEqDiff, Nat.reduceLT, reduceLeDiff, reduceToNat, Int.reduceLT, Int.reduceLE, Int.reduceEq, reduceIte, reduceCtorEq, g2, f2, hnat, hb]
          · refine ⟨x', st', ?_⟩
            rw [r_n50_14]
            simp -implicitDefEqProofs (maxSteps := 10000000) (disch := omega) only [go_sem, Int.reduceAdd, Int.reduceSub, Int.reduceMul, dec_t, dec_f, Nat.reduceBEq, Nat.reduceBNe, reduceShiftRight, reduceAnd, Nat.reduceAdd, Nat.reduceSub, reduceEqDiff, Nat.reduceLT, reduceLeDiff, reduceToNat, Int.reduceLT, Int.reduceLE, Int.reduceEq, reduceIte, reduceCtorEq, g2, f2, hnat, hb, h]
    obtain ⟨x', st', h⟩ := key l m 0 0 rfl rfl rfl
    generalize dq l m = w at h ⊢
    rw [p50]
    simp -implicitDefEqProofs (maxSteps := 10000000) (disch := omega) only [go_sem, Int.reduceAdd, Int.reduceSub, Int.reduceMul, dec_t, dec_f, Nat.reduceBEq, Nat.reduceBNe, reduceShiftRight, reduceAnd, Nat.reduceAdd, Nat.reduceSub, reduceEqDiff, Nat.reduceLT, reduceLeDiff, reduceToNat, Int.reduceLT, Int.reduceLE, Int.reduceEq, reduceIte, reduceCtorEq]
    cases w
    · simp -implicitDefEqProofs (maxSteps := 10000000) (disch := omega) only [go_sem, Int.reduceAdd, Int.reduceSub, Int.reduceMul, dec_t, dec_f, Nat.reduceBEq, Nat.reduceBNe, reduceShiftRight, reduceAnd, Nat.reduceAdd, Nat.reduceSub, reduceEqDiff, Nat.reduceLT, reduceLeDiff, reduceToNat, Int.reduceLT, Int.reduceLE, Int.reduceEq, reduceIte, reduceCtorEq, h]
    · simp -implicitDefEqProofs (maxSteps := 10000000) (disch := omega) only [go_sem, Int.reduceAdd, Int.reduceSub, Int.reduceMul, dec_t, dec_f, Nat.reduceBEq, Nat.reduceBNe, reduceShiftRight, reduceAnd, Nat.reduceAdd, Nat.reduceSub, reduceEqDiff, Nat.reduceLT, reduceLeDiff, reduceToNat, Int.reduceLT, Int.reduceLE, Int.reduceEq, reduceIte, reduceCtorEq, h]
  · rw [dq_len hlen, p50]
    simp -implicitDefEqProofs (maxSteps := 10000000) (disch := omega) only [go_sem, Int.reduceAdd, Int.reduceSub, Int.reduceMul, dec_t, dec_f, Nat.reduceBEq, Nat.reduceBNe, reduceShiftRight, reduceAnd, Nat.reduceAdd, Nat.reduceSub, reduceEqDiff, Nat.reduceLT, reduceLeDiff, reduceToNat, Int.reduceLT, Int.reduceLE, Int.reduceEq, reduceIte, reduceCtorEq]
theorem t45 (l m : List Vl) (hl : l.length ≤ 2 ^ 28) (hm : m.length ≤ 2 ^ 28) : pureCall C 45 [.sl (List.map encV l), .sl (List.map encV m)] = some (tf (dq l m)) := by
  by_cases hlen : l.length = m.length
  · have key : ∀ (r s : List Vl) (j : Nat) (x : Int), x = j → l.drop j = r → m.drop j = s →
        ∃ x', n45_14 ⟨[(0, .d (.sl (List.map encV l))), (1, .d (.sl (List.map encV m))), (5, .d (.lit (.int .i64 x)))], []⟩ =
          some (bif dq r s then (.exit 0, ⟨[(0, .d (.sl (List.map encV l))), (1, .d (.sl (List.map encV m))), (5, x'), (14, .d (.lit (.bool false)))], []⟩) else (.ret, ⟨[(4, .d (.lit (.bool false)))], []⟩)) := by
      intro r
      induction r with
      | nil =>
        intro s j x hx hd hd2
        have hd := drop_nil hd
        have hs : s = [] := by rw [← hd2]; exact List.drop_eq_nil_of_le (by omega)
        refine ⟨.d (.lit (.int .i64 x)), ?_⟩
        rw [r_n45_14, dq_t hs.symm]
        simp -implicitDefEqProofs (maxSteps := 10000000) (disch := omega) only [go_sem, Int.reduceAdd, Int.reduceSub, Int.reduceMul, dec_t, dec_f, Nat.reduceBEq, Nat.reduceBNe, reduceShiftRight, reduceAnd, Nat.reduceAdd, Nat.reduceSub, reduceEqDiff, Nat.reduceLT, reduceLeDiff, reduceToNat, Int.reduceLT, Int.reduceLE, Int.reduceEq, reduceIte, reduceCtorEq]
      | cons c r ih =>
        intro s j x hx hd hd2
        obtain ⟨g1, g2, g3, g4⟩ := drop_cons hd
        cases s with
        | nil => have := drop_nil hd2; omega
        | cons d s =>
          obtain ⟨f1, f2, f3, f4⟩ := drop_cons hd2
          have hnat : Int.toNat x = j := by omega
          obtain ⟨x', h⟩ := ih s (j + 1) (x + 1) (by omega) g3 f3
          rw [dq_cons, dq_Vl]
          have hb := beq_dq (vn c) (vn d)
          have h43 := t43 (vv c) (vv d) (vv_le c) (vv_le d)
          refine ⟨x', ?_⟩
          generalize dq r s = w at h ⊢
          generalize dq (vn c) (vn d) = v1 at hb ⊢
          generalize dq (vv c) (vv d) = v2 at h43 ⊢
          clear ih
          rw [r_n45_14]
          simp -implicitDefEqProofs (maxSteps := 10000000) (disch := omega) only [go_sem, Int.reduceAdd, Int.reduceSub, Int.reduceMul, dec_t, dec_f, Nat.reduceBEq, Nat.reduceBNe, reduceShiftRight, reduceAnd, Nat.reduceAdd, Nat.reduceSub, reduceEqDiff, Nat.reduceLT, reduceLeDiff, reduceToNat, Int.reduceLT, Int.reduceLE, Int.reduceEq, reduceIte, reduceCtorEq, g2, f2, hnat, hb, h43]
          cases v1
          · simp -implicitDefEqProofs (maxSteps := 10000000) (disch := omega) only [go_sem, Int.reduceAdd, Int.reduceSub, Int.reduceMul, dec_t, dec_f, Nat.reduceBEq, Nat.reduceBNe, reduceShiftRight, reduceAnd, Nat.reduceAdd, Nat.reduceSub, reduceEqDiff, Nat.reduceLT, reduceLeDiff, reduceToNat, Int.reduceLT, Int.reduceLE, Int.reduceEq, reduceIte, reduceCtorEq]
          simp -implicitDefEqProofs (maxSteps := 10000000) (disch := omega) only [go_sem, Int.reduceAdd, Int.reduceSub, Int.reduceMul, dec_t, dec_f, Nat.reduceBEq, Nat.reduceBNe, reduceShiftRight, reduceAnd, Nat.reduceAdd, Nat.reduceSub, reduceEqDiff, Nat.reduceLT, reduceLeDiff, reduceToNat, Int.reduceLT, Int.reduceLE, Int.reduceEq, reduceIte, reduceCtorEq, g2, f2, hnat, hb, h43]
          cases v2
          · simp -implicitDefEqProofs (maxSteps := 10000000) (disch := omega) only [go_sem, Int.reduceAdd, Int.reduceSub, Int.reduceMul, dec_t, dec_f, Nat.reduceBEq, Nat.reduceBNe, reduceShiftRight, reduceAnd, Nat.reduceAdd, Nat.reduceSub, reduceEqDiff, Nat.reduceLT, reduceLeDiff, reduceToNat, Int.reduceLT, Int.reduceLE, Int.reduceEq, reduceIte, reduceCtorEq]
          simp -implicitDefEqProofs (maxSteps := 10000000) (disch := omega) only [go_sem, Int.reduceAdd, Int.reduceSub, Int.reduceMul, dec_t, dec_f, Nat.reduceBEq, Nat.reduceBNe, reduceShiftRight, reduceAnd, Nat.reduceAdd, Nat.reduceSub, reduceEqDiff, Nat.reduceLT, reduceLeDiff, reduceToNat, Int.reduceLT, Int.reduceLE, Int.reduceEq, reduceIte, reduceCtorEq, g2, f2, hnat, hb, h43, h]
    obtain ⟨x', h⟩ := key l m 0 0 rfl rfl rfl
    generalize dq l m = w at h ⊢
    rw [p45]
    simp -implicitDefEqProofs (maxSteps := 10000000) (disch := omega) only [go_sem, Int.reduceAdd, Int.reduceSub, Int.reduceMul, dec_t, dec_f, Nat.reduceBEq, Nat.reduceBNe, reduceShiftRight, reduceAnd, Nat.reduceAdd, Nat.reduceSub, reduceEqDiff, Nat.reduceLT, reduceLeDiff, reduceToNat, Int.reduceLT, Int.reduceLE, Int.reduceEq, reduceIte, reduceCtorEq]
    cases w
    · simp -implicitDefEqProofs (maxSteps := 10000000) (disch := omega) only [go_sem, Int.reduceAdd, Int.reduceSub, Int.reduceMul, dec_t, dec_f, Nat.reduceBEq, Nat.reduceBNe, reduceShiftRight, reduceAnd, Nat.reduceAdd, Nat.reduceSub, reduceEqDiff, Nat.reduceLT, reduceLeDiff, reduceToNat, Int.reduceLT, Int.reduceLE, Int.reduceEq, reduceIte, reduceCtorEq, h]
    · simp -implicitDefEqProofs (maxSteps := 10000000) (disch := omega) only [go_sem, Int.reduceAdd, Int.reduceSub, Int.reduceMul, dec_t, dec_f, Nat.reduceBEq, Nat.reduceBNe, reduceShiftRight, reduceAnd, Nat.reduceAdd, Nat.reduceSub, reduceEqDiff, Nat.reduceLT, reduceLeDiff, reduceToNat, Int.reduceLT, Int.reduceLE, Int.reduceEq, reduceIte, reduceCtorEq, h]
  · rw [dq_len hlen, p45]
    simp -implicitDefEqProofs (maxSteps := 10000000) (disch := omega) only [go_sem, Int.reduceAdd, Int.reduceSub, Int.reduceMul, dec_t, dec_f, Nat.reduceBEq, Nat.reduceBNe, reduceShiftRight, reduceAnd, Nat.reduceAdd, Nat.reduceSub, reduceEqDiff, Nat.reduceLT, reduceLeDiff, reduceToNat, Int.reduceLT, Int.reduceLE, Int.reduceEq, reduceIte, reduceCtorEq]
end Go.L25
