/- Layer 25: elements as data. Conditions: none. -/
import Derived.Test.YtjbaoopiffcigaaPF
set_option linter.unusedVariables false
set_option linter.unusedSimpArgs false
namespace Go.L25
open Go Go.Eng Go.Proofs
open Nat (reduceShiftRight reduceAnd reduceEqDiff reduceLeDiff)
open Int (reduceToNat)
set_option maxRecDepth 10000
set_option maxHeartbeats 4000000
inductive El where
  | mk (c : Int) (m : Bool) (n : Int) (t : Bs) (es : List El)
inductive OkE : El → Prop where
  | mk {c m n t es} (hk : es.length ≤ 2 ^ 30) (all : ∀ f ∈ es, OkE f) : OkE (.mk c m n t es)
theorem OkE.mem {c m n t es} (h : OkE (.mk c m n t es)) {f : El} (hf : f ∈ es) : OkE f := by
  cases h with | mk hk all => exact all _ hf
mutual
def encEl : El → D
  | .mk c m n t es => .agg [.lit (.int .i64 c), .lit (.bool m), .lit (.int .i64 n), .str (bs t), .sl (encEls es)]
def encEls : List El → List D
  | [] => []
  | f :: r => encEl f :: encEls r
end
theorem encEls_map : ∀ l : List El, encEls l = l.map encEl
  | [] => by rw [encEls]; rfl
  | f :: r => by rw [encEls, encEls_map r]; rfl
def Eo : Type := { f : El // OkE f }
def cls : Eo → Int | ⟨.mk c _ _ _ _, _⟩ => c
def made : Eo → Bool | ⟨.mk _ m _ _ _, _⟩ => m
def num : Eo → Int | ⟨.mk _ _ n _ _, _⟩ => n
def cont : Eo → Bs | ⟨.mk _ _ _ t _, _⟩ => t
def els : Eo → List Eo | ⟨.mk _ _ _ _ ks, h⟩ => ks.attach.map fun ⟨k, hk⟩ => ⟨k, h.mem hk⟩
def encE (f : Eo) : D := encEl f.1
theorem encE_eq (f : Eo) : encE f = (.agg [.lit (.int .i64 (cls f)), .lit (.bool (made f)), .lit (.int .i64 (num f)), .str (bs (cont f)), .sl (List.map encE (els f))]) := by
  obtain ⟨⟨c, m, n, t, ks⟩, h⟩ := f
  show encEl _ = _
  rw [encEl, encEls_map]
  have : ks.map encEl = (els ⟨.mk c m n t ks, h⟩).map encE := by
    show _ = (ks.attach.map _).map encE
    rw [List.map_map]
    conv => lhs; rw [← List.attach_map_val (l := ks)]
    rfl
  rw [this]
  rfl
theorem els_le (f : Eo) : (els f).length ≤ 2 ^ 30 := by
  obtain ⟨⟨c, m, n, t, ks⟩, h⟩ := f
  have : (els ⟨.mk c m n t ks, h⟩).length = ks.length := (List.length_map _).trans List.length_attach
  rw [this]
  cases h with | mk hk all => exact hk
noncomputable def szE (f : Eo) : Nat := SizeOf.sizeOf f.1
theorem els_lt {f g : Eo} (h : g ∈ els f) : szE g < szE f := by
  obtain ⟨⟨c, m, n, t, ks⟩, ok⟩ := f
  have h' : g ∈ ks.attach.map (fun (x : { x // x ∈ ks }) => (⟨x.1, ok.mem x.2⟩ : Eo)) := h
  obtain ⟨x, -, rfl⟩ := List.mem_map.1 h'
  have := List.sizeOf_lt_of_mem x.2
  show SizeOf.sizeOf x.1 < SizeOf.sizeOf (El.mk c m n t ks)
  simp only [El.mk.sizeOf_spec]
  omega
theorem sub_map {α : Type} {p : α → Prop} (ks : List { x // p x }) (L : List α) (hL : L = ks.map Subtype.val) (g : ∀ x ∈ L, p x) : L.attach.map (fun x => (⟨x.1, g x.1 x.2⟩ : { x // p x })) = ks := by
  subst hL
  apply List.ext_getElem
  · simp
  · intro i h1 h2
    apply Subtype.ext
    simp
def mkE (c : Int) (m : Bool) (n : Int) (t : Bs) (es : List Eo) : Eo :=
  ⟨.mk c m n t ((es.take (2 ^ 30)).map fun (x : Eo) => x.1), .mk (by refine Nat.le_trans (Nat.le_of_eq (List.length_map _)) ?_; exact List.length_take_le _ _) (fun f hf => by
    obtain ⟨x, -, rfl⟩ := List.mem_map.1 hf
    exact x.2)⟩
theorem mk_els (c : Int) (m : Bool) (n : Int) (t : Bs) (es : List Eo) (h : es.length ≤ 2 ^ 30) : els (mkE c m n t es) = es := by
  exact sub_map (p := OkE) es ((es.take (2 ^ 30)).map fun (x : Eo) => x.1) (by rw [List.take_of_length_le h]; rfl) _
theorem mk_els0 (c : Int) (m : Bool) (n : Int) (t : Bs) : els (mkE c m n t []) = [] := mk_els c m n t [] (Nat.zero_le _)
theorem mk_els1 (c : Int) (m : Bool) (n : Int) (t : Bs) (a : Eo) : els (mkE c m n t [a]) = [a] := mk_els c m n t [a] (by simp)
theorem mk_els2 (c : Int) (m : Bool) (n : Int) (t : Bs) (a b : Eo) : els (mkE c m n t [a, b]) = [a, b] := mk_els c m n t [a, b] (by simp)
theorem mk_cls (c : Int) (m : Bool) (n : Int) (t : Bs) (es : List Eo) : cls (mkE c m n t es) = c := rfl
theorem mk_made (c : Int) (m : Bool) (n : Int) (t : Bs) (es : List Eo) : made (mkE c m n t es) = m := rfl
theorem mk_num (c : Int) (m : Bool) (n : Int) (t : Bs) (es : List Eo) : num (mkE c m n t es) = n := rfl
theorem mk_cont (c : Int) (m : Bool) (n : Int) (t : Bs) (es : List Eo) : cont (mkE c m n t es) = t := rfl
def b0 : Bs := ⟨[], Nat.zero_le _⟩
theorem bs_b0 : bs b0 = [] := rfl
def bff : Bs := ⟨[255], by decide⟩
theorem bs_bff : bs bff = [255] := rfl
theorem encE_mk (c : Int) (m : Bool) (n : Int) (t : Bs) (es : List Eo) (h : es.length ≤ 2 ^ 30) : encE (mkE c m n t es) = .agg [.lit (.int .i64 c), .lit (.bool m), .lit (.int .i64 n), .str (bs t), .sl (List.map encE es)] := by
  rw [encE_eq, mk_els _ _ _ _ _ h]; rfl
theorem fit_E : ∀ l : List Eo, fitL 5 (List.map AV.d (List.map encE l)) = true
  | [] => rfl
  | e :: r => by
    rw [List.map_cons, List.map_cons, fitL, fit_E r, encE_eq]; rfl
theorem c_emp2 {α β : Type} (f : α → β) (l : List α) : List.isEmpty (List.map f l) = List.isEmpty l := by cases l <;> rfl
theorem c_tk {α β γ : Type} (f : α → β) (g : β → γ) (l : List α) : List.take (List.length l) (List.map g (List.map f l)) = List.map g (List.map f l) := by
  rw [List.map_map]; exact List.take_of_length_le (by simp)
theorem emp_f {α : Type} {l : List α} (h : l ≠ []) : List.isEmpty l = false := by cases l with | nil => exact absurd rfl h | cons a r => rfl
theorem fzE_d (st : Store) (l : List D) : List.map (fzE st) (List.map AV.d l) = List.map AV.d l := by
  rw [List.map_map]; exact List.map_congr_left (fun x _ => rfl)
theorem c_emp3 {α : Type} (a r : List α) (b : α) : List.isEmpty (a ++ b :: r) = false := by cases a <;> rfl
theorem c_getl {α β γ : Type} (f : α → β) (g : β → γ) (l : List α) (z : γ) (r : List γ) : (List.map g (List.map f l) ++ z :: r)[l.length]? = some z := by
  rw [List.getElem?_append_right (by simp)]
  simp
theorem c_setl {α β γ : Type} (f : α → β) (g : β → γ) (l : List α) (z v : γ) (r : List γ) : List.set (List.map g (List.map f l) ++ (z :: r)) (List.length l) v = List.map g (List.map f l) ++ (v :: r) := by
  rw [List.set_append_right _ _ (by simp)]
  simp
theorem c_fitapp (n : Nat) : ∀ (a b : List AV), fitL n (a ++ b) = (fitL n a && fitL n b)
  | [], b => rfl
  | x :: a, b => by
    show (x.cells.length == n && fitL n (a ++ b)) = ((x.cells.length == n && fitL n a) && fitL n b)
    rw [c_fitapp n a b, Bool.and_assoc]
theorem c_tk2 {α β γ : Type} (f : α → β) (g : β → γ) (l : List α) (z : γ) : List.take (List.length l + 1) (List.map g (List.map f l) ++ [z]) = List.map g (List.map f l) ++ [z] :=
  List.take_of_length_le (by simp)
theorem c_unapp (n : Nat) : ∀ (a b : List AV), AV.under1s n (a ++ b) = (AV.under1s n a && AV.under1s n b)
  | [], b => by rw [List.nil_append, AV.under1s]; rfl
  | x :: a, b => by
    rw [List.cons_append, AV.under1s, AV.under1s, c_unapp n a b, Bool.and_assoc]
theorem c_fzapp (br : Bool) (st : Store) (n : Nat) : ∀ (l : List D) (r : List AV), fzAll (fz br st (n + 1)) (List.map AV.d l ++ r) = (fzAll (fz br st (n + 1)) r).map (List.append l)
  | [], r => by
    show fzAll (fz br st (n + 1)) r = _
    cases fzAll (fz br st (n + 1)) r <;> rfl
  | x :: l, r => by
    rw [List.map_cons, List.cons_append, fzA_cons, c_fzapp br st n l r]
    cases fzAll (fz br st (n + 1)) r <;> rfl
theorem c_app {α : Type} (a b : List α) : List.append a b = a ++ b := rfl
theorem rep_2 {α : Type} (a : α) : List.replicate 2 a = [a, a] := rfl
theorem rep_3 {α : Type} (a : α) : List.replicate 3 a = [a, a, a] := rfl
theorem rep_4 {α : Type} (a : α) : List.replicate 4 a = [a, a, a, a] := rfl
theorem slMost_eq : sliceMost = 1073741824 := rfl
attribute [go_sem] eq_self Bool.false_eq_true if_true if_false rep_2 rep_3 rep_4 slMost_eq Nat.zero_add Nat.add_zero Int.toNat_natCast mk_els0 mk_els1 mk_els2 mk_cls mk_made mk_num mk_cont bs_b0 bs_bff encE_eq fit_E c_emp2 c_tk fzE_d c_emp3 c_getl c_setl c_fitapp c_tk2 c_unapp c_fzapp c_app List.map_append
set_option maxRecDepth 10000
set_option maxHeartbeats 4000000
def p1 (s : Bs) : Eo := mkE 2 false 1 s []
def pcs (f : Fo) : List Eo := (if hi f then [mkE 2 false 0 (ini f) []] else []) ++ (any f).map p1 ++ (if hf f then [mkE 2 false 2 (fin f) []] else [])
def subE (f : Fo) : Eo := mkE 2 true 4 b0 [mkE 0 false 4 (name f) [], mkE 0 true 16 b0 (pcs f)]
theorem pcs_le (f : Fo) : (pcs f).length ≤ 2 ^ 30 := by
  have := any_28 f
  unfold pcs
  simp only [List.length_append, List.length_map]
  split <;> split <;> simp <;> omega
@[go_sem] theorem mk_pcs (f : Fo) : els (mkE 0 true 16 b0 (pcs f)) = pcs f := mk_els _ _ _ _ _ (pcs_le f)
@[go_sem] theorem mk_els3 (c : Int) (m : Bool) (n : Int) (t : Bs) (a b d : Eo) : els (mkE c m n t [a, b, d]) = [a, b, d] := mk_els c m n t _ (by simp)
@[go_sem] theorem mk_els4 (c : Int) (m : Bool) (n : Int) (t : Bs) (a b d e : Eo) : els (mkE c m n t [a, b, d, e]) = [a, b, d, e] := mk_els c m n t _ (by simp)
def exs (f : Fo) : List Eo := (if List.beq (bs (rule f)) [] then [] else [mkE 2 false 1 (rule f) []]) ++ (if List.beq (bs (name f)) [] then [] else [mkE 2 false 2 (name f) []]) ++ [mkE 2 false 3 (value f) []] ++ (if dn f then [mkE 2 false 4 bff []] else [])
def extE (f : Fo) : Eo := mkE 2 true 9 b0 (exs f)
noncomputable def laidE (f : Fo) : Eo :=
  if kind f = 0 ∨ kind f = 1 ∨ kind f = 2 then mkE 2 true (kind f) b0 ((kids f).attach.map fun k => laidE k.1) else
  if kind f = 7 then mkE 2 false 7 (name f) [] else
  if kind f = 4 then subE f else
  if kind f = 9 then extE f else mkE 2 true (kind f) b0 [mkE 0 false 4 (name f) [], mkE 0 false 4 (value f) []]
termination_by sz f
decreasing_by exact kids_lt k.2
theorem laidE_eq (f : Fo) : laidE f = if kind f = 0 ∨ kind f = 1 ∨ kind f = 2 then mkE 2 true (kind f) b0 ((kids f).map laidE) else
  if kind f = 7 then mkE 2 false 7 (name f) [] else
  if kind f = 4 then subE f else
  if kind f = 9 then extE f else mkE 2 true (kind f) b0 [mkE 0 false 4 (name f) [], mkE 0 false 4 (value f) []] := by
  rw [laidE]
  congr 2
  conv => rhs; rw [← List.attach_map_subtype_val (kids f), List.map_map]
  rfl
set_option maxRecDepth 10000
set_option maxHeartbeats 4000000
theorem map_val_inj {α : Type} {p : α → Prop} : ∀ (a b : List { x // p x }), a.map Subtype.val = b.map Subtype.val → a = b
  | [], [], _ => rfl
  | [], _ :: _, h => by cases h
  | _ :: _, [], h => by cases h
  | x :: a, y :: b, h => by
    simp only [List.map_cons, List.cons.injEq] at h
    rw [Subtype.ext h.1, map_val_inj a b h.2]
theorem els_val (f : Eo) : (els f).map (fun (x : Eo) => x.1) = match f.1 with | .mk _ _ _ _ ks => ks := by
  obtain ⟨⟨c, m, n, t, ks⟩, h⟩ := f
  show ((ks.attach.map _).map _) = ks
  rw [List.map_map]
  exact List.attach_map_subtype_val ks
theorem Eo_ext {a b : Eo} (h1 : cls a = cls b) (h2 : made a = made b) (h3 : num a = num b) (h4 : bs (cont a) = bs (cont b)) (h5 : els a = els b) : a = b := by
  have e5 := (els_val a).symm.trans ((congrArg (fun l => List.map (fun (x : Eo) => x.1) l) h5).trans (els_val b))
  obtain ⟨⟨c, m, n, t, ks⟩, h⟩ := a
  obtain ⟨⟨c', m', n', t', ks'⟩, h'⟩ := b
  have e4 : t = t' := Subtype.ext h4
  simp only at e5
  apply Subtype.ext
  show El.mk c m n t ks = El.mk c' m' n' t' ks'
  rw [show c = c' from h1, show m = m' from h2, show n = n' from h3, e4, e5]
open Classical in
noncomputable def eqE (a b : Eo) : Bool := decide (a = b)
open Classical in
noncomputable def eqL (a b : List Eo) : Bool := decide (a = b)
open Classical in
theorem eqE_t {a b : Eo} (h : a = b) : eqE a b = true := by unfold eqE; exact decide_eq_true h
open Classical in
theorem eqE_f {a b : Eo} (h : ¬ a = b) : eqE a b = false := by unfold eqE; exact decide_eq_false h
open Classical in
theorem eqL_t {a b : List Eo} (h : a = b) : eqL a b = true := by unfold eqL; exact decide_eq_true h
open Classical in
theorem eqL_f {a b : List Eo} (h : ¬ a = b) : eqL a b = false := by unfold eqL; exact decide_eq_false h
end Go.L25
