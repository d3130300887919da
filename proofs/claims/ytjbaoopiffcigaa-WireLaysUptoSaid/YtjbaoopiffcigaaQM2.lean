/- Layer 25: filters as data. Conditions: none. -/
import Derived.Test.YtjbaoopiffcigaaQB
set_option linter.unusedVariables false
set_option linter.unusedSimpArgs false
namespace Go.L25
open Go Go.Eng Go.Proofs

/-- Texts of the sizes that are. -/
def Bs : Type := { l : List UInt8 // l.length ≤ 2 ^ 30 }
def bs (s : Bs) : List UInt8 := s.1
theorem bs_le (s : Bs) : (bs s).length ≤ 2 ^ 30 := s.2
def encS (s : Bs) : D := .str (bs s)

inductive F where
  | mk (kind : Int) (name value ini : Bs) (any : List Bs) (fin : Bs) (hi hf : Bool) (rule : Bs) (dn : Bool) (kids : List F)

/-- Rows of the sizes that are. -/
inductive OkF : F → Prop where
  | mk {k n v i a e hi hf r d kids} (ha : a.length ≤ 2 ^ 28) (hk : kids.length ≤ 2 ^ 30) (all : ∀ f ∈ kids, OkF f) : OkF (.mk k n v i a e hi hf r d kids)
theorem OkF.kids {k n v i a e hi hf r d kids} (h : OkF (.mk k n v i a e hi hf r d kids)) : kids.length ≤ 2 ^ 30 ∧ ∀ (j : Nat) (hj : j < kids.length), OkF kids[j] := by
  cases h with | mk ha hk all => exact ⟨hk, fun j hj => all _ (List.getElem_mem hj)⟩

theorem OkF.mem {k n v i a e hi hf r d kids} (h : OkF (.mk k n v i a e hi hf r d kids)) {f : F} (hf : f ∈ kids) : OkF f := by
  cases h with | mk ha hk all => exact all _ hf
mutual
def encF : F → D
  | .mk k n v i a e hi hf r d kids => .agg [.lit (.int .i64 k), .str (bs n), .str (bs v), .str (bs i), .sl (a.map encS), .str (bs e), .lit (.bool hi), .lit (.bool hf), .str (bs r), .lit (.bool d), .sl (encFs kids)]
def encFs : List F → List D
  | [] => []
  | f :: r => encF f :: encFs r
end
theorem encFs_map : ∀ l : List F, encFs l = l.map encF
  | [] => by rw [encFs]; rfl
  | f :: r => by rw [encFs, encFs_map r]; rfl

/-- Filters of the sizes that are. -/
def Fo : Type := { f : F // OkF f }
def kind : Fo → Int | ⟨.mk k _ _ _ _ _ _ _ _ _ _, _⟩ => k
def name : Fo → Bs | ⟨.mk _ n _ _ _ _ _ _ _ _ _, _⟩ => n
def value : Fo → Bs | ⟨.mk _ _ v _ _ _ _ _ _ _ _, _⟩ => v
def ini : Fo → Bs | ⟨.mk _ _ _ i _ _ _ _ _ _ _, _⟩ => i
def any : Fo → List Bs | ⟨.mk _ _ _ _ a _ _ _ _ _ _, _⟩ => a
def fin : Fo → Bs | ⟨.mk _ _ _ _ _ e _ _ _ _ _, _⟩ => e
def hi : Fo → Bool | ⟨.mk _ _ _ _ _ _ h _ _ _ _, _⟩ => h
def hf : Fo → Bool | ⟨.mk _ _ _ _ _ _ _ h _ _ _, _⟩ => h
def rule : Fo → Bs | ⟨.mk _ _ _ _ _ _ _ _ r _ _, _⟩ => r
def dn : Fo → Bool | ⟨.mk _ _ _ _ _ _ _ _ _ d _, _⟩ => d
def kids : Fo → List Fo | ⟨.mk _ _ _ _ _ _ _ _ _ _ ks, h⟩ => ks.attach.map fun ⟨k, hk⟩ => ⟨k, h.mem hk⟩
def encO (f : Fo) : D := encF f.1
theorem encO_eq (f : Fo) : encO f = (.agg [.lit (.int .i64 (kind f)), .str (bs (name f)), .str (bs (value f)), .str (bs (ini f)), .sl (List.map encS (any f)), .str (bs (fin f)), .lit (.bool (hi f)), .lit (.bool (hf f)), .str (bs (rule f)), .lit (.bool (dn f)), .sl (List.map encO (kids f))]) := by
  obtain ⟨⟨k, n, v, i, a, e, hi, hf, r, d, ks⟩, h⟩ := f
  show encF _ = _
  rw [encF, encFs_map]
  have : ks.map encF = (kids ⟨.mk k n v i a e hi hf r d ks, h⟩).map encO := by
    show _ = (ks.attach.map _).map encO
    rw [List.map_map]
    conv => lhs; rw [← List.attach_map_val (l := ks)]
    rfl
  rw [this]
  rfl
theorem any_28 (f : Fo) : (any f).length ≤ 2 ^ 28 := by
  obtain ⟨⟨k, n, v, i, a, e, hi, hf, r, d, ks⟩, h⟩ := f
  cases h with | mk ha hk all => exact ha
theorem any_le (f : Fo) : (any f).length ≤ 2 ^ 30 := Nat.le_trans (any_28 f) (by decide)
theorem kids_le (f : Fo) : (kids f).length ≤ 2 ^ 30 := by
  obtain ⟨⟨k, n, v, i, a, e, hi, hf, r, d, ks⟩, h⟩ := f
  have : (kids ⟨.mk k n v i a e hi hf r d ks, h⟩).length = ks.length := (List.length_map _).trans List.length_attach
  rw [this]
  cases h with | mk ha hk all => exact hk
noncomputable def sz (f : Fo) : Nat := SizeOf.sizeOf f.1
theorem kids_lt {f g : Fo} (h : g ∈ kids f) : sz g < sz f := by
  obtain ⟨⟨k, n, v, i, a, e, hi, hf, r, d, ks⟩, ok⟩ := f
  have h' : g ∈ ks.attach.map (fun (x : { x // x ∈ ks }) => (⟨x.1, ok.mem x.2⟩ : Fo)) := h
  obtain ⟨x, -, rfl⟩ := List.mem_map.1 h'
  have := List.sizeOf_lt_of_mem x.2
  show SizeOf.sizeOf x.1 < SizeOf.sizeOf (F.mk k n v i a e hi hf r d ks)
  simp only [F.mk.sizeOf_spec]
  omega
theorem encS_eq (s : Bs) : encS s = .str (bs s) := rfl
attribute [go_sem] encO_eq encS_eq

theorem drop_cons {α : Type} {l : List α} {j : Nat} {a : α} {r : List α} (h : l.drop j = a :: r) : j < l.length ∧ l[j]? = some a ∧ l.drop (j + 1) = r ∧ a ∈ l := by
  have h1 : l[j]? = some a := by
    have := congrArg (fun x => x[0]?) h
    simpa [List.getElem?_drop] using this
  have h2 := (List.getElem?_eq_some_iff.1 h1).1
  refine ⟨h2, h1, ?_, List.mem_of_getElem? h1⟩
  have := congrArg List.tail h
  simpa using this
theorem drop_nil {α : Type} {l : List α} {j : Nat} (h : l.drop j = []) : l.length ≤ j := by simpa using h

def dep : Nat → Fo → Nat
  | 0, _ => 1
  | l + 1, f => ((kids f).map (dep l)).foldl (fun a b => if a < b then b else a) 0 + 1
theorem foldmax_le (m : Nat) : ∀ (L : List Nat) (a : Nat), a ≤ m → (∀ x ∈ L, x ≤ m) → L.foldl (fun a b => if a < b then b else a) a ≤ m
  | [], a, h, _ => h
  | x :: r, a, h, hx => foldmax_le m r _ (by have := hx x (by simp); show (if a < x then x else a) ≤ m; split <;> omega) (fun y hy => hx y (by simp [hy]))
theorem dep_le : ∀ (l : Nat) (f : Fo), dep l f ≤ l + 1
  | 0, _ => by simp [dep]
  | l + 1, f => by
    simp only [dep]
    have := foldmax_le (l + 1) ((kids f).map (dep l)) 0 (by omega) (fun x hx => by
      obtain ⟨g, _, rfl⟩ := List.mem_map.1 hx
      exact dep_le l g)
    omega
noncomputable def par (f : Fo) (n : Nat) : Nat := min ((kids f).attach.foldl (fun n k => if n ≤ 60 then par k.1 n else n) (n + 1)) 61
termination_by sz f
decreasing_by exact kids_lt k.2
noncomputable def pars (l : List Fo) (n : Nat) : Nat := l.foldl (fun n k => if n ≤ 60 then par k n else n) n
theorem par_eq (f : Fo) (n : Nat) : par f n = min (pars (kids f) (n + 1)) 61 := by
  rw [par, pars]
  congr 1
  exact List.foldl_attach (l := kids f) (f := fun n k => if n ≤ 60 then par k n else n) (b := n + 1)
theorem par_le (f : Fo) (n : Nat) : par f n ≤ 61 := by rw [par_eq]; omega
def lit (n : Int) : PR := .one (.d (.lit (.int .i64 n)))
def tf (b : Bool) : PR := .one (.d (.lit (.bool b)))
attribute [go_sem] lit tf
end Go.L25
