/-
  NARROWER THAN 'FOR EVERY INPUT', by the rows' own cells (each row's printed sentence says how): RequestEncodes: loops · RequestSame: loops · RequestBack: loops.
  DERIVED. THE GIVEN ROWS OF THIS SEAT. 5 by the template 'for every input the law returns true; each argument reads behind the call as it read before'; 0 by the template 'total and deterministic' (their statements: YtlehedloheojpaaGreatTotals.lean).
  GIVEN WITH THE SEED: the statements are not yours to turn. If you find one false, say at which input.
  Laid BY PROGRAM, IN A SANDBOX (cutbox-rows.mjs): the forced cells as the released guide's own fill.sh prints them over the translation db5a81cb918b7b06… (all of the seat's roots in one cut). By AI agents, Wed Nov 11 2026. No macro, syntax, notation, axiom, sorry.
-/
import Derived.Test.YtlehedloheojpaaGreatChecked
import GoSem.Claim
import GoSem.ClaimJoined
import GoSem.ClaimMapViews
import Derived.JoinedTies
import Derived.KernelRfl
namespace Go.Proofs.YtlehedloheojpaaGreat
/- THE CELL 'sum', in the pinned program and in every row, IS THE sha256 OF THE DUMP (.gsa) THAT YtlehedloheojpaaGreatProg.lean LOADS. Nothing in Lean hashes anything: it is a label: what it is worth is what the hold of that sum in a sandbox is worth. -/
noncomputable def Tryz.pinned : Pinned := { name := "ytlehedloheojpaagreat", sum := "db5a81cb918b7b060d37855fd4e9a1a4d3655b7f8206bd2502381dd30e7ee37b", checked := Tryz.checked }
namespace Rows
def none {H : Type} : Left H := { results := [], args := [] }

/-- 'toponymlaw26.RequestEncodes': WHATEVER THE INPUT: true; the input reads as it did. -/
def requestEncodesSpec : ChangeSpec := { name := "requestEncodes", fn := fun _ => fun
  | [d] => { results := [.lit (.bool true)], args := [d] }
  | _ => none }
def requestEncodesRow : OpenClaim := { program := "ytlehedloheojpaagreat", sum := "db5a81cb918b7b060d37855fd4e9a1a4d3655b7f8206bd2502381dd30e7ee37b", func := "toponym/toponymlaw26.RequestEncodes", spec := "requestEncodes", inPlace := ["internal/abi.NoEscape"], unfollowed := true, recurses := true, loops := true, apart := false }
def RequestEncodesSaid : Prop := requestEncodesRow.holds Tryz.pinned (OpenSpec.ofChange requestEncodesSpec)

/-- ITS FALSE NEIGHBOUR: 'it returns false'. Refute it at one input. -/
def requestEncodesWrong : ChangeSpec := { name := "requestEncodes", fn := fun _ => fun
  | [d] => { results := [.lit (.bool false)], args := [d] }
  | _ => none }
def RequestEncodesWrongFalsely : Prop := requestEncodesRow.holds Tryz.pinned (OpenSpec.ofChange requestEncodesWrong)

/-- 'toponymlaw26.RequestDecodes': WHATEVER THE INPUT: true; the input reads as it did. -/
def requestDecodesSpec : ChangeSpec := { name := "requestDecodes", fn := fun _ => fun
  | [d] => { results := [.lit (.bool true)], args := [d] }
  | _ => none }
def requestDecodesRow : OpenClaim := { program := "ytlehedloheojpaagreat", sum := "db5a81cb918b7b060d37855fd4e9a1a4d3655b7f8206bd2502381dd30e7ee37b", func := "toponym/toponymlaw26.RequestDecodes", spec := "requestDecodes", inPlace := ["internal/abi.NoEscape"], unfollowed := true, recurses := true, apart := false }
def RequestDecodesSaid : Prop := requestDecodesRow.holds Tryz.pinned (OpenSpec.ofChange requestDecodesSpec)

/-- ITS FALSE NEIGHBOUR: 'it returns false'. Refute it at one input. -/
def requestDecodesWrong : ChangeSpec := { name := "requestDecodes", fn := fun _ => fun
  | [d] => { results := [.lit (.bool false)], args := [d] }
  | _ => none }
def RequestDecodesWrongFalsely : Prop := requestDecodesRow.holds Tryz.pinned (OpenSpec.ofChange requestDecodesWrong)

/-- 'toponymlaw26.RequestSame': WHATEVER THE INPUT: true; the input reads as it did. -/
def requestSameSpec : ChangeSpec := { name := "requestSame", fn := fun _ => fun
  | [d1, d2] => { results := [.lit (.bool true)], args := [d1, d2] }
  | _ => none }
def requestSameRow : OpenClaim := { program := "ytlehedloheojpaagreat", sum := "db5a81cb918b7b060d37855fd4e9a1a4d3655b7f8206bd2502381dd30e7ee37b", func := "toponym/toponymlaw26.RequestSame", spec := "requestSame", inPlace := ["internal/abi.NoEscape"], unfollowed := true, recurses := true, loops := true, apart := false }
def RequestSameSaid : Prop := requestSameRow.holds Tryz.pinned (OpenSpec.ofChange requestSameSpec)

/-- ITS FALSE NEIGHBOUR: 'it returns false'. Refute it at one input. -/
def requestSameWrong : ChangeSpec := { name := "requestSame", fn := fun _ => fun
  | [d1, d2] => { results := [.lit (.bool false)], args := [d1, d2] }
  | _ => none }
def RequestSameWrongFalsely : Prop := requestSameRow.holds Tryz.pinned (OpenSpec.ofChange requestSameWrong)

/-- 'toponymlaw26.RequestBack': WHATEVER THE INPUT: true; the input reads as it did. -/
def requestBackSpec : ChangeSpec := { name := "requestBack", fn := fun _ => fun
  | [d] => { results := [.lit (.bool true)], args := [d] }
  | _ => none }
def requestBackRow : OpenClaim := { program := "ytlehedloheojpaagreat", sum := "db5a81cb918b7b060d37855fd4e9a1a4d3655b7f8206bd2502381dd30e7ee37b", func := "toponym/toponymlaw26.RequestBack", spec := "requestBack", inPlace := ["internal/abi.NoEscape"], unfollowed := true, recurses := true, loops := true, apart := false }
def RequestBackSaid : Prop := requestBackRow.holds Tryz.pinned (OpenSpec.ofChange requestBackSpec)

/-- ITS FALSE NEIGHBOUR: 'it returns false'. Refute it at one input. -/
def requestBackWrong : ChangeSpec := { name := "requestBack", fn := fun _ => fun
  | [d] => { results := [.lit (.bool false)], args := [d] }
  | _ => none }
def RequestBackWrongFalsely : Prop := requestBackRow.holds Tryz.pinned (OpenSpec.ofChange requestBackWrong)

/-- 'toponymlaw26.RequestForms': WHATEVER THE INPUT: true; the input reads as it did. -/
def requestFormsSpec : ChangeSpec := { name := "requestForms", fn := fun _ => fun
  | [d] => { results := [.lit (.bool true)], args := [d] }
  | _ => none }
def requestFormsRow : OpenClaim := { program := "ytlehedloheojpaagreat", sum := "db5a81cb918b7b060d37855fd4e9a1a4d3655b7f8206bd2502381dd30e7ee37b", func := "toponym/toponymlaw26.RequestForms", spec := "requestForms", inPlace := ["internal/abi.NoEscape"], unfollowed := true, recurses := true, apart := false }
def RequestFormsSaid : Prop := requestFormsRow.holds Tryz.pinned (OpenSpec.ofChange requestFormsSpec)

/-- ITS FALSE NEIGHBOUR: 'it returns false'. Refute it at one input. -/
def requestFormsWrong : ChangeSpec := { name := "requestForms", fn := fun _ => fun
  | [d] => { results := [.lit (.bool false)], args := [d] }
  | _ => none }
def RequestFormsWrongFalsely : Prop := requestFormsRow.holds Tryz.pinned (OpenSpec.ofChange requestFormsWrong)

/- THE SECOND FORM. 'bulk': how many values and letters a reading holds, each counted each time it is reached (what is shared counts as often as it is met; a slice's spare places count too). A statement '..UptoSaid' is the law's where the arguments, and the package variables that the reading takes, are together of bulk at most 1048576: NARROWER than '..Said'. Prove '..Said' where nothing that the law and all that it calls make is longer than what came in: it says more and counts as full. Else prove '..UptoSaid'. A law counts once. -/
mutual
def uptoBulk {H : Type} : DataW H → Nat
  | .lit (.string bytes) => bytes.length + 1
  | .lit _ => 1
  | .nil => 1
  | .ptr d => uptoBulk d + 1
  | .slice elems spare => uptoBulkAll elems + uptoBulkAll spare + 1
  | .agg parts => uptoBulkAll parts + 1
  | .iface _ d => uptoBulk d + 1
  | .map entries => uptoBulkEntries entries + 1
  | .held _ => 1
def uptoBulkAll {H : Type} : List (DataW H) → Nat
  | [] => 0
  | d :: r => uptoBulk d + uptoBulkAll r
def uptoBulkEntries {H : Type} : List (Lit × DataW H) → Nat
  | [] => 0
  | x :: r => uptoBulkEntry x + uptoBulkEntries r
def uptoBulkEntry {H : Type} : Lit × DataW H → Nat
  | (.string bytes, d) => bytes.length + uptoBulk d + 1
  | (_, d) => uptoBulk d + 1
 end
def uptoSmall : (H : Type) → List (DataW H) → Bool := fun _ ds => decide (uptoBulkAll ds ≤ 1048576)
def OpenSpec.upto (s : _root_.Go.ChangeSpec) : _root_.Go.OpenSpec := { _root_.Go.OpenSpec.ofChange s with cond := some uptoSmall }

/-- 'toponymlaw26.RequestEncodes', WHERE WHAT IT READS IS OF BULK AT MOST 1048576: true; the input reads as it did. -/
def requestEncodesUptoRow : OpenClaim := { program := "ytlehedloheojpaagreat", sum := "db5a81cb918b7b060d37855fd4e9a1a4d3655b7f8206bd2502381dd30e7ee37b", func := "toponym/toponymlaw26.RequestEncodes", spec := "requestEncodes", inPlace := ["internal/abi.NoEscape"], unfollowed := true, recurses := true, loops := true, apart := false, narrowed := true }
def RequestEncodesUptoSaid : Prop := requestEncodesUptoRow.holds Tryz.pinned (OpenSpec.upto requestEncodesSpec)

/-- 'toponymlaw26.RequestDecodes', WHERE WHAT IT READS IS OF BULK AT MOST 1048576: true; the input reads as it did. -/
def requestDecodesUptoRow : OpenClaim := { program := "ytlehedloheojpaagreat", sum := "db5a81cb918b7b060d37855fd4e9a1a4d3655b7f8206bd2502381dd30e7ee37b", func := "toponym/toponymlaw26.RequestDecodes", spec := "requestDecodes", inPlace := ["internal/abi.NoEscape"], unfollowed := true, recurses := true, apart := false, narrowed := true }
def RequestDecodesUptoSaid : Prop := requestDecodesUptoRow.holds Tryz.pinned (OpenSpec.upto requestDecodesSpec)

/-- 'toponymlaw26.RequestSame', WHERE WHAT IT READS IS OF BULK AT MOST 1048576: true; the input reads as it did. -/
def requestSameUptoRow : OpenClaim := { program := "ytlehedloheojpaagreat", sum := "db5a81cb918b7b060d37855fd4e9a1a4d3655b7f8206bd2502381dd30e7ee37b", func := "toponym/toponymlaw26.RequestSame", spec := "requestSame", inPlace := ["internal/abi.NoEscape"], unfollowed := true, recurses := true, loops := true, apart := false, narrowed := true }
def RequestSameUptoSaid : Prop := requestSameUptoRow.holds Tryz.pinned (OpenSpec.upto requestSameSpec)

/-- 'toponymlaw26.RequestBack', WHERE WHAT IT READS IS OF BULK AT MOST 1048576: true; the input reads as it did. -/
def requestBackUptoRow : OpenClaim := { program := "ytlehedloheojpaagreat", sum := "db5a81cb918b7b060d37855fd4e9a1a4d3655b7f8206bd2502381dd30e7ee37b", func := "toponym/toponymlaw26.RequestBack", spec := "requestBack", inPlace := ["internal/abi.NoEscape"], unfollowed := true, recurses := true, loops := true, apart := false, narrowed := true }
def RequestBackUptoSaid : Prop := requestBackUptoRow.holds Tryz.pinned (OpenSpec.upto requestBackSpec)

/-- 'toponymlaw26.RequestForms', WHERE WHAT IT READS IS OF BULK AT MOST 1048576: true; the input reads as it did. -/
def requestFormsUptoRow : OpenClaim := { program := "ytlehedloheojpaagreat", sum := "db5a81cb918b7b060d37855fd4e9a1a4d3655b7f8206bd2502381dd30e7ee37b", func := "toponym/toponymlaw26.RequestForms", spec := "requestForms", inPlace := ["internal/abi.NoEscape"], unfollowed := true, recurses := true, apart := false, narrowed := true }
def RequestFormsUptoSaid : Prop := requestFormsUptoRow.holds Tryz.pinned (OpenSpec.upto requestFormsSpec)

end Rows
end Go.Proofs.YtlehedloheojpaaGreat
