/-
  No cell of these rows narrows 'for every input' (looked for: loops, veiled, ifaces, maps, wideKeys, modest, calm, conditions, laid).
  DERIVED. THE GIVEN ROWS OF THIS SEAT. 6 by the template 'for every input the law returns true; each argument reads behind the call as it read before'; 0 by the template 'total and deterministic' (their statements: YtpididcghilbjaaTotals.lean).
  GIVEN WITH THE SEED: the statements are not yours to turn. If you find one false, say at which input.
  Laid BY PROGRAM, IN A SANDBOX (cutbox-rows.mjs): the forced cells as the released guide's own fill.sh prints them over the translation c11efe20440b8ede… (all of the seat's roots in one cut). By AI agents, Wed Nov 11 2026. No macro, syntax, notation, axiom, sorry.
-/
import Derived.Test.YtpididcghilbjaaChecked
import GoSem.Claim
import GoSem.ClaimJoined
import GoSem.ClaimMapViews
import Derived.JoinedTies
import Derived.KernelRfl
namespace Go.Proofs.Ytpididcghilbjaa
/- THE CELL 'sum', in the pinned program and in every row, IS THE sha256 OF THE DUMP (.gsa) THAT YtpididcghilbjaaProg.lean LOADS. Nothing in Lean hashes anything: it is a label: what it is worth is what the hold of that sum in a sandbox is worth. -/
noncomputable def Try.pinned : Pinned := { name := "ytpididcghilbjaa", sum := "c11efe20440b8edee093912d8fe327c0ca2432b155517fd5bbedcf80b394e34f", checked := Try.checked }
namespace Rows
def none {H : Type} : Left H := { results := [], args := [] }

/-- 'tolllaw01.CutStays': WHATEVER THE INPUT: true; the input reads as it did. -/
def cutStaysSpec : ChangeSpec := { name := "cutStays", fn := fun _ => fun
  | [d1, d2, d3] => { results := [.lit (.bool true)], args := [d1, d2, d3] }
  | _ => none }
def cutStaysRow : OpenClaim := { program := "ytpididcghilbjaa", sum := "c11efe20440b8edee093912d8fe327c0ca2432b155517fd5bbedcf80b394e34f", func := "toll/tolllaw01.CutStays", spec := "cutStays", apart := false }
def CutStaysSaid : Prop := cutStaysRow.holds Try.pinned (OpenSpec.ofChange cutStaysSpec)

/-- ITS FALSE NEIGHBOUR: 'it returns false'. Refute it at one input. -/
def cutStaysWrong : ChangeSpec := { name := "cutStays", fn := fun _ => fun
  | [d1, d2, d3] => { results := [.lit (.bool false)], args := [d1, d2, d3] }
  | _ => none }
def CutStaysWrongFalsely : Prop := cutStaysRow.holds Try.pinned (OpenSpec.ofChange cutStaysWrong)

/-- 'tolllaw01.CutTakes': WHATEVER THE INPUT: true; the input reads as it did. -/
def cutTakesSpec : ChangeSpec := { name := "cutTakes", fn := fun _ => fun
  | [d1, d2] => { results := [.lit (.bool true)], args := [d1, d2] }
  | _ => none }
def cutTakesRow : OpenClaim := { program := "ytpididcghilbjaa", sum := "c11efe20440b8edee093912d8fe327c0ca2432b155517fd5bbedcf80b394e34f", func := "toll/tolllaw01.CutTakes", spec := "cutTakes", apart := false }
def CutTakesSaid : Prop := cutTakesRow.holds Try.pinned (OpenSpec.ofChange cutTakesSpec)

/-- ITS FALSE NEIGHBOUR: 'it returns false'. Refute it at one input. -/
def cutTakesWrong : ChangeSpec := { name := "cutTakes", fn := fun _ => fun
  | [d1, d2] => { results := [.lit (.bool false)], args := [d1, d2] }
  | _ => none }
def CutTakesWrongFalsely : Prop := cutTakesRow.holds Try.pinned (OpenSpec.ofChange cutTakesWrong)

/-- 'tolllaw01.CutSums': WHATEVER THE INPUT: true; the input reads as it did. -/
def cutSumsSpec : ChangeSpec := { name := "cutSums", fn := fun _ => fun
  | [d1, d2] => { results := [.lit (.bool true)], args := [d1, d2] }
  | _ => none }
def cutSumsRow : OpenClaim := { program := "ytpididcghilbjaa", sum := "c11efe20440b8edee093912d8fe327c0ca2432b155517fd5bbedcf80b394e34f", func := "toll/tolllaw01.CutSums", spec := "cutSums", apart := false }
def CutSumsSaid : Prop := cutSumsRow.holds Try.pinned (OpenSpec.ofChange cutSumsSpec)

/-- ITS FALSE NEIGHBOUR: 'it returns false'. Refute it at one input. -/
def cutSumsWrong : ChangeSpec := { name := "cutSums", fn := fun _ => fun
  | [d1, d2] => { results := [.lit (.bool false)], args := [d1, d2] }
  | _ => none }
def CutSumsWrongFalsely : Prop := cutSumsRow.holds Try.pinned (OpenSpec.ofChange cutSumsWrong)

/-- 'tolllaw01.CutBack': WHATEVER THE INPUT: true; the input reads as it did. -/
def cutBackSpec : ChangeSpec := { name := "cutBack", fn := fun _ => fun
  | [d] => { results := [.lit (.bool true)], args := [d] }
  | _ => none }
def cutBackRow : OpenClaim := { program := "ytpididcghilbjaa", sum := "c11efe20440b8edee093912d8fe327c0ca2432b155517fd5bbedcf80b394e34f", func := "toll/tolllaw01.CutBack", spec := "cutBack", apart := false }
def CutBackSaid : Prop := cutBackRow.holds Try.pinned (OpenSpec.ofChange cutBackSpec)

/-- ITS FALSE NEIGHBOUR: 'it returns false'. Refute it at one input. -/
def cutBackWrong : ChangeSpec := { name := "cutBack", fn := fun _ => fun
  | [d] => { results := [.lit (.bool false)], args := [d] }
  | _ => none }
def CutBackWrongFalsely : Prop := cutBackRow.holds Try.pinned (OpenSpec.ofChange cutBackWrong)

/-- 'tolllaw01.CutLays': WHATEVER THE INPUT: true; the input reads as it did. -/
def cutLaysSpec : ChangeSpec := { name := "cutLays", fn := fun _ => fun
  | [d1, d2, d3] => { results := [.lit (.bool true)], args := [d1, d2, d3] }
  | _ => none }
def cutLaysRow : OpenClaim := { program := "ytpididcghilbjaa", sum := "c11efe20440b8edee093912d8fe327c0ca2432b155517fd5bbedcf80b394e34f", func := "toll/tolllaw01.CutLays", spec := "cutLays", apart := false }
def CutLaysSaid : Prop := cutLaysRow.holds Try.pinned (OpenSpec.ofChange cutLaysSpec)

/-- ITS FALSE NEIGHBOUR: 'it returns false'. Refute it at one input. -/
def cutLaysWrong : ChangeSpec := { name := "cutLays", fn := fun _ => fun
  | [d1, d2, d3] => { results := [.lit (.bool false)], args := [d1, d2, d3] }
  | _ => none }
def CutLaysWrongFalsely : Prop := cutLaysRow.holds Try.pinned (OpenSpec.ofChange cutLaysWrong)

/-- 'tolllaw01.CutKnown': WHATEVER THE INPUT: true; the input reads as it did. -/
def cutKnownSpec : ChangeSpec := { name := "cutKnown", fn := fun _ => fun
  | [] => { results := [.lit (.bool true)], args := [] }
  | _ => none }
def cutKnownRow : OpenClaim := { program := "ytpididcghilbjaa", sum := "c11efe20440b8edee093912d8fe327c0ca2432b155517fd5bbedcf80b394e34f", func := "toll/tolllaw01.CutKnown", spec := "cutKnown", apart := false }
def CutKnownSaid : Prop := cutKnownRow.holds Try.pinned (OpenSpec.ofChange cutKnownSpec)

/-- ITS FALSE NEIGHBOUR: 'it returns false'. Refute it at one input. -/
def cutKnownWrong : ChangeSpec := { name := "cutKnown", fn := fun _ => fun
  | [] => { results := [.lit (.bool false)], args := [] }
  | _ => none }
def CutKnownWrongFalsely : Prop := cutKnownRow.holds Try.pinned (OpenSpec.ofChange cutKnownWrong)

/- THE SECOND FORM. 'bulk': how many values and letters a reading holds, each counted each time it is reached (what is shared counts as often as it is met; a slice's spare places count too). A statement '..UptoSaid' is the law's where the arguments, and the package variables that the reading takes, are together of bulk at most 1048576: NARROWER than '..Said'. Prove '..Said' where nothing that the law and all that it calls make is longer than what came in: it says more and counts as full. Else prove '..UptoSaid'. A law counts once. -/
mutual
def uptoBulk {H : Type} : DataW H → Nat
  | .lit (.string bytes) => bytes.length + 1
  | .lit _ => 1
  | .nil => 1
  | .ptr d => uptoBulk d + 1
  | .slice elems spare => uptoBulkAll elems + uptoBulkAll spare + 1
  | .agg parts => uptoBulkAll parts + 1
  | .iface _ d => uptoBulk d + 1
  | .map entries => uptoBulkEntries entries + 1
  | .held _ => 1
def uptoBulkAll {H : Type} : List (DataW H) → Nat
  | [] => 0
  | d :: r => uptoBulk d + uptoBulkAll r
def uptoBulkEntries {H : Type} : List (Lit × DataW H) → Nat
  | [] => 0
  | x :: r => uptoBulkEntry x + uptoBulkEntries r
def uptoBulkEntry {H : Type} : Lit × DataW H → Nat
  | (.string bytes, d) => bytes.length + uptoBulk d + 1
  | (_, d) => uptoBulk d + 1
 end
def uptoSmall : (H : Type) → List (DataW H) → Bool := fun _ ds => decide (uptoBulkAll ds ≤ 1048576)
def OpenSpec.upto (s : _root_.Go.ChangeSpec) : _root_.Go.OpenSpec := { _root_.Go.OpenSpec.ofChange s with cond := some uptoSmall }

/-- 'tolllaw01.CutStays', WHERE WHAT IT READS IS OF BULK AT MOST 1048576: true; the input reads as it did. -/
def cutStaysUptoRow : OpenClaim := { program := "ytpididcghilbjaa", sum := "c11efe20440b8edee093912d8fe327c0ca2432b155517fd5bbedcf80b394e34f", func := "toll/tolllaw01.CutStays", spec := "cutStays", apart := false, narrowed := true }
def CutStaysUptoSaid : Prop := cutStaysUptoRow.holds Try.pinned (OpenSpec.upto cutStaysSpec)

/-- 'tolllaw01.CutTakes', WHERE WHAT IT READS IS OF BULK AT MOST 1048576: true; the input reads as it did. -/
def cutTakesUptoRow : OpenClaim := { program := "ytpididcghilbjaa", sum := "c11efe20440b8edee093912d8fe327c0ca2432b155517fd5bbedcf80b394e34f", func := "toll/tolllaw01.CutTakes", spec := "cutTakes", apart := false, narrowed := true }
def CutTakesUptoSaid : Prop := cutTakesUptoRow.holds Try.pinned (OpenSpec.upto cutTakesSpec)

/-- 'tolllaw01.CutSums', WHERE WHAT IT READS IS OF BULK AT MOST 1048576: true; the input reads as it did. -/
def cutSumsUptoRow : OpenClaim := { program := "ytpididcghilbjaa", sum := "c11efe20440b8edee093912d8fe327c0ca2432b155517fd5bbedcf80b394e34f", func := "toll/tolllaw01.CutSums", spec := "cutSums", apart := false, narrowed := true }
def CutSumsUptoSaid : Prop := cutSumsUptoRow.holds Try.pinned (OpenSpec.upto cutSumsSpec)

/-- 'tolllaw01.CutBack', WHERE WHAT IT READS IS OF BULK AT MOST 1048576: true; the input reads as it did. -/
def cutBackUptoRow : OpenClaim := { program := "ytpididcghilbjaa", sum := "c11efe20440b8edee093912d8fe327c0ca2432b155517fd5bbedcf80b394e34f", func := "toll/tolllaw01.CutBack", spec := "cutBack", apart := false, narrowed := true }
def CutBackUptoSaid : Prop := cutBackUptoRow.holds Try.pinned (OpenSpec.upto cutBackSpec)

/-- 'tolllaw01.CutLays', WHERE WHAT IT READS IS OF BULK AT MOST 1048576: true; the input reads as it did. -/
def cutLaysUptoRow : OpenClaim := { program := "ytpididcghilbjaa", sum := "c11efe20440b8edee093912d8fe327c0ca2432b155517fd5bbedcf80b394e34f", func := "toll/tolllaw01.CutLays", spec := "cutLays", apart := false, narrowed := true }
def CutLaysUptoSaid : Prop := cutLaysUptoRow.holds Try.pinned (OpenSpec.upto cutLaysSpec)

/-- 'tolllaw01.CutKnown', WHERE WHAT IT READS IS OF BULK AT MOST 1048576: true; the input reads as it did. -/
def cutKnownUptoRow : OpenClaim := { program := "ytpididcghilbjaa", sum := "c11efe20440b8edee093912d8fe327c0ca2432b155517fd5bbedcf80b394e34f", func := "toll/tolllaw01.CutKnown", spec := "cutKnown", apart := false, narrowed := true }
def CutKnownUptoSaid : Prop := cutKnownUptoRow.holds Try.pinned (OpenSpec.upto cutKnownSpec)

end Rows
end Go.Proofs.Ytpididcghilbjaa
