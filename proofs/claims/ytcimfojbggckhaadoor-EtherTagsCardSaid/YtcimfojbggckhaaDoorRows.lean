/-
  NARROWER THAN 'FOR EVERY INPUT', by the rows' own cells (each row's printed sentence says how): EtherPuts: laid · EtherTags: laid · EtherGets: laid · TagKnown: laid · TagReads: laid · TagBack: laid · TagPushes: laid · EtherSnap: laid · EtherBack: laid · EtherKnown: laid.
  DERIVED. THE GIVEN ROWS OF THIS SEAT. 10 by the template 'for every input the law returns true; each argument reads behind the call as it read before'; 0 by the template 'total and deterministic' (their statements: YtcimfojbggckhaaDoorTotals.lean).
  GIVEN WITH THE SEED: the statements are not yours to turn. If you find one false, say at which input.
  Laid BY PROGRAM, IN A SANDBOX (cutbox-rows.mjs): the forced cells as the released guide's own fill.sh prints them over the translation 63961192289fd2bf… (all of the seat's roots in one cut). By AI agents, Wed Nov 11 2026. No macro, syntax, notation, axiom, sorry.
-/
import Derived.Test.YtcimfojbggckhaaDoorChecked
import GoSem.Claim
import GoSem.ClaimJoined
import GoSem.ClaimMapViews
import Derived.JoinedTies
import Derived.KernelRfl
namespace Go.Proofs.YtcimfojbggckhaaDoor
/- THE CELL 'sum', in the pinned program and in every row, IS THE sha256 OF THE DUMP (.gsa) THAT YtcimfojbggckhaaDoorProg.lean LOADS. Nothing in Lean hashes anything: it is a label: what it is worth is what the hold of that sum in a sandbox is worth. -/
noncomputable def Tryd.pinned : Pinned := { name := "ytcimfojbggckhaadoor", sum := "63961192289fd2bff31ed38a0b98b2f0fb55ebddb9e1a5854a0c116840d14bd4", checked := Tryd.checked }
namespace Rows
def none {H : Type} : Left H := { results := [], args := [] }

/- WHAT THE LISTED PACKAGE-LEVEL VARIABLES READ AS WHEN THE CALL BEGINS. Each datum BY PROGRAM (the guide's laid-datum.mjs) off the statement by which the dump's own 'gosem.cut.vars' lays the variable. In a bare row this is a premise. The card (YtcimfojbggckhaaDoorCards.lean) ties it to the program's text. -/
def laid_toll_tag_kinds {H : Type} : DataW H := .agg [.slice [.lit (.int .u16 34984), .lit (.int .u16 33024)] [], .slice [.lit (.int .u16 33024)] []]
def laid_toll_ether_sap {H : Type} : DataW H := .agg [.lit (.int .u8 170), .lit (.int .u8 170), .lit (.int .u8 3)]

/-- 'tolllaw04.EtherPuts': WHATEVER THE INPUT: true; the input reads as it did. -/
def etherPutsSpec : ChangeSpec := { name := "etherPuts", fn := fun _ => fun
  | [d] => { results := [.lit (.bool true)], args := [d] }
  | _ => none }
def etherPutsRow : OpenClaim := { program := "ytcimfojbggckhaadoor", sum := "63961192289fd2bff31ed38a0b98b2f0fb55ebddb9e1a5854a0c116840d14bd4", func := "toll/tolllaw04.EtherPuts", spec := "etherPuts", unfollowed := true, recurses := true, named := ["toll/tag.kinds", "toll/ether.sap"], apart := false, laid := [("toll/tag.kinds", laid_toll_tag_kinds), ("toll/ether.sap", laid_toll_ether_sap)] }
def EtherPutsSaid : Prop := etherPutsRow.holds Tryd.pinned (OpenSpec.ofChange etherPutsSpec)

/-- ITS FALSE NEIGHBOUR: 'it returns false'. Refute it at one input. -/
def etherPutsWrong : ChangeSpec := { name := "etherPuts", fn := fun _ => fun
  | [d] => { results := [.lit (.bool false)], args := [d] }
  | _ => none }
def EtherPutsWrongFalsely : Prop := etherPutsRow.holds Tryd.pinned (OpenSpec.ofChange etherPutsWrong)

/-- 'tolllaw04.EtherTags': WHATEVER THE INPUT: true; the input reads as it did. -/
def etherTagsSpec : ChangeSpec := { name := "etherTags", fn := fun _ => fun
  | [d1, d2] => { results := [.lit (.bool true)], args := [d1, d2] }
  | _ => none }
def etherTagsRow : OpenClaim := { program := "ytcimfojbggckhaadoor", sum := "63961192289fd2bff31ed38a0b98b2f0fb55ebddb9e1a5854a0c116840d14bd4", func := "toll/tolllaw04.EtherTags", spec := "etherTags", unfollowed := true, recurses := true, named := ["toll/tag.kinds", "toll/ether.sap"], apart := false, laid := [("toll/tag.kinds", laid_toll_tag_kinds), ("toll/ether.sap", laid_toll_ether_sap)] }
def EtherTagsSaid : Prop := etherTagsRow.holds Tryd.pinned (OpenSpec.ofChange etherTagsSpec)

/-- ITS FALSE NEIGHBOUR: 'it returns false'. Refute it at one input. -/
def etherTagsWrong : ChangeSpec := { name := "etherTags", fn := fun _ => fun
  | [d1, d2] => { results := [.lit (.bool false)], args := [d1, d2] }
  | _ => none }
def EtherTagsWrongFalsely : Prop := etherTagsRow.holds Tryd.pinned (OpenSpec.ofChange etherTagsWrong)

/-- 'tolllaw04.EtherGets': WHATEVER THE INPUT: true; the input reads as it did. -/
def etherGetsSpec : ChangeSpec := { name := "etherGets", fn := fun _ => fun
  | [d] => { results := [.lit (.bool true)], args := [d] }
  | _ => none }
def etherGetsRow : OpenClaim := { program := "ytcimfojbggckhaadoor", sum := "63961192289fd2bff31ed38a0b98b2f0fb55ebddb9e1a5854a0c116840d14bd4", func := "toll/tolllaw04.EtherGets", spec := "etherGets", unfollowed := true, recurses := true, named := ["toll/tag.kinds", "toll/ether.sap"], apart := false, laid := [("toll/tag.kinds", laid_toll_tag_kinds), ("toll/ether.sap", laid_toll_ether_sap)] }
def EtherGetsSaid : Prop := etherGetsRow.holds Tryd.pinned (OpenSpec.ofChange etherGetsSpec)

/-- ITS FALSE NEIGHBOUR: 'it returns false'. Refute it at one input. -/
def etherGetsWrong : ChangeSpec := { name := "etherGets", fn := fun _ => fun
  | [d] => { results := [.lit (.bool false)], args := [d] }
  | _ => none }
def EtherGetsWrongFalsely : Prop := etherGetsRow.holds Tryd.pinned (OpenSpec.ofChange etherGetsWrong)

/-- 'tolllaw03.TagKnown': WHATEVER THE INPUT: true; the input reads as it did. -/
def tagKnownSpec : ChangeSpec := { name := "tagKnown", fn := fun _ => fun
  | [] => { results := [.lit (.bool true)], args := [] }
  | _ => none }
def tagKnownRow : OpenClaim := { program := "ytcimfojbggckhaadoor", sum := "63961192289fd2bff31ed38a0b98b2f0fb55ebddb9e1a5854a0c116840d14bd4", func := "toll/tolllaw03.TagKnown", spec := "tagKnown", named := ["toll/tag.kinds"], apart := false, laid := [("toll/tag.kinds", laid_toll_tag_kinds)] }
def TagKnownSaid : Prop := tagKnownRow.holds Tryd.pinned (OpenSpec.ofChange tagKnownSpec)

/-- ITS FALSE NEIGHBOUR: 'it returns false'. Refute it at one input. -/
def tagKnownWrong : ChangeSpec := { name := "tagKnown", fn := fun _ => fun
  | [] => { results := [.lit (.bool false)], args := [] }
  | _ => none }
def TagKnownWrongFalsely : Prop := tagKnownRow.holds Tryd.pinned (OpenSpec.ofChange tagKnownWrong)

/-- 'tolllaw03.TagReads': WHATEVER THE INPUT: true; the input reads as it did. -/
def tagReadsSpec : ChangeSpec := { name := "tagReads", fn := fun _ => fun
  | [d] => { results := [.lit (.bool true)], args := [d] }
  | _ => none }
def tagReadsRow : OpenClaim := { program := "ytcimfojbggckhaadoor", sum := "63961192289fd2bff31ed38a0b98b2f0fb55ebddb9e1a5854a0c116840d14bd4", func := "toll/tolllaw03.TagReads", spec := "tagReads", named := ["toll/tag.kinds"], apart := false, laid := [("toll/tag.kinds", laid_toll_tag_kinds)] }
def TagReadsSaid : Prop := tagReadsRow.holds Tryd.pinned (OpenSpec.ofChange tagReadsSpec)

/-- ITS FALSE NEIGHBOUR: 'it returns false'. Refute it at one input. -/
def tagReadsWrong : ChangeSpec := { name := "tagReads", fn := fun _ => fun
  | [d] => { results := [.lit (.bool false)], args := [d] }
  | _ => none }
def TagReadsWrongFalsely : Prop := tagReadsRow.holds Tryd.pinned (OpenSpec.ofChange tagReadsWrong)

/-- 'tolllaw03.TagBack': WHATEVER THE INPUT: true; the input reads as it did. -/
def tagBackSpec : ChangeSpec := { name := "tagBack", fn := fun _ => fun
  | [d1, d2, d3] => { results := [.lit (.bool true)], args := [d1, d2, d3] }
  | _ => none }
def tagBackRow : OpenClaim := { program := "ytcimfojbggckhaadoor", sum := "63961192289fd2bff31ed38a0b98b2f0fb55ebddb9e1a5854a0c116840d14bd4", func := "toll/tolllaw03.TagBack", spec := "tagBack", named := ["toll/tag.kinds"], apart := false, laid := [("toll/tag.kinds", laid_toll_tag_kinds)] }
def TagBackSaid : Prop := tagBackRow.holds Tryd.pinned (OpenSpec.ofChange tagBackSpec)

/-- ITS FALSE NEIGHBOUR: 'it returns false'. Refute it at one input. -/
def tagBackWrong : ChangeSpec := { name := "tagBack", fn := fun _ => fun
  | [d1, d2, d3] => { results := [.lit (.bool false)], args := [d1, d2, d3] }
  | _ => none }
def TagBackWrongFalsely : Prop := tagBackRow.holds Tryd.pinned (OpenSpec.ofChange tagBackWrong)

/-- 'tolllaw03.TagPushes': WHATEVER THE INPUT: true; the input reads as it did. -/
def tagPushesSpec : ChangeSpec := { name := "tagPushes", fn := fun _ => fun
  | [d1, d2] => { results := [.lit (.bool true)], args := [d1, d2] }
  | _ => none }
def tagPushesRow : OpenClaim := { program := "ytcimfojbggckhaadoor", sum := "63961192289fd2bff31ed38a0b98b2f0fb55ebddb9e1a5854a0c116840d14bd4", func := "toll/tolllaw03.TagPushes", spec := "tagPushes", named := ["toll/tag.kinds"], apart := false, laid := [("toll/tag.kinds", laid_toll_tag_kinds)] }
def TagPushesSaid : Prop := tagPushesRow.holds Tryd.pinned (OpenSpec.ofChange tagPushesSpec)

/-- ITS FALSE NEIGHBOUR: 'it returns false'. Refute it at one input. -/
def tagPushesWrong : ChangeSpec := { name := "tagPushes", fn := fun _ => fun
  | [d1, d2] => { results := [.lit (.bool false)], args := [d1, d2] }
  | _ => none }
def TagPushesWrongFalsely : Prop := tagPushesRow.holds Tryd.pinned (OpenSpec.ofChange tagPushesWrong)

/-- 'tolllaw04.EtherSnap': WHATEVER THE INPUT: true; the input reads as it did. -/
def etherSnapSpec : ChangeSpec := { name := "etherSnap", fn := fun _ => fun
  | [d1, d2, d3, d4] => { results := [.lit (.bool true)], args := [d1, d2, d3, d4] }
  | _ => none }
def etherSnapRow : OpenClaim := { program := "ytcimfojbggckhaadoor", sum := "63961192289fd2bff31ed38a0b98b2f0fb55ebddb9e1a5854a0c116840d14bd4", func := "toll/tolllaw04.EtherSnap", spec := "etherSnap", unfollowed := true, recurses := true, named := ["toll/tag.kinds", "toll/ether.sap"], apart := false, laid := [("toll/tag.kinds", laid_toll_tag_kinds), ("toll/ether.sap", laid_toll_ether_sap)] }
def EtherSnapSaid : Prop := etherSnapRow.holds Tryd.pinned (OpenSpec.ofChange etherSnapSpec)

/-- ITS FALSE NEIGHBOUR: 'it returns false'. Refute it at one input. -/
def etherSnapWrong : ChangeSpec := { name := "etherSnap", fn := fun _ => fun
  | [d1, d2, d3, d4] => { results := [.lit (.bool false)], args := [d1, d2, d3, d4] }
  | _ => none }
def EtherSnapWrongFalsely : Prop := etherSnapRow.holds Tryd.pinned (OpenSpec.ofChange etherSnapWrong)

/-- 'tolllaw04.EtherBack': WHATEVER THE INPUT: true; the input reads as it did. -/
def etherBackSpec : ChangeSpec := { name := "etherBack", fn := fun _ => fun
  | [d1, d2] => { results := [.lit (.bool true)], args := [d1, d2] }
  | _ => none }
def etherBackRow : OpenClaim := { program := "ytcimfojbggckhaadoor", sum := "63961192289fd2bff31ed38a0b98b2f0fb55ebddb9e1a5854a0c116840d14bd4", func := "toll/tolllaw04.EtherBack", spec := "etherBack", unfollowed := true, recurses := true, named := ["toll/tag.kinds", "toll/ether.sap"], apart := false, laid := [("toll/tag.kinds", laid_toll_tag_kinds), ("toll/ether.sap", laid_toll_ether_sap)] }
def EtherBackSaid : Prop := etherBackRow.holds Tryd.pinned (OpenSpec.ofChange etherBackSpec)

/-- ITS FALSE NEIGHBOUR: 'it returns false'. Refute it at one input. -/
def etherBackWrong : ChangeSpec := { name := "etherBack", fn := fun _ => fun
  | [d1, d2] => { results := [.lit (.bool false)], args := [d1, d2] }
  | _ => none }
def EtherBackWrongFalsely : Prop := etherBackRow.holds Tryd.pinned (OpenSpec.ofChange etherBackWrong)

/-- 'tolllaw04.EtherKnown': WHATEVER THE INPUT: true; the input reads as it did. -/
def etherKnownSpec : ChangeSpec := { name := "etherKnown", fn := fun _ => fun
  | [] => { results := [.lit (.bool true)], args := [] }
  | _ => none }
def etherKnownRow : OpenClaim := { program := "ytcimfojbggckhaadoor", sum := "63961192289fd2bff31ed38a0b98b2f0fb55ebddb9e1a5854a0c116840d14bd4", func := "toll/tolllaw04.EtherKnown", spec := "etherKnown", unfollowed := true, recurses := true, named := ["toll/tag.kinds", "toll/ether.sap"], apart := false, laid := [("toll/tag.kinds", laid_toll_tag_kinds), ("toll/ether.sap", laid_toll_ether_sap)] }
def EtherKnownSaid : Prop := etherKnownRow.holds Tryd.pinned (OpenSpec.ofChange etherKnownSpec)

/-- ITS FALSE NEIGHBOUR: 'it returns false'. Refute it at one input. -/
def etherKnownWrong : ChangeSpec := { name := "etherKnown", fn := fun _ => fun
  | [] => { results := [.lit (.bool false)], args := [] }
  | _ => none }
def EtherKnownWrongFalsely : Prop := etherKnownRow.holds Tryd.pinned (OpenSpec.ofChange etherKnownWrong)

/- THE SECOND FORM. 'bulk': how many values and letters a reading holds, each counted each time it is reached (what is shared counts as often as it is met; a slice's spare places count too). A statement '..UptoSaid' is the law's where the arguments, and the package variables that the reading takes, are together of bulk at most 1048576: NARROWER than '..Said'. Prove '..Said' where nothing that the law and all that it calls make is longer than what came in: it says more and counts as full. Else prove '..UptoSaid'. A law counts once. -/
mutual
def uptoBulk {H : Type} : DataW H → Nat
  | .lit (.string bytes) => bytes.length + 1
  | .lit _ => 1
  | .nil => 1
  | .ptr d => uptoBulk d + 1
  | .slice elems spare => uptoBulkAll elems + uptoBulkAll spare + 1
  | .agg parts => uptoBulkAll parts + 1
  | .iface _ d => uptoBulk d + 1
  | .map entries => uptoBulkEntries entries + 1
  | .held _ => 1
def uptoBulkAll {H : Type} : List (DataW H) → Nat
  | [] => 0
  | d :: r => uptoBulk d + uptoBulkAll r
def uptoBulkEntries {H : Type} : List (Lit × DataW H) → Nat
  | [] => 0
  | x :: r => uptoBulkEntry x + uptoBulkEntries r
def uptoBulkEntry {H : Type} : Lit × DataW H → Nat
  | (.string bytes, d) => bytes.length + uptoBulk d + 1
  | (_, d) => uptoBulk d + 1
 end
def uptoSmall : (H : Type) → List (DataW H) → Bool := fun _ ds => decide (uptoBulkAll ds ≤ 1048576)
def OpenSpec.upto (s : _root_.Go.ChangeSpec) : _root_.Go.OpenSpec := { _root_.Go.OpenSpec.ofChange s with cond := some uptoSmall }

/-- 'tolllaw04.EtherPuts', WHERE WHAT IT READS IS OF BULK AT MOST 1048576: true; the input reads as it did. -/
def etherPutsUptoRow : OpenClaim := { program := "ytcimfojbggckhaadoor", sum := "63961192289fd2bff31ed38a0b98b2f0fb55ebddb9e1a5854a0c116840d14bd4", func := "toll/tolllaw04.EtherPuts", spec := "etherPuts", unfollowed := true, recurses := true, named := ["toll/tag.kinds", "toll/ether.sap"], apart := false, laid := [("toll/tag.kinds", laid_toll_tag_kinds), ("toll/ether.sap", laid_toll_ether_sap)], narrowed := true }
def EtherPutsUptoSaid : Prop := etherPutsUptoRow.holds Tryd.pinned (OpenSpec.upto etherPutsSpec)

/-- 'tolllaw04.EtherTags', WHERE WHAT IT READS IS OF BULK AT MOST 1048576: true; the input reads as it did. -/
def etherTagsUptoRow : OpenClaim := { program := "ytcimfojbggckhaadoor", sum := "63961192289fd2bff31ed38a0b98b2f0fb55ebddb9e1a5854a0c116840d14bd4", func := "toll/tolllaw04.EtherTags", spec := "etherTags", unfollowed := true, recurses := true, named := ["toll/tag.kinds", "toll/ether.sap"], apart := false, laid := [("toll/tag.kinds", laid_toll_tag_kinds), ("toll/ether.sap", laid_toll_ether_sap)], narrowed := true }
def EtherTagsUptoSaid : Prop := etherTagsUptoRow.holds Tryd.pinned (OpenSpec.upto etherTagsSpec)

/-- 'tolllaw04.EtherGets', WHERE WHAT IT READS IS OF BULK AT MOST 1048576: true; the input reads as it did. -/
def etherGetsUptoRow : OpenClaim := { program := "ytcimfojbggckhaadoor", sum := "63961192289fd2bff31ed38a0b98b2f0fb55ebddb9e1a5854a0c116840d14bd4", func := "toll/tolllaw04.EtherGets", spec := "etherGets", unfollowed := true, recurses := true, named := ["toll/tag.kinds", "toll/ether.sap"], apart := false, laid := [("toll/tag.kinds", laid_toll_tag_kinds), ("toll/ether.sap", laid_toll_ether_sap)], narrowed := true }
def EtherGetsUptoSaid : Prop := etherGetsUptoRow.holds Tryd.pinned (OpenSpec.upto etherGetsSpec)

/-- 'tolllaw03.TagKnown', WHERE WHAT IT READS IS OF BULK AT MOST 1048576: true; the input reads as it did. -/
def tagKnownUptoRow : OpenClaim := { program := "ytcimfojbggckhaadoor", sum := "63961192289fd2bff31ed38a0b98b2f0fb55ebddb9e1a5854a0c116840d14bd4", func := "toll/tolllaw03.TagKnown", spec := "tagKnown", named := ["toll/tag.kinds"], apart := false, laid := [("toll/tag.kinds", laid_toll_tag_kinds)], narrowed := true }
def TagKnownUptoSaid : Prop := tagKnownUptoRow.holds Tryd.pinned (OpenSpec.upto tagKnownSpec)

/-- 'tolllaw03.TagReads', WHERE WHAT IT READS IS OF BULK AT MOST 1048576: true; the input reads as it did. -/
def tagReadsUptoRow : OpenClaim := { program := "ytcimfojbggckhaadoor", sum := "63961192289fd2bff31ed38a0b98b2f0fb55ebddb9e1a5854a0c116840d14bd4", func := "toll/tolllaw03.TagReads", spec := "tagReads", named := ["toll/tag.kinds"], apart := false, laid := [("toll/tag.kinds", laid_toll_tag_kinds)], narrowed := true }
def TagReadsUptoSaid : Prop := tagReadsUptoRow.holds Tryd.pinned (OpenSpec.upto tagReadsSpec)

/-- 'tolllaw03.TagBack', WHERE WHAT IT READS IS OF BULK AT MOST 1048576: true; the input reads as it did. -/
def tagBackUptoRow : OpenClaim := { program := "ytcimfojbggckhaadoor", sum := "63961192289fd2bff31ed38a0b98b2f0fb55ebddb9e1a5854a0c116840d14bd4", func := "toll/tolllaw03.TagBack", spec := "tagBack", named := ["toll/tag.kinds"], apart := false, laid := [("toll/tag.kinds", laid_toll_tag_kinds)], narrowed := true }
def TagBackUptoSaid : Prop := tagBackUptoRow.holds Tryd.pinned (OpenSpec.upto tagBackSpec)

/-- 'tolllaw03.TagPushes', WHERE WHAT IT READS IS OF BULK AT MOST 1048576: true; the input reads as it did. -/
def tagPushesUptoRow : OpenClaim := { program := "ytcimfojbggckhaadoor", sum := "63961192289fd2bff31ed38a0b98b2f0fb55ebddb9e1a5854a0c116840d14bd4", func := "toll/tolllaw03.TagPushes", spec := "tagPushes", named := ["toll/tag.kinds"], apart := false, laid := [("toll/tag.kinds", laid_toll_tag_kinds)], narrowed := true }
def TagPushesUptoSaid : Prop := tagPushesUptoRow.holds Tryd.pinned (OpenSpec.upto tagPushesSpec)

/-- 'tolllaw04.EtherSnap', WHERE WHAT IT READS IS OF BULK AT MOST 1048576: true; the input reads as it did. -/
def etherSnapUptoRow : OpenClaim := { program := "ytcimfojbggckhaadoor", sum := "63961192289fd2bff31ed38a0b98b2f0fb55ebddb9e1a5854a0c116840d14bd4", func := "toll/tolllaw04.EtherSnap", spec := "etherSnap", unfollowed := true, recurses := true, named := ["toll/tag.kinds", "toll/ether.sap"], apart := false, laid := [("toll/tag.kinds", laid_toll_tag_kinds), ("toll/ether.sap", laid_toll_ether_sap)], narrowed := true }
def EtherSnapUptoSaid : Prop := etherSnapUptoRow.holds Tryd.pinned (OpenSpec.upto etherSnapSpec)

/-- 'tolllaw04.EtherBack', WHERE WHAT IT READS IS OF BULK AT MOST 1048576: true; the input reads as it did. -/
def etherBackUptoRow : OpenClaim := { program := "ytcimfojbggckhaadoor", sum := "63961192289fd2bff31ed38a0b98b2f0fb55ebddb9e1a5854a0c116840d14bd4", func := "toll/tolllaw04.EtherBack", spec := "etherBack", unfollowed := true, recurses := true, named := ["toll/tag.kinds", "toll/ether.sap"], apart := false, laid := [("toll/tag.kinds", laid_toll_tag_kinds), ("toll/ether.sap", laid_toll_ether_sap)], narrowed := true }
def EtherBackUptoSaid : Prop := etherBackUptoRow.holds Tryd.pinned (OpenSpec.upto etherBackSpec)

/-- 'tolllaw04.EtherKnown', WHERE WHAT IT READS IS OF BULK AT MOST 1048576: true; the input reads as it did. -/
def etherKnownUptoRow : OpenClaim := { program := "ytcimfojbggckhaadoor", sum := "63961192289fd2bff31ed38a0b98b2f0fb55ebddb9e1a5854a0c116840d14bd4", func := "toll/tolllaw04.EtherKnown", spec := "etherKnown", unfollowed := true, recurses := true, named := ["toll/tag.kinds", "toll/ether.sap"], apart := false, laid := [("toll/tag.kinds", laid_toll_tag_kinds), ("toll/ether.sap", laid_toll_ether_sap)], narrowed := true }
def EtherKnownUptoSaid : Prop := etherKnownUptoRow.holds Tryd.pinned (OpenSpec.upto etherKnownSpec)

end Rows
end Go.Proofs.YtcimfojbggckhaaDoor
