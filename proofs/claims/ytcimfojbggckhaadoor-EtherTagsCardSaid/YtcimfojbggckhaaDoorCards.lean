/-
  DERIVED. GIVEN WITH THE SEED: THE CARDS: each row of YtcimfojbggckhaaDoorRows.lean that lists a variable, with what it lists TIED to the program's text (the seventh form; the later family's looks); each row that meets fmt, with fmt's text TOLD by the authors' own Lean function (tested against real Go, not proved from fmt's source: count such statements apart). THE CARD IS WHAT COUNTS. Prove the row's statement (the work); the ties are given (YtcimfojbggckhaaDoorTie.lean); close each card by the builder's one call (the guide's Derived/Test/ToyasCard.lean, 'card_holds'). Laid BY PROGRAM, IN A SANDBOX (cutbox-door.mjs). By AI agents, Wed Nov 11 2026. No macro, syntax, notation, axiom, sorry.
-/
import Derived.Test.YtcimfojbggckhaaDoorRows
import GoSem.ClaimSeven
namespace Go.Proofs.YtcimfojbggckhaaDoor
namespace Rows

/-- THE TIED CARD OF 'tolllaw04.EtherPuts'. -/
def etherPutsCard : Claim7 := { stood := { row := etherPutsRow, standIns := [], harness := (true, "005af6a159b4550678557e1626ce05516188c2c82504c0eecf584bdeb30f33fb"), looks := false }, kinds := [], alts := [], laidByText := true, laidKinds := [.widerDeep, .data], laidTests := true, laidLooks := .later }
def EtherPutsCardSaid : Prop := Claim7.holds Tryd.pinned (.plain (OpenSpec.ofChange etherPutsSpec)) etherPutsCard

/-- THE TIED CARD OF 'tolllaw04.EtherTags'. -/
def etherTagsCard : Claim7 := { stood := { row := etherTagsRow, standIns := [], harness := (true, "005af6a159b4550678557e1626ce05516188c2c82504c0eecf584bdeb30f33fb"), looks := false }, kinds := [], alts := [], laidByText := true, laidKinds := [.widerDeep, .data], laidTests := true, laidLooks := .later }
def EtherTagsCardSaid : Prop := Claim7.holds Tryd.pinned (.plain (OpenSpec.ofChange etherTagsSpec)) etherTagsCard

/-- THE TIED CARD OF 'tolllaw04.EtherGets'. -/
def etherGetsCard : Claim7 := { stood := { row := etherGetsRow, standIns := [], harness := (true, "005af6a159b4550678557e1626ce05516188c2c82504c0eecf584bdeb30f33fb"), looks := false }, kinds := [], alts := [], laidByText := true, laidKinds := [.widerDeep, .data], laidTests := true, laidLooks := .later }
def EtherGetsCardSaid : Prop := Claim7.holds Tryd.pinned (.plain (OpenSpec.ofChange etherGetsSpec)) etherGetsCard

/-- THE TIED CARD OF 'tolllaw03.TagKnown'. -/
def tagKnownCard : Claim7 := { stood := { row := tagKnownRow, standIns := [], harness := (true, "005af6a159b4550678557e1626ce05516188c2c82504c0eecf584bdeb30f33fb"), looks := false }, kinds := [], alts := [], laidByText := true, laidKinds := [.widerDeep], laidTests := true, laidLooks := .later }
def TagKnownCardSaid : Prop := Claim7.holds Tryd.pinned (.plain (OpenSpec.ofChange tagKnownSpec)) tagKnownCard

/-- THE TIED CARD OF 'tolllaw03.TagReads'. -/
def tagReadsCard : Claim7 := { stood := { row := tagReadsRow, standIns := [], harness := (true, "005af6a159b4550678557e1626ce05516188c2c82504c0eecf584bdeb30f33fb"), looks := false }, kinds := [], alts := [], laidByText := true, laidKinds := [.widerDeep], laidTests := true, laidLooks := .later }
def TagReadsCardSaid : Prop := Claim7.holds Tryd.pinned (.plain (OpenSpec.ofChange tagReadsSpec)) tagReadsCard

/-- THE TIED CARD OF 'tolllaw03.TagBack'. -/
def tagBackCard : Claim7 := { stood := { row := tagBackRow, standIns := [], harness := (true, "005af6a159b4550678557e1626ce05516188c2c82504c0eecf584bdeb30f33fb"), looks := false }, kinds := [], alts := [], laidByText := true, laidKinds := [.widerDeep], laidTests := true, laidLooks := .later }
def TagBackCardSaid : Prop := Claim7.holds Tryd.pinned (.plain (OpenSpec.ofChange tagBackSpec)) tagBackCard

/-- THE TIED CARD OF 'tolllaw03.TagPushes'. -/
def tagPushesCard : Claim7 := { stood := { row := tagPushesRow, standIns := [], harness := (true, "005af6a159b4550678557e1626ce05516188c2c82504c0eecf584bdeb30f33fb"), looks := false }, kinds := [], alts := [], laidByText := true, laidKinds := [.widerDeep], laidTests := true, laidLooks := .later }
def TagPushesCardSaid : Prop := Claim7.holds Tryd.pinned (.plain (OpenSpec.ofChange tagPushesSpec)) tagPushesCard

/-- THE TIED CARD OF 'tolllaw04.EtherSnap'. -/
def etherSnapCard : Claim7 := { stood := { row := etherSnapRow, standIns := [], harness := (true, "005af6a159b4550678557e1626ce05516188c2c82504c0eecf584bdeb30f33fb"), looks := false }, kinds := [], alts := [], laidByText := true, laidKinds := [.widerDeep, .data], laidTests := true, laidLooks := .later }
def EtherSnapCardSaid : Prop := Claim7.holds Tryd.pinned (.plain (OpenSpec.ofChange etherSnapSpec)) etherSnapCard

/-- THE TIED CARD OF 'tolllaw04.EtherBack'. -/
def etherBackCard : Claim7 := { stood := { row := etherBackRow, standIns := [], harness := (true, "005af6a159b4550678557e1626ce05516188c2c82504c0eecf584bdeb30f33fb"), looks := false }, kinds := [], alts := [], laidByText := true, laidKinds := [.widerDeep, .data], laidTests := true, laidLooks := .later }
def EtherBackCardSaid : Prop := Claim7.holds Tryd.pinned (.plain (OpenSpec.ofChange etherBackSpec)) etherBackCard

/-- THE TIED CARD OF 'tolllaw04.EtherKnown'. -/
def etherKnownCard : Claim7 := { stood := { row := etherKnownRow, standIns := [], harness := (true, "005af6a159b4550678557e1626ce05516188c2c82504c0eecf584bdeb30f33fb"), looks := false }, kinds := [], alts := [], laidByText := true, laidKinds := [.widerDeep, .data], laidTests := true, laidLooks := .later }
def EtherKnownCardSaid : Prop := Claim7.holds Tryd.pinned (.plain (OpenSpec.ofChange etherKnownSpec)) etherKnownCard

/-- THE SECOND FORM's CARD OF 'tolllaw04.EtherPuts'. -/
def etherPutsUptoCard : Claim7 := { stood := { row := etherPutsUptoRow, standIns := [], harness := (true, "005af6a159b4550678557e1626ce05516188c2c82504c0eecf584bdeb30f33fb"), looks := false }, kinds := [], alts := [], laidByText := true, laidKinds := [.widerDeep, .data], laidTests := true, laidLooks := .later }
def EtherPutsUptoCardSaid : Prop := Claim7.holds Tryd.pinned (.plain (OpenSpec.upto etherPutsSpec)) etherPutsUptoCard

/-- THE SECOND FORM's CARD OF 'tolllaw04.EtherTags'. -/
def etherTagsUptoCard : Claim7 := { stood := { row := etherTagsUptoRow, standIns := [], harness := (true, "005af6a159b4550678557e1626ce05516188c2c82504c0eecf584bdeb30f33fb"), looks := false }, kinds := [], alts := [], laidByText := true, laidKinds := [.widerDeep, .data], laidTests := true, laidLooks := .later }
def EtherTagsUptoCardSaid : Prop := Claim7.holds Tryd.pinned (.plain (OpenSpec.upto etherTagsSpec)) etherTagsUptoCard

/-- THE SECOND FORM's CARD OF 'tolllaw04.EtherGets'. -/
def etherGetsUptoCard : Claim7 := { stood := { row := etherGetsUptoRow, standIns := [], harness := (true, "005af6a159b4550678557e1626ce05516188c2c82504c0eecf584bdeb30f33fb"), looks := false }, kinds := [], alts := [], laidByText := true, laidKinds := [.widerDeep, .data], laidTests := true, laidLooks := .later }
def EtherGetsUptoCardSaid : Prop := Claim7.holds Tryd.pinned (.plain (OpenSpec.upto etherGetsSpec)) etherGetsUptoCard

/-- THE SECOND FORM's CARD OF 'tolllaw03.TagKnown'. -/
def tagKnownUptoCard : Claim7 := { stood := { row := tagKnownUptoRow, standIns := [], harness := (true, "005af6a159b4550678557e1626ce05516188c2c82504c0eecf584bdeb30f33fb"), looks := false }, kinds := [], alts := [], laidByText := true, laidKinds := [.widerDeep], laidTests := true, laidLooks := .later }
def TagKnownUptoCardSaid : Prop := Claim7.holds Tryd.pinned (.plain (OpenSpec.upto tagKnownSpec)) tagKnownUptoCard

/-- THE SECOND FORM's CARD OF 'tolllaw03.TagReads'. -/
def tagReadsUptoCard : Claim7 := { stood := { row := tagReadsUptoRow, standIns := [], harness := (true, "005af6a159b4550678557e1626ce05516188c2c82504c0eecf584bdeb30f33fb"), looks := false }, kinds := [], alts := [], laidByText := true, laidKinds := [.widerDeep], laidTests := true, laidLooks := .later }
def TagReadsUptoCardSaid : Prop := Claim7.holds Tryd.pinned (.plain (OpenSpec.upto tagReadsSpec)) tagReadsUptoCard

/-- THE SECOND FORM's CARD OF 'tolllaw03.TagBack'. -/
def tagBackUptoCard : Claim7 := { stood := { row := tagBackUptoRow, standIns := [], harness := (true, "005af6a159b4550678557e1626ce05516188c2c82504c0eecf584bdeb30f33fb"), looks := false }, kinds := [], alts := [], laidByText := true, laidKinds := [.widerDeep], laidTests := true, laidLooks := .later }
def TagBackUptoCardSaid : Prop := Claim7.holds Tryd.pinned (.plain (OpenSpec.upto tagBackSpec)) tagBackUptoCard

/-- THE SECOND FORM's CARD OF 'tolllaw03.TagPushes'. -/
def tagPushesUptoCard : Claim7 := { stood := { row := tagPushesUptoRow, standIns := [], harness := (true, "005af6a159b4550678557e1626ce05516188c2c82504c0eecf584bdeb30f33fb"), looks := false }, kinds := [], alts := [], laidByText := true, laidKinds := [.widerDeep], laidTests := true, laidLooks := .later }
def TagPushesUptoCardSaid : Prop := Claim7.holds Tryd.pinned (.plain (OpenSpec.upto tagPushesSpec)) tagPushesUptoCard

/-- THE SECOND FORM's CARD OF 'tolllaw04.EtherSnap'. -/
def etherSnapUptoCard : Claim7 := { stood := { row := etherSnapUptoRow, standIns := [], harness := (true, "005af6a159b4550678557e1626ce05516188c2c82504c0eecf584bdeb30f33fb"), looks := false }, kinds := [], alts := [], laidByText := true, laidKinds := [.widerDeep, .data], laidTests := true, laidLooks := .later }
def EtherSnapUptoCardSaid : Prop := Claim7.holds Tryd.pinned (.plain (OpenSpec.upto etherSnapSpec)) etherSnapUptoCard

/-- THE SECOND FORM's CARD OF 'tolllaw04.EtherBack'. -/
def etherBackUptoCard : Claim7 := { stood := { row := etherBackUptoRow, standIns := [], harness := (true, "005af6a159b4550678557e1626ce05516188c2c82504c0eecf584bdeb30f33fb"), looks := false }, kinds := [], alts := [], laidByText := true, laidKinds := [.widerDeep, .data], laidTests := true, laidLooks := .later }
def EtherBackUptoCardSaid : Prop := Claim7.holds Tryd.pinned (.plain (OpenSpec.upto etherBackSpec)) etherBackUptoCard

/-- THE SECOND FORM's CARD OF 'tolllaw04.EtherKnown'. -/
def etherKnownUptoCard : Claim7 := { stood := { row := etherKnownUptoRow, standIns := [], harness := (true, "005af6a159b4550678557e1626ce05516188c2c82504c0eecf584bdeb30f33fb"), looks := false }, kinds := [], alts := [], laidByText := true, laidKinds := [.widerDeep, .data], laidTests := true, laidLooks := .later }
def EtherKnownUptoCardSaid : Prop := Claim7.holds Tryd.pinned (.plain (OpenSpec.upto etherKnownSpec)) etherKnownUptoCard
end Rows
end Go.Proofs.YtcimfojbggckhaaDoor
