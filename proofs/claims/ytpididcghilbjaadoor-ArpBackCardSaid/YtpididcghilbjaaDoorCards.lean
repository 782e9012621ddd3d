/-
  DERIVED. GIVEN WITH THE SEED: THE CARDS: each row of YtpididcghilbjaaDoorRows.lean that lists a variable, with what it lists TIED to the program's text (the seventh form; the later family's looks); each row that meets fmt, with fmt's text TOLD by the authors' own Lean function (tested against real Go, not proved from fmt's source: count such statements apart). THE CARD IS WHAT COUNTS. Prove the row's statement (the work); the ties are given (YtpididcghilbjaaDoorTie.lean); close each card by the builder's one call (the guide's Derived/Test/ToyasCard.lean, 'card_holds'). Laid BY PROGRAM, IN A SANDBOX (cutbox-door.mjs). By AI agents, Wed Nov 11 2026. No macro, syntax, notation, axiom, sorry.
-/
import Derived.Test.YtpididcghilbjaaDoorRows
import GoSem.ClaimSeven
namespace Go.Proofs.YtpididcghilbjaaDoor
namespace Rows

/-- THE TIED CARD OF 'tolllaw05.ArpReplies'. -/
def arpRepliesCard : Claim7 := { stood := { row := arpRepliesRow, standIns := [], harness := (true, "3cafa6bf60a238c94753d734b1f255655cf6316adb085df0e926c7396fecf194"), looks := false }, kinds := [], alts := [], laidByText := true, laidKinds := [.widerDeep], laidTests := true, laidLooks := .later }
def ArpRepliesCardSaid : Prop := Claim7.holds Tryd.pinned (.plain (OpenSpec.ofChange arpRepliesSpec)) arpRepliesCard

/-- THE TIED CARD OF 'tolllaw05.ArpGets'. -/
def arpGetsCard : Claim7 := { stood := { row := arpGetsRow, standIns := [], harness := (true, "3cafa6bf60a238c94753d734b1f255655cf6316adb085df0e926c7396fecf194"), looks := false }, kinds := [], alts := [], laidByText := true, laidKinds := [.widerDeep], laidTests := true, laidLooks := .later }
def ArpGetsCardSaid : Prop := Claim7.holds Tryd.pinned (.plain (OpenSpec.ofChange arpGetsSpec)) arpGetsCard

/-- THE TIED CARD OF 'tolllaw05.ArpBack'. -/
def arpBackCard : Claim7 := { stood := { row := arpBackRow, standIns := [], harness := (true, "3cafa6bf60a238c94753d734b1f255655cf6316adb085df0e926c7396fecf194"), looks := false }, kinds := [], alts := [], laidByText := true, laidKinds := [.widerDeep], laidTests := true, laidLooks := .later }
def ArpBackCardSaid : Prop := Claim7.holds Tryd.pinned (.plain (OpenSpec.ofChange arpBackSpec)) arpBackCard

/-- THE TIED CARD OF 'tolllaw05.ArpTells'. -/
def arpTellsCard : Claim7 := { stood := { row := arpTellsRow, standIns := [], harness := (true, "3cafa6bf60a238c94753d734b1f255655cf6316adb085df0e926c7396fecf194"), looks := false }, kinds := [], alts := [], laidByText := true, laidKinds := [.widerDeep], laidTests := true, laidLooks := .later }
def ArpTellsCardSaid : Prop := Claim7.holds Tryd.pinned (.plain (OpenSpec.ofChange arpTellsSpec)) arpTellsCard

/-- THE TIED CARD OF 'tolllaw05.ArpKnown'. -/
def arpKnownCard : Claim7 := { stood := { row := arpKnownRow, standIns := [], harness := (true, "3cafa6bf60a238c94753d734b1f255655cf6316adb085df0e926c7396fecf194"), looks := false }, kinds := [], alts := [], laidByText := true, laidKinds := [.widerDeep], laidTests := true, laidLooks := .later }
def ArpKnownCardSaid : Prop := Claim7.holds Tryd.pinned (.plain (OpenSpec.ofChange arpKnownSpec)) arpKnownCard

/-- THE SECOND FORM's CARD OF 'tolllaw05.ArpReplies'. -/
def arpRepliesUptoCard : Claim7 := { stood := { row := arpRepliesUptoRow, standIns := [], harness := (true, "3cafa6bf60a238c94753d734b1f255655cf6316adb085df0e926c7396fecf194"), looks := false }, kinds := [], alts := [], laidByText := true, laidKinds := [.widerDeep], laidTests := true, laidLooks := .later }
def ArpRepliesUptoCardSaid : Prop := Claim7.holds Tryd.pinned (.plain (OpenSpec.upto arpRepliesSpec)) arpRepliesUptoCard

/-- THE SECOND FORM's CARD OF 'tolllaw05.ArpGets'. -/
def arpGetsUptoCard : Claim7 := { stood := { row := arpGetsUptoRow, standIns := [], harness := (true, "3cafa6bf60a238c94753d734b1f255655cf6316adb085df0e926c7396fecf194"), looks := false }, kinds := [], alts := [], laidByText := true, laidKinds := [.widerDeep], laidTests := true, laidLooks := .later }
def ArpGetsUptoCardSaid : Prop := Claim7.holds Tryd.pinned (.plain (OpenSpec.upto arpGetsSpec)) arpGetsUptoCard

/-- THE SECOND FORM's CARD OF 'tolllaw05.ArpBack'. -/
def arpBackUptoCard : Claim7 := { stood := { row := arpBackUptoRow, standIns := [], harness := (true, "3cafa6bf60a238c94753d734b1f255655cf6316adb085df0e926c7396fecf194"), looks := false }, kinds := [], alts := [], laidByText := true, laidKinds := [.widerDeep], laidTests := true, laidLooks := .later }
def ArpBackUptoCardSaid : Prop := Claim7.holds Tryd.pinned (.plain (OpenSpec.upto arpBackSpec)) arpBackUptoCard

/-- THE SECOND FORM's CARD OF 'tolllaw05.ArpTells'. -/
def arpTellsUptoCard : Claim7 := { stood := { row := arpTellsUptoRow, standIns := [], harness := (true, "3cafa6bf60a238c94753d734b1f255655cf6316adb085df0e926c7396fecf194"), looks := false }, kinds := [], alts := [], laidByText := true, laidKinds := [.widerDeep], laidTests := true, laidLooks := .later }
def ArpTellsUptoCardSaid : Prop := Claim7.holds Tryd.pinned (.plain (OpenSpec.upto arpTellsSpec)) arpTellsUptoCard

/-- THE SECOND FORM's CARD OF 'tolllaw05.ArpKnown'. -/
def arpKnownUptoCard : Claim7 := { stood := { row := arpKnownUptoRow, standIns := [], harness := (true, "3cafa6bf60a238c94753d734b1f255655cf6316adb085df0e926c7396fecf194"), looks := false }, kinds := [], alts := [], laidByText := true, laidKinds := [.widerDeep], laidTests := true, laidLooks := .later }
def ArpKnownUptoCardSaid : Prop := Claim7.holds Tryd.pinned (.plain (OpenSpec.upto arpKnownSpec)) arpKnownUptoCard
end Rows
end Go.Proofs.YtpididcghilbjaaDoor
