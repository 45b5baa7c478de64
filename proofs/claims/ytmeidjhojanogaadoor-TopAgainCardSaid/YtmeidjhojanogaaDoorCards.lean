/-
  DERIVED. GIVEN WITH THE SEED: THE CARDS: each row of YtmeidjhojanogaaDoorRows.lean that lists a variable, with what it lists TIED to the program's text (the seventh form; the later family's looks); each row that meets fmt, with fmt's text TOLD by the authors' own Lean function (tested against real Go, not proved from fmt's source: count such statements apart). THE CARD IS WHAT COUNTS. Prove the row's statement (the work); the ties are given (YtmeidjhojanogaaDoorTie.lean); close each card by the builder's one call (the guide's Derived/Test/ToyasCard.lean, 'card_holds'). Laid BY PROGRAM, IN A SANDBOX (cutbox-door.mjs). By AI agents, Wed Nov 11 2026. No macro, syntax, notation, axiom, sorry.
-/
import Derived.Test.YtmeidjhojanogaaDoorRows
import GoSem.ClaimSeven
namespace Go.Proofs.YtmeidjhojanogaaDoor
namespace Rows

/-- THE TIED CARD OF 'deadheatkeep.TextEach'. -/
def textEachCard : Claim7 := { stood := { row := textEachRow, standIns := [], harness := (true, "ed395f42cb8020863dd8c3864983d2cb547f3e7f85820f3999a8caf6aa3dcaa3"), looks := true }, kinds := [], alts := [], laidByText := true, laidKinds := [.data, .data, .data, .data, .pinned], laidTests := true, laidLooks := .later }
def TextEachCardSaid : Prop := Claim7.holds Tryd.pinned (.plain (OpenSpec.ofChange textEachSpec)) textEachCard

/-- THE TIED CARD OF 'deadheatkeep.TextLine'. -/
def textLineCard : Claim7 := { stood := { row := textLineRow, standIns := [], harness := (true, "ed395f42cb8020863dd8c3864983d2cb547f3e7f85820f3999a8caf6aa3dcaa3"), looks := true }, kinds := [], alts := [], laidByText := true, laidKinds := [.data, .data, .data, .data, .pinned], laidTests := true, laidLooks := .later }
def TextLineCardSaid : Prop := Claim7.holds Tryd.pinned (.plain (OpenSpec.ofChange textLineSpec)) textLineCard

/-- THE TIED CARD OF 'deadheatkeep.TextBack'. -/
def textBackCard : Claim7 := { stood := { row := textBackRow, standIns := [], harness := (true, "ed395f42cb8020863dd8c3864983d2cb547f3e7f85820f3999a8caf6aa3dcaa3"), looks := true }, kinds := [], alts := [], laidByText := true, laidKinds := [.data, .data, .data, .data, .pinned], laidTests := true, laidLooks := .later }
def TextBackCardSaid : Prop := Claim7.holds Tryd.pinned (.plain (OpenSpec.ofChange textBackSpec)) textBackCard

/-- THE TIED CARD OF 'deadheatkeep.TextCounts'. -/
def textCountsCard : Claim7 := { stood := { row := textCountsRow, standIns := [], harness := (true, "ed395f42cb8020863dd8c3864983d2cb547f3e7f85820f3999a8caf6aa3dcaa3"), looks := true }, kinds := [], alts := [], laidByText := true, laidKinds := [.data, .data, .data, .data, .pinned], laidTests := true, laidLooks := .later }
def TextCountsCardSaid : Prop := Claim7.holds Tryd.pinned (.plain (OpenSpec.ofChange textCountsSpec)) textCountsCard

/-- THE TIED CARD OF 'deadheattop.TopAgain'. -/
def topAgainCard : Claim7 := { stood := { row := topAgainRow, standIns := [], harness := (true, "ed395f42cb8020863dd8c3864983d2cb547f3e7f85820f3999a8caf6aa3dcaa3"), looks := true }, kinds := [], alts := [], laidByText := true, laidKinds := [.data, .data, .data, .data, .pinned], laidTests := true, laidLooks := .later }
def TopAgainCardSaid : Prop := Claim7.holds Tryd.pinned (.plain (OpenSpec.ofChange topAgainSpec)) topAgainCard

/-- THE SECOND FORM's CARD OF 'deadheatkeep.TextEach'. -/
def textEachUptoCard : Claim7 := { stood := { row := textEachUptoRow, standIns := [], harness := (true, "ed395f42cb8020863dd8c3864983d2cb547f3e7f85820f3999a8caf6aa3dcaa3"), looks := true }, kinds := [], alts := [], laidByText := true, laidKinds := [.data, .data, .data, .data, .pinned], laidTests := true, laidLooks := .later }
def TextEachUptoCardSaid : Prop := Claim7.holds Tryd.pinned (.plain (OpenSpec.upto textEachSpec)) textEachUptoCard

/-- THE SECOND FORM's CARD OF 'deadheatkeep.TextLine'. -/
def textLineUptoCard : Claim7 := { stood := { row := textLineUptoRow, standIns := [], harness := (true, "ed395f42cb8020863dd8c3864983d2cb547f3e7f85820f3999a8caf6aa3dcaa3"), looks := true }, kinds := [], alts := [], laidByText := true, laidKinds := [.data, .data, .data, .data, .pinned], laidTests := true, laidLooks := .later }
def TextLineUptoCardSaid : Prop := Claim7.holds Tryd.pinned (.plain (OpenSpec.upto textLineSpec)) textLineUptoCard

/-- THE SECOND FORM's CARD OF 'deadheatkeep.TextBack'. -/
def textBackUptoCard : Claim7 := { stood := { row := textBackUptoRow, standIns := [], harness := (true, "ed395f42cb8020863dd8c3864983d2cb547f3e7f85820f3999a8caf6aa3dcaa3"), looks := true }, kinds := [], alts := [], laidByText := true, laidKinds := [.data, .data, .data, .data, .pinned], laidTests := true, laidLooks := .later }
def TextBackUptoCardSaid : Prop := Claim7.holds Tryd.pinned (.plain (OpenSpec.upto textBackSpec)) textBackUptoCard

/-- THE SECOND FORM's CARD OF 'deadheatkeep.TextCounts'. -/
def textCountsUptoCard : Claim7 := { stood := { row := textCountsUptoRow, standIns := [], harness := (true, "ed395f42cb8020863dd8c3864983d2cb547f3e7f85820f3999a8caf6aa3dcaa3"), looks := true }, kinds := [], alts := [], laidByText := true, laidKinds := [.data, .data, .data, .data, .pinned], laidTests := true, laidLooks := .later }
def TextCountsUptoCardSaid : Prop := Claim7.holds Tryd.pinned (.plain (OpenSpec.upto textCountsSpec)) textCountsUptoCard

/-- THE SECOND FORM's CARD OF 'deadheattop.TopAgain'. -/
def topAgainUptoCard : Claim7 := { stood := { row := topAgainUptoRow, standIns := [], harness := (true, "ed395f42cb8020863dd8c3864983d2cb547f3e7f85820f3999a8caf6aa3dcaa3"), looks := true }, kinds := [], alts := [], laidByText := true, laidKinds := [.data, .data, .data, .data, .pinned], laidTests := true, laidLooks := .later }
def TopAgainUptoCardSaid : Prop := Claim7.holds Tryd.pinned (.plain (OpenSpec.upto topAgainSpec)) topAgainUptoCard
end Rows
end Go.Proofs.YtmeidjhojanogaaDoor
