/-
  DERIVED. GIVEN WITH THE SEED: THE CARDS: each row of YtlmecmapkijcnaaDoorRows.lean that lists a variable, with what it lists TIED to the program's text (the seventh form; the later family's looks); each row that meets fmt, with fmt's text TOLD by the authors' own Lean function (tested against real Go, not proved from fmt's source: count such statements apart). THE CARD IS WHAT COUNTS. Prove the row's statement (the work); the ties are given (YtlmecmapkijcnaaDoorTie.lean); close each card by the builder's one call (the guide's Derived/Test/ToyasCard.lean, 'card_holds'). Laid BY PROGRAM, IN A SANDBOX (cutbox-door.mjs). By AI agents, Wed Nov 11 2026. No macro, syntax, notation, axiom, sorry.
-/
import Derived.Test.YtlmecmapkijcnaaDoorRows
import GoSem.ClaimSeven
namespace Go.Proofs.YtlmecmapkijcnaaDoor
namespace Rows

/-- THE TIED CARD OF 'forkslaw.Hashes'. -/
def hashesCard : Claim7 := { stood := { row := hashesRow, standIns := [], harness := (true, "bcc4b975caae74ee423f84b34cab75210835be5a417e6e34db9e5d80a6b3eaf3"), looks := true }, kinds := [], alts := [], laidByText := true, laidKinds := [.data, .data], laidTests := true, laidLooks := .later }
def HashesCardSaid : Prop := Claim7.holds Tryd.pinned (.plain (OpenSpec.ofChange hashesSpec)) hashesCard

/-- THE TIED CARD OF 'forkslaw.Roots'. -/
def rootsCard : Claim7 := { stood := { row := rootsRow, standIns := [], harness := (true, "bcc4b975caae74ee423f84b34cab75210835be5a417e6e34db9e5d80a6b3eaf3"), looks := true }, kinds := [], alts := [], goes := true, laidByText := true, laidKinds := [.data, .data], laidTests := true, laidLooks := .later }
def RootsCardSaid : Prop := Claim7.holds Tryd.pinned (.plain (OpenSpec.ofChange rootsSpec)) rootsCard

/-- THE TIED CARD OF 'forkskeep.Known'. -/
def knownCard : Claim7 := { stood := { row := knownRow, standIns := [], harness := (true, "bcc4b975caae74ee423f84b34cab75210835be5a417e6e34db9e5d80a6b3eaf3"), looks := true }, kinds := [], alts := [], goes := true, laidByText := true, laidKinds := [.data, .data], laidTests := true, laidLooks := .later }
def KnownCardSaid : Prop := Claim7.holds Tryd.pinned (.plain (OpenSpec.ofChange knownSpec)) knownCard

/-- THE TIED CARD OF 'forkslaw.Encodes'. -/
def encodesCard : Claim7 := { stood := { row := encodesRow, standIns := [], harness := (true, "bcc4b975caae74ee423f84b34cab75210835be5a417e6e34db9e5d80a6b3eaf3"), looks := true }, kinds := [], alts := [], goes := true, laidByText := true, laidKinds := [.handle], laidTests := true, laidLooks := .later }
def EncodesCardSaid : Prop := Claim7.holds Tryd.pinned (.plain (OpenSpec.ofChange encodesSpec)) encodesCard

/-- THE TIED CARD OF 'forkslaw.Included'. -/
def includedCard : Claim7 := { stood := { row := includedRow, standIns := [], harness := (true, "bcc4b975caae74ee423f84b34cab75210835be5a417e6e34db9e5d80a6b3eaf3"), looks := true }, kinds := [], alts := [], goes := true, laidByText := true, laidKinds := [.data, .data, .handle], laidTests := true, laidLooks := .later }
def IncludedCardSaid : Prop := Claim7.holds Tryd.pinned (.plain (OpenSpec.ofChange includedSpec)) includedCard

/-- THE TIED CARD OF 'forkslaw.Proves'. -/
def provesCard : Claim7 := { stood := { row := provesRow, standIns := [], harness := (true, "bcc4b975caae74ee423f84b34cab75210835be5a417e6e34db9e5d80a6b3eaf3"), looks := true }, kinds := [], alts := [], goes := true, laidByText := true, laidKinds := [.data, .data, .handle], laidTests := true, laidLooks := .later }
def ProvesCardSaid : Prop := Claim7.holds Tryd.pinned (.plain (OpenSpec.ofChange provesSpec)) provesCard

/-- THE TIED CARD OF 'forkslaw.Consistent'. -/
def consistentCard : Claim7 := { stood := { row := consistentRow, standIns := [], harness := (true, "bcc4b975caae74ee423f84b34cab75210835be5a417e6e34db9e5d80a6b3eaf3"), looks := true }, kinds := [], alts := [], goes := true, laidByText := true, laidKinds := [.data, .data, .handle], laidTests := true, laidLooks := .later }
def ConsistentCardSaid : Prop := Claim7.holds Tryd.pinned (.plain (OpenSpec.ofChange consistentSpec)) consistentCard

/-- THE TIED CARD OF 'forkslaw.Decodes'. -/
def decodesCard : Claim7 := { stood := { row := decodesRow, standIns := [], harness := (true, "bcc4b975caae74ee423f84b34cab75210835be5a417e6e34db9e5d80a6b3eaf3"), looks := true }, kinds := [], alts := [], goes := true, laidByText := true, laidKinds := [.handle], laidTests := true, laidLooks := .later }
def DecodesCardSaid : Prop := Claim7.holds Tryd.pinned (.plain (OpenSpec.ofChange decodesSpec)) decodesCard

/-- THE SECOND FORM's CARD OF 'forkslaw.Hashes'. -/
def hashesUptoCard : Claim7 := { stood := { row := hashesUptoRow, standIns := [], harness := (true, "bcc4b975caae74ee423f84b34cab75210835be5a417e6e34db9e5d80a6b3eaf3"), looks := true }, kinds := [], alts := [], laidByText := true, laidKinds := [.data, .data], laidTests := true, laidLooks := .later }
def HashesUptoCardSaid : Prop := Claim7.holds Tryd.pinned (.plain (OpenSpec.upto hashesSpec)) hashesUptoCard

/-- THE SECOND FORM's CARD OF 'forkslaw.Roots'. -/
def rootsUptoCard : Claim7 := { stood := { row := rootsUptoRow, standIns := [], harness := (true, "bcc4b975caae74ee423f84b34cab75210835be5a417e6e34db9e5d80a6b3eaf3"), looks := true }, kinds := [], alts := [], goes := true, laidByText := true, laidKinds := [.data, .data], laidTests := true, laidLooks := .later }
def RootsUptoCardSaid : Prop := Claim7.holds Tryd.pinned (.plain (OpenSpec.upto rootsSpec)) rootsUptoCard

/-- THE SECOND FORM's CARD OF 'forkskeep.Known'. -/
def knownUptoCard : Claim7 := { stood := { row := knownUptoRow, standIns := [], harness := (true, "bcc4b975caae74ee423f84b34cab75210835be5a417e6e34db9e5d80a6b3eaf3"), looks := true }, kinds := [], alts := [], goes := true, laidByText := true, laidKinds := [.data, .data], laidTests := true, laidLooks := .later }
def KnownUptoCardSaid : Prop := Claim7.holds Tryd.pinned (.plain (OpenSpec.upto knownSpec)) knownUptoCard

/-- THE SECOND FORM's CARD OF 'forkslaw.Encodes'. -/
def encodesUptoCard : Claim7 := { stood := { row := encodesUptoRow, standIns := [], harness := (true, "bcc4b975caae74ee423f84b34cab75210835be5a417e6e34db9e5d80a6b3eaf3"), looks := true }, kinds := [], alts := [], goes := true, laidByText := true, laidKinds := [.handle], laidTests := true, laidLooks := .later }
def EncodesUptoCardSaid : Prop := Claim7.holds Tryd.pinned (.plain (OpenSpec.upto encodesSpec)) encodesUptoCard

/-- THE SECOND FORM's CARD OF 'forkslaw.Included'. -/
def includedUptoCard : Claim7 := { stood := { row := includedUptoRow, standIns := [], harness := (true, "bcc4b975caae74ee423f84b34cab75210835be5a417e6e34db9e5d80a6b3eaf3"), looks := true }, kinds := [], alts := [], goes := true, laidByText := true, laidKinds := [.data, .data, .handle], laidTests := true, laidLooks := .later }
def IncludedUptoCardSaid : Prop := Claim7.holds Tryd.pinned (.plain (OpenSpec.upto includedSpec)) includedUptoCard

/-- THE SECOND FORM's CARD OF 'forkslaw.Proves'. -/
def provesUptoCard : Claim7 := { stood := { row := provesUptoRow, standIns := [], harness := (true, "bcc4b975caae74ee423f84b34cab75210835be5a417e6e34db9e5d80a6b3eaf3"), looks := true }, kinds := [], alts := [], goes := true, laidByText := true, laidKinds := [.data, .data, .handle], laidTests := true, laidLooks := .later }
def ProvesUptoCardSaid : Prop := Claim7.holds Tryd.pinned (.plain (OpenSpec.upto provesSpec)) provesUptoCard

/-- THE SECOND FORM's CARD OF 'forkslaw.Consistent'. -/
def consistentUptoCard : Claim7 := { stood := { row := consistentUptoRow, standIns := [], harness := (true, "bcc4b975caae74ee423f84b34cab75210835be5a417e6e34db9e5d80a6b3eaf3"), looks := true }, kinds := [], alts := [], goes := true, laidByText := true, laidKinds := [.data, .data, .handle], laidTests := true, laidLooks := .later }
def ConsistentUptoCardSaid : Prop := Claim7.holds Tryd.pinned (.plain (OpenSpec.upto consistentSpec)) consistentUptoCard

/-- THE SECOND FORM's CARD OF 'forkslaw.Decodes'. -/
def decodesUptoCard : Claim7 := { stood := { row := decodesUptoRow, standIns := [], harness := (true, "bcc4b975caae74ee423f84b34cab75210835be5a417e6e34db9e5d80a6b3eaf3"), looks := true }, kinds := [], alts := [], goes := true, laidByText := true, laidKinds := [.handle], laidTests := true, laidLooks := .later }
def DecodesUptoCardSaid : Prop := Claim7.holds Tryd.pinned (.plain (OpenSpec.upto decodesSpec)) decodesUptoCard
end Rows
end Go.Proofs.YtlmecmapkijcnaaDoor
