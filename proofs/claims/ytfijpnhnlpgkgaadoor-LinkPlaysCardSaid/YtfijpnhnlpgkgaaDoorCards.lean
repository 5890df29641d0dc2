/-
  DERIVED. GIVEN WITH THE SEED: THE CARDS: each row of YtfijpnhnlpgkgaaDoorRows.lean that lists a variable, with what it lists TIED to the program's text (the seventh form; the later family's looks); each row that meets fmt, with fmt's text TOLD by the authors' own Lean function (tested against real Go, not proved from fmt's source: count such statements apart). THE CARD IS WHAT COUNTS. Prove the row's statement (the work); the ties are given (YtfijpnhnlpgkgaaDoorTie.lean); close each card by the builder's one call (the guide's Derived/Test/ToyasCard.lean, 'card_holds'). Laid BY PROGRAM, IN A SANDBOX (cutbox-door.mjs). By AI agents, Wed Nov 11 2026. No macro, syntax, notation, axiom, sorry.
-/
import Derived.Test.YtfijpnhnlpgkgaaDoorRows
import GoSem.ClaimSeven
namespace Go.Proofs.YtfijpnhnlpgkgaaDoor
namespace Rows

/-- THE TIED CARD OF 'norialaw06.FrameFeeds'. -/
def frameFeedsCard : Claim7 := { stood := { row := frameFeedsRow, standIns := [], harness := (true, "c2b49a4ef3c8e2ecb72fa2674e8b0503a2f7865137bf6d92f726d9cd10d42599"), looks := true }, kinds := [], alts := [], laidByText := true, laidKinds := [.handle, .sentinel], laidTests := true, laidLooks := .later }
def FrameFeedsCardSaid : Prop := Claim7.holds Tryd.pinned (.plain (OpenSpec.ofChange frameFeedsSpec)) frameFeedsCard

/-- THE TIED CARD OF 'norialaw06.FramePacks'. -/
def framePacksCard : Claim7 := { stood := { row := framePacksRow, standIns := [], harness := (true, "c2b49a4ef3c8e2ecb72fa2674e8b0503a2f7865137bf6d92f726d9cd10d42599"), looks := true }, kinds := [], alts := [], laidByText := true, laidKinds := [.handle, .sentinel], laidTests := true, laidLooks := .later }
def FramePacksCardSaid : Prop := Claim7.holds Tryd.pinned (.plain (OpenSpec.ofChange framePacksSpec)) framePacksCard

/-- THE TIED CARD OF 'norialaw06.FrameCuts'. -/
def frameCutsCard : Claim7 := { stood := { row := frameCutsRow, standIns := [], harness := (true, "c2b49a4ef3c8e2ecb72fa2674e8b0503a2f7865137bf6d92f726d9cd10d42599"), looks := true }, kinds := [], alts := [], laidByText := true, laidKinds := [.handle, .sentinel], laidTests := true, laidLooks := .later }
def FrameCutsCardSaid : Prop := Claim7.holds Tryd.pinned (.plain (OpenSpec.ofChange frameCutsSpec)) frameCutsCard

/-- THE TIED CARD OF 'norialaw06.FrameEnds'. -/
def frameEndsCard : Claim7 := { stood := { row := frameEndsRow, standIns := [], harness := (true, "c2b49a4ef3c8e2ecb72fa2674e8b0503a2f7865137bf6d92f726d9cd10d42599"), looks := true }, kinds := [], alts := [], laidByText := true, laidKinds := [.handle, .sentinel], laidTests := true, laidLooks := .later }
def FrameEndsCardSaid : Prop := Claim7.holds Tryd.pinned (.plain (OpenSpec.ofChange frameEndsSpec)) frameEndsCard

/-- THE TIED CARD OF 'norialaw06.FrameLong'. -/
def frameLongCard : Claim7 := { stood := { row := frameLongRow, standIns := [], harness := (true, "c2b49a4ef3c8e2ecb72fa2674e8b0503a2f7865137bf6d92f726d9cd10d42599"), looks := true }, kinds := [], alts := [], laidByText := true, laidKinds := [.handle, .sentinel], laidTests := true, laidLooks := .later }
def FrameLongCardSaid : Prop := Claim7.holds Tryd.pinned (.plain (OpenSpec.ofChange frameLongSpec)) frameLongCard

/-- THE TIED CARD OF 'norialaw08.LinkOrders'. -/
def linkOrdersCard : Claim7 := { stood := { row := linkOrdersRow, standIns := [], harness := (true, "c2b49a4ef3c8e2ecb72fa2674e8b0503a2f7865137bf6d92f726d9cd10d42599"), looks := true }, kinds := [], alts := [], laidByText := true, laidKinds := [.handle, .sentinel], laidTests := true, laidLooks := .later }
def LinkOrdersCardSaid : Prop := Claim7.holds Tryd.pinned (.plain (OpenSpec.ofChange linkOrdersSpec)) linkOrdersCard

/-- THE TIED CARD OF 'norialaw08.LinkResets'. -/
def linkResetsCard : Claim7 := { stood := { row := linkResetsRow, standIns := [], harness := (true, "c2b49a4ef3c8e2ecb72fa2674e8b0503a2f7865137bf6d92f726d9cd10d42599"), looks := true }, kinds := [], alts := [], laidByText := true, laidKinds := [.handle, .sentinel], laidTests := true, laidLooks := .later }
def LinkResetsCardSaid : Prop := Claim7.holds Tryd.pinned (.plain (OpenSpec.ofChange linkResetsSpec)) linkResetsCard

/-- THE TIED CARD OF 'norialaw08.LinkFull'. -/
def linkFullCard : Claim7 := { stood := { row := linkFullRow, standIns := [], harness := (true, "c2b49a4ef3c8e2ecb72fa2674e8b0503a2f7865137bf6d92f726d9cd10d42599"), looks := true }, kinds := [], alts := [], laidByText := true, laidKinds := [.handle, .sentinel], laidTests := true, laidLooks := .later }
def LinkFullCardSaid : Prop := Claim7.holds Tryd.pinned (.plain (OpenSpec.ofChange linkFullSpec)) linkFullCard

/-- THE TIED CARD OF 'norialaw08.LinkBytes'. -/
def linkBytesCard : Claim7 := { stood := { row := linkBytesRow, standIns := [], harness := (true, "c2b49a4ef3c8e2ecb72fa2674e8b0503a2f7865137bf6d92f726d9cd10d42599"), looks := true }, kinds := [], alts := [], laidByText := true, laidKinds := [.handle, .sentinel], laidTests := true, laidLooks := .later }
def LinkBytesCardSaid : Prop := Claim7.holds Tryd.pinned (.plain (OpenSpec.ofChange linkBytesSpec)) linkBytesCard

/-- THE TIED CARD OF 'norialaw08.LinkEpochs'. -/
def linkEpochsCard : Claim7 := { stood := { row := linkEpochsRow, standIns := [], harness := (true, "c2b49a4ef3c8e2ecb72fa2674e8b0503a2f7865137bf6d92f726d9cd10d42599"), looks := true }, kinds := [], alts := [], laidByText := true, laidKinds := [.handle, .sentinel], laidTests := true, laidLooks := .later }
def LinkEpochsCardSaid : Prop := Claim7.holds Tryd.pinned (.plain (OpenSpec.ofChange linkEpochsSpec)) linkEpochsCard

/-- THE TIED CARD OF 'norialaw08.LinkPlays'. -/
def linkPlaysCard : Claim7 := { stood := { row := linkPlaysRow, standIns := [], harness := (true, "c2b49a4ef3c8e2ecb72fa2674e8b0503a2f7865137bf6d92f726d9cd10d42599"), looks := true }, kinds := [], alts := [], laidByText := true, laidKinds := [.handle, .sentinel], laidTests := true, laidLooks := .later }
def LinkPlaysCardSaid : Prop := Claim7.holds Tryd.pinned (.plain (OpenSpec.ofChange linkPlaysSpec)) linkPlaysCard

/-- THE TIED CARD OF 'norialaw08.LinkQuiet'. -/
def linkQuietCard : Claim7 := { stood := { row := linkQuietRow, standIns := [], harness := (true, "c2b49a4ef3c8e2ecb72fa2674e8b0503a2f7865137bf6d92f726d9cd10d42599"), looks := true }, kinds := [], alts := [], laidByText := true, laidKinds := [.handle, .sentinel], laidTests := true, laidLooks := .later }
def LinkQuietCardSaid : Prop := Claim7.holds Tryd.pinned (.plain (OpenSpec.ofChange linkQuietSpec)) linkQuietCard

/-- THE SECOND FORM's CARD OF 'norialaw06.FrameFeeds'. -/
def frameFeedsUptoCard : Claim7 := { stood := { row := frameFeedsUptoRow, standIns := [], harness := (true, "c2b49a4ef3c8e2ecb72fa2674e8b0503a2f7865137bf6d92f726d9cd10d42599"), looks := true }, kinds := [], alts := [], laidByText := true, laidKinds := [.handle, .sentinel], laidTests := true, laidLooks := .later }
def FrameFeedsUptoCardSaid : Prop := Claim7.holds Tryd.pinned (.plain (OpenSpec.upto frameFeedsSpec)) frameFeedsUptoCard

/-- THE SECOND FORM's CARD OF 'norialaw06.FramePacks'. -/
def framePacksUptoCard : Claim7 := { stood := { row := framePacksUptoRow, standIns := [], harness := (true, "c2b49a4ef3c8e2ecb72fa2674e8b0503a2f7865137bf6d92f726d9cd10d42599"), looks := true }, kinds := [], alts := [], laidByText := true, laidKinds := [.handle, .sentinel], laidTests := true, laidLooks := .later }
def FramePacksUptoCardSaid : Prop := Claim7.holds Tryd.pinned (.plain (OpenSpec.upto framePacksSpec)) framePacksUptoCard

/-- THE SECOND FORM's CARD OF 'norialaw06.FrameCuts'. -/
def frameCutsUptoCard : Claim7 := { stood := { row := frameCutsUptoRow, standIns := [], harness := (true, "c2b49a4ef3c8e2ecb72fa2674e8b0503a2f7865137bf6d92f726d9cd10d42599"), looks := true }, kinds := [], alts := [], laidByText := true, laidKinds := [.handle, .sentinel], laidTests := true, laidLooks := .later }
def FrameCutsUptoCardSaid : Prop := Claim7.holds Tryd.pinned (.plain (OpenSpec.upto frameCutsSpec)) frameCutsUptoCard

/-- THE SECOND FORM's CARD OF 'norialaw06.FrameEnds'. -/
def frameEndsUptoCard : Claim7 := { stood := { row := frameEndsUptoRow, standIns := [], harness := (true, "c2b49a4ef3c8e2ecb72fa2674e8b0503a2f7865137bf6d92f726d9cd10d42599"), looks := true }, kinds := [], alts := [], laidByText := true, laidKinds := [.handle, .sentinel], laidTests := true, laidLooks := .later }
def FrameEndsUptoCardSaid : Prop := Claim7.holds Tryd.pinned (.plain (OpenSpec.upto frameEndsSpec)) frameEndsUptoCard

/-- THE SECOND FORM's CARD OF 'norialaw06.FrameLong'. -/
def frameLongUptoCard : Claim7 := { stood := { row := frameLongUptoRow, standIns := [], harness := (true, "c2b49a4ef3c8e2ecb72fa2674e8b0503a2f7865137bf6d92f726d9cd10d42599"), looks := true }, kinds := [], alts := [], laidByText := true, laidKinds := [.handle, .sentinel], laidTests := true, laidLooks := .later }
def FrameLongUptoCardSaid : Prop := Claim7.holds Tryd.pinned (.plain (OpenSpec.upto frameLongSpec)) frameLongUptoCard

/-- THE SECOND FORM's CARD OF 'norialaw08.LinkOrders'. -/
def linkOrdersUptoCard : Claim7 := { stood := { row := linkOrdersUptoRow, standIns := [], harness := (true, "c2b49a4ef3c8e2ecb72fa2674e8b0503a2f7865137bf6d92f726d9cd10d42599"), looks := true }, kinds := [], alts := [], laidByText := true, laidKinds := [.handle, .sentinel], laidTests := true, laidLooks := .later }
def LinkOrdersUptoCardSaid : Prop := Claim7.holds Tryd.pinned (.plain (OpenSpec.upto linkOrdersSpec)) linkOrdersUptoCard

/-- THE SECOND FORM's CARD OF 'norialaw08.LinkResets'. -/
def linkResetsUptoCard : Claim7 := { stood := { row := linkResetsUptoRow, standIns := [], harness := (true, "c2b49a4ef3c8e2ecb72fa2674e8b0503a2f7865137bf6d92f726d9cd10d42599"), looks := true }, kinds := [], alts := [], laidByText := true, laidKinds := [.handle, .sentinel], laidTests := true, laidLooks := .later }
def LinkResetsUptoCardSaid : Prop := Claim7.holds Tryd.pinned (.plain (OpenSpec.upto linkResetsSpec)) linkResetsUptoCard

/-- THE SECOND FORM's CARD OF 'norialaw08.LinkFull'. -/
def linkFullUptoCard : Claim7 := { stood := { row := linkFullUptoRow, standIns := [], harness := (true, "c2b49a4ef3c8e2ecb72fa2674e8b0503a2f7865137bf6d92f726d9cd10d42599"), looks := true }, kinds := [], alts := [], laidByText := true, laidKinds := [.handle, .sentinel], laidTests := true, laidLooks := .later }
def LinkFullUptoCardSaid : Prop := Claim7.holds Tryd.pinned (.plain (OpenSpec.upto linkFullSpec)) linkFullUptoCard

/-- THE SECOND FORM's CARD OF 'norialaw08.LinkBytes'. -/
def linkBytesUptoCard : Claim7 := { stood := { row := linkBytesUptoRow, standIns := [], harness := (true, "c2b49a4ef3c8e2ecb72fa2674e8b0503a2f7865137bf6d92f726d9cd10d42599"), looks := true }, kinds := [], alts := [], laidByText := true, laidKinds := [.handle, .sentinel], laidTests := true, laidLooks := .later }
def LinkBytesUptoCardSaid : Prop := Claim7.holds Tryd.pinned (.plain (OpenSpec.upto linkBytesSpec)) linkBytesUptoCard

/-- THE SECOND FORM's CARD OF 'norialaw08.LinkEpochs'. -/
def linkEpochsUptoCard : Claim7 := { stood := { row := linkEpochsUptoRow, standIns := [], harness := (true, "c2b49a4ef3c8e2ecb72fa2674e8b0503a2f7865137bf6d92f726d9cd10d42599"), looks := true }, kinds := [], alts := [], laidByText := true, laidKinds := [.handle, .sentinel], laidTests := true, laidLooks := .later }
def LinkEpochsUptoCardSaid : Prop := Claim7.holds Tryd.pinned (.plain (OpenSpec.upto linkEpochsSpec)) linkEpochsUptoCard

/-- THE SECOND FORM's CARD OF 'norialaw08.LinkPlays'. -/
def linkPlaysUptoCard : Claim7 := { stood := { row := linkPlaysUptoRow, standIns := [], harness := (true, "c2b49a4ef3c8e2ecb72fa2674e8b0503a2f7865137bf6d92f726d9cd10d42599"), looks := true }, kinds := [], alts := [], laidByText := true, laidKinds := [.handle, .sentinel], laidTests := true, laidLooks := .later }
def LinkPlaysUptoCardSaid : Prop := Claim7.holds Tryd.pinned (.plain (OpenSpec.upto linkPlaysSpec)) linkPlaysUptoCard

/-- THE SECOND FORM's CARD OF 'norialaw08.LinkQuiet'. -/
def linkQuietUptoCard : Claim7 := { stood := { row := linkQuietUptoRow, standIns := [], harness := (true, "c2b49a4ef3c8e2ecb72fa2674e8b0503a2f7865137bf6d92f726d9cd10d42599"), looks := true }, kinds := [], alts := [], laidByText := true, laidKinds := [.handle, .sentinel], laidTests := true, laidLooks := .later }
def LinkQuietUptoCardSaid : Prop := Claim7.holds Tryd.pinned (.plain (OpenSpec.upto linkQuietSpec)) linkQuietUptoCard
end Rows
end Go.Proofs.YtfijpnhnlpgkgaaDoor
