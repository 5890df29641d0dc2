/-
  NARROWER THAN 'FOR EVERY INPUT', by the rows' own cells (each row's printed sentence says how): FrameFeeds: laid · FramePacks: laid · FrameCuts: laid · FrameEnds: laid · FrameLong: laid · LinkOrders: laid · LinkResets: laid · LinkFull: laid · LinkBytes: laid · LinkEpochs: laid · LinkPlays: laid · LinkQuiet: laid.
  DERIVED. THE GIVEN ROWS OF THIS SEAT. 12 by the template 'for every input the law returns true; each argument reads behind the call as it read before'; 0 by the template 'total and deterministic' (their statements: YtfijpnhnlpgkgaaDoorTotals.lean).
  GIVEN WITH THE SEED: the statements are not yours to turn. If you find one false, say at which input.
  Laid BY PROGRAM, IN A SANDBOX (cutbox-rows.mjs): the forced cells as the released guide's own fill.sh prints them over the translation e923e9fc1bdad66d… (all of the seat's roots in one cut). By AI agents, Wed Nov 11 2026. No macro, syntax, notation, axiom, sorry.
-/
import Derived.Test.YtfijpnhnlpgkgaaDoorChecked
import GoSem.Claim
import GoSem.ClaimJoined
import GoSem.ClaimMapViews
import Derived.JoinedTies
import Derived.KernelRfl
namespace Go.Proofs.YtfijpnhnlpgkgaaDoor
/- THE CELL 'sum', in the pinned program and in every row, IS THE sha256 OF THE DUMP (.gsa) THAT YtfijpnhnlpgkgaaDoorProg.lean LOADS. Nothing in Lean hashes anything: it is a label: what it is worth is what the hold of that sum in a sandbox is worth. -/
noncomputable def Tryd.pinned : Pinned := { name := "ytfijpnhnlpgkgaadoor", sum := "e923e9fc1bdad66d0bb5c555020d66c7a9a461caf77d16cc6ca345079289caac", checked := Tryd.checked }
namespace Rows
def none {H : Type} : Left H := { results := [], args := [] }

/- WHAT THE LISTED PACKAGE-LEVEL VARIABLES READ AS WHEN THE CALL BEGINS. Each datum BY PROGRAM (the guide's laid-datum.mjs) off the statement by which the dump's own 'gosem.cut.vars' lays the variable. In a bare row this is a premise. The card (YtfijpnhnlpgkgaaDoorCards.lean) ties it to the program's text. -/
def laid_errors_errorType {H : Type} : DataW H := .iface "internal/reflectlite.rtype" (.agg [.ptr (.lit (.string [101, 114, 114, 111, 114]))])
def laid_noria_frame_errShort {H : Type} : DataW H := .iface "*errors.errorString" (.ptr (.agg [.lit (.string [110, 111, 116, 32, 97, 108, 108, 32, 105, 115, 32, 116, 104, 101, 114, 101])]))

/-- 'norialaw06.FrameFeeds': WHATEVER THE INPUT: true; the input reads as it did. -/
def frameFeedsSpec : ChangeSpec := { name := "frameFeeds", fn := fun _ => fun
  | [d] => { results := [.lit (.bool true)], args := [d] }
  | _ => none }
def frameFeedsRow : OpenClaim := { program := "ytfijpnhnlpgkgaadoor", sum := "e923e9fc1bdad66d0bb5c555020d66c7a9a461caf77d16cc6ca345079289caac", func := "noria/norialaw06.FrameFeeds", spec := "frameFeeds", inPlace := ["internal/reflectlite.ValueOf", "(internal/reflectlite.Value).Type", "(internal/reflectlite.Value).IsNil", "internal/reflectlite.TypeOf", "(internal/reflectlite.Value).Elem", "(internal/reflectlite.Value).Set"], unfollowed := true, recurses := true, named := ["noria/frame.errShort", "errors.errorType"], apart := false, laid := [("errors.errorType", laid_errors_errorType), ("noria/frame.errShort", laid_noria_frame_errShort)] }
def FrameFeedsSaid : Prop := frameFeedsRow.holds Tryd.pinned (OpenSpec.ofChange frameFeedsSpec)

/-- ITS FALSE NEIGHBOUR: 'it returns false'. Refute it at one input. -/
def frameFeedsWrong : ChangeSpec := { name := "frameFeeds", fn := fun _ => fun
  | [d] => { results := [.lit (.bool false)], args := [d] }
  | _ => none }
def FrameFeedsWrongFalsely : Prop := frameFeedsRow.holds Tryd.pinned (OpenSpec.ofChange frameFeedsWrong)

/-- 'norialaw06.FramePacks': WHATEVER THE INPUT: true; the input reads as it did. -/
def framePacksSpec : ChangeSpec := { name := "framePacks", fn := fun _ => fun
  | [d1, d2] => { results := [.lit (.bool true)], args := [d1, d2] }
  | _ => none }
def framePacksRow : OpenClaim := { program := "ytfijpnhnlpgkgaadoor", sum := "e923e9fc1bdad66d0bb5c555020d66c7a9a461caf77d16cc6ca345079289caac", func := "noria/norialaw06.FramePacks", spec := "framePacks", inPlace := ["internal/reflectlite.ValueOf", "(internal/reflectlite.Value).Type", "(internal/reflectlite.Value).IsNil", "internal/reflectlite.TypeOf", "(internal/reflectlite.Value).Elem", "(internal/reflectlite.Value).Set"], unfollowed := true, recurses := true, named := ["noria/frame.errShort", "errors.errorType"], apart := false, laid := [("errors.errorType", laid_errors_errorType), ("noria/frame.errShort", laid_noria_frame_errShort)] }
def FramePacksSaid : Prop := framePacksRow.holds Tryd.pinned (OpenSpec.ofChange framePacksSpec)

/-- ITS FALSE NEIGHBOUR: 'it returns false'. Refute it at one input. -/
def framePacksWrong : ChangeSpec := { name := "framePacks", fn := fun _ => fun
  | [d1, d2] => { results := [.lit (.bool false)], args := [d1, d2] }
  | _ => none }
def FramePacksWrongFalsely : Prop := framePacksRow.holds Tryd.pinned (OpenSpec.ofChange framePacksWrong)

/-- 'norialaw06.FrameCuts': WHATEVER THE INPUT: true; the input reads as it did. -/
def frameCutsSpec : ChangeSpec := { name := "frameCuts", fn := fun _ => fun
  | [d1, d2] => { results := [.lit (.bool true)], args := [d1, d2] }
  | _ => none }
def frameCutsRow : OpenClaim := { program := "ytfijpnhnlpgkgaadoor", sum := "e923e9fc1bdad66d0bb5c555020d66c7a9a461caf77d16cc6ca345079289caac", func := "noria/norialaw06.FrameCuts", spec := "frameCuts", inPlace := ["internal/reflectlite.ValueOf", "(internal/reflectlite.Value).Type", "(internal/reflectlite.Value).IsNil", "internal/reflectlite.TypeOf", "(internal/reflectlite.Value).Elem", "(internal/reflectlite.Value).Set"], unfollowed := true, recurses := true, named := ["noria/frame.errShort", "errors.errorType"], apart := false, laid := [("errors.errorType", laid_errors_errorType), ("noria/frame.errShort", laid_noria_frame_errShort)] }
def FrameCutsSaid : Prop := frameCutsRow.holds Tryd.pinned (OpenSpec.ofChange frameCutsSpec)

/-- ITS FALSE NEIGHBOUR: 'it returns false'. Refute it at one input. -/
def frameCutsWrong : ChangeSpec := { name := "frameCuts", fn := fun _ => fun
  | [d1, d2] => { results := [.lit (.bool false)], args := [d1, d2] }
  | _ => none }
def FrameCutsWrongFalsely : Prop := frameCutsRow.holds Tryd.pinned (OpenSpec.ofChange frameCutsWrong)

/-- 'norialaw06.FrameEnds': WHATEVER THE INPUT: true; the input reads as it did. -/
def frameEndsSpec : ChangeSpec := { name := "frameEnds", fn := fun _ => fun
  | [d1, d2, d3, d4] => { results := [.lit (.bool true)], args := [d1, d2, d3, d4] }
  | _ => none }
def frameEndsRow : OpenClaim := { program := "ytfijpnhnlpgkgaadoor", sum := "e923e9fc1bdad66d0bb5c555020d66c7a9a461caf77d16cc6ca345079289caac", func := "noria/norialaw06.FrameEnds", spec := "frameEnds", inPlace := ["internal/reflectlite.ValueOf", "(internal/reflectlite.Value).Type", "(internal/reflectlite.Value).IsNil", "internal/reflectlite.TypeOf", "(internal/reflectlite.Value).Elem", "(internal/reflectlite.Value).Set"], unfollowed := true, recurses := true, named := ["noria/frame.errShort", "errors.errorType"], apart := false, laid := [("errors.errorType", laid_errors_errorType), ("noria/frame.errShort", laid_noria_frame_errShort)] }
def FrameEndsSaid : Prop := frameEndsRow.holds Tryd.pinned (OpenSpec.ofChange frameEndsSpec)

/-- ITS FALSE NEIGHBOUR: 'it returns false'. Refute it at one input. -/
def frameEndsWrong : ChangeSpec := { name := "frameEnds", fn := fun _ => fun
  | [d1, d2, d3, d4] => { results := [.lit (.bool false)], args := [d1, d2, d3, d4] }
  | _ => none }
def FrameEndsWrongFalsely : Prop := frameEndsRow.holds Tryd.pinned (OpenSpec.ofChange frameEndsWrong)

/-- 'norialaw06.FrameLong': WHATEVER THE INPUT: true; the input reads as it did. -/
def frameLongSpec : ChangeSpec := { name := "frameLong", fn := fun _ => fun
  | [d1, d2] => { results := [.lit (.bool true)], args := [d1, d2] }
  | _ => none }
def frameLongRow : OpenClaim := { program := "ytfijpnhnlpgkgaadoor", sum := "e923e9fc1bdad66d0bb5c555020d66c7a9a461caf77d16cc6ca345079289caac", func := "noria/norialaw06.FrameLong", spec := "frameLong", inPlace := ["internal/reflectlite.ValueOf", "(internal/reflectlite.Value).Type", "(internal/reflectlite.Value).IsNil", "internal/reflectlite.TypeOf", "(internal/reflectlite.Value).Elem", "(internal/reflectlite.Value).Set"], unfollowed := true, recurses := true, named := ["noria/frame.errShort", "errors.errorType"], apart := false, laid := [("errors.errorType", laid_errors_errorType), ("noria/frame.errShort", laid_noria_frame_errShort)] }
def FrameLongSaid : Prop := frameLongRow.holds Tryd.pinned (OpenSpec.ofChange frameLongSpec)

/-- ITS FALSE NEIGHBOUR: 'it returns false'. Refute it at one input. -/
def frameLongWrong : ChangeSpec := { name := "frameLong", fn := fun _ => fun
  | [d1, d2] => { results := [.lit (.bool false)], args := [d1, d2] }
  | _ => none }
def FrameLongWrongFalsely : Prop := frameLongRow.holds Tryd.pinned (OpenSpec.ofChange frameLongWrong)

/-- 'norialaw08.LinkOrders': WHATEVER THE INPUT: true; the input reads as it did. -/
def linkOrdersSpec : ChangeSpec := { name := "linkOrders", fn := fun _ => fun
  | [d1, d2, d3] => { results := [.lit (.bool true)], args := [d1, d2, d3] }
  | _ => none }
def linkOrdersRow : OpenClaim := { program := "ytfijpnhnlpgkgaadoor", sum := "e923e9fc1bdad66d0bb5c555020d66c7a9a461caf77d16cc6ca345079289caac", func := "noria/norialaw08.LinkOrders", spec := "linkOrders", inPlace := ["internal/reflectlite.ValueOf", "(internal/reflectlite.Value).Type", "(internal/reflectlite.Value).IsNil", "internal/reflectlite.TypeOf", "(internal/reflectlite.Value).Elem", "(internal/reflectlite.Value).Set"], unfollowed := true, recurses := true, named := ["noria/frame.errShort", "errors.errorType"], apart := false, laid := [("errors.errorType", laid_errors_errorType), ("noria/frame.errShort", laid_noria_frame_errShort)] }
def LinkOrdersSaid : Prop := linkOrdersRow.holds Tryd.pinned (OpenSpec.ofChange linkOrdersSpec)

/-- ITS FALSE NEIGHBOUR: 'it returns false'. Refute it at one input. -/
def linkOrdersWrong : ChangeSpec := { name := "linkOrders", fn := fun _ => fun
  | [d1, d2, d3] => { results := [.lit (.bool false)], args := [d1, d2, d3] }
  | _ => none }
def LinkOrdersWrongFalsely : Prop := linkOrdersRow.holds Tryd.pinned (OpenSpec.ofChange linkOrdersWrong)

/-- 'norialaw08.LinkResets': WHATEVER THE INPUT: true; the input reads as it did. -/
def linkResetsSpec : ChangeSpec := { name := "linkResets", fn := fun _ => fun
  | [d1, d2, d3, d4] => { results := [.lit (.bool true)], args := [d1, d2, d3, d4] }
  | _ => none }
def linkResetsRow : OpenClaim := { program := "ytfijpnhnlpgkgaadoor", sum := "e923e9fc1bdad66d0bb5c555020d66c7a9a461caf77d16cc6ca345079289caac", func := "noria/norialaw08.LinkResets", spec := "linkResets", inPlace := ["internal/reflectlite.ValueOf", "(internal/reflectlite.Value).Type", "(internal/reflectlite.Value).IsNil", "internal/reflectlite.TypeOf", "(internal/reflectlite.Value).Elem", "(internal/reflectlite.Value).Set"], unfollowed := true, recurses := true, named := ["noria/frame.errShort", "errors.errorType"], apart := false, laid := [("errors.errorType", laid_errors_errorType), ("noria/frame.errShort", laid_noria_frame_errShort)] }
def LinkResetsSaid : Prop := linkResetsRow.holds Tryd.pinned (OpenSpec.ofChange linkResetsSpec)

/-- ITS FALSE NEIGHBOUR: 'it returns false'. Refute it at one input. -/
def linkResetsWrong : ChangeSpec := { name := "linkResets", fn := fun _ => fun
  | [d1, d2, d3, d4] => { results := [.lit (.bool false)], args := [d1, d2, d3, d4] }
  | _ => none }
def LinkResetsWrongFalsely : Prop := linkResetsRow.holds Tryd.pinned (OpenSpec.ofChange linkResetsWrong)

/-- 'norialaw08.LinkFull': WHATEVER THE INPUT: true; the input reads as it did. -/
def linkFullSpec : ChangeSpec := { name := "linkFull", fn := fun _ => fun
  | [d1, d2] => { results := [.lit (.bool true)], args := [d1, d2] }
  | _ => none }
def linkFullRow : OpenClaim := { program := "ytfijpnhnlpgkgaadoor", sum := "e923e9fc1bdad66d0bb5c555020d66c7a9a461caf77d16cc6ca345079289caac", func := "noria/norialaw08.LinkFull", spec := "linkFull", inPlace := ["internal/reflectlite.ValueOf", "(internal/reflectlite.Value).Type", "(internal/reflectlite.Value).IsNil", "internal/reflectlite.TypeOf", "(internal/reflectlite.Value).Elem", "(internal/reflectlite.Value).Set"], unfollowed := true, recurses := true, named := ["noria/frame.errShort", "errors.errorType"], apart := false, laid := [("errors.errorType", laid_errors_errorType), ("noria/frame.errShort", laid_noria_frame_errShort)] }
def LinkFullSaid : Prop := linkFullRow.holds Tryd.pinned (OpenSpec.ofChange linkFullSpec)

/-- ITS FALSE NEIGHBOUR: 'it returns false'. Refute it at one input. -/
def linkFullWrong : ChangeSpec := { name := "linkFull", fn := fun _ => fun
  | [d1, d2] => { results := [.lit (.bool false)], args := [d1, d2] }
  | _ => none }
def LinkFullWrongFalsely : Prop := linkFullRow.holds Tryd.pinned (OpenSpec.ofChange linkFullWrong)

/-- 'norialaw08.LinkBytes': WHATEVER THE INPUT: true; the input reads as it did. -/
def linkBytesSpec : ChangeSpec := { name := "linkBytes", fn := fun _ => fun
  | [d1, d2, d3] => { results := [.lit (.bool true)], args := [d1, d2, d3] }
  | _ => none }
def linkBytesRow : OpenClaim := { program := "ytfijpnhnlpgkgaadoor", sum := "e923e9fc1bdad66d0bb5c555020d66c7a9a461caf77d16cc6ca345079289caac", func := "noria/norialaw08.LinkBytes", spec := "linkBytes", inPlace := ["internal/reflectlite.ValueOf", "(internal/reflectlite.Value).Type", "(internal/reflectlite.Value).IsNil", "internal/reflectlite.TypeOf", "(internal/reflectlite.Value).Elem", "(internal/reflectlite.Value).Set"], unfollowed := true, recurses := true, named := ["noria/frame.errShort", "errors.errorType"], apart := false, laid := [("errors.errorType", laid_errors_errorType), ("noria/frame.errShort", laid_noria_frame_errShort)] }
def LinkBytesSaid : Prop := linkBytesRow.holds Tryd.pinned (OpenSpec.ofChange linkBytesSpec)

/-- ITS FALSE NEIGHBOUR: 'it returns false'. Refute it at one input. -/
def linkBytesWrong : ChangeSpec := { name := "linkBytes", fn := fun _ => fun
  | [d1, d2, d3] => { results := [.lit (.bool false)], args := [d1, d2, d3] }
  | _ => none }
def LinkBytesWrongFalsely : Prop := linkBytesRow.holds Tryd.pinned (OpenSpec.ofChange linkBytesWrong)

/-- 'norialaw08.LinkEpochs': WHATEVER THE INPUT: true; the input reads as it did. -/
def linkEpochsSpec : ChangeSpec := { name := "linkEpochs", fn := fun _ => fun
  | [d1, d2] => { results := [.lit (.bool true)], args := [d1, d2] }
  | _ => none }
def linkEpochsRow : OpenClaim := { program := "ytfijpnhnlpgkgaadoor", sum := "e923e9fc1bdad66d0bb5c555020d66c7a9a461caf77d16cc6ca345079289caac", func := "noria/norialaw08.LinkEpochs", spec := "linkEpochs", inPlace := ["internal/reflectlite.ValueOf", "(internal/reflectlite.Value).Type", "(internal/reflectlite.Value).IsNil", "internal/reflectlite.TypeOf", "(internal/reflectlite.Value).Elem", "(internal/reflectlite.Value).Set"], unfollowed := true, recurses := true, named := ["noria/frame.errShort", "errors.errorType"], apart := false, laid := [("errors.errorType", laid_errors_errorType), ("noria/frame.errShort", laid_noria_frame_errShort)] }
def LinkEpochsSaid : Prop := linkEpochsRow.holds Tryd.pinned (OpenSpec.ofChange linkEpochsSpec)

/-- ITS FALSE NEIGHBOUR: 'it returns false'. Refute it at one input. -/
def linkEpochsWrong : ChangeSpec := { name := "linkEpochs", fn := fun _ => fun
  | [d1, d2] => { results := [.lit (.bool false)], args := [d1, d2] }
  | _ => none }
def LinkEpochsWrongFalsely : Prop := linkEpochsRow.holds Tryd.pinned (OpenSpec.ofChange linkEpochsWrong)

/-- 'norialaw08.LinkPlays': WHATEVER THE INPUT: true; the input reads as it did. -/
def linkPlaysSpec : ChangeSpec := { name := "linkPlays", fn := fun _ => fun
  | [d] => { results := [.lit (.bool true)], args := [d] }
  | _ => none }
def linkPlaysRow : OpenClaim := { program := "ytfijpnhnlpgkgaadoor", sum := "e923e9fc1bdad66d0bb5c555020d66c7a9a461caf77d16cc6ca345079289caac", func := "noria/norialaw08.LinkPlays", spec := "linkPlays", inPlace := ["internal/reflectlite.ValueOf", "(internal/reflectlite.Value).Type", "(internal/reflectlite.Value).IsNil", "internal/reflectlite.TypeOf", "(internal/reflectlite.Value).Elem", "(internal/reflectlite.Value).Set"], unfollowed := true, recurses := true, named := ["noria/frame.errShort", "errors.errorType"], apart := false, laid := [("errors.errorType", laid_errors_errorType), ("noria/frame.errShort", laid_noria_frame_errShort)] }
def LinkPlaysSaid : Prop := linkPlaysRow.holds Tryd.pinned (OpenSpec.ofChange linkPlaysSpec)

/-- ITS FALSE NEIGHBOUR: 'it returns false'. Refute it at one input. -/
def linkPlaysWrong : ChangeSpec := { name := "linkPlays", fn := fun _ => fun
  | [d] => { results := [.lit (.bool false)], args := [d] }
  | _ => none }
def LinkPlaysWrongFalsely : Prop := linkPlaysRow.holds Tryd.pinned (OpenSpec.ofChange linkPlaysWrong)

/-- 'norialaw08.LinkQuiet': WHATEVER THE INPUT: true; the input reads as it did. -/
def linkQuietSpec : ChangeSpec := { name := "linkQuiet", fn := fun _ => fun
  | [d] => { results := [.lit (.bool true)], args := [d] }
  | _ => none }
def linkQuietRow : OpenClaim := { program := "ytfijpnhnlpgkgaadoor", sum := "e923e9fc1bdad66d0bb5c555020d66c7a9a461caf77d16cc6ca345079289caac", func := "noria/norialaw08.LinkQuiet", spec := "linkQuiet", inPlace := ["internal/reflectlite.ValueOf", "(internal/reflectlite.Value).Type", "(internal/reflectlite.Value).IsNil", "internal/reflectlite.TypeOf", "(internal/reflectlite.Value).Elem", "(internal/reflectlite.Value).Set"], unfollowed := true, recurses := true, named := ["noria/frame.errShort", "errors.errorType"], apart := false, laid := [("errors.errorType", laid_errors_errorType), ("noria/frame.errShort", laid_noria_frame_errShort)] }
def LinkQuietSaid : Prop := linkQuietRow.holds Tryd.pinned (OpenSpec.ofChange linkQuietSpec)

/-- ITS FALSE NEIGHBOUR: 'it returns false'. Refute it at one input. -/
def linkQuietWrong : ChangeSpec := { name := "linkQuiet", fn := fun _ => fun
  | [d] => { results := [.lit (.bool false)], args := [d] }
  | _ => none }
def LinkQuietWrongFalsely : Prop := linkQuietRow.holds Tryd.pinned (OpenSpec.ofChange linkQuietWrong)

/- THE SECOND FORM. 'bulk': how many values and letters a reading holds, each counted each time it is reached (what is shared counts as often as it is met; a slice's spare places count too). A statement '..UptoSaid' is the law's where the arguments, and the package variables that the reading takes, are together of bulk at most 1048576: NARROWER than '..Said'. Prove '..Said' where nothing that the law and all that it calls make is longer than what came in: it says more and counts as full. Else prove '..UptoSaid'. A law counts once. -/
mutual
def uptoBulk {H : Type} : DataW H → Nat
  | .lit (.string bytes) => bytes.length + 1
  | .lit _ => 1
  | .nil => 1
  | .ptr d => uptoBulk d + 1
  | .slice elems spare => uptoBulkAll elems + uptoBulkAll spare + 1
  | .agg parts => uptoBulkAll parts + 1
  | .iface _ d => uptoBulk d + 1
  | .map entries => uptoBulkEntries entries + 1
  | .held _ => 1
def uptoBulkAll {H : Type} : List (DataW H) → Nat
  | [] => 0
  | d :: r => uptoBulk d + uptoBulkAll r
def uptoBulkEntries {H : Type} : List (Lit × DataW H) → Nat
  | [] => 0
  | x :: r => uptoBulkEntry x + uptoBulkEntries r
def uptoBulkEntry {H : Type} : Lit × DataW H → Nat
  | (.string bytes, d) => bytes.length + uptoBulk d + 1
  | (_, d) => uptoBulk d + 1
 end
def uptoSmall : (H : Type) → List (DataW H) → Bool := fun _ ds => decide (uptoBulkAll ds ≤ 1048576)
def OpenSpec.upto (s : _root_.Go.ChangeSpec) : _root_.Go.OpenSpec := { _root_.Go.OpenSpec.ofChange s with cond := some uptoSmall }

/-- 'norialaw06.FrameFeeds', WHERE WHAT IT READS IS OF BULK AT MOST 1048576: true; the input reads as it did. -/
def frameFeedsUptoRow : OpenClaim := { program := "ytfijpnhnlpgkgaadoor", sum := "e923e9fc1bdad66d0bb5c555020d66c7a9a461caf77d16cc6ca345079289caac", func := "noria/norialaw06.FrameFeeds", spec := "frameFeeds", inPlace := ["internal/reflectlite.ValueOf", "(internal/reflectlite.Value).Type", "(internal/reflectlite.Value).IsNil", "internal/reflectlite.TypeOf", "(internal/reflectlite.Value).Elem", "(internal/reflectlite.Value).Set"], unfollowed := true, recurses := true, named := ["noria/frame.errShort", "errors.errorType"], apart := false, laid := [("errors.errorType", laid_errors_errorType), ("noria/frame.errShort", laid_noria_frame_errShort)], narrowed := true }
def FrameFeedsUptoSaid : Prop := frameFeedsUptoRow.holds Tryd.pinned (OpenSpec.upto frameFeedsSpec)

/-- 'norialaw06.FramePacks', WHERE WHAT IT READS IS OF BULK AT MOST 1048576: true; the input reads as it did. -/
def framePacksUptoRow : OpenClaim := { program := "ytfijpnhnlpgkgaadoor", sum := "e923e9fc1bdad66d0bb5c555020d66c7a9a461caf77d16cc6ca345079289caac", func := "noria/norialaw06.FramePacks", spec := "framePacks", inPlace := ["internal/reflectlite.ValueOf", "(internal/reflectlite.Value).Type", "(internal/reflectlite.Value).IsNil", "internal/reflectlite.TypeOf", "(internal/reflectlite.Value).Elem", "(internal/reflectlite.Value).Set"], unfollowed := true, recurses := true, named := ["noria/frame.errShort", "errors.errorType"], apart := false, laid := [("errors.errorType", laid_errors_errorType), ("noria/frame.errShort", laid_noria_frame_errShort)], narrowed := true }
def FramePacksUptoSaid : Prop := framePacksUptoRow.holds Tryd.pinned (OpenSpec.upto framePacksSpec)

/-- 'norialaw06.FrameCuts', WHERE WHAT IT READS IS OF BULK AT MOST 1048576: true; the input reads as it did. -/
def frameCutsUptoRow : OpenClaim := { program := "ytfijpnhnlpgkgaadoor", sum := "e923e9fc1bdad66d0bb5c555020d66c7a9a461caf77d16cc6ca345079289caac", func := "noria/norialaw06.FrameCuts", spec := "frameCuts", inPlace := ["internal/reflectlite.ValueOf", "(internal/reflectlite.Value).Type", "(internal/reflectlite.Value).IsNil", "internal/reflectlite.TypeOf", "(internal/reflectlite.Value).Elem", "(internal/reflectlite.Value).Set"], unfollowed := true, recurses := true, named := ["noria/frame.errShort", "errors.errorType"], apart := false, laid := [("errors.errorType", laid_errors_errorType), ("noria/frame.errShort", laid_noria_frame_errShort)], narrowed := true }
def FrameCutsUptoSaid : Prop := frameCutsUptoRow.holds Tryd.pinned (OpenSpec.upto frameCutsSpec)

/-- 'norialaw06.FrameEnds', WHERE WHAT IT READS IS OF BULK AT MOST 1048576: true; the input reads as it did. -/
def frameEndsUptoRow : OpenClaim := { program := "ytfijpnhnlpgkgaadoor", sum := "e923e9fc1bdad66d0bb5c555020d66c7a9a461caf77d16cc6ca345079289caac", func := "noria/norialaw06.FrameEnds", spec := "frameEnds", inPlace := ["internal/reflectlite.ValueOf", "(internal/reflectlite.Value).Type", "(internal/reflectlite.Value).IsNil", "internal/reflectlite.TypeOf", "(internal/reflectlite.Value).Elem", "(internal/reflectlite.Value).Set"], unfollowed := true, recurses := true, named := ["noria/frame.errShort", "errors.errorType"], apart := false, laid := [("errors.errorType", laid_errors_errorType), ("noria/frame.errShort", laid_noria_frame_errShort)], narrowed := true }
def FrameEndsUptoSaid : Prop := frameEndsUptoRow.holds Tryd.pinned (OpenSpec.upto frameEndsSpec)

/-- 'norialaw06.FrameLong', WHERE WHAT IT READS IS OF BULK AT MOST 1048576: true; the input reads as it did. -/
def frameLongUptoRow : OpenClaim := { program := "ytfijpnhnlpgkgaadoor", sum := "e923e9fc1bdad66d0bb5c555020d66c7a9a461caf77d16cc6ca345079289caac", func := "noria/norialaw06.FrameLong", spec := "frameLong", inPlace := ["internal/reflectlite.ValueOf", "(internal/reflectlite.Value).Type", "(internal/reflectlite.Value).IsNil", "internal/reflectlite.TypeOf", "(internal/reflectlite.Value).Elem", "(internal/reflectlite.Value).Set"], unfollowed := true, recurses := true, named := ["noria/frame.errShort", "errors.errorType"], apart := false, laid := [("errors.errorType", laid_errors_errorType), ("noria/frame.errShort", laid_noria_frame_errShort)], narrowed := true }
def FrameLongUptoSaid : Prop := frameLongUptoRow.holds Tryd.pinned (OpenSpec.upto frameLongSpec)

/-- 'norialaw08.LinkOrders', WHERE WHAT IT READS IS OF BULK AT MOST 1048576: true; the input reads as it did. -/
def linkOrdersUptoRow : OpenClaim := { program := "ytfijpnhnlpgkgaadoor", sum := "e923e9fc1bdad66d0bb5c555020d66c7a9a461caf77d16cc6ca345079289caac", func := "noria/norialaw08.LinkOrders", spec := "linkOrders", inPlace := ["internal/reflectlite.ValueOf", "(internal/reflectlite.Value).Type", "(internal/reflectlite.Value).IsNil", "internal/reflectlite.TypeOf", "(internal/reflectlite.Value).Elem", "(internal/reflectlite.Value).Set"], unfollowed := true, recurses := true, named := ["noria/frame.errShort", "errors.errorType"], apart := false, laid := [("errors.errorType", laid_errors_errorType), ("noria/frame.errShort", laid_noria_frame_errShort)], narrowed := true }
def LinkOrdersUptoSaid : Prop := linkOrdersUptoRow.holds Tryd.pinned (OpenSpec.upto linkOrdersSpec)

/-- 'norialaw08.LinkResets', WHERE WHAT IT READS IS OF BULK AT MOST 1048576: true; the input reads as it did. -/
def linkResetsUptoRow : OpenClaim := { program := "ytfijpnhnlpgkgaadoor", sum := "e923e9fc1bdad66d0bb5c555020d66c7a9a461caf77d16cc6ca345079289caac", func := "noria/norialaw08.LinkResets", spec := "linkResets", inPlace := ["internal/reflectlite.ValueOf", "(internal/reflectlite.Value).Type", "(internal/reflectlite.Value).IsNil", "internal/reflectlite.TypeOf", "(internal/reflectlite.Value).Elem", "(internal/reflectlite.Value).Set"], unfollowed := true, recurses := true, named := ["noria/frame.errShort", "errors.errorType"], apart := false, laid := [("errors.errorType", laid_errors_errorType), ("noria/frame.errShort", laid_noria_frame_errShort)], narrowed := true }
def LinkResetsUptoSaid : Prop := linkResetsUptoRow.holds Tryd.pinned (OpenSpec.upto linkResetsSpec)

/-- 'norialaw08.LinkFull', WHERE WHAT IT READS IS OF BULK AT MOST 1048576: true; the input reads as it did. -/
def linkFullUptoRow : OpenClaim := { program := "ytfijpnhnlpgkgaadoor", sum := "e923e9fc1bdad66d0bb5c555020d66c7a9a461caf77d16cc6ca345079289caac", func := "noria/norialaw08.LinkFull", spec := "linkFull", inPlace := ["internal/reflectlite.ValueOf", "(internal/reflectlite.Value).Type", "(internal/reflectlite.Value).IsNil", "internal/reflectlite.TypeOf", "(internal/reflectlite.Value).Elem", "(internal/reflectlite.Value).Set"], unfollowed := true, recurses := true, named := ["noria/frame.errShort", "errors.errorType"], apart := false, laid := [("errors.errorType", laid_errors_errorType), ("noria/frame.errShort", laid_noria_frame_errShort)], narrowed := true }
def LinkFullUptoSaid : Prop := linkFullUptoRow.holds Tryd.pinned (OpenSpec.upto linkFullSpec)

/-- 'norialaw08.LinkBytes', WHERE WHAT IT READS IS OF BULK AT MOST 1048576: true; the input reads as it did. -/
def linkBytesUptoRow : OpenClaim := { program := "ytfijpnhnlpgkgaadoor", sum := "e923e9fc1bdad66d0bb5c555020d66c7a9a461caf77d16cc6ca345079289caac", func := "noria/norialaw08.LinkBytes", spec := "linkBytes", inPlace := ["internal/reflectlite.ValueOf", "(internal/reflectlite.Value).Type", "(internal/reflectlite.Value).IsNil", "internal/reflectlite.TypeOf", "(internal/reflectlite.Value).Elem", "(internal/reflectlite.Value).Set"], unfollowed := true, recurses := true, named := ["noria/frame.errShort", "errors.errorType"], apart := false, laid := [("errors.errorType", laid_errors_errorType), ("noria/frame.errShort", laid_noria_frame_errShort)], narrowed := true }
def LinkBytesUptoSaid : Prop := linkBytesUptoRow.holds Tryd.pinned (OpenSpec.upto linkBytesSpec)

/-- 'norialaw08.LinkEpochs', WHERE WHAT IT READS IS OF BULK AT MOST 1048576: true; the input reads as it did. -/
def linkEpochsUptoRow : OpenClaim := { program := "ytfijpnhnlpgkgaadoor", sum := "e923e9fc1bdad66d0bb5c555020d66c7a9a461caf77d16cc6ca345079289caac", func := "noria/norialaw08.LinkEpochs", spec := "linkEpochs", inPlace := ["internal/reflectlite.ValueOf", "(internal/reflectlite.Value).Type", "(internal/reflectlite.Value).IsNil", "internal/reflectlite.TypeOf", "(internal/reflectlite.Value).Elem", "(internal/reflectlite.Value).Set"], unfollowed := true, recurses := true, named := ["noria/frame.errShort", "errors.errorType"], apart := false, laid := [("errors.errorType", laid_errors_errorType), ("noria/frame.errShort", laid_noria_frame_errShort)], narrowed := true }
def LinkEpochsUptoSaid : Prop := linkEpochsUptoRow.holds Tryd.pinned (OpenSpec.upto linkEpochsSpec)

/-- 'norialaw08.LinkPlays', WHERE WHAT IT READS IS OF BULK AT MOST 1048576: true; the input reads as it did. -/
def linkPlaysUptoRow : OpenClaim := { program := "ytfijpnhnlpgkgaadoor", sum := "e923e9fc1bdad66d0bb5c555020d66c7a9a461caf77d16cc6ca345079289caac", func := "noria/norialaw08.LinkPlays", spec := "linkPlays", inPlace := ["internal/reflectlite.ValueOf", "(internal/reflectlite.Value).Type", "(internal/reflectlite.Value).IsNil", "internal/reflectlite.TypeOf", "(internal/reflectlite.Value).Elem", "(internal/reflectlite.Value).Set"], unfollowed := true, recurses := true, named := ["noria/frame.errShort", "errors.errorType"], apart := false, laid := [("errors.errorType", laid_errors_errorType), ("noria/frame.errShort", laid_noria_frame_errShort)], narrowed := true }
def LinkPlaysUptoSaid : Prop := linkPlaysUptoRow.holds Tryd.pinned (OpenSpec.upto linkPlaysSpec)

/-- 'norialaw08.LinkQuiet', WHERE WHAT IT READS IS OF BULK AT MOST 1048576: true; the input reads as it did. -/
def linkQuietUptoRow : OpenClaim := { program := "ytfijpnhnlpgkgaadoor", sum := "e923e9fc1bdad66d0bb5c555020d66c7a9a461caf77d16cc6ca345079289caac", func := "noria/norialaw08.LinkQuiet", spec := "linkQuiet", inPlace := ["internal/reflectlite.ValueOf", "(internal/reflectlite.Value).Type", "(internal/reflectlite.Value).IsNil", "internal/reflectlite.TypeOf", "(internal/reflectlite.Value).Elem", "(internal/reflectlite.Value).Set"], unfollowed := true, recurses := true, named := ["noria/frame.errShort", "errors.errorType"], apart := false, laid := [("errors.errorType", laid_errors_errorType), ("noria/frame.errShort", laid_noria_frame_errShort)], narrowed := true }
def LinkQuietUptoSaid : Prop := linkQuietUptoRow.holds Tryd.pinned (OpenSpec.upto linkQuietSpec)

end Rows
end Go.Proofs.YtfijpnhnlpgkgaaDoor
