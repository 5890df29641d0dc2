/-
  What the listed variables hold, as a walk takes it ('Glob'), out of the rows' condition; and a world that meets it.
  No condition.
-/
import Derived.Test.YtfijpnhnlpgkgaaDoorRows
import Derived.Test.YtfijpnhnlpgkgaaDoorNext
import Derived.WalkKit
import Derived.ProofKit
import Derived.OpenShut
import Derived.ShutString
import Derived.ChangeOld
import Derived.ChangeSame
import Derived.ChangeVars
import Derived.JoinedOf
import Derived.RowKit
import Derived.RowKitTokens
import Derived.LaidLaws
import Derived.LaidHandle
import Derived.Stop.Joined
import Derived.Stop.LaidErr
import Derived.Below
namespace Go.Proofs.YtfijpnhnlpgkgaaDoor
open Go.ChangeShapes Go.WideShapes Go.RowKit
theorem Tryd.own : ownKnob Tryd.prog.godebug = none := by kernel_rfl
theorem Tryd.laidOut : laidOutB Tryd.prog = true := by kernel_rfl
theorem Tryd.gE : Tryd.prog.globalNamed "noria/frame.errShort" = some 0 := by kernel_rfl
theorem Tryd.gEType : (Tryd.prog.globals[0]?).map (·.type) = some 78 := by kernel_rfl
theorem Tryd.cells141 : Tryd.prog.cellsOf 141 = 1 := by kernel_rfl
theorem Tryd.cells9 : Tryd.prog.cellsOf 9 = 1 := by kernel_rfl
theorem Tryd.star : "*" ++ "errors.errorString" = "*errors.errorString" := by decide
theorem Tryd.row122 (u : TypeId) (h : Tryd.prog.typeName? 3 u = some "*errors.errorString") : u = 122 :=
  typeName_ptr_named (nm := "errors.errorString") (by rw [Tryd.star]; kernel_rfl) (by kernel_rfl) (by decide) u (by rw [Tryd.star]; exact h)
theorem Tryd.et : Tryd.prog.globalNamed "errors.errorType" = some 1 := by kernel_rfl
theorem Tryd.rt : (Tryd.prog.cutTypes.find? (·.1 == "internal/reflectlite.rtype")).map (·.2) = some 109 := by kernel_rfl
theorem Tryd.size : Tryd.prog.types.size = 152 := by kernel_rfl
theorem Tryd.oneRow : ((List.range 152).filter fun t => Tryd.prog.rowNamed t [101, 114, 114, 111, 114]) = [78] := by kernel_rfl
theorem glob_of_laid {W : World} (h : laidMetH Tryd.prog Rows.frameFeedsRow.laid W) : Glob W := by
  have h' : laidMet Tryd.prog [("noria/frame.errShort", Rows.laid_noria_frame_errShort)] W ∧ handlesMet Tryd.prog [("errors.errorType", Rows.laid_errors_errorType)] W := h
  refine ⟨?_, ?_⟩
  · obtain ⟨name, u, ty, e1, e2, e3, e4, e5⟩ := h'.2 _ (List.mem_singleton.2 rfl)
    have en : name = [101, 114, 114, 111, 114] := (Option.some.inj e1).symm
    subst en
    obtain rfl := Option.some.inj (Tryd.rt.symm.trans e2)
    have hm : ty ∈ (List.range 152).filter fun t => Tryd.prog.rowNamed t [101, 114, 114, 111, 114] := List.mem_filter.2 ⟨List.mem_range.2 (by rw [← Tryd.size]; exact e3), e4⟩
    rw [Tryd.oneRow] at hm
    obtain rfl := List.mem_singleton.1 hm
    have hh : typeHandle Tryd.prog 78 = .pointer (some ⟨2, 78, none⟩) := by kernel_rfl
    rw [hh] at e5
    simpa using World.var?_cell Tryd.et e5 0
  · obtain ⟨a0, s0, hv0, _⟩ := laid_sentinel h'.1 Tryd.gE Tryd.gEType Tryd.underlying78 Tryd.row122 Tryd.underlying122 Tryd.underlying141 rfl rfl Tryd.underlying9 Tryd.cells141 Tryd.cells9
    exact ⟨a0, by simpa using World.var?_cell Tryd.gE hv0 0⟩
abbrev shortS : ByteArray := { data := #[110, 111, 116, 32, 97, 108, 108, 32, 105, 115, 32, 116, 104, 101, 114, 101] }
/-- So many blocks has the settled world. -/
noncomputable def low : Nat := (World.holding Tryd.prog default ⟨#[], #[], []⟩).heap.size
/-- A world that meets the condition: the settled one, both variables' cells laid. -/
noncomputable def laidWorld (os : Os) : World :=
  let w0 := World.holding Tryd.prog os ⟨#[.cells #[.string shortS] 141], #[], []⟩
  { w0 with heap := (w0.heap.modify 0 fun
      | .cells _ t frozen => .cells #[.iface 122 (.pointer (some ⟨low, 0, none⟩))] t frozen
      | o => o).modify 1 fun
      | .cells _ t frozen => .cells #[.iface 109 (.agg #[.pointer (some ⟨2, 78, none⟩)])] t frozen
      | o => o }
theorem laidWorld_met (os : Os) (args : Array Value) : laidMetH Tryd.prog Rows.frameFeedsRow.laid ((laidWorld os).forCall (fun _ _ => 0) ⟨#[], args, []⟩).memory :=
  laidMetH_of_parts (laidMet_of_run (ps := [.cell 0 0, .cell low 0]) 8 (by kernel_rfl) (by kernel_rfl) (by kernel_rfl)) (by kernel_rfl)
end Go.Proofs.YtfijpnhnlpgkgaaDoor
