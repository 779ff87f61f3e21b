/-
  What a row's list of variables gives the walks; and a world for the witness.
-/
import Derived.Test.YtfgcpkobfmcflaaGreatDoorCards
import Derived.Test.YtfgcpkobfmcflaaGreatDoorTie
import Derived.Test.YtfgcpkobfmcflaaGreatDoorNumI
import Derived.WalkKit
import Derived.ProofKit
import Derived.OpenShut
import Derived.LaidMore
import Derived.Stop.LaidErr
import Derived.Deep.DeepHandedRow
import Derived.Deep.DeepWitnessRowRef
import Derived.Lib.LaidTab
import Derived.Shelf.Vars
namespace Go.Proofs.YtfgcpkobfmcflaaGreatDoor
open Go.ChangeShapes Go.WideShapes Go.ChangeAt Go.RowKit

theorem own : ownKnob Tryz.prog.godebug = none := by kernel_rfl

theorem star_errs : "*" ++ "errors.errorString" = "*errors.errorString" := by decide
theorem ty_errs (u : TypeId) (h : Tryz.prog.typeName? 3 u = some "*errors.errorString") : u = 159 :=
  typeName_ptr_named (nm := "errors.errorString") (by rw [star_errs]; kernel_rfl) (by kernel_rfl) (by decide) u (by rw [star_errs]; exact h)

theorem env_of {W : World} (hL0 : laidMetH Tryz.prog Rows.escapePartsRow.laid W) (hsh : W.ShapedOpen Tryz.prog) : Env W := by
  have hL : laidMet Tryz.prog Rows.escapePartsRow.laid W := by
    rw [MakeChecks.laidMetH_plain _ _ _ (by kernel_rfl)] at hL0
    exact hL0
  have h5 := laidMet.tail (laidMet.tail (laidMet.tail (laidMet.tail hL)))
  have h6 := laidMet.tail h5
  obtain ⟨a, s, hv, _, _, _⟩ := laid_sentinel h5 (g := 2) (ti := 45) (tp := 159) (te := 161) (ts := 9) (by kernel_rfl) (by kernel_rfl) Tryz.underlying45 ty_errs (by kernel_rfl) Tryz.underlying161 rfl rfl Tryz.underlying9 (by kernel_rfl) (by kernel_rfl)
  obtain ⟨a2, s2, hv2, _, _, _⟩ := laid_sentinel h6 (g := 1) (ti := 45) (tp := 159) (te := 161) (ts := 9) (by kernel_rfl) (by kernel_rfl) Tryz.underlying45 ty_errs (by kernel_rfl) Tryz.underlying161 rfl rfl Tryz.underlying9 (by kernel_rfl) (by kernel_rfl)
  refine ⟨?_, ⟨159, .pointer (some a2), ?_⟩, ⟨159, .pointer (some a), ?_⟩⟩
  · exact cell_of_shapedOpen_int (zero := #[.int .i64 0]) hsh (by decide) (by kernel_rfl) rfl (by kernel_rfl) (by kernel_rfl) Tryz.underlying3
  · simpa using World.var?_cell (show Tryz.prog.globalNamed "strconv.ErrSyntax" = some 1 by kernel_rfl) hv2 0
  · simpa using World.var?_cell (show Tryz.prog.globalNamed "strconv.ErrRange" = some 2 by kernel_rfl) hv 0

noncomputable def wit (os : Os) : World :=
  let w0 := World.doorLaid Tryz.prog 72 os
  { w0 with heap := w0.heap.modify 3 fun
      | .cells _ t frozen => .cells (Go.Pinned.utf8FirstZ.map fun (z : Nat) => Value.int .u8 (z : Int)).toArray t frozen
      | o => o }

theorem wit_met (os : Os) (args : Array Value) : laidMetH Tryz.prog Rows.escapePartsRow.laid ((wit os).forCall (fun _ _ => 0) ⟨#[], args, []⟩).memory := by
  rw [MakeChecks.laidMetH_plain _ _ _ (by kernel_rfl)]
  exact laidMet_of_run' 8 (by kernel_rfl) (by kernel_rfl)
theorem wit_vars (os : Os) (args : Array Value) : ((wit os).forCall (fun _ _ => 0) ⟨#[], args, []⟩).variablesRefB Tryz.prog = true := by kernel_rfl
theorem wit_rest (os : Os) (args : Array Value) : (((wit os).forCall (fun _ _ => 0) ⟨#[], args, []⟩).heap.toList.drop Tryz.prog.globals.size).take ((begin Tryz.prog (fun _ _ => 0) default).world.heap.size - Tryz.prog.globals.size) =
      (begin Tryz.prog (fun _ _ => 0) default).world.heap.toList.drop Tryz.prog.globals.size := by kernel_rfl
end Go.Proofs.YtfgcpkobfmcflaaGreatDoor
