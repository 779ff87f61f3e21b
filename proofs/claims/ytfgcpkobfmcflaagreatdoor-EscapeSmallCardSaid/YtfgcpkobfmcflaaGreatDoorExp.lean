/-
  escape.expanded: its deferred closure, and the walk, at whatever 'plain' keeps an invariant.
-/
import Derived.Test.YtfgcpkobfmcflaaGreatDoorNamedA
import Derived.Test.YtfgcpkobfmcflaaGreatDoorBld
import Derived.Defers
import Derived.Recover
import Derived.Laws.Pointers
import Derived.RegionTactic
import Derived.ChangeAlike
namespace Go.Proofs.YtfgcpkobfmcflaaGreatDoor
open Go.RowKit

theorem errno_assert (n : Int) (w : World) : (Instr.typeAssert (.iface 23 (.int .i64 n)) 20 23 false).run Tryz.prog w = .ok (.int .i64 n) w := by kernel_rfl

theorem catch_panicking (pt pe : Addr) (hne : pt ≠ pe) (x y : Value) (older : List PanicEntry) (w : World) (hc : w.cell? pt = some x) (hz : w.frozen? pt = false) (hc2 : w.cell? pe = some y) (hz2 : w.frozen? pe = false) :
    CallsD Tryz.prog 21 #[.pointer (some pt), .pointer (some pe)] (.panicking ({ v := .iface 23 (.int .i64 60), recovered := false } :: older)) w fun e u' w' =>
      e = .returned (.tuple #[]) ∧ u' = .panicking ({ v := .iface 23 (.int .i64 60), recovered := true } :: older) ∧ w' = ((w.setCell pt (.string ⟨#[]⟩)).setCell pe (.int .i64 60)).drew := by
  refine callsD_of_wpS Tryz.func21 rfl fun c₀ cs hu => ?_
  apply wpS_seq
  apply wpS_region
  simp [wpOpsS, go_sem, recoverD, hu, Tryz.ntmps21, Exit.thenS]
  apply wpS_seq
  apply wpS_region
  simp [wpOpsS, go_sem, Exit.thenS]
  refine wpS_cond (t := true) (by simp [Act.eval, Array.replicate]) ?_
  simp only [if_true]
  refine wpS_of_wp ?_
  simp [Array.replicate]
  have d2 : (w.setCell pt (.string ⟨#[]⟩)).cell? pe = some y := (World.cell?_setCell_other _ _ _ _ hne).trans hc2
  have hta := errno_assert 60
  go_region
  all_goals
    simp [bodyPostS, results, Tryz.results21]
    try exact ⟨rfl, rfl, rfl⟩

theorem catch_idle (pt pe : Addr) (w : World) :
    CallsD Tryz.prog 21 #[.pointer (some pt), .pointer (some pe)] .returning w fun e u' w' => e = .returned (.tuple #[]) ∧ u' = .returning ∧ w' = w := by
  refine callsD_of_wpS Tryz.func21 rfl fun c₀ cs hu => ?_
  apply wpS_seq
  apply wpS_region
  simp [wpOpsS, go_sem, recoverD, hu, Tryz.ntmps21, Exit.thenS]
  apply wpS_seq
  apply wpS_region
  simp [wpOpsS, go_sem, Exit.thenS]
  refine wpS_cond (t := false) (by simp [Act.eval, Array.replicate]) ?_
  simp only [Bool.false_eq_true, if_false]
  refine wpS_of_wp (wp_skip ?_)
  cases c₀
  simp_all [bodyPostS, results, Tryz.results21]
end Go.Proofs.YtfgcpkobfmcflaaGreatDoor
