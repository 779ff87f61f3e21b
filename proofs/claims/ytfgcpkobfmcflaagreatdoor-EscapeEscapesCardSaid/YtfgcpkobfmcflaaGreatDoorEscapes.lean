/-
  The walk of EscapeEscapes.
-/
import Derived.Test.YtfgcpkobfmcflaaGreatDoorAwake
import Derived.Test.YtfgcpkobfmcflaaGreatDoorRefE
namespace Go.Proofs.YtfgcpkobfmcflaaGreatDoor
open Go.RowKit

set_option maxRecDepth 100000 in
set_option maxHeartbeats 4000000 in
theorem escapes_any (s : ByteArray) (attr : Bool) (w : World) (hw : Env w) :
    Calls Tryz.prog 4 #[.string s, .bool attr] w fun e w' => e = .returned (.bool true) ∧ Below w.heap.size w w' := by
  by_cases hs : s.size ≤ 3000
  · have HW := Lib.hid hw
    have K1 := Lib.hid (Escape_any attr s (by omega))
    have K2 := Lib.hid (refEscape_any attr s (by omega))
    obtain ⟨a, ha⟩ : ∃ a : ByteArray, a = ⟨(escL attr s.data.toList).toArray⟩ := ⟨_, rfl⟩
    rw [← ha] at K1 K2
    clear hw ha
    go_enter Tryz.func4, Tryz.ntmps4
    go_wp2_with fail
    refine (awake_any _ HW.out).mono ?_
    rintro e w0 ⟨rfl, hb0⟩
    have HB0 := Lib.hid hb0
    clear hb0
    go_wp2_with fail
    refine (K1.out _).mono ?_
    rintro e w1 ⟨rfl, hb1⟩
    have HB1 := Lib.hid (below_two HB0.out hb1)
    clear hb1
    go_wp2_with fail
    refine (K2.out _).mono ?_
    rintro e w2 ⟨rfl, hb2⟩
    have HB2 := Lib.hid (below_two HB1.out hb2)
    clear hb2
    go_wp2_with fail
    go_ret
    exact ⟨rfl, HB2.out⟩
  · have HW := Lib.hid hw
    clear hw
    go_enter Tryz.func4, Tryz.ntmps4
    go_wp2_with fail
    refine (awake_any _ HW.out).mono ?_
    rintro e w0 ⟨rfl, hb0⟩
    have HB0 := Lib.hid hb0
    clear hb0
    go_wp2_with fail
    go_ret
    exact ⟨rfl, HB0.out⟩
end Go.Proofs.YtfgcpkobfmcflaaGreatDoor
