/-
  The walk of EscapeExpands.
-/
import Derived.Test.YtfgcpkobfmcflaaGreatDoorAwake
import Derived.Test.YtfgcpkobfmcflaaGreatDoorRefC
namespace Go.Proofs.YtfgcpkobfmcflaaGreatDoor
open Go.RowKit

set_option maxRecDepth 100000 in
set_option maxHeartbeats 4000000 in
theorem expands_any (s : ByteArray) (w : World) (hw : Env w) :
    Calls Tryz.prog 3 #[.string s] w fun e w' => e = .returned (.bool true) ∧ Below w.heap.size w w' := by
  by_cases hs : s.size ≤ 3000
  · have HW := Lib.hid hw
    have K1 := Lib.hid (Expand_two s (by omega))
    have K2 := Lib.hid (refExpand_any s (by omega))
    have K3 := Lib.hid (Value_two s (by omega))
    have K4 := Lib.hid (refValue_any s (by omega))
    obtain ⟨a1, ha1⟩ : ∃ x, x = expS false s.data.toList := ⟨_, rfl⟩
    obtain ⟨a2, ha2⟩ : ∃ x, x = expS true s.data.toList := ⟨_, rfl⟩
    obtain ⟨c1, hc1⟩ : ∃ x, x = expC false s.data.toList := ⟨_, rfl⟩
    obtain ⟨c2, hc2⟩ : ∃ x, x = expC true s.data.toList := ⟨_, rfl⟩
    rw [← ha1, ← hc1] at K1 K2
    rw [← ha2, ← hc2] at K3 K4
    clear hw ha1 ha2 hc1 hc2
    go_enter Tryz.func3, Tryz.ntmps3
    go_wp2_with fail
    refine (K1.out _ HW.out).mono ?_
    rintro e w0 ⟨rfl, hb0⟩
    have HB0 := Lib.hid hb0
    clear hb0
    go_wp2_with fail
    refine (K2.out _).mono ?_
    rintro e w1 ⟨rfl, hb1⟩
    have HB1 := Lib.hid (below_two HB0.out hb1)
    clear hb1
    go_wp2_with fail
    refine (K3.out _ (HW.out.below HB1.out)).mono ?_
    rintro e w2 ⟨rfl, hb2⟩
    have HB2 := Lib.hid (below_two HB1.out hb2)
    clear hb2
    go_wp2_with fail
    refine (K4.out _).mono ?_
    rintro e w3 ⟨rfl, hb3⟩
    have HB3 := Lib.hid (below_two HB2.out hb3)
    clear hb3
    go_wp2_with fail
    refine (awake_any _ (HW.out.below HB3.out)).mono ?_
    rintro e w4 ⟨rfl, hb4⟩
    have HB4 := Lib.hid (below_two HB3.out hb4)
    clear hb4
    go_wp2_with fail
    go_ret
    exact ⟨rfl, HB4.out⟩
  · have HW := Lib.hid hw
    clear hw
    go_enter Tryz.func3, Tryz.ntmps3
    go_wp2_with fail
    refine (awake_any _ HW.out).mono ?_
    rintro e w0 ⟨rfl, hb0⟩
    have HB0 := Lib.hid hb0
    clear hb0
    go_wp2_with fail
    go_ret
    exact ⟨rfl, HB0.out⟩
end Go.Proofs.YtfgcpkobfmcflaaGreatDoor
