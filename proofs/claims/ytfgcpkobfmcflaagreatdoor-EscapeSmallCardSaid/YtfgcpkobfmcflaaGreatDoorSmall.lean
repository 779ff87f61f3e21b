/-
  The walk of EscapeSmall.
-/
import Derived.Test.YtfgcpkobfmcflaaGreatDoorExpands
import Derived.Test.YtfgcpkobfmcflaaGreatDoorPieces
set_option linter.unusedVariables false
namespace Go.Proofs.YtfgcpkobfmcflaaGreatDoor
open Go.RowKit

def smallList : List ByteArray := [⟨#[38, 108, 116, 59]⟩, ⟨#[38, 35, 54, 53, 59]⟩, ⟨#[38, 35, 120, 52, 49, 59]⟩, ⟨#[38, 35]⟩, ⟨#[120]⟩, ⟨#[38]⟩, ⟨#[59]⟩, ⟨#[97]⟩, ⟨#[10]⟩, ⟨#[38, 97, 109, 112, 59]⟩, ⟨#[48]⟩, ⟨#[38, 35, 48, 59]⟩, ⟨#[38, 35, 120, 68, 56, 48, 48, 59]⟩, ⟨#[38, 113, 117, 111, 116, 59]⟩, ⟨#[38, 35, 120, 49, 48, 70, 70, 70, 70, 59]⟩, ⟨#[38, 35, 49, 49, 49, 52, 49, 49, 50, 59]⟩]

theorem smallList_max : ∀ x ∈ smallList, x.size ≤ 10 := by decide

theorem small_strs (w : World) : Strs (w.alloc (.cells (smallList.map Value.string).toArray 9 (0, 0))) w.heap.size smallList := by
  refine ⟨_, heap_alloc_new w _, ?_⟩
  intro j x hx
  simp [hx]

set_option maxRecDepth 100000 in
set_option maxHeartbeats 4000000 in
theorem small_any (v : Value) (w : World) (hw : Env w) (hv : BytesAt w v) :
    Calls Tryz.prog 7 #[v] w fun e w' => e = .returned (.bool true) ∧ Below w.heap.size w w' := by
  have HW := Lib.hid hw
  have hb0 : Below w.heap.size w (w.alloc (.cells (smallList.map Value.string).toArray 9 (0, 0))) := (Below.refl _ _).alloc (Nat.le_refl _) _
  have KP := Lib.hid (pieces_any v w.heap.size 16 16 10 smallList rfl (by decide) (by decide) (by decide) smallList_max _ (small_strs w) (hv.below hb0))
  have HB00 := Lib.hid hb0
  clear hw hv hb0
  go_enter Tryz.func7, Tryz.ntmps7
  go_wp2_with fail
  refine (KP.out).mono ?_
  rintro e wp ⟨⟨s, rfl, hs⟩, hbp⟩
  have HBP := Lib.hid (below_two HB00.out hbp)
  have K1 := Lib.hid (Expand_two s (by omega))
  have K2 := Lib.hid (refExpand_any s (by omega))
  have K3 := Lib.hid (Value_two s (by omega))
  have K4 := Lib.hid (refValue_any s (by omega))
  obtain ⟨a1, ha1⟩ : ∃ x, x = expS false s.data.toList := ⟨_, rfl⟩
  obtain ⟨a2, ha2⟩ : ∃ x, x = expS true s.data.toList := ⟨_, rfl⟩
  obtain ⟨c1, hc1⟩ : ∃ x, x = expC false s.data.toList := ⟨_, rfl⟩
  obtain ⟨c2, hc2⟩ : ∃ x, x = expC true s.data.toList := ⟨_, rfl⟩
  rw [← ha1, ← hc1] at K1 K2
  rw [← ha2, ← hc2] at K3 K4
  clear hbp ha1 ha2 hc1 hc2 KP
  go_wp2_with fail
  refine (K1.out _ (HW.out.below HBP.out)).mono ?_
  rintro e w0 ⟨rfl, hb0⟩
  have HB0 := Lib.hid (below_two HBP.out hb0)
  clear hb0
  go_wp2_with fail
  refine (K2.out _).mono ?_
  rintro e w1 ⟨rfl, hb1⟩
  have HB1 := Lib.hid (below_two HB0.out hb1)
  clear hb1
  go_wp2_with fail
  refine (K3.out _ (HW.out.below HB1.out)).mono ?_
  rintro e w2 ⟨rfl, hb2⟩
  have HB2 := Lib.hid (below_two HB1.out hb2)
  clear hb2
  go_wp2_with fail
  refine (K4.out _).mono ?_
  rintro e w3 ⟨rfl, hb3⟩
  have HB3 := Lib.hid (below_two HB2.out hb3)
  clear hb3
  go_wp2_with fail
  refine (awake_any _ (HW.out.below HB3.out)).mono ?_
  rintro e w4 ⟨rfl, hb4⟩
  have HB4 := Lib.hid (below_two HB3.out hb4)
  clear hb4
  go_wp2_with fail
  go_ret
  exact ⟨rfl, HB4.out⟩
end Go.Proofs.YtfgcpkobfmcflaaGreatDoor
