/-
  awake, and what all laws of package escape share.
-/
import Derived.Test.YtfgcpkobfmcflaaGreatDoorEscapeA
import Derived.Test.YtfgcpkobfmcflaaGreatDoorExpand
import Derived.Test.YtfgcpkobfmcflaaGreatDoorValue
namespace Go.Proofs.YtfgcpkobfmcflaaGreatDoor
open Go.RowKit

def expS (attr : Bool) (l : List UInt8) : ByteArray := match ex attr none l with | some r => ⟨r.toArray⟩ | none => ⟨#[]⟩
def expC (attr : Bool) (l : List UInt8) : Int := match ex attr none l with | some _ => 0 | none => 60

theorem expV_two (attr : Bool) (l : List UInt8) : expV attr l = .tuple #[.string (expS attr l), .int .i64 (expC attr l)] := by
  unfold expV expS expC
  cases ex attr none l <;> rfl

theorem Env.keep {w w' : World} (h : Env w) (hb : Below w.heap.size w w') : Env w' := h.below hb

theorem Expand_two (s : ByteArray) (hs : s.size ≤ 20000) (w : World) (hw : Env w) :
    Calls Tryz.prog 9 #[.string s] w fun e w' => e = .returned (.tuple #[.string (expS false s.data.toList), .int .i64 (expC false s.data.toList)]) ∧ Below w.heap.size w w' := by
  rw [← expV_two]; exact Expand_any s hs w hw

theorem Value_two (s : ByteArray) (hs : s.size ≤ 20000) (w : World) (hw : Env w) :
    Calls Tryz.prog 11 #[.string s] w fun e w' => e = .returned (.tuple #[.string (expS true s.data.toList), .int .i64 (expC true s.data.toList)]) ∧ Below w.heap.size w w' := by
  rw [← expV_two]; exact Value_any s hs w hw

theorem below_two {w w1 w2 : World} (h : Below w.heap.size w w1) (k : Below w1.heap.size w1 w2) : Below w.heap.size w w2 := h.trans (k.mono h.size)

theorem aw1 : expV false [97, 38, 108, 116, 59, 38, 35, 120, 52, 49, 59, 38, 97, 109, 112, 59, 108, 116, 59] = .tuple #[.string ⟨#[97, 60, 65, 38, 108, 116, 59]⟩, .int .i64 0] := by kernel_rfl
theorem aw2 : expV false [38, 35, 48, 59] = .tuple #[.string ⟨#[]⟩, .int .i64 60] := by rfl
theorem aw3 : expV true [97, 10, 38, 35, 49, 48, 59] = .tuple #[.string ⟨#[97, 32, 10]⟩, .int .i64 0] := by kernel_rfl
theorem aw4 : (escL false [60]).toArray = #[38, 108, 116, 59] := by rfl

set_option maxRecDepth 100000 in
set_option maxHeartbeats 1000000 in
theorem awake_any (w : World) (hw : Env w) :
    Calls Tryz.prog 8 #[] w fun e w' => e = .returned (.bool true) ∧ Below w.heap.size w w' := by
  have HW := Lib.hid hw
  clear hw
  go_enter Tryz.func8, Tryz.ntmps8
  go_wp2_with fail
  refine (Expand_any _ (by decide) _ HW.out).mono ?_
  rintro e w1 ⟨rfl, hb1⟩
  have HB1 := Lib.hid hb1
  clear hb1
  rw [aw1]
  go_wp2_with fail
  refine (Expand_any _ (by decide) _ (HW.out.below HB1.out)).mono ?_
  rintro e w2 ⟨rfl, hb2⟩
  have HB2 := Lib.hid (below_two HB1.out hb2)
  clear hb2
  rw [aw2]
  go_wp2_with fail
  refine (Value_any _ (by decide) _ (HW.out.below HB2.out)).mono ?_
  rintro e w3 ⟨rfl, hb3⟩
  have HB3 := Lib.hid (below_two HB2.out hb3)
  clear hb3
  rw [aw3]
  go_wp2_with fail
  refine (Escape_any _ _ (by decide) _).mono ?_
  rintro e w4 ⟨rfl, hb4⟩
  have HB4 := Lib.hid (below_two HB3.out hb4)
  clear hb4
  rw [aw4]
  go_wp2_with fail
  go_ret
  exact ⟨rfl, HB4.out⟩
end Go.Proofs.YtfgcpkobfmcflaaGreatDoor
