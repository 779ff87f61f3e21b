/-
  (*strings.Replacer).buildOnce, whatever is built; and Replace, by whatever was built.
-/
import Derived.Test.YtfgcpkobfmcflaaGreatDoorRepB
namespace Go.Proofs.YtfgcpkobfmcflaaGreatDoor
open Go.RowKit

set_option maxRecDepth 100000 in
set_option maxHeartbeats 1000000 in
theorem buildOnce_any (r : Nat) (w : World) (rv ov : Value) (ti : TypeId) (tb : Nat) (h : RB w r 0 1 rv ov) (T : World → Prop) (hT : ∀ W W' : World, T W → W.grownBy W' (some r) → T W')
    (hb : Calls Tryz.prog 40 #[.pointer (some ⟨r, 0, none⟩)] w fun e w' => e = .returned (.iface ti (.pointer (some ⟨tb, 0, none⟩))) ∧ Below w.heap.size w w' ∧ T w') :
    Calls Tryz.prog 29 #[.pointer (some ⟨r, 0, none⟩)] w fun e w' => e = .returned (.tuple #[]) ∧ RB w' r 0 1 (.iface ti (.pointer (some ⟨tb, 0, none⟩))) (.slice none 0 0) ∧ w.grownBy w' (some r) ∧ T w' := by
  have H := Lib.hid h
  have HT := Lib.hid hT
  have HB := Lib.hid hb
  have hlt := h.lt
  clear h hT hb
  go_enter Tryz.func29, Tryz.ntmps29
  go_wp2_with fail
  refine HB.out.mono ?_
  rintro e w1 ⟨rfl, hb1, ht1⟩
  have hR : RB w1 r 0 1 rv ov := (hb1.block r hlt).trans H.out
  have c3 := hR.c3
  have c4 := hR.c4
  have f3 := hR.fz 3
  have f4 := hR.fz 4
  have HR := Lib.hid hR
  have HB1 := Lib.hid hb1
  clear hR hb1
  go_wp2_with fail
  go_end0
  refine ⟨rfl, (HR.out.set3 _).set4 _, ?_, ?_⟩
  · exact grown_trans (grown_below HB1.out _) (grown_trans (grown_set w1 r 3 _) (grown_set _ r 4 _))
  · exact HT.out _ _ ht1 (grown_trans (grown_set w1 r 3 _) (grown_set _ r 4 _))
end Go.Proofs.YtfgcpkobfmcflaaGreatDoor
