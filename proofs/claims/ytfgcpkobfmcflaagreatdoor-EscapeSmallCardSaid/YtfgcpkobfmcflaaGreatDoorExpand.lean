/-
  escape.Expand.
-/
import Derived.Test.YtfgcpkobfmcflaaGreatDoorExpW
import Derived.Shelf.Abstract
namespace Go.Proofs.YtfgcpkobfmcflaaGreatDoor
open Go.RowKit

theorem plain_id (t : ByteArray) (w : World) : Calls Tryz.prog 17 #[.string t] w fun e w' => e = .returned (.string t) ∧ w' = w := by
  go_enter Tryz.func17, Tryz.ntmps17
  go_wp2
  go_ret
  exact ⟨rfl, rfl⟩

theorem flat_false (l : List UInt8) : l.map (flat false) = l := by
  have : flat false = id := by funext c; simp [flat]
  rw [this]; simp

theorem enters_id : ∀ args w, (callFunc 17 args).run Tryz.prog w = .ok (.enter 17 args) w :=
  Go.Proofs.enters_of Tryz.func17 (by kernel_rfl) rfl

theorem Expand_any (s : ByteArray) (hs : s.size ≤ 20000) (w : World) (hw : Env w) :
    Calls Tryz.prog 9 #[.string s] w fun e w' => e = .returned (expV false s.data.toList) ∧ Below w.heap.size w w' := by
  have hC := expanded_any false 17 #[] none (fun _ => True) s hs w enters_id (fun t W _ _ _ => by
    refine (plain_id t W).mono ?_
    rintro e w' ⟨rfl, rfl⟩
    refine ⟨?_, trivial, ⟨rfl, rfl, rfl, Nat.le_refl _, fun _ _ _ => rfl⟩⟩
    rw [flat_false]) (fun _ _ _ _ => trivial) trivial hw (fun k h => by cases h) (fun k h => by cases h)
  have HC := Lib.hid hC
  clear hC
  obtain ⟨v, hv⟩ : ∃ v, v = expV false s.data.toList := ⟨_, rfl⟩
  rw [← hv] at HC ⊢
  have hsh : ∃ a b, v = .tuple #[a, b] := by
    rw [hv]; unfold expV
    split
    · exact ⟨_, _, rfl⟩
    · exact ⟨_, _, rfl⟩
  obtain ⟨a, b, rfl⟩ := hsh
  clear hv
  go_enter Tryz.func9, Tryz.ntmps9
  go_wp2_with (go_at_call 16; refine HC.out.mono ?_; rintro e w' ⟨rfl, hb⟩)
  go_ret2
  exact ⟨rfl, hb.none⟩
end Go.Proofs.YtfgcpkobfmcflaaGreatDoor
