/-
  glyph.among and glyph.Char: what they answer.
-/
import Derived.Test.YtfgcpkobfmcflaaGreatDoorProg
import Derived.WalkKit
import Derived.WalkSpells
import Derived.WalkLawsBesides
import Derived.Lib.Hide
namespace Go.Proofs.YtfgcpkobfmcflaaGreatDoor
open Go.RowKit

theorem ret_bool {a b : Bool} (h : a = b) : Ending.returned (.bool a) = Ending.returned (.bool b) := by rw [h]

def amongB (c : Int) (rs : List (Int × Int)) : Bool := rs.any fun r => decide (r.1 ≤ c) && decide (c ≤ r.2)

theorem amongB_yes {c : Int} {rs : List (Int × Int)} {k : Nat} (h : k < rs.length) (h1 : rs[k].1 ≤ c) (h2 : c ≤ rs[k].2) : amongB c rs = true := by
  unfold amongB
  rw [List.any_eq_true]
  exact ⟨rs[k], List.getElem_mem h, by simp [h1, h2]⟩

theorem amongB_next {c : Int} {rs : List (Int × Int)} {k : Nat} (h : k < rs.length) (ha : amongB c (rs.take k) = false) (hn : ¬ (rs[k].1 ≤ c ∧ c ≤ rs[k].2)) : amongB c (rs.take (k + 1)) = false := by
  unfold amongB at *
  rw [List.take_succ_eq_append_getElem h, List.any_append, ha]
  simp only [List.any_cons, List.any_nil, Bool.or_false, Bool.false_or]
  rw [Bool.and_eq_false_iff]
  by_cases h1 : rs[k].1 ≤ c
  · right; simp; omega
  · left; simp; omega

set_option maxHeartbeats 400000 in
theorem among_any (c : Int) (rs : List (Int × Int)) (b cap : Nat) (w : World) (hn : rs.length ≤ 100)
    (hc : ∀ k, k < rs.length → w.cell? ⟨b, k * 2, none⟩ = some (.int .i64 (rs.getD k (0, 0)).1) ∧ w.cell? ⟨b, k * 2 + 1, none⟩ = some (.int .i64 (rs.getD k (0, 0)).2)) :
    Calls Tryz.prog 53 #[.int .i64 c, .slice (some ⟨b, 0, none⟩) rs.length cap] w fun e w' => e = .returned (.bool (amongB c rs)) ∧ Below w.heap.size w w' := by
  have HC := Lib.hid hc
  clear hc
  go_enter Tryz.func53, Tryz.ntmps53
  go_wp2
  go_loopw [9] (fun i wr => ∃ k : Nat, k ≤ rs.length ∧ i = .int .i64 k ∧ amongB c (rs.take k) = false ∧ Below w.heap.size w wr) (fun i wr => rs.length - (intOf i).toNat)
  case atStart => exact ⟨0, Nat.zero_le _, rfl, rfl, Below.refl _ _⟩
  case round =>
    obtain ⟨k, hk, rfl, ha, hb⟩ := hrel
    by_cases hlt : k < rs.length
    · obtain ⟨c1, c2⟩ := HC.out k hlt
      have b1 := World.block_lt_of_cell? _ _ c1
      have d1 := (hb.cell b1).trans c1
      have d2 := (hb.cell (p := ⟨b, k * 2 + 1, none⟩) b1).trans c2
      clear c1 c2
      have HA := Lib.hid ha
      clear ha
      have HS := Lib.hid hb.size
      go_wp2
      · go_ret
        exact ⟨ret_bool (amongB_yes hlt ‹_› ‹_›).symm, hb.alloc HS.out _⟩
      all_goals
        go_roundw
        case rel => exact ⟨k + 1, by omega, by go_num, amongB_next hlt HA.out (by omega), hb.alloc HS.out _⟩
        case measure => simp [intOf]; omega
    · go_wp2
      go_ret
      have hk' : k = rs.length := by omega
      subst hk'
      rw [List.take_length] at ha
      exact ⟨ret_bool ha.symm, hb⟩

def charRs : List (Int × Int) := [(9, 10), (13, 13), (0x20, 0xD7FF), (0xE000, 0xFFFD), (0x10000, 0x10FFFF)]
def isChar (c : Int) : Bool := amongB c charRs

theorem Char_any (c : Int) (w : World) : Calls Tryz.prog 35 #[.int .i64 c] w fun e w' => e = .returned (.bool (isChar c)) ∧ Below w.heap.size w w' := by
  go_enter Tryz.func35, Tryz.ntmps35
  go_wp2_with fail
  refine (among_any c charRs w.heap.size 5 _ (by decide) ?_).mono ?_
  · intro k hk
    have hk : k < 5 := hk
    have h5 : k = 0 ∨ k = 1 ∨ k = 2 ∨ k = 3 ∨ k = 4 := by omega
    rcases h5 with rfl | rfl | rfl | rfl | rfl <;> simp [charRs]
  · rintro e w1 ⟨rfl, hb⟩
    go_wp2
    go_ret
    exact ⟨ret_bool rfl, (((Below.refl _ _).alloc (Nat.le_refl _) _)).trans (hb.mono (by simp))⟩
end Go.Proofs.YtfgcpkobfmcflaaGreatDoor
