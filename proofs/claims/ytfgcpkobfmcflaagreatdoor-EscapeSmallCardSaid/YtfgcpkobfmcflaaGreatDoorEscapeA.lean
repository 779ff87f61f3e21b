/-
  escape.Escape of a value, and of both.
-/
import Derived.Test.YtfgcpkobfmcflaaGreatDoorEscape
namespace Go.Proofs.YtfgcpkobfmcflaaGreatDoor
open Go.RowKit

def headList : List Value := [.string ⟨#[38]⟩, .string ⟨#[38, 97, 109, 112, 59]⟩, .string ⟨#[60]⟩, .string ⟨#[38, 108, 116, 59]⟩, .string ⟨#[62]⟩, .string ⟨#[38, 103, 116, 59]⟩, .string ⟨#[13]⟩, .string ⟨#[38, 35, 120, 68, 59]⟩]
def tailList : List Value := [.string ⟨#[34]⟩, .string ⟨#[38, 113, 117, 111, 116, 59]⟩, .string ⟨#[9]⟩, .string ⟨#[38, 35, 120, 57, 59]⟩, .string ⟨#[10]⟩, .string ⟨#[38, 35, 120, 65, 59]⟩]

theorem all_list : headList ++ tailList = (pairList (reps true)).map Value.string := by rfl

theorem row_block (w : World) (g : Nat) (xs : List Value) (h : w.heap[g]? = some (.cells xs.toArray 9 (0, 0))) (hm : xs.length ≤ 100) : w.ownsRow g 9 1 (.slice (some ⟨g, 0, none⟩) xs.length xs.length) xs.length xs := by
  refine ⟨by omega, .inr ⟨g, _, _, rfl, Nat.le_refl _, h, Nat.le_refl _, by unfold maxLen; omega, by simp, ?_⟩⟩
  simp

set_option maxRecDepth 100000 in
set_option maxHeartbeats 1000000 in
theorem Escape_attr (s : ByteArray) (hs : s.size ≤ 20000) (w : World) :
    Calls Tryz.prog 13 #[.string s, .bool true] w fun e w' => e = .returned (.string ⟨(escL true s.data.toList).toArray⟩) ∧ Below w.heap.size w w' := by
  obtain ⟨i0, hi, hz0, hz1, hz2⟩ := info_parts str_info
  go_enter Tryz.func13, Tryz.ntmps13
  go_wp2_with (at_builtin; refine wpList_append_own _ rfl _ _ 32 rfl w.heap.size 9 i0 (.string ⟨#[]⟩) 1 16 Tryz.underlying32 hi hz0 hz1 hz2 rfl (by decide) (.slice (some ⟨w.heap.size, 0, none⟩) 8 8) 8 headList rfl ?c7 ⟨w.heap.size + 1, 0, none⟩ 6 6 tailList ?c8 rfl ?c1 ?c2 (by unfold maxLen; omega) (by omega) (by simp; omega) ?_)
  case c7 =>
    refine row_block _ w.heap.size headList ?_ (by decide)
    rw [Below.heap_alloc _ _ _ (by simp)]
    exact heap_alloc_new _ _
  case c8 => rfl
  case c1 =>
    intro j u hj
    rw [addr_add]
    have hh := heap_alloc_new (w.alloc (.cells headList.toArray 9 (0, 0))) (.cells tailList.toArray 9 (0, 0))
    rw [show (w.alloc (.cells headList.toArray 9 (0, 0))).heap.size = w.heap.size + 1 from by simp] at hh
    refine (cell_of_row _ _ j _ _ _ hh).trans ?_
    simpa using hj
  case c2 => decide
  intro v' w1 hown hgrow hnil
  rw [all_list] at hown
  obtain ⟨g, cap, rfl, hbg, hcells⟩ : ∃ g cap, v' = .slice (some ⟨g, 0, none⟩) 14 cap ∧ w.heap.size ≤ g ∧ Strs w1 g (pairList (reps true)) := by
    rcases hown.2 with ⟨_, h0⟩ | ⟨g, cap, cur, hv, hg, hh, _⟩
    · omega
    · subst hv
      refine ⟨g, cap, by simp, hg, cur, hh, ?_⟩
      intro j x hx
      have := hown.cells (g := g) rfl j (.string x) (by simp [hx])
      rwa [addr_add, cell_of_row _ _ _ _ _ _ hh] at this
  have hb1 : Below w.heap.size w w1 := (((Below.refl _ _).alloc (Nat.le_refl _) _).alloc (by simp) _).grown hgrow (by simp; omega) (fun k hk => by simp [Value.ownBlock] at hk; omega)
  have HB1 := Lib.hid hb1
  have HC := Lib.hid hcells
  clear hb1 hown hgrow hnil hcells
  go_wp2_with fail
  refine (newReplacer_any g 14 cap (pairList (reps true)) rfl (by decide) (by decide) (by decide) _ HC.out).mono ?_
  rintro e w2 ⟨r, ob, cap2, rfl, hR, hS, hr, ho, hne, hb2⟩
  have hbw : Below w.heap.size w w2 := HB1.out.trans (hb2.mono HB1.out.size)
  have hr1 : w.heap.size ≤ r := Nat.le_trans HB1.out.size hr
  have HC2 := Lib.hid (replace_text true r ob cap2 s hs w2 hR hS hne)
  have HBW := Lib.hid hbw
  have HR1 := Lib.hid hr1
  clear hR hS hr ho hne hb2 hbw hr1
  go_wp2_with fail
  refine HC2.out.mono ?_
  rintro e w3 ⟨rfl, hg3⟩
  have HG := Lib.hid hg3
  clear hg3
  go_wp2_with fail
  go_ret
  refine ⟨rfl, ?_⟩
  have hx := HG.out
  have hy := HBW.out
  have hz := HR1.out
  exact ⟨hx.os.trans hy.os, hx.tape.trans hy.tape, hx.output.trans hy.output, Nat.le_trans hy.size hx.size, fun k hk => (hx.block k (Nat.lt_of_lt_of_le hk hy.size) (fun e => by injection e with e; omega)).trans (hy.block k hk)⟩

theorem Escape_any (attr : Bool) (s : ByteArray) (hs : s.size ≤ 20000) (w : World) :
    Calls Tryz.prog 13 #[.string s, .bool attr] w fun e w' => e = .returned (.string ⟨(escL attr s.data.toList).toArray⟩) ∧ Below w.heap.size w w' := by
  cases attr with
  | false => exact Escape_text s hs w
  | true => exact Escape_attr s hs w
end Go.Proofs.YtfgcpkobfmcflaaGreatDoor
