/-
  strings.NewReplacer: a Replacer that is not built yet, over a copy of its list.
-/
import Derived.Test.YtfgcpkobfmcflaaGreatDoorOnceD
import Derived.SliceStrings
namespace Go.Proofs.YtfgcpkobfmcflaaGreatDoor
open Go.RowKit

theorem str_info : (Tryz.prog.info? 9).map (fun i => (i.zero, i.size, i.bytes)) = some (some (.string ⟨#[]⟩), 1, 16) := by kernel_rfl

theorem addr_add (g j : Nat) : (⟨g, 0, none⟩ : Addr).add j = ⟨g, j, none⟩ := by unfold Addr.add; split <;> simp_all

/-- A slice of texts. -/
def Strs (w : World) (b : Nat) (ss : List ByteArray) : Prop := ∃ cur, w.heap[b]? = some (.cells cur 9 (0, 0)) ∧ ∀ (j : Nat) x, ss[j]? = some x → cur[j]? = some (.string x)

theorem Strs.cell {w : World} {b : Nat} {ss : List ByteArray} (h : Strs w b ss) (j : Nat) (x : ByteArray) (hx : ss[j]? = some x) : w.cell? ⟨b, j, none⟩ = some (.string x) := by
  obtain ⟨cur, hb, hc⟩ := h
  rw [cell_of_row w b j _ _ _ hb]
  exact hc j x hx

theorem Strs.kept {w w' : World} {b : Nat} {ss : List ByteArray} (h : Strs w b ss) (hk : w'.heap[b]? = w.heap[b]?) : Strs w' b ss := by
  obtain ⟨cur, hb, hc⟩ := h
  exact ⟨cur, hk.trans hb, hc⟩

theorem Strs.lt {w : World} {b : Nat} {ss : List ByteArray} (h : Strs w b ss) : b < w.heap.size := by
  obtain ⟨cur, hb, _⟩ := h
  exact (Array.getElem?_eq_some_iff.1 hb).1

theorem Strs.others {w w' : World} {b : Nat} {ss : List ByteArray} {x : Option Nat} (h : Strs w b ss) (ho : Lib.OthersKept 5 x w w') (hx : some b ≠ x) : Strs w' b ss := by
  obtain ⟨cur, hb, hc⟩ := h
  exact ⟨cur, ho b _ hb hx (fun c fz e => by injection e with _ e2 _; exact absurd e2 (by decide)), hc⟩

set_option maxRecDepth 100000 in
set_option maxHeartbeats 1600000 in
theorem newReplacer_any (b n c0 : Nat) (ss : List ByteArray) (hn : ss.length = n) (h2 : n % 2 = 0) (hpos : 0 < n) (hmax : n ≤ 100) (w : World) (hs : Strs w b ss) :
    Calls Tryz.prog 19 #[.slice (some ⟨b, 0, none⟩) n c0] w fun e w' => ∃ r ob cap, e = .returned (.pointer (some ⟨r, 0, none⟩)) ∧
      RB w' r 0 0 .nilIface (.slice (some ⟨ob, 0, none⟩) n cap) ∧ Strs w' ob ss ∧ w.heap.size ≤ r ∧ w.heap.size ≤ ob ∧ ob ≠ r ∧ Below w.heap.size w w' := by
  obtain ⟨i0, hi, hz0, hz1, hz2⟩ := info_parts str_info
  have hr : Int.tmod (n : Int) 2 = 0 := by rw [Int.tmod_eq_emod_of_nonneg (by omega)]; omega
  have HS := Lib.hid hs
  have HN := Lib.hid hn
  clear hs hn h2
  go_enter Tryz.func19, Tryz.ntmps19
  go_wp2_with (at_builtin; refine wpList_append_own _ rfl _ _ 32 rfl w.heap.size 9 i0 (.string ⟨#[]⟩) 1 16 Tryz.underlying32 hi hz0 hz1 hz2 rfl (by decide) _ 0 [] rfl (World.ownsRow_nil _ _ _ _) ⟨b, 0, none⟩ n c0 (ss.map Value.string) rfl ?c0 ?c1 ?c2 ?c3 ?c4 ?c5 ?_)
  case c0 => simp [HN.out]
  case c1 =>
    intro j u hj
    rw [List.getElem?_map] at hj
    cases hq : ss[j]? with
    | none => simp [hq] at hj
    | some x =>
      simp [hq] at hj
      subst hj
      rw [addr_add]
      exact HS.out.cell j x hq
  case c2 =>
    intro u hu
    rw [List.mem_map] at hu
    obtain ⟨x, _, rfl⟩ := hu
    rfl
  case c3 => unfold maxLen; omega
  case c4 => omega
  case c5 => exact Nat.le_refl _
  intro v' w1 hown hgrow hnil
  obtain ⟨g, cap, rfl, hbg, hcells⟩ : ∃ g cap, v' = .slice (some ⟨g, 0, none⟩) n cap ∧ w.heap.size ≤ g ∧ Strs w1 g ss := by
    rcases hown.2 with ⟨_, h0⟩ | ⟨g, cap, cur, hv, hg, hh, _⟩
    · omega
    · subst hv
      refine ⟨g, cap, by simp, hg, cur, hh, ?_⟩
      intro j x hx
      have := hown.cells (g := g) rfl j (.string x) (by simp [hx])
      rwa [addr_add, cell_of_row _ _ _ _ _ _ hh] at this
  have hb1 : Below w.heap.size w w1 := (Below.refl _ _).grown hgrow (Nat.le_refl _) (fun k hk => by simp [Value.ownBlock] at hk)
  have HB1 := Lib.hid hb1
  have hgl := hown.lt g rfl
  have HC := Lib.hid hcells
  have HGL := Lib.hid hgl
  clear hb1 hown hgrow hnil hcells hgl
  go_wp2_with fail
  go_ret
  refine ⟨w1.heap.size, g, cap, rfl, ?_, ?_, HB1.out.size, hbg, Nat.ne_of_lt HGL.out.2, HB1.out.alloc HB1.out.size _⟩
  · exact heap_alloc_new _ _
  · exact HC.out.kept (Below.heap_alloc _ _ _ HGL.out.2)
end Go.Proofs.YtfgcpkobfmcflaaGreatDoor
