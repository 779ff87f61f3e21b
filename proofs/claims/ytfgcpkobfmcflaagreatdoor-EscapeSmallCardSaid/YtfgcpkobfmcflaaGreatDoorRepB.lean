/-
  (*strings.Replacer).build and buildOnce at the list of package escape's Value: a table of bytes.
-/
import Derived.Test.YtfgcpkobfmcflaaGreatDoorRepN
namespace Go.Proofs.YtfgcpkobfmcflaaGreatDoor
open Go.RowKit

def blankList : List ByteArray := [⟨#[9]⟩, ⟨#[32]⟩, ⟨#[10]⟩, ⟨#[32]⟩, ⟨#[13]⟩, ⟨#[32]⟩]

/-- A table of bytes in block b. -/
def BT (w : World) (b : Nat) (f : Nat → Int) : Prop := w.heap[b]? = some (.cells ((List.range 256).map fun c => Value.int .u8 (f c)).toArray 102 (0, 0))

def zeros256 : Array Value := Array.replicate 256 (.int .u8 0)
set_option maxRecDepth 100000 in
theorem build_zero (w : World) : (Instr.build 102 #[]).run Tryz.prog w = .ok (.agg zeros256) w := by kernel_rfl

/-- What has just been laid, laid again. -/
theorem store_same {P : Program} (w : World) (cs : Array Value) (T : TypeId) (h1 : ∀ v ∈ cs.toList, v.oneCell' = true) :
    (storeCells ⟨w.heap.size, 0, none⟩ cs.toList).run P (w.alloc (.cells cs T)) = .ok () (w.alloc (.cells cs T)) := by
  have hg : (w.alloc (.cells cs T)).heap[w.heap.size]? = some (.cells cs T (0, 0)) := heap_alloc_new w _
  have h := run_storeCells_atF P w.heap.size 0 T (0, 0) cs.toList 0 cs _ hg (Nat.le_refl _) (by simp) h1
  have e : (cs.toList.take (0 + 0) ++ cs.toList ++ cs.toList.drop (0 + 0 + cs.toList.length)).toArray = cs := by
    have h0 : cs.toList.drop (0 + 0 + cs.toList.length) = [] := List.drop_eq_nil_of_le (by omega)
    rw [h0]; simp
  rw [e, setRow_self _ _ _ _ _ hg] at h
  exact h

theorem first_byte (c : UInt8) (w : World) : (Instr.index 9 (.string ⟨#[c]⟩) (.int .i64 0)).run Tryz.prog w = .ok (.int .u8 c.toNat) w := by
  go_simp
  rfl

/-- The table when k bytes of it are laid. -/
def tabK (k : Nat) : Array Value := ((List.range 256).map fun c => if c < k then Value.int .u8 c else Value.int .u8 0).toArray

theorem tabK_size (k : Nat) : (tabK k).size = 256 := by simp [tabK]
theorem tabK_get (k c : Nat) (h : c < 256) : (tabK k)[c]? = some (if c < k then Value.int .u8 c else Value.int .u8 0) := by
  simp [tabK, h]
theorem tabK_succ (k : Nat) (h : k < 256) : (tabK k).setIfInBounds k (.int .u8 (k : Int)) = tabK (k + 1) := by
  apply Array.ext_getElem?
  intro i
  rw [Array.getElem?_setIfInBounds]
  by_cases e : k = i
  · subst e
    rw [if_pos rfl, if_pos (by rw [tabK_size]; exact h), tabK_get _ _ h, if_pos (by omega)]
  · rw [if_neg e]
    by_cases hi : i < 256
    · rw [tabK_get _ _ hi, tabK_get _ _ hi]
      by_cases hk : i < k
      · rw [if_pos hk, if_pos (by omega)]
      · rw [if_neg hk, if_neg (by omega)]
    · rw [Array.getElem?_eq_none (by rw [tabK_size]; omega), Array.getElem?_eq_none (by rw [tabK_size]; omega)]

theorem tab_set (w : World) (b k : Nat) (cs : Array Value) (T : TypeId) (v : Value) (h : w.heap[b]? = some (.cells cs T (0, 0))) : (w.setCell ⟨b, k, none⟩ v).heap[b]? = some (.cells (cs.setIfInBounds k v) T (0, 0)) := heap_setCell_same w b k cs T v h

theorem tab_cell {w : World} {b k : Nat} (c : Nat) (T : TypeId) (h : w.heap[b]? = some (.cells (tabK k) T (0, 0))) (hc : c < 256) : ∃ x : Value, w.cell? ⟨b, c, none⟩ = some x ∧ w.frozen? ⟨b, c, none⟩ = false :=
  ⟨_, by rw [cell_of_row w b c _ _ _ h, tabK_get k c hc], frozen_of_row w b c _ _ h⟩

set_option maxRecDepth 100000 in
set_option maxHeartbeats 4000000 in
theorem build_bytes (r ob cap : Nat) (w : World) (d st : Int) (rv : Value) (hr : RB w r d st rv (.slice (some ⟨ob, 0, none⟩) 6 cap)) (hs : Strs w ob blankList) :
    Calls Tryz.prog 40 #[.pointer (some ⟨r, 0, none⟩)] w fun e w' => e = .returned (.iface 103 (.pointer (some ⟨w.heap.size, 0, none⟩))) ∧
      BT w' w.heap.size (fun c => ((flat true (UInt8.ofNat c)).toNat : Int)) ∧ Below w.heap.size w w' := by
  have c4 := hr.c4
  have s0 := hs.cell 0 _ rfl
  have s1 := hs.cell 1 _ rfl
  have s2 := hs.cell 2 _ rfl
  have s3 := hs.cell 3 _ rfl
  have s4 := hs.cell 4 _ rfl
  have s5 := hs.cell 5 _ rfl
  clear hr hs
  have hbz := build_zero
  have hst := store_same (P := Tryz.prog) w Tryz.zeroCells102 102 (by decide +kernel)
  have hz0 : Tryz.zeroCells102 = tabK 0 := by kernel_rfl
  rw [hz0] at hst
  go_enter Tryz.func40, Tryz.ntmps40
  go_wp2_with fail
  refine wp_loop_rounds 4 ?_
  rw [rounds_succ]
  go_wp2_with fail
  rw [rounds_succ]
  go_wp2_with fail
  rw [rounds_succ]
  go_wp2_with fail
  rw [rounds_succ]
  go_wp2_with fail
  clear hz0 hst hbz
  have hbs : Below w.heap.size w (w.alloc (.cells (tabK 0) 102)) := (Below.refl _ _).alloc (Nat.le_refl _) _
  have hb0 : (w.alloc (.cells (tabK 0) 102)).heap[w.heap.size]? = some (.cells (tabK 0) 102 (0, 0)) := heap_alloc_new w _
  have HBS := Lib.hid hbs
  have HB0 := Lib.hid hb0
  have obl := World.block_lt_of_cell? _ _ s0
  clear hbs hb0
  go_loopw [61, 7] (fun v _ wr => ∃ k : Nat, k ≤ 256 ∧ v = .int .i64 k ∧ wr.heap[w.heap.size]? = some (.cells (tabK k) 102 (0, 0)) ∧ Below w.heap.size w wr) (fun v _ _ => 256 - (intOf v).toNat)
  case atStart => exact ⟨0, by omega, rfl, HB0.out, HBS.out⟩
  case round =>
    obtain ⟨k, hk, rfl, htab, hb⟩ := hrel
    by_cases hlt : k < 256
    · obtain ⟨x, hx, hfz⟩ := tab_cell k _ htab hlt
      have HT := Lib.hid htab
      have HB := Lib.hid hb
      clear htab hb
      go_wp2_with fail
      refine ⟨⟨k + 1, by omega, by go_num, ?_, HB.out.setCell (p := ⟨w.heap.size, k, none⟩) (Nat.le_refl _) _⟩, by simp [intOf]; omega⟩
      rw [tab_set _ _ _ _ _ _ HT.out, tabK_succ k hlt]
    · obtain rfl : k = 256 := by omega
      have e0 := (hb.cell (p := ⟨ob, 0, none⟩) obl).trans s0
      have e1 := (hb.cell (p := ⟨ob, 1, none⟩) obl).trans s1
      have e2 := (hb.cell (p := ⟨ob, 2, none⟩) obl).trans s2
      have e3 := (hb.cell (p := ⟨ob, 3, none⟩) obl).trans s3
      have e4 := (hb.cell (p := ⟨ob, 4, none⟩) obl).trans s4
      have e5 := (hb.cell (p := ⟨ob, 5, none⟩) obl).trans s5
      obtain ⟨x9, hx9, fz9⟩ := tab_cell 9 _ htab (by omega)
      obtain ⟨x10, hx10, fz10⟩ := tab_cell 10 _ htab (by omega)
      obtain ⟨x13, hx13, fz13⟩ := tab_cell 13 _ htab (by omega)
      have hobl : ¬ w.heap.size = ob := by
        have : ob < w.heap.size := obl
        omega
      have HT := Lib.hid htab
      have HB := Lib.hid hb
      have i9 := first_byte 9
      have i10 := first_byte 10
      have i13 := first_byte 13
      have i32 := first_byte 32
      simp only [show (9 : UInt8).toNat = 9 from rfl, show (10 : UInt8).toNat = 10 from rfl, show (13 : UInt8).toNat = 13 from rfl, show (32 : UInt8).toNat = 32 from rfl] at i9 i10 i13 i32
      clear htab hb s0 s1 s2 s3 s4 s5 hlt c4
      go_wp2_with fail
      refine wp_loop_rounds 4 ?_
      rw [rounds_succ]
      go_wp2_with fail
      rw [rounds_succ]
      go_wp2_with fail
      rw [rounds_succ]
      go_wp2_with fail
      rw [rounds_succ]
      go_wp2_with fail
      go_ret
      refine ⟨rfl, ?_, ((HB.out.setCell (p := ⟨w.heap.size, 13, none⟩) (Nat.le_refl _) _).setCell (p := ⟨w.heap.size, 10, none⟩) (Nat.le_refl _) _).setCell (p := ⟨w.heap.size, 9, none⟩) (Nat.le_refl _) _⟩
      unfold BT
      rw [tab_set _ _ _ _ _ _ (tab_set _ _ _ _ _ _ (tab_set _ _ _ _ _ _ HT.out))]
      have e : (((tabK 256).setIfInBounds 13 (.int .u8 32)).setIfInBounds 10 (.int .u8 32)).setIfInBounds 9 (.int .u8 32) = ((List.range 256).map fun c => Value.int .u8 ((flat true (UInt8.ofNat c)).toNat : Int)).toArray := by kernel_rfl
      rw [e]
end Go.Proofs.YtfgcpkobfmcflaaGreatDoor
