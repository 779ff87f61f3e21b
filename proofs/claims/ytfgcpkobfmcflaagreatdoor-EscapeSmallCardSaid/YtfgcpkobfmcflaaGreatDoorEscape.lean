/-
  escape.Escape.
-/
import Derived.Test.YtfgcpkobfmcflaaGreatDoorRepSR
import Derived.Test.YtfgcpkobfmcflaaGreatDoorRepO
namespace Go.Proofs.YtfgcpkobfmcflaaGreatDoor
open Go.RowKit

theorem text_method (a : Addr) (w : World) : (method 308 107 (.pointer (some a)) "Replace").run Tryz.prog w = .ok (153, .pointer (some a)) w := by kernel_rfl

theorem Tab.kept {wr w' : World} {B0 b : Nat} {qs : List (UInt8 × List UInt8)} {tv : Value} (h : Tab wr B0 b qs tv) (r : Nat) (hr : r < B0) (hb : B0 ≤ b) (hg : wr.grownBy w' (some r)) : Tab w' B0 b qs tv := by
  obtain ⟨⟨cs, hh, hcs, hent⟩, hown, hne⟩ := h
  have hbl := (Array.getElem?_eq_some_iff.1 hh).1
  refine ⟨⟨cs, (hg.block b hbl (fun e => by injection e with e; omega)).trans hh, hcs, fun c => ?_⟩, hown.kept hg ?_, hne⟩
  · obtain ⟨v, h1, h2, h3⟩ := hent c
    exact ⟨v, h1, h2, h3.kept (fun g cs' fz hg0 hq => hg.block g (Array.getElem?_eq_some_iff.1 hq).1 (fun e => by injection e with e; omega))⟩
  · cases hv : tv.ownBlock with
    | none => exact .inl rfl
    | some g =>
      right
      intro e
      injection e with e
      have := (hown.lt g hv).1
      omega

theorem build_text (attr : Bool) (r ob cap : Nat) (w : World) (d st : Int) (rv : Value) (hr : RB w r d st rv (.slice (some ⟨ob, 0, none⟩) (2 * (reps attr).length) cap)) (hs : Strs w ob (pairList (reps attr))) :
    Calls Tryz.prog 40 #[.pointer (some ⟨r, 0, none⟩)] w fun e w' => e = .returned (.iface 107 (.pointer (some ⟨w.heap.size + 1, 0, none⟩))) ∧
      (∃ tv, Tab w' w.heap.size (w.heap.size + 1) (reps attr) tv) ∧ Below w.heap.size w w' := by
  cases attr with
  | false => exact build_text4 r ob cap w d st rv hr hs
  | true => exact build_text7 r ob cap w d st rv hr hs

theorem text_replace (attr : Bool) (tb : Nat) (s : ByteArray) (hs2 : s.size ≤ 20000) (w : World) (ht : TabW (reps attr) tb w) :
    Calls Tryz.prog 153 #[.pointer (some ⟨tb, 0, none⟩), .string s] w fun e w' => e = .returned (.string ⟨(escL attr s.data.toList).toArray⟩) ∧ Below w.heap.size w w' := by
  rw [escL_reps]
  have hl : (reps attr).length ≤ 7 := by cases attr <;> decide
  by_cases h : (reps attr).length * 8 ≤ s.size
  · exact text_replace_long _ (reps_small attr) (reps_nodup attr) hl tb s h hs2 w ht
  · exact text_replace_short _ (reps_small attr) hl tb s (by omega) w ht

set_option maxRecDepth 100000 in
set_option maxHeartbeats 2000000 in
theorem replace_text (attr : Bool) (r ob cap : Nat) (s : ByteArray) (hs : s.size ≤ 20000) (w : World) (h : RB w r 0 0 .nilIface (.slice (some ⟨ob, 0, none⟩) (2 * (reps attr).length) cap)) (hl : Strs w ob (pairList (reps attr))) (hor : ob ≠ r) :
    Calls Tryz.prog 20 #[.pointer (some ⟨r, 0, none⟩), .string s] w fun e w' => e = .returned (.string ⟨(escL attr s.data.toList).toArray⟩) ∧ w.grownBy w' (some r) := by
  have hrl := h.lt
  have hpos : 0 < (reps attr).length := by cases attr <;> decide
  have hT : ∀ W W' : World, (∃ tv, Tab W w.heap.size (w.heap.size + 1) (reps attr) tv) → W.grownBy W' (some r) → (∃ tv, Tab W' w.heap.size (w.heap.size + 1) (reps attr) tv) := fun W W' ⟨tv, hb⟩ hg => ⟨tv, hb.kept r hrl (by omega) hg⟩
  have hw1 : (w.setCell ⟨r, 1, none⟩ (.int .i32 1)).heap.size = w.heap.size := by simp [World.setCell]
  have h1 := h.set1 1
  have hl1 : Strs (w.setCell ⟨r, 1, none⟩ (.int .i32 1)) ob (pairList (reps attr)) := hl.kept (Below.heap_setCell _ _ _ _ hor)
  have hbuild := build_text attr r ob cap _ _ _ _ h1 hl1
  rw [hw1] at hbuild
  have hf := buildOnce_any r _ _ _ 107 (w.heap.size + 1) h1 (fun W => ∃ tv, Tab W w.heap.size (w.heap.size + 1) (reps attr) tv) hT (hbuild.mono fun e w' ⟨a, b, c⟩ => ⟨a, by rw [hw1]; exact c, b⟩)
  have HD := Lib.hid (do_first r w _ _ _ _ h (fun W => ∃ tv, Tab W w.heap.size (w.heap.size + 1) (reps attr) tv) hT hf)
  have hmf : ∀ (fn : Fn) (first cap : Array Value) (w : World), (Instr.makeFunc fn first cap).run Tryz.prog w = .ok (.func fn first cap) w := fun _ _ _ _ => rfl
  have hbm := text_method
  clear hT hw1 h1 hl1 hbuild hf h hl
  go_enter Tryz.func20, Tryz.ntmps20
  go_wp2_with fail
  refine HD.out.mono ?_
  rintro e w1 ⟨rfl, hR, hg, tv, hTab⟩
  have c3 := hR.c3
  have HG := Lib.hid hg
  have HTab := Lib.hid (hTab.words hpos)
  clear hR hg hTab
  go_wp2_with fail
  refine (text_replace attr (w.heap.size + 1) s hs _ HTab.out).mono ?_
  rintro e w2 ⟨rfl, hb2⟩
  have HB2 := Lib.hid hb2
  clear hb2
  go_wp2_with fail
  go_ret
  exact ⟨rfl, grown_trans HG.out (grown_below HB2.out _)⟩

set_option maxRecDepth 100000 in
set_option maxHeartbeats 1000000 in
theorem Escape_text (s : ByteArray) (hs : s.size ≤ 20000) (w : World) :
    Calls Tryz.prog 13 #[.string s, .bool false] w fun e w' => e = .returned (.string ⟨(escL false s.data.toList).toArray⟩) ∧ Below w.heap.size w w' := by
  go_enter Tryz.func13, Tryz.ntmps13
  go_wp2_with fail
  refine (newReplacer_any w.heap.size 8 _ (pairList (reps false)) rfl (by decide) (by decide) (by decide) _ ?_).mono ?_
  · refine ⟨_, heap_alloc_new w _, ?_⟩
    intro j x hx
    have h8 : j = 0 ∨ j = 1 ∨ j = 2 ∨ j = 3 ∨ j = 4 ∨ j = 5 ∨ j = 6 ∨ j = 7 := by
      have := (List.getElem?_eq_some_iff.1 hx).1
      simp [pairList, reps] at this
      omega
    rcases h8 with rfl | rfl | rfl | rfl | rfl | rfl | rfl | rfl <;> (simp [pairList, reps] at hx; subst hx; rfl)
  · rintro e w2 ⟨r, ob, cap, rfl, hR, hS, hr, ho, hne, hb2⟩
    have hbw : Below w.heap.size w w2 := ((Below.refl _ _).alloc (Nat.le_refl _) _).trans (hb2.mono (by simp))
    have hr1 : w.heap.size + 1 ≤ r := by simpa using hr
    have HC := Lib.hid (replace_text false r ob cap s hs w2 hR hS hne)
    have HBW := Lib.hid hbw
    have HR1 := Lib.hid hr1
    clear hR hS hr ho hne hb2 hbw hr1
    go_wp2_with fail
    refine HC.out.mono ?_
    rintro e w3 ⟨rfl, hg3⟩
    have HG := Lib.hid hg3
    clear hg3
    go_wp2_with fail
    go_ret
    refine ⟨rfl, ?_⟩
    have hx := HG.out
    have hy := HBW.out
    have hz := HR1.out
    exact ⟨hx.os.trans hy.os, hx.tape.trans hy.tape, hx.output.trans hy.output, Nat.le_trans hy.size hx.size, fun k hk => (hx.block k (Nat.lt_of_lt_of_le hk hy.size) (fun e => by injection e with e; omega)).trans (hy.block k hk)⟩
end Go.Proofs.YtfgcpkobfmcflaaGreatDoor
