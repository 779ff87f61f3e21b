/-
  (*strings.Replacer).Replace at package escape's Value: the first call builds, the later ones find it built.
-/
import Derived.Test.YtfgcpkobfmcflaaGreatDoorRepBR
namespace Go.Proofs.YtfgcpkobfmcflaaGreatDoor
open Go.RowKit

def blankTab (c : Nat) : Int := ((flat true (UInt8.ofNat c)).toNat : Int)

/-- The Replacer of Value in block r, not built yet or built; none of its blocks is bb. -/
inductive RV (r bb : Nat) (w : World) : Prop
  | fresh (ob cap : Nat) (h : RB w r 0 0 .nilIface (.slice (some ⟨ob, 0, none⟩) 6 cap)) (hs : Strs w ob blankList) (h1 : r ≠ bb) (h2 : ob ≠ bb) (h3 : ob ≠ r)
  | built (tb : Nat) (ov : Value) (h : RB w r 1 0 (.iface 103 (.pointer (some ⟨tb, 0, none⟩))) ov) (ht : BT w tb blankTab) (h1 : r ≠ bb) (h2 : tb ≠ bb) (h3 : tb ≠ r)

theorem BT.kept {w w' : World} {b : Nat} {f : Nat → Int} (h : BT w b f) (hk : w'.heap[b]? = w.heap[b]?) : BT w' b f := hk.trans h
theorem RB.kept {w w' : World} {r : Nat} {d st : Int} {rv ov : Value} (h : RB w r d st rv ov) (hk : w'.heap[r]? = w.heap[r]?) : RB w' r d st rv ov := hk.trans h

theorem RV.others {r bb : Nat} {w w' : World} (h : RV r bb w) (ho : Lib.OthersKept 5 (some bb) w w') : RV r bb w' := by
  cases h with
  | fresh ob cap h hs h1 h2 h3 =>
    exact .fresh ob cap (ho r _ h (fun e => h1 (Option.some.inj e)) (fun c fz e => by injection e with _ e2 _; exact absurd e2 (by decide))) (hs.others ho (fun e => h2 (Option.some.inj e))) h1 h2 h3
  | built tb ov h ht h1 h2 h3 =>
    exact .built tb ov (ho r _ h (fun e => h1 (Option.some.inj e)) (fun c fz e => by injection e with _ e2 _; exact absurd e2 (by decide)))
      (ho tb _ ht (fun e => h2 (Option.some.inj e)) (fun c fz e => by injection e with _ e2 _; exact absurd e2 (by decide))) h1 h2 h3

theorem byte_method (a : Addr) (w : World) : (method 308 103 (.pointer (some a)) "Replace").run Tryz.prog w = .ok (151, .pointer (some a)) w := by kernel_rfl

set_option maxRecDepth 100000 in
set_option maxHeartbeats 2000000 in
theorem replace_built (r tb : Nat) (ov : Value) (s : ByteArray) (hs : s.size ≤ 20000) (w : World) (h : RB w r 1 0 (.iface 103 (.pointer (some ⟨tb, 0, none⟩))) ov) (ht : BT w tb blankTab) :
    Calls Tryz.prog 20 #[.pointer (some ⟨r, 0, none⟩), .string s] w fun e w' => e = .returned (.string ⟨(s.data.toList.map (flat true)).toArray⟩) ∧ Below w.heap.size w w' := by
  have c3 := h.c3
  have H := Lib.hid h
  have HT := Lib.hid ht
  have hmf : ∀ (fn : Fn) (first cap : Array Value) (w : World), (Instr.makeFunc fn first cap).run Tryz.prog w = .ok (.func fn first cap) w := fun _ _ _ _ => rfl
  have hbm := byte_method
  clear h ht
  go_enter Tryz.func20, Tryz.ntmps20
  go_wp2_with fail
  refine (do_done r _ _ _ H.out _).mono ?_
  rintro e w' ⟨rfl, rfl⟩
  go_wp2_with fail
  refine (bytes_replace tb (flat true) s hs _ HT.out).mono ?_
  rintro e w2 ⟨rfl, hb2⟩
  have HB2 := Lib.hid hb2
  clear hb2
  go_wp2_with fail
  go_ret
  exact ⟨rfl, HB2.out⟩

set_option maxRecDepth 100000 in
set_option maxHeartbeats 2000000 in
theorem replace_fresh (r ob cap : Nat) (s : ByteArray) (hs : s.size ≤ 20000) (w : World) (h : RB w r 0 0 .nilIface (.slice (some ⟨ob, 0, none⟩) 6 cap)) (hl : Strs w ob blankList) (hor : ob ≠ r) :
    Calls Tryz.prog 20 #[.pointer (some ⟨r, 0, none⟩), .string s] w fun e w' => e = .returned (.string ⟨(s.data.toList.map (flat true)).toArray⟩) ∧
      w.grownBy w' (some r) ∧ RB w' r 1 0 (.iface 103 (.pointer (some ⟨w.heap.size, 0, none⟩))) (.slice none 0 0) ∧ BT w' w.heap.size blankTab := by
  have hrl := h.lt
  have hT : ∀ W W' : World, BT W w.heap.size blankTab → W.grownBy W' (some r) → BT W' w.heap.size blankTab := fun W W' hb hg => hb.kept (hg.block _ hb.lt (fun e => by injection e with e; omega))
  have hw1 : (w.setCell ⟨r, 1, none⟩ (.int .i32 1)).heap.size = w.heap.size := by simp [World.setCell]
  have h1 := h.set1 1
  have hl1 : Strs (w.setCell ⟨r, 1, none⟩ (.int .i32 1)) ob blankList := hl.kept (Below.heap_setCell _ _ _ _ hor)
  have hbuild := build_bytes r ob cap _ _ _ _ h1 hl1
  rw [hw1] at hbuild
  have hf := buildOnce_any r _ _ _ 103 w.heap.size h1 (fun W => BT W w.heap.size blankTab) hT (hbuild.mono fun e w' ⟨a, b, c⟩ => ⟨a, by rw [hw1]; exact c, b⟩)
  have HD := Lib.hid (do_first r w _ _ _ _ h (fun W => BT W w.heap.size blankTab) hT hf)
  have hmf : ∀ (fn : Fn) (first cap : Array Value) (w : World), (Instr.makeFunc fn first cap).run Tryz.prog w = .ok (.func fn first cap) w := fun _ _ _ _ => rfl
  have hbm := byte_method
  clear hT hw1 h1 hl1 hbuild hf h hl
  go_enter Tryz.func20, Tryz.ntmps20
  go_wp2_with fail
  refine HD.out.mono ?_
  rintro e w1 ⟨rfl, hR, hg, hTab⟩
  have c3 := hR.c3
  have HR := Lib.hid hR
  have HG := Lib.hid hg
  have HTab := Lib.hid hTab
  clear hR hg hTab
  go_wp2_with fail
  refine (bytes_replace w.heap.size (flat true) s hs _ HTab.out).mono ?_
  rintro e w2 ⟨rfl, hb2⟩
  have HB2 := Lib.hid hb2
  clear hb2
  go_wp2_with fail
  go_ret
  exact ⟨rfl, grown_trans HG.out (grown_below HB2.out _), HR.out.kept (HB2.out.block _ HR.out.lt), HTab.out.kept (HB2.out.block _ HTab.out.lt)⟩

/-- Replace, by whatever the Replacer is; it is built behind it. -/
theorem replace_any (r bb : Nat) (s : ByteArray) (hs : s.size ≤ 20000) (w : World) (h : RV r bb w) (hbb : bb < w.heap.size) :
    Calls Tryz.prog 20 #[.pointer (some ⟨r, 0, none⟩), .string s] w fun e w' => e = .returned (.string ⟨(s.data.toList.map (flat true)).toArray⟩) ∧ RV r bb w' ∧ w.grownBy w' (some r) := by
  cases h with
  | fresh ob cap h hl h1 h2 h3 =>
    have hrl := h.lt
    refine (replace_fresh r ob cap s hs w h hl h3).mono ?_
    rintro e w' ⟨rfl, hg, hR, hT⟩
    exact ⟨rfl, .built w.heap.size _ hR hT h1 (by omega) (by omega), hg⟩
  | built tb ov h ht h1 h2 h3 =>
    refine (replace_built r tb ov s hs w h ht).mono ?_
    rintro e w' ⟨rfl, hb⟩
    exact ⟨rfl, .built tb ov (h.kept (hb.block _ h.lt)) (ht.kept (hb.block _ ht.lt)) h1 h2 h3, grown_below hb _⟩
end Go.Proofs.YtfgcpkobfmcflaaGreatDoor
