/-
  sync.Once over a strings.Replacer: doSlow and Do, the lock free.
-/
import Derived.Test.YtfgcpkobfmcflaaGreatDoorOnce
import Derived.Shelf.Abstract
namespace Go.Proofs.YtfgcpkobfmcflaaGreatDoor
open Go.RowKit

/-- The Replacer in block r: its Once's word, its lock's state, what it holds. -/
def RB (w : World) (r : Nat) (d st : Int) (rv ov : Value) : Prop := w.heap[r]? = some (.cells #[.int .u32 d, .int .i32 st, .int .u32 0, rv, ov] 65 (0, 0))

section
variable {w : World} {r : Nat} {d st : Int} {rv ov : Value}
theorem RB.c0 (h : RB w r d st rv ov) : w.cell? ⟨r, 0, none⟩ = some (.int .u32 d) := by unfold RB at h; simp [World.cell?, h]
theorem RB.c1 (h : RB w r d st rv ov) : w.cell? ⟨r, 1, none⟩ = some (.int .i32 st) := by unfold RB at h; simp [World.cell?, h]
theorem RB.c3 (h : RB w r d st rv ov) : w.cell? ⟨r, 3, none⟩ = some rv := by unfold RB at h; simp [World.cell?, h]
theorem RB.c4 (h : RB w r d st rv ov) : w.cell? ⟨r, 4, none⟩ = some ov := by unfold RB at h; simp [World.cell?, h]
theorem RB.fz (h : RB w r d st rv ov) (j : Nat) : w.frozen? ⟨r, j, none⟩ = false := by unfold RB at h; simp [World.frozen?, h]
theorem RB.lt (h : RB w r d st rv ov) : r < w.heap.size := (Array.getElem?_eq_some_iff.1 h).1
theorem RB.drew (h : RB w r d st rv ov) : RB w.drew r d st rv ov := h
theorem RB.set0 (h : RB w r d st rv ov) (x : Int) : RB (w.setCell ⟨r, 0, none⟩ (.int .u32 x)) r x st rv ov := by
  unfold RB at *; exact heap_setCell_same w r 0 _ _ _ h
theorem RB.set1 (h : RB w r d st rv ov) (x : Int) : RB (w.setCell ⟨r, 1, none⟩ (.int .i32 x)) r d x rv ov := by
  unfold RB at *; exact heap_setCell_same w r 1 _ _ _ h
theorem RB.set3 (h : RB w r d st rv ov) (x : Value) : RB (w.setCell ⟨r, 3, none⟩ x) r d st x ov := by
  unfold RB at *; exact heap_setCell_same w r 3 _ _ _ h
theorem RB.set4 (h : RB w r d st rv ov) (x : Value) : RB (w.setCell ⟨r, 4, none⟩ x) r d st rv x := by
  unfold RB at *; exact heap_setCell_same w r 4 _ _ _ h
theorem grown_set (w : World) (r j : Nat) (v : Value) : w.grownBy (w.setCell ⟨r, j, none⟩ v) (some r) :=
  ⟨rfl, rfl, rfl, by simp [World.setCell], fun k _ hk => Below.heap_setCell _ _ _ _ (fun e => hk (by rw [e]))⟩
theorem grown_trans {a b c : World} {x : Option Nat} (h : a.grownBy b x) (k : b.grownBy c x) : a.grownBy c x :=
  ⟨k.os.trans h.os, k.tape.trans h.tape, k.output.trans h.output, Nat.le_trans h.size k.size, fun i hi hx => (k.block i (Nat.lt_of_lt_of_le hi h.size) hx).trans (h.block i hi hx)⟩
theorem grown_drew {a b : World} {x : Option Nat} (h : a.grownBy b x) : a.grownBy b.drew x := ⟨h.os, h.tape, h.output, h.size, h.block⟩
end

theorem enters_build : ∀ args w, (callFunc 29 args).run Tryz.prog w = .ok (.enter 29 args) w :=
  Go.Proofs.enters_of Tryz.func29 (by kernel_rfl) rfl

set_option maxRecDepth 100000 in
set_option maxHeartbeats 1600000 in
theorem slow_any (r : Nat) (w : World) (rv ov rv' ov' : Value) (h : RB w r 0 0 rv ov) (T : World → Prop) (hT : ∀ W W' : World, T W → W.grownBy W' (some r) → T W')
    (hf : Calls Tryz.prog 29 #[.pointer (some ⟨r, 0, none⟩)] (w.setCell ⟨r, 1, none⟩ (.int .i32 1)) fun e W' => e = .returned (.tuple #[]) ∧ RB W' r 0 1 rv' ov' ∧ (w.setCell ⟨r, 1, none⟩ (.int .i32 1)).grownBy W' (some r) ∧ T W') :
    Calls Tryz.prog 39 #[.pointer (some ⟨r, 0, none⟩), .func (.func 29) #[.pointer (some ⟨r, 0, none⟩)] #[]] w fun e w' =>
      e = .returned (.tuple #[]) ∧ RB w' r 1 0 rv' ov' ∧ w.grownBy w' (some r) ∧ T w' := by
  have h1 := h.set1 1
  have hl := run_call_load (P := Tryz.prog) Tryz.func56 (by kernel_rfl) (by kernel_rfl) (by kernel_rfl) .u32 (by kernel_rfl) h1.c0
  have hnot : ∀ (x : Bool) (w : World), (Op.unary .not (.bool x)).run Tryz.prog w = .ok (.bool (!x)) w := fun _ _ => rfl
  have hent := enters_build
  have HF := Lib.hid hf
  have HT := Lib.hid hT
  have H := Lib.hid h
  have H1 := Lib.hid h1
  clear hf hT h h1
  go_enter_defers Tryz.func39, Tryz.ntmps39
  go_wp2_with fail
  refine (lock_free ⟨r, 1, none⟩ _ H.out.c1 (H.out.fz _)).mono ?_
  rintro e w' ⟨rfl, rfl⟩
  go_wp2_with (go_at_call 38; go_in)
  refine HF.out.mono ?_
  rintro e w2 ⟨rfl, hR, hg, hTw⟩
  have HR := Lib.hid hR
  have HG := Lib.hid hg
  clear hR hg
  go_wp2_with fail
  refine leaves_cons (f := 59) (args := #[.pointer (some ⟨r, 0, none⟩), .bool true]) (by simp) (by simp [go_sem]) ?_
  refine (store_deferred ⟨r, 0, none⟩ _ .returning _ HR.out.c0 (HR.out.fz _)).mono ?_
  rintro e u' w'' ⟨rfl, rfl, rfl⟩
  refine leaves_cons (f := 58) (args := #[.pointer (some ⟨r, 1, none⟩)]) (by simp [settle]) (by simp [go_sem]) ?_
  have hR3 := HR.out.drew.set0 1
  refine (unlock_deferred ⟨r, 1, none⟩ _ _ hR3.c1 (hR3.fz _)).mono ?_
  rintro e u' w'' ⟨rfl, rfl, rfl⟩
  simp [Leaves, settle, results, Tryz.results39]
  refine ⟨hR3.set1 0, ?_, ?_⟩
  · exact grown_trans (grown_trans (grown_trans (grown_set w r 1 _) HG.out) (grown_trans (grown_drew ⟨rfl, rfl, rfl, Nat.le_refl _, fun _ _ _ => rfl⟩) (grown_set w2.drew r 0 _))) (grown_set _ r 1 _)
  · exact HT.out _ _ hTw (grown_trans (grown_trans (grown_drew ⟨rfl, rfl, rfl, Nat.le_refl _, fun _ _ _ => rfl⟩) (grown_set w2.drew r 0 _)) (grown_set _ r 1 _))

set_option maxRecDepth 100000 in
set_option maxHeartbeats 1600000 in
/-- Do, not yet done. -/
theorem do_first (r : Nat) (w : World) (rv ov rv' ov' : Value) (h : RB w r 0 0 rv ov) (T : World → Prop) (hT : ∀ W W' : World, T W → W.grownBy W' (some r) → T W')
    (hf : Calls Tryz.prog 29 #[.pointer (some ⟨r, 0, none⟩)] (w.setCell ⟨r, 1, none⟩ (.int .i32 1)) fun e W' => e = .returned (.tuple #[]) ∧ RB W' r 0 1 rv' ov' ∧ (w.setCell ⟨r, 1, none⟩ (.int .i32 1)).grownBy W' (some r) ∧ T W') :
    Calls Tryz.prog 28 #[.pointer (some ⟨r, 0, none⟩), .func (.func 29) #[.pointer (some ⟨r, 0, none⟩)] #[]] w fun e w' =>
      e = .returned (.tuple #[]) ∧ RB w' r 1 0 rv' ov' ∧ w.grownBy w' (some r) ∧ T w' := by
  have hl := run_call_load (P := Tryz.prog) Tryz.func56 (by kernel_rfl) (by kernel_rfl) (by kernel_rfl) .u32 (by kernel_rfl) h.c0
  have hnot : ∀ (x : Bool) (w : World), (Op.unary .not (.bool x)).run Tryz.prog w = .ok (.bool (!x)) w := fun _ _ => rfl
  have HS := Lib.hid (slow_any r w rv ov rv' ov' h T hT hf)
  clear hT hf h
  go_enter Tryz.func28, Tryz.ntmps28
  go_wp2_with (first | (go_at_call 39; refine HS.out.mono ?_; rintro e w' ⟨rfl, hR, hg, hTw⟩) | (go_at_call 38; go_in))
  go_end0
  exact ⟨rfl, hR, hg, hTw⟩

set_option maxRecDepth 100000 in
/-- Do, done already. -/
theorem do_done (r : Nat) (w : World) (rv ov : Value) (h : RB w r 1 0 rv ov) (fv : Value) :
    Calls Tryz.prog 28 #[.pointer (some ⟨r, 0, none⟩), fv] w fun e w' => e = .returned (.tuple #[]) ∧ w' = w := by
  have hl := run_call_load (P := Tryz.prog) Tryz.func56 (by kernel_rfl) (by kernel_rfl) (by kernel_rfl) .u32 (by kernel_rfl) h.c0
  have hnot : ∀ (x : Bool) (w : World), (Op.unary .not (.bool x)).run Tryz.prog w = .ok (.bool (!x)) w := fun _ _ => rfl
  clear h
  go_enter Tryz.func28, Tryz.ntmps28
  go_wp2_with (go_at_call 38; go_in)
  go_end0
  exact ⟨rfl, rfl⟩
end Go.Proofs.YtfgcpkobfmcflaaGreatDoor
