/-
  escape.Value.
-/
import Derived.Test.YtfgcpkobfmcflaaGreatDoorExpand
import Derived.Test.YtfgcpkobfmcflaaGreatDoorRepV
namespace Go.Proofs.YtfgcpkobfmcflaaGreatDoor
open Go.RowKit

theorem enters_replace : ∀ args w, (callFunc 20 args).run Tryz.prog w = .ok (.enter 20 args) w :=
  Go.Proofs.enters_of Tryz.func20 (by kernel_rfl) rfl

set_option maxRecDepth 100000 in
set_option maxHeartbeats 1000000 in
theorem Value_any (s : ByteArray) (hs : s.size ≤ 20000) (w : World) (hw : Env w) :
    Calls Tryz.prog 11 #[.string s] w fun e w' => e = .returned (expV true s.data.toList) ∧ Below w.heap.size w w' := by
  obtain ⟨v, hv⟩ : ∃ v, v = expV true s.data.toList := ⟨_, rfl⟩
  have hsh : ∃ a b, v = .tuple #[a, b] := by
    rw [hv]; unfold expV
    split
    · exact ⟨_, _, rfl⟩
    · exact ⟨_, _, rfl⟩
  have HV := Lib.hid hv
  rw [← hv]
  obtain ⟨a, b, rfl⟩ := hsh
  have HW := Lib.hid hw
  have hmf : ∀ (fn : Fn) (first cap : Array Value) (w : World), (Instr.makeFunc fn first cap).run Tryz.prog w = .ok (.func fn first cap) w := fun _ _ _ _ => rfl
  clear hv hw
  go_enter Tryz.func11, Tryz.ntmps11
  go_wp2_with fail
  refine (newReplacer_any w.heap.size 6 _ blankList rfl (by decide) (by decide) (by decide) _ ?_).mono ?_
  · refine ⟨_, heap_alloc_new w _, ?_⟩
    intro j x hx
    have h6 : j = 0 ∨ j = 1 ∨ j = 2 ∨ j = 3 ∨ j = 4 ∨ j = 5 := by
      have := (List.getElem?_eq_some_iff.1 hx).1
      simp [blankList] at this
      omega
    rcases h6 with rfl | rfl | rfl | rfl | rfl | rfl <;> (simp [blankList] at hx; subst hx; rfl)
  · rintro e w2 ⟨r, ob, cap, rfl, hR, hS, hr, ho, hne, hb2⟩
    have hsz : w.heap.size + 1 ≤ w2.heap.size := by have := hb2.size; simpa using this
    have hr1 : w.heap.size + 1 ≤ r := by simpa using hr
    have hbw : Below w.heap.size w w2 := ((Below.refl _ _).alloc (Nat.le_refl _) _).trans (hb2.mono (by simp))
    have hE := HW.out.below hbw
    have hlt := HW.out.lt
    have hC := expanded_any true 20 #[.pointer (some ⟨r, 0, none⟩)] (some r) (RV r (w2.heap.size + 2)) s hs w2 enters_replace
      (fun t W ht hsW hI => by
        refine (replace_any r _ t ht W hI hsW).mono ?_
        rintro e w' ⟨rfl, h1, h2⟩
        exact ⟨rfl, h1, h2⟩)
      (fun W W' h ho => h.others ho)
      (.fresh ob cap hR hS (by have := hR.lt; omega) (by have := hS.lt; omega) hne) hE
      (fun k h => by injection h with h; subst h; exact hR.lt) (fun k h => by injection h with h; subst h; refine ⟨?_, ?_, ?_⟩ <;> omega)
    have HC := Lib.hid hC
    have HBW := Lib.hid hbw
    have HR1 := Lib.hid hr1
    clear hR hS hr ho hne hb2 hsz hr1 hbw hE hlt hC
    go_wp2_with fail
    refine HC.out.mono ?_
    rintro e w3 ⟨he, hb3⟩
    rw [← HV.out] at he
    subst he
    have HB3 := Lib.hid hb3
    clear hb3
    go_wp2_with fail
    go_ret2
    refine ⟨rfl, ?_⟩
    have hx := HB3.out
    have hy := HBW.out
    have hz := HR1.out
    exact ⟨hx.os.trans hy.os, hx.tape.trans hy.tape, hx.output.trans hy.output, Nat.le_trans hy.size hx.size, fun k hk => (hx.block k (Nat.lt_of_lt_of_le hk hy.size) (fun e => by injection e with e; omega)).trans (hy.block k hk)⟩
end Go.Proofs.YtfgcpkobfmcflaaGreatDoor
