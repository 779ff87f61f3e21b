/-
  The document's answer: digits, characters, blanks.
-/
import Derived.Test.YtfgcpkobfmcflaaGreatDoorEscP
import Derived.Test.YtfgcpkobfmcflaaGreatDoorNumP
namespace Go.Proofs.YtfgcpkobfmcflaaGreatDoor
open Go.RowKit

theorem in_any (c : Int) (rs : List (Int × Int)) (b cap : Nat) (w : World) (hn : rs.length ≤ 100)
    (hc : ∀ k, k < rs.length → w.cell? ⟨b, k * 2, none⟩ = some (.int .i64 (rs.getD k (0, 0)).1) ∧ w.cell? ⟨b, k * 2 + 1, none⟩ = some (.int .i64 (rs.getD k (0, 0)).2)) (n : Nat) (h2 : n = rs.length * 2) :
    Calls Tryz.prog 76 #[.int .i64 c, .slice (some ⟨b, 0, none⟩) n cap] w fun e w' => e = .returned (.bool (amongB c rs)) ∧ Below w.heap.size w w' := by
  have HC := Lib.hid hc
  clear hc
  go_enter Tryz.func76, Tryz.ntmps76
  go_wp2_with fail
  go_loopw [5] (fun i wr => ∃ (k : Nat) (z : Int), k ≤ rs.length ∧ i = .int .i64 z ∧ Hid (z = 2 * (k : Int)) ∧ amongB c (rs.take k) = false ∧ Below w.heap.size w wr) (fun i wr => n - (intOf i).toNat)
  case atStart => exact ⟨0, 0, Nat.zero_le _, rfl, rfl, rfl, Below.refl _ _⟩
  case round =>
    obtain ⟨k, z, hk, rfl, hz, ha, hb⟩ := hrel
    by_cases hlt : k < rs.length
    · obtain ⟨c1, c2⟩ := HC.out k hlt
      have b1 := World.block_lt_of_cell? _ _ c1
      have d1 := (hb.cell b1).trans c1
      have d2 := (hb.cell (p := ⟨b, k * 2 + 1, none⟩) b1).trans c2
      clear c1 c2
      have e1 : (2 * (k : Int)).toNat = k * 2 := by omega
      have e2 : (2 * (k : Int) + 1).toNat = k * 2 + 1 := by omega
      have HA := Lib.hid ha
      clear ha
      have HB := Lib.hid hb
      clear hb
      have hz' := hz.out
      subst hz'
      clear hz
      have g0 : rs.getD k (0, 0) = rs[k] := by rw [List.getD_eq_getElem?_getD, List.getElem?_eq_getElem hlt]; rfl
      rw [g0] at d1 d2
      clear g0
      by_cases h1 : rs[k].1 ≤ c
      · by_cases h2 : c ≤ rs[k].2
        · have HY := Lib.hid (amongB_yes hlt h1 h2)
          go_wp2_with fail
          go_ret
          exact ⟨ret_bool HY.out.symm, HB.out⟩
        · have HN := Lib.hid (amongB_next hlt HA.out (by omega))
          go_wp2_with fail
          exact ⟨⟨k + 1, _, by omega, rfl, (show 2 * (k : Int) + 2 = 2 * ((k + 1 : Nat) : Int) by omega), HN.out, HB.out⟩, by simp [intOf]; omega⟩
      · have HN := Lib.hid (amongB_next hlt HA.out (by omega))
        go_wp2_with fail
        exact ⟨⟨k + 1, _, by omega, rfl, (show 2 * (k : Int) + 2 = 2 * ((k + 1 : Nat) : Int) by omega), HN.out, HB.out⟩, by simp [intOf]; omega⟩
    · have hz' := hz.out
      subst hz'
      clear hz
      go_wp2_with fail
      go_ret
      have hk' : k = rs.length := by omega
      subst hk'
      rw [List.take_length] at ha
      exact ⟨ret_bool ha.symm, hb⟩

theorem refSpace_any (c : Int) (w : World) :
    Calls Tryz.prog 27 #[.int .i64 c] w fun e w' => e = .returned (.bool (c == 32 || c == 9 || c == 10 || c == 13)) ∧ w' = w := by
  cases h1 : (c == 32) <;> cases h2 : (c == 9) <;> cases h3 : (c == 10) <;>
  · go_enter Tryz.func27, Tryz.ntmps27
    go_wp2_with fail
    go_ret
    exact ⟨by simp, rfl⟩

def digI (base : Nat) (c : UInt8) : Int := match digv base c with | some d => (d : Int) | none => -1

theorem digI_spec (base : Nat) (hb : base = 10 ∨ base = 16) (c : UInt8) :
    (48 ≤ c.toNat ∧ c.toNat ≤ 57 ∧ digI base c = (c.toNat : Int) - 48) ∨ (base = 16 ∧ 97 ≤ c.toNat ∧ c.toNat ≤ 102 ∧ digI base c = (c.toNat : Int) - 87) ∨
    (base = 16 ∧ 65 ≤ c.toNat ∧ c.toNat ≤ 70 ∧ digI base c = (c.toNat : Int) - 55) ∨
    (digI base c = -1 ∧ ¬ (48 ≤ c.toNat ∧ c.toNat ≤ 57) ∧ (base = 10 ∨ (¬ (97 ≤ c.toNat ∧ c.toNat ≤ 102) ∧ ¬ (65 ≤ c.toNat ∧ c.toNat ≤ 70)))) := by
  obtain ⟨x, hx⟩ : ∃ x, x = c.toNat := ⟨_, rfl⟩
  unfold digI digv hexv
  rw [← hx]
  by_cases h1 : 48 ≤ x ∧ x ≤ 57
  · left
    rw [if_pos h1]
    simp only [Option.bind_some]
    rw [if_pos (by omega)]
    exact ⟨h1.1, h1.2, by simp only []; omega⟩
  · rw [if_neg h1]
    by_cases h2 : 97 ≤ x ∧ x ≤ 102
    · rw [if_pos h2]
      simp only [Option.bind_some]
      rcases hb with rfl | rfl
      · rw [if_neg (by omega)]
        exact .inr (.inr (.inr ⟨rfl, h1, .inl rfl⟩))
      · rw [if_pos (by omega)]
        exact .inr (.inl ⟨rfl, h2.1, h2.2, by simp only []; omega⟩)
    · rw [if_neg h2]
      by_cases h3 : 65 ≤ x ∧ x ≤ 70
      · rw [if_pos h3]
        simp only [Option.bind_some]
        rcases hb with rfl | rfl
        · rw [if_neg (by omega)]
          exact .inr (.inr (.inr ⟨rfl, h1, .inl rfl⟩))
        · rw [if_pos (by omega)]
          exact .inr (.inr (.inl ⟨rfl, h3.1, h3.2, by simp only []; omega⟩))
      · rw [if_neg h3]
        exact .inr (.inr (.inr ⟨rfl, h1, .inr ⟨h2, h3⟩⟩))

theorem ret_int {k : IntKind} {a b : Int} (h : a = b) : Ending.returned (.int k a) = Ending.returned (.int k b) := by rw [h]

set_option maxHeartbeats 2000000 in
theorem refDigit_any (c : UInt8) (base : Nat) (hb : base = 10 ∨ base = 16) (w : World) :
    Calls Tryz.prog 54 #[.int .u8 (c.toNat : Int), .int .i64 (base : Int)] w fun e w' => e = .returned (.int .i64 (digI base c)) ∧ w' = w := by
  have h256 := c.toNat_lt
  have hs := digI_spec base hb c
  obtain ⟨v, hv⟩ : ∃ v, v = digI base c := ⟨_, rfl⟩
  obtain ⟨x, hx⟩ : ∃ x, x = c.toNat := ⟨_, rfl⟩
  rw [← hv, ← hx] at hs
  rw [← hx] at h256
  rw [← hv, ← hx]
  have HS := Lib.hid hs
  have HB := Lib.hid hb
  clear hs hv hx
  rcases hb with rfl | rfl
  all_goals
    go_enter Tryz.func54, Tryz.ntmps54
    go_wp2
    all_goals
      go_ret
      refine ⟨ret_int ?_, rfl⟩
      have hs := HS.out
      omega
end Go.Proofs.YtfgcpkobfmcflaaGreatDoor
