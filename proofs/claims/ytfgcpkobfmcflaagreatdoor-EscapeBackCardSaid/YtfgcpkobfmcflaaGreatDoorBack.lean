/-
  The walk of EscapeBack.
-/
import Derived.Test.YtfgcpkobfmcflaaGreatDoorAwake
import Derived.Test.YtfgcpkobfmcflaaGreatDoorBackP
namespace Go.Proofs.YtfgcpkobfmcflaaGreatDoor
open Go.RowKit

theorem back_free (attr : Bool) (a : ByteArray) (l : List UInt8) (h : a.data.toList = escL attr l) (k : Nat) (hk : k < a.size) :
    (((a[k]'hk).toNat : Int) == 60) = false ∧ (((a[k]'hk).toNat : Int) == 62) = false ∧ (((a[k]'hk).toNat : Int) == 13) = false ∧ (attr = true → (((a[k]'hk).toNat : Int) == 34) = false ∧ (((a[k]'hk).toNat : Int) == 9) = false ∧ (((a[k]'hk).toNat : Int) == 10) = false) := by
  have hm : a[k]'hk ∈ escL attr l := by
    rw [← h]
    exact Array.mem_toList_iff.2 (Array.getElem_mem hk)
  obtain ⟨h1, h2, h3, h4⟩ := escL_free attr l _ hm
  have key : ∀ n : Nat, n < 256 → a[k]'hk ≠ UInt8.ofNat n → (((a[k]'hk).toNat : Int) == (n : Int)) = false := by
    intro n hn hne
    rw [beq_eq_false_iff_ne]
    intro e
    apply hne
    apply UInt8.toNat_inj.1
    have : (a[k]'hk).toNat = n := by omega
    rw [this]
    show n = n % 256
    exact (Nat.mod_eq_of_lt hn).symm
  exact ⟨key 60 (by decide) h1, key 62 (by decide) h2, key 13 (by decide) h3, fun ha => ⟨key 34 (by decide) (h4 ha).1, key 9 (by decide) (h4 ha).2.1, key 10 (by decide) (h4 ha).2.2⟩⟩

theorem back_exp (a b : Bool) (hab : b = true → a = true) (s : ByteArray) : expS b (escL a s.data.toList) = s ∧ expC b (escL a s.data.toList) = 0 := by
  unfold expS expC
  rw [esc_back a b hab]
  exact ⟨rfl, rfl⟩

set_option maxRecDepth 100000 in
set_option maxHeartbeats 4000000 in
theorem back_any (s : ByteArray) (w : World) (hw : Env w) :
    Calls Tryz.prog 5 #[.string s] w fun e w' => e = .returned (.bool true) ∧ Below w.heap.size w w' := by
  by_cases hs : s.size ≤ 3000
  · have HW := Lib.hid hw
    have K1 := Lib.hid (Escape_any false s (by omega))
    have K2 := Lib.hid (Escape_any true s (by omega))
    obtain ⟨a, ha⟩ : ∃ a : ByteArray, a = ⟨(escL false s.data.toList).toArray⟩ := ⟨_, rfl⟩
    obtain ⟨b, hb⟩ : ∃ b : ByteArray, b = ⟨(escL true s.data.toList).toArray⟩ := ⟨_, rfl⟩
    have ea : a.data.toList = escL false s.data.toList := by rw [ha]
    have eb : b.data.toList = escL true s.data.toList := by rw [hb]
    have hl : s.data.toList.length = s.size := (Lib.size_eq s).symm
    have sa : a.size ≤ 20000 := by
      have := escL_len false s.data.toList
      rw [Lib.size_eq, ea]; omega
    have sb : b.size ≤ 20000 := by
      have := escL_len true s.data.toList
      rw [Lib.size_eq, eb]; omega
    have K3 := Lib.hid (Expand_two a sa)
    have K4 := Lib.hid (Value_two b sb)
    have K5 := Lib.hid (Expand_two b sb)
    rw [ea, (back_exp false false (by decide) s).1, (back_exp false false (by decide) s).2] at K3
    rw [eb, (back_exp true true (by decide) s).1, (back_exp true true (by decide) s).2] at K4
    rw [eb, (back_exp true false (by decide) s).1, (back_exp true false (by decide) s).2] at K5
    rw [← ha] at K1
    rw [← hb] at K2
    have FA := Lib.hid (back_free false a _ ea)
    have FB := Lib.hid (back_free true b _ eb)
    clear ha hb ea eb hl hw
    go_enter Tryz.func5, Tryz.ntmps5
    go_wp2_with fail
    refine (awake_any _ HW.out).mono ?_
    rintro e w0 ⟨rfl, hb0⟩
    have HB0 := Lib.hid hb0
    clear hb0
    go_wp2_with fail
    refine (K1.out _).mono ?_
    rintro e w1 ⟨rfl, hb1⟩
    have HB1 := Lib.hid (below_two HB0.out hb1)
    clear hb1
    go_wp2_with fail
    refine (K2.out _).mono ?_
    rintro e w2 ⟨rfl, hb2⟩
    have HB2 := Lib.hid (below_two HB1.out hb2)
    clear hb2
    go_wp2_with fail
    go_loopw [6] (fun v wr => ∃ k : Nat, k ≤ a.size ∧ v = .int .i64 k ∧ Below w.heap.size w wr) (fun v _ => a.size - (intOf v).toNat)
    case atStart => exact ⟨0, Nat.zero_le _, rfl, HB2.out⟩
    case round =>
      obtain ⟨k, hk, rfl, hbr⟩ := hrel
      have HBR := Lib.hid hbr
      clear hbr
      by_cases hlt : k < a.size
      · obtain ⟨f1, f2, f3, _⟩ := FA.out k hlt
        go_wp2_with fail
        exact ⟨⟨k + 1, by omega, by go_num, HBR.out⟩, by simp [intOf]; omega⟩
      · obtain rfl : k = a.size := by omega
        go_wp2_with fail
        go_loopw [7] (fun v wr => ∃ k : Nat, k ≤ b.size ∧ v = .int .i64 k ∧ Below w.heap.size w wr) (fun v _ => b.size - (intOf v).toNat)
        case atStart => exact ⟨0, Nat.zero_le _, rfl, HBR.out⟩
        case round =>
          obtain ⟨k, hk, rfl, hbr⟩ := hrel
          have HBR2 := Lib.hid hbr
          clear hbr
          by_cases hlt2 : k < b.size
          · obtain ⟨f1, f2, f3, f4⟩ := FB.out k hlt2
            obtain ⟨f4, f5, f6⟩ := f4 trivial
            by_cases h32 : ((b[k]'hlt2).toNat : Int) < 32
            · go_wp2_with fail
              exact ⟨⟨k + 1, by omega, by go_num, HBR2.out⟩, by simp [intOf]; omega⟩
            · go_wp2_with fail
              exact ⟨⟨k + 1, by omega, by go_num, HBR2.out⟩, by simp [intOf]; omega⟩
          · obtain rfl : k = b.size := by omega
            go_wp2_with fail
            refine (K3.out _ (HW.out.below HBR2.out)).mono ?_
            rintro e w3 ⟨rfl, hb3⟩
            have HB3 := Lib.hid (below_two HBR2.out hb3)
            clear hb3
            go_wp2_with fail
            refine (K4.out _ (HW.out.below HB3.out)).mono ?_
            rintro e w4 ⟨rfl, hb4⟩
            have HB4 := Lib.hid (below_two HB3.out hb4)
            clear hb4
            go_wp2_with fail
            refine (K5.out _ (HW.out.below HB4.out)).mono ?_
            rintro e w5 ⟨rfl, hb5⟩
            have HB5 := Lib.hid (below_two HB4.out hb5)
            clear hb5
            go_wp2_with fail
            go_ret
            exact ⟨rfl, HB5.out⟩
  · have HW := Lib.hid hw
    clear hw
    go_enter Tryz.func5, Tryz.ntmps5
    go_wp2_with fail
    refine (awake_any _ HW.out).mono ?_
    rintro e w0 ⟨rfl, hb0⟩
    have HB0 := Lib.hid hb0
    clear hb0
    go_wp2_with fail
    go_ret
    exact ⟨rfl, HB0.out⟩
end Go.Proofs.YtfgcpkobfmcflaaGreatDoor
