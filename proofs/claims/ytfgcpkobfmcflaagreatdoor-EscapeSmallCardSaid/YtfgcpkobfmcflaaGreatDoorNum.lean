/-
  internal/strconv.ParseUint and ParseInt to the base 16, of hexadecimal digits.
-/
import Derived.Test.YtfgcpkobfmcflaaGreatDoorNumP
import Derived.Lib.ConvBytes
import Derived.Lib.AtoiAllMem
import Derived.Laws.Strings3
import Derived.Laws.Closers25
import Derived.Laws.Closers25b
import Derived.WalkKit
import Derived.WalkSpells
import Derived.WalkLawsBesides
import Derived.BigCall
import Derived.BigGuard
import Derived.Lib.Hide
namespace Go.Proofs.YtfgcpkobfmcflaaGreatDoor
open Go.RowKit

theorem lower_any (c lc : Int) (h : bits .or .u8 c 32 = lc) (w : World) : Calls Tryz.prog 88 #[.int .u8 c] w fun e w' => e = .returned (.int .u8 lc) ∧ w' = w := by
  subst h
  go_enter Tryz.func88, Tryz.ntmps88
  go_wp2
  go_ret
  exact ⟨rfl, rfl⟩

theorem lower_hex {c : UInt8} (h : (hexv c).isSome) (h1 : ¬ (48 ≤ c.toNat ∧ c.toNat ≤ 57)) : ∃ lc : Int, bits .or .u8 (c.toNat : Int) 32 = lc ∧ 97 ≤ lc ∧ lc ≤ 102 ∧ lc - 87 = (hv c : Int) ∧ 65 ≤ (c.toNat : Int) ∧ ((c.toNat : Int) == 95) = false := by
  have h2 : (97 ≤ c.toNat ∧ c.toNat ≤ 102) ∨ (65 ≤ c.toNat ∧ c.toNat ≤ 70) := by
    unfold hexv at h
    rw [if_neg h1] at h
    by_cases h2 : 97 ≤ c.toNat ∧ c.toNat ≤ 102
    · exact .inl h2
    · rw [if_neg h2] at h
      by_cases h3 : 65 ≤ c.toNat ∧ c.toNat ≤ 70
      · exact .inr h3
      · rw [if_neg h3] at h; simp at h
  have hc : c = UInt8.ofNat c.toNat := by simp
  obtain ⟨n, hn⟩ : ∃ n, n = c.toNat := ⟨_, rfl⟩
  rw [← hn] at h2 hc ⊢
  rw [hc]
  have hb : n ∈ [97, 98, 99, 100, 101, 102, 65, 66, 67, 68, 69, 70] := by simp; omega
  clear h h1 h2 hn hc
  simp only [List.mem_cons, List.mem_nil_iff, or_false] at hb
  rcases hb with rfl | rfl | rfl | rfl | rfl | rfl | rfl | rfl | rfl | rfl | rfl | rfl <;> exact ⟨_, rfl, by decide, by decide, by decide, by decide, by decide⟩

set_option maxHeartbeats 32000000 in
set_option maxRecDepth 100000 in
theorem pu16_any (t : ByteArray) (hne : t.size ≠ 0) (hmax : t.size ≤ 9223372036854775806) (hx : isHex t.data.toList = true) (w : World) :
    Calls Tryz.prog 71 #[.string t, .int .i64 16, .int .i64 64] w fun e w' => e = .returned (Lib.uintTuple 115 (pu16 0 t.data.toList)) ∧ w' = Lib.bytesWorld w 5 t := by
  have hemp : t.toList.isEmpty = false := by
    rw [← decide_eq_emptyBytes]
    exact decide_eq_false (fun h => hne (by rw [h]; rfl))
  have hcv := Lib.run_convert_string_bytes (P := Tryz.prog) w 9 30 5 t (u := .string) Tryz.underlying9 Tryz.underlying30 Tryz.underlying5
  have hB : ∀ j, j < t.size → (Lib.bytesWorld w 5 t).cell? ⟨w.heap.size, j, none⟩ = some (.int .u8 (t.data.toList.getD j 0).toNat) := fun j hj => Lib.bytesWorld_cell w 5 t j hj
  obtain ⟨W1, hW1⟩ : ∃ W1, W1 = Lib.bytesWorld w 5 t := ⟨_, rfl⟩
  rw [← hW1] at hcv hB ⊢
  clear hW1
  obtain ⟨bs, hL⟩ : ∃ bs, bs = t.data.toList := ⟨_, rfl⟩
  have hLn : bs.length = t.size := by rw [hL, Lib.size_eq]
  rw [← hL] at hB hx ⊢
  clear hL
  have hmv : IntKind.u64.wrap (IntKind.u64.wrap 18446744073709551616 - 1) = 18446744073709551615 := by
    rw [IntKind.wrap_u64, IntKind.wrap_u64]
    decide
  have HX := Lib.hid hx
  have HLN := Lib.hid hLn
  clear hx hLn
  go_enter Tryz.func71, Tryz.ntmps71
  go_wp2
  go_loop [12, 13, 101] (fun vu vn vi => ∃ (k acc : Nat) (a : Int), vu = .bool false ∧ vn = .int .u64 a ∧ vi = .int .i64 k ∧ k ≤ t.size ∧ Hid (a = (acc : Int) ∧ acc < 18446744073709551616 ∧ pu16 0 bs = pu16 acc (bs.drop k)))
    (fun _ _ vi => t.size - (intOf vi).toNat)
  case atStart => exact ⟨0, 0, 0, rfl, rfl, rfl, by omega, rfl, by omega, rfl⟩
  case round =>
    obtain ⟨k, acc, a, rfl, rfl, rfl, hk, hh⟩ := hrel
    obtain ⟨ha, hacc, hdec⟩ := hh.out
    clear hh
    have hLn := HLN.out
    have a0 : 0 ≤ a := by omega
    have a1 : a < 18446744073709551616 := by omega
    by_cases hkn : k < t.size
    · have hc := hB k hkn
      have hdrop : bs.drop k = bs[k]'(by omega) :: bs.drop (k + 1) := List.drop_eq_getElem_cons (by omega)
      have hget : bs.getD k 0 = bs[k]'(by omega) := by simp [List.getD, List.getElem?_eq_getElem (show k < bs.length by omega)]
      have hxc : (hexv (bs[k]'(by omega))).isSome = true := (List.all_eq_true.1 HX.out) _ (List.getElem_mem _)
      rw [hdrop] at hdec
      rw [hget] at hc
      generalize bs[k]'(by omega) = c at hc hdec hxc
      have hc256 : c.toNat < 256 := c.toNat_lt
      clear hB hdrop hget hLn
      by_cases hcut : 1152921504606846976 ≤ acc
      · have hF : pu16 acc (c :: bs.drop (k + 1)) = .range := by simp [pu16, hcut]
        rw [hF] at hdec
        have HD := Lib.hid hdec
        have icut : 1152921504606846976 ≤ a := by omega
        clear hcut hacc hF ha hdec
        by_cases hdig : 48 ≤ c.toNat ∧ c.toNat ≤ 57
        · obtain ⟨hd0, hd1⟩ := hdig
          clear hxc
          go_wp2
          go_ret2
          exact ⟨by rw [HD.out]; rfl, rfl⟩
        · obtain ⟨lc, hl, l0, l1, l2, l3, l4⟩ := lower_hex hxc hdig
          clear hdig
          have HL := Lib.hid hl
          clear hl l2 hxc
          go_wp2_with (go_at_call 88; refine (lower_any _ lc HL.out _).mono ?_; rintro e w' ⟨rfl, rfl⟩)
          go_ret2
          exact ⟨by rw [HD.out]; rfl, rfl⟩
      · have hF : pu16 acc (c :: bs.drop (k + 1)) = pu16 (acc * 16 + hv c) (bs.drop (k + 1)) := by simp [pu16, hcut]
        have hvl : hv c < 16 := by
          obtain ⟨d, hd⟩ := Option.isSome_iff_exists.1 hxc
          have := hexv_lt hd
          simp [hv, hd, this]
        have icut : a < 1152921504606846976 := by omega
        have HN : Hid (a * 16 + (hv c : Int) = ((acc * 16 + hv c : Nat) : Int) ∧ acc * 16 + hv c < 18446744073709551616 ∧ pu16 0 bs = pu16 (acc * 16 + hv c) (bs.drop (k + 1))) := Lib.hid ⟨by omega, by omega, hdec.trans hF⟩
        clear hF hdec hcut hacc ha
        by_cases hdig : 48 ≤ c.toNat ∧ c.toNat ≤ 57
        · obtain ⟨hd0, hd1⟩ := hdig
          have hvc : hv c = c.toNat - 48 := by unfold hv hexv; rw [if_pos ⟨hd0, hd1⟩]; rfl
          have HV := Lib.hid hvc
          clear hvc hvl hxc
          go_wp2
          refine ⟨⟨k + 1, acc * 16 + hv c, a * 16 + (hv c : Int), rfl, (by rw [HV.out]; congr 1; omega), (by first | rfl | (congr 1; omega)), by omega, HN⟩, by simp [intOf]; omega⟩
        · obtain ⟨lc, hl, l0, l1, l2, l3, l4⟩ := lower_hex hxc hdig
          clear hdig
          have HL := Lib.hid hl
          have HV := Lib.hid l2
          clear hl l2 hxc hvl
          go_wp2_with (go_at_call 88; refine (lower_any _ lc HL.out _).mono ?_; rintro e w' ⟨rfl, rfl⟩)
          refine ⟨⟨k + 1, acc * 16 + hv c, a * 16 + (hv c : Int), rfl, (by rw [← HV.out]; congr 1; omega), (by first | rfl | (congr 1; omega)), by omega, HN⟩, by simp [intOf]; omega⟩
    · have hkk : k = t.size := by omega
      subst hkk
      have hF : pu16 acc (bs.drop t.size) = .ok acc := by rw [List.drop_eq_nil_of_le (by omega)]; rfl
      rw [hF] at hdec
      subst ha
      have HD := Lib.hid hdec
      clear hacc hF a0 a1 hdec hLn
      go_wp2
      go_ret2
      exact ⟨by rw [HD.out]; rfl, rfl⟩
end Go.Proofs.YtfgcpkobfmcflaaGreatDoor
