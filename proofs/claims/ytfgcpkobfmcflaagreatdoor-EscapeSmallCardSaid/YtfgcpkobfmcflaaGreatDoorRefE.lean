/-
  The document's answer: Escape.
-/
import Derived.Test.YtfgcpkobfmcflaaGreatDoorBackP
import Derived.Test.YtfgcpkobfmcflaaGreatDoorEscapeA
set_option linter.unusedSimpArgs false
set_option linter.unusedVariables false
namespace Go.Proofs.YtfgcpkobfmcflaaGreatDoor
open Go.RowKit

theorem escB_int (attr : Bool) (c : UInt8) : escB attr c =
    if ((c.toNat : Int) == 38) = true then [38, 97, 109, 112, 59] else if ((c.toNat : Int) == 60) = true then [38, 108, 116, 59] else if ((c.toNat : Int) == 62) = true then [38, 103, 116, 59]
    else if ((c.toNat : Int) == 13) = true then [38, 35, 120, 68, 59] else if (attr && ((c.toNat : Int) == 34)) = true then [38, 113, 117, 111, 116, 59]
    else if (attr && ((c.toNat : Int) == 9)) = true then [38, 35, 120, 57, 59] else if (attr && ((c.toNat : Int) == 10)) = true then [38, 35, 120, 65, 59] else [c] := by
  have key : ∀ n : Nat, n < 256 → ((c.toNat : Int) == (n : Int)) = (c == UInt8.ofNat n) := by
    intro n hn
    rw [Bool.eq_iff_iff, beq_iff_eq, beq_iff_eq]
    constructor
    · intro e
      apply UInt8.toNat_inj.1
      have : c.toNat = n := by omega
      rw [this]
      show n = n % 256
      exact (Nat.mod_eq_of_lt hn).symm
    · intro e
      rw [e]
      have : n % 256 = n := Nat.mod_eq_of_lt hn
      show ((n % 256 : Nat) : Int) = n
      rw [this]
  have k38 : ((c.toNat : Int) == 38) = (c == 38) := key 38 (by decide)
  have k60 : ((c.toNat : Int) == 60) = (c == 60) := key 60 (by decide)
  have k62 : ((c.toNat : Int) == 62) = (c == 62) := key 62 (by decide)
  have k13 : ((c.toNat : Int) == 13) = (c == 13) := key 13 (by decide)
  have k34 : ((c.toNat : Int) == 34) = (c == 34) := key 34 (by decide)
  have k9 : ((c.toNat : Int) == 9) = (c == 9) := key 9 (by decide)
  have k10 : ((c.toNat : Int) == 10) = (c == 10) := key 10 (by decide)
  rw [k38, k60, k62, k13, k34, k9, k10]
  unfold escB
  simp only [beq_iff_eq]

theorem esc_next {attr : Bool} {s o e : ByteArray} {k : Nat} (hk : k < s.size) (h : o.data.toList = escL attr (s.data.toList.take k)) (he : escB attr (s[k]'hk) = e.data.toList) :
    (o ++ e).data.toList = escL attr (s.data.toList.take (k + 1)) := by
  have hk' : k < s.data.toList.length := by rw [← Lib.size_eq]; exact hk
  rw [List.take_succ_eq_append_getElem hk', ByteArray.data_append, Array.toList_append, h]
  unfold escL
  rw [List.flatMap_append]
  congr 1
  rw [← he]
  simp
  rfl

theorem one_byte (s : ByteArray) (k : Nat) (hk : k < s.size) : (s.extract k (k + 1)).data.toList = [s[k]'hk] := by
  have hk' : k < s.data.size := hk
  rw [ByteArray.data_extract]
  apply List.ext_getElem?
  intro j
  simp only [Array.getElem?_toList, Array.getElem?_extract]
  cases j with
  | zero =>
    have h0 : 0 < min (k + 1) s.data.size - k := by omega
    simp only [Nat.add_zero]
    rw [if_pos h0, Array.getElem?_eq_getElem hk']
    rfl
  | succ j =>
    have h0 : ¬ j + 1 < min (k + 1) s.data.size - k := by omega
    rw [if_neg h0]
    rfl

theorem esc_len {attr : Bool} {s o : ByteArray} {k : Nat} (h : o.data.toList = escL attr (s.data.toList.take k)) : o.size ≤ 6 * k := by
  have := escL_len attr (s.data.toList.take k)
  rw [← h] at this
  rw [Lib.size_eq]
  simp only [List.length_take] at this
  omega

set_option maxRecDepth 100000 in
set_option maxHeartbeats 4000000 in
theorem refEscape_any (attr : Bool) (s : ByteArray) (hs : s.size ≤ 20000) (w : World) :
    Calls Tryz.prog 14 #[.string s, .bool attr] w fun e w' => e = .returned (.string ⟨(escL attr s.data.toList).toArray⟩) ∧ Below w.heap.size w w' := by
  go_enter Tryz.func14, Tryz.ntmps14
  go_wp2_with fail
  go_loopw [5, 6] (fun v5 v6 wr => ∃ (k : Nat) (o : ByteArray), k ≤ s.size ∧ v6 = .int .i64 k ∧ v5 = .string o ∧ Hid (o.data.toList = escL attr (s.data.toList.take k)) ∧ Below w.heap.size w wr) (fun _ v _ => s.size - (intOf v).toNat)
  case atStart => exact ⟨0, _, Nat.zero_le _, rfl, rfl, rfl, Below.refl _ _⟩
  case round =>
    obtain ⟨k, o, hk, rfl, rfl, HO, hb⟩ := hrel
    have HB := Lib.hid hb
    have hol := esc_len HO.out
    clear hb
    by_cases hlt : k < s.size
    · have HE := escB_int attr (s[k]'hlt)
      have H1 := Lib.hid (one_byte s k hlt)
      cases attr with
      | false =>
        cases h38 : ((s[k]'hlt).toNat : Int) == 38 with
        | true =>
          simp only [h38, if_true, if_false, Bool.false_eq_true, Bool.true_and, Bool.false_and] at HE
          have HE2 := Lib.hid HE
          clear HE
          go_wp2_with fail
          exact ⟨⟨k + 1, _, by omega, by go_num, rfl, esc_next hlt HO.out HE2.out, HB.out⟩, by simp [intOf]; omega⟩
        | false =>
          cases h60 : ((s[k]'hlt).toNat : Int) == 60 with
          | true =>
            simp only [h38, h60, if_true, if_false, Bool.false_eq_true, Bool.true_and, Bool.false_and] at HE
            have HE2 := Lib.hid HE
            clear HE
            go_wp2_with fail
            exact ⟨⟨k + 1, _, by omega, by go_num, rfl, esc_next hlt HO.out HE2.out, HB.out⟩, by simp [intOf]; omega⟩
          | false =>
            cases h62 : ((s[k]'hlt).toNat : Int) == 62 with
            | true =>
              simp only [h38, h60, h62, if_true, if_false, Bool.false_eq_true, Bool.true_and, Bool.false_and] at HE
              have HE2 := Lib.hid HE
              clear HE
              go_wp2_with fail
              exact ⟨⟨k + 1, _, by omega, by go_num, rfl, esc_next hlt HO.out HE2.out, HB.out⟩, by simp [intOf]; omega⟩
            | false =>
              cases h13 : ((s[k]'hlt).toNat : Int) == 13 with
              | true =>
                simp only [h38, h60, h62, h13, if_true, if_false, Bool.false_eq_true, Bool.true_and, Bool.false_and] at HE
                have HE2 := Lib.hid HE
                clear HE
                go_wp2_with fail
                exact ⟨⟨k + 1, _, by omega, by go_num, rfl, esc_next hlt HO.out HE2.out, HB.out⟩, by simp [intOf]; omega⟩
              | false =>
                simp only [h38, h60, h62, h13, if_true, if_false, Bool.false_eq_true, Bool.true_and, Bool.false_and] at HE
                have HE2 := Lib.hid HE
                clear HE
                go_wp2_with fail
                exact ⟨⟨k + 1, _, by omega, by go_num, rfl, esc_next hlt HO.out (by rw [H1.out]; exact HE2.out), HB.out⟩, by simp [intOf]; omega⟩
      | true =>
        cases h38 : ((s[k]'hlt).toNat : Int) == 38 with
        | true =>
          simp only [h38, if_true, if_false, Bool.false_eq_true, Bool.true_and, Bool.false_and] at HE
          have HE2 := Lib.hid HE
          clear HE
          go_wp2_with fail
          exact ⟨⟨k + 1, _, by omega, by go_num, rfl, esc_next hlt HO.out HE2.out, HB.out⟩, by simp [intOf]; omega⟩
        | false =>
          cases h60 : ((s[k]'hlt).toNat : Int) == 60 with
          | true =>
            simp only [h38, h60, if_true, if_false, Bool.false_eq_true, Bool.true_and, Bool.false_and] at HE
            have HE2 := Lib.hid HE
            clear HE
            go_wp2_with fail
            exact ⟨⟨k + 1, _, by omega, by go_num, rfl, esc_next hlt HO.out HE2.out, HB.out⟩, by simp [intOf]; omega⟩
          | false =>
            cases h62 : ((s[k]'hlt).toNat : Int) == 62 with
            | true =>
              simp only [h38, h60, h62, if_true, if_false, Bool.false_eq_true, Bool.true_and, Bool.false_and] at HE
              have HE2 := Lib.hid HE
              clear HE
              go_wp2_with fail
              exact ⟨⟨k + 1, _, by omega, by go_num, rfl, esc_next hlt HO.out HE2.out, HB.out⟩, by simp [intOf]; omega⟩
            | false =>
              cases h13 : ((s[k]'hlt).toNat : Int) == 13 with
              | true =>
                simp only [h38, h60, h62, h13, if_true, if_false, Bool.false_eq_true, Bool.true_and, Bool.false_and] at HE
                have HE2 := Lib.hid HE
                clear HE
                go_wp2_with fail
                exact ⟨⟨k + 1, _, by omega, by go_num, rfl, esc_next hlt HO.out HE2.out, HB.out⟩, by simp [intOf]; omega⟩
              | false =>
                cases h34 : ((s[k]'hlt).toNat : Int) == 34 with
                | true =>
                  simp only [h38, h60, h62, h13, h34, if_true, if_false, Bool.false_eq_true, Bool.true_and, Bool.false_and] at HE
                  have HE2 := Lib.hid HE
                  clear HE
                  go_wp2_with fail
                  exact ⟨⟨k + 1, _, by omega, by go_num, rfl, esc_next hlt HO.out HE2.out, HB.out⟩, by simp [intOf]; omega⟩
                | false =>
                  cases h9 : ((s[k]'hlt).toNat : Int) == 9 with
                  | true =>
                    simp only [h38, h60, h62, h13, h34, h9, if_true, if_false, Bool.false_eq_true, Bool.true_and, Bool.false_and] at HE
                    have HE2 := Lib.hid HE
                    clear HE
                    go_wp2_with fail
                    exact ⟨⟨k + 1, _, by omega, by go_num, rfl, esc_next hlt HO.out HE2.out, HB.out⟩, by simp [intOf]; omega⟩
                  | false =>
                    cases h10 : ((s[k]'hlt).toNat : Int) == 10 with
                    | true =>
                      simp only [h38, h60, h62, h13, h34, h9, h10, if_true, if_false, Bool.false_eq_true, Bool.true_and, Bool.false_and] at HE
                      have HE2 := Lib.hid HE
                      clear HE
                      go_wp2_with fail
                      exact ⟨⟨k + 1, _, by omega, by go_num, rfl, esc_next hlt HO.out HE2.out, HB.out⟩, by simp [intOf]; omega⟩
                    | false =>
                      simp only [h38, h60, h62, h13, h34, h9, h10, if_true, if_false, Bool.false_eq_true, Bool.true_and, Bool.false_and] at HE
                      have HE2 := Lib.hid HE
                      clear HE
                      go_wp2_with fail
                      exact ⟨⟨k + 1, _, by omega, by go_num, rfl, esc_next hlt HO.out (by rw [H1.out]; exact HE2.out), HB.out⟩, by simp [intOf]; omega⟩
    · obtain rfl : k = s.size := by omega
      go_wp2_with fail
      go_ret
      refine ⟨?_, HB.out⟩
      have h := HO.out
      rw [List.take_of_length_le (by rw [← Lib.size_eq]; exact Nat.le_refl _)] at h
      rw [← h, ba_eq]
      rfl
end Go.Proofs.YtfgcpkobfmcflaaGreatDoor
