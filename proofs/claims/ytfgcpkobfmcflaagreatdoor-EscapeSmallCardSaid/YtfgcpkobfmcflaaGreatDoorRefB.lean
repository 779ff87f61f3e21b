/-
  The document's answer: numbers, code points, names.
-/
import Derived.Test.YtfgcpkobfmcflaaGreatDoorRefA
import Derived.SliceStrings
namespace Go.Proofs.YtfgcpkobfmcflaaGreatDoor
open Go.RowKit

theorem refChar_any (c : Int) (w : World) : Calls Tryz.prog 55 #[.int .i64 c] w fun e w' => e = .returned (.bool (isChar c)) ∧ Below w.heap.size w w' := by
  go_enter Tryz.func55, Tryz.ntmps55
  go_wp2_with fail
  refine (in_any c charRs w.heap.size 10 _ (by decide) ?_ 10 rfl).mono ?_
  · intro k hk
    have hk : k < 5 := hk
    have h5 : k = 0 ∨ k = 1 ∨ k = 2 ∨ k = 3 ∨ k = 4 := by omega
    rcases h5 with rfl | rfl | rfl | rfl | rfl <;> simp [charRs]
  · rintro e w1 ⟨rfl, hb⟩
    go_wp2
    go_ret
    exact ⟨ret_bool rfl, (((Below.refl _ _).alloc (Nat.le_refl _) _)).trans (hb.mono (by simp))⟩

def numL (base : Nat) (l : List UInt8) : Option Nat := if l = [] then none else (numv base 0 l).bind fun v => if isChar (v : Int) then some v else none
theorem charOf_num (base : Nat) (l : List UInt8) : charOf base l = (numL base l).map fun v => (Utf8.encode (v : Int)).data.toList := by
  unfold charOf numL
  split
  · rfl
  · cases numv base 0 l with
    | none => rfl
    | some v =>
      simp only [Option.bind_some]
      split <;> rfl

def numI (base : Nat) (l : List UInt8) : Int := match numL base l with | some v => (v : Int) | none => -1

theorem numv_snoc (base : Nat) : ∀ (l : List UInt8) (a : Nat) (c : UInt8), numv base a (l ++ [c]) = (numv base a l).bind fun v => (digv base c).map fun d => v * base + d
  | [], a, c => by
    simp only [List.nil_append, numv, Option.bind_some]
    cases digv base c <;> rfl
  | x :: l, a, c => by
    simp only [List.cons_append, numv]
    cases digv base x with
    | none => rfl
    | some d => exact numv_snoc base l _ c

theorem numv_stop (base : Nat) : ∀ (l m : List UInt8) (a : Nat), numv base a l = none → numv base a (l ++ m) = none
  | [], m, a, h => by cases h
  | x :: l, m, a, h => by
    simp only [List.cons_append, numv] at *
    cases hd : digv base x with
    | none => rfl
    | some d =>
      rw [hd] at h
      exact numv_stop base l m _ h

theorem isChar_high (v : Nat) (h : 1114112 ≤ v) : isChar (v : Int) = false := by
  unfold isChar amongB charRs
  simp
  omega

theorem not_emp {t : ByteArray} (hne : t.size ≠ 0) : t.toList.isEmpty = false := by
  rw [← decide_eq_emptyBytes]
  exact decide_eq_false (fun h => hne (by rw [h]; rfl))

theorem below_two {w w1 w2 : World} (h : Below w.heap.size w w1) (k : Below w1.heap.size w1 w2) : Below w.heap.size w w2 := h.trans (k.mono h.size)

theorem isChar_min (v : Nat) : isChar ((min v 1114112 : Nat) : Int) = isChar (v : Int) := by
  by_cases h : v ≤ 1114112
  · rw [Nat.min_eq_left h]
  · rw [Nat.min_eq_right (by omega), isChar_high v (by omega)]
    exact isChar_high 1114112 (Nat.le_refl _)

theorem isChar_low (v : Nat) (h : isChar (v : Int) = true) : v < 1114112 := by
  by_cases hh : v < 1114112
  · exact hh
  · rw [isChar_high v (by omega)] at h
    cases h

set_option maxRecDepth 100000 in
set_option maxHeartbeats 4000000 in
theorem refNumber_any (s : ByteArray) (hs : s.size ≤ 20000) (base : Nat) (hb : base = 10 ∨ base = 16) (w : World) :
    Calls Tryz.prog 36 #[.string s, .int .i64 (base : Int)] w fun e w' => e = .returned (.int .i64 (numI base s.data.toList)) ∧ Below w.heap.size w w' := by
  have hb2 : 10 ≤ base ∧ base ≤ 16 := by omega
  obtain ⟨hb3, hb4⟩ := hb2
  have HBB := Lib.hid hb
  clear hb
  obtain ⟨l, hl⟩ : ∃ l, l = s.data.toList := ⟨_, rfl⟩
  have hln : l.length = s.size := by rw [hl, Lib.size_eq]
  have HL := Lib.hid hl
  have HLN := Lib.hid hln
  rw [← hl]
  clear hl hln
  go_enter Tryz.func36, Tryz.ntmps36
  go_wp2_with fail
  go_loopw [5, 6] (fun v5 v6 wr => ∃ (k : Nat) (n : Int), k ≤ s.size ∧ v6 = .int .i64 k ∧ v5 = .int .i64 n ∧ 0 ≤ n ∧ n ≤ 1114112 ∧ Hid (∃ v : Nat, numv base 0 (l.take k) = some v ∧ n = ((min v 1114112 : Nat) : Int)) ∧ Below w.heap.size w wr) (fun _ v _ => s.size - (intOf v).toNat)
  case atStart => exact ⟨0, 0, Nat.zero_le _, rfl, rfl, by omega, by omega, ⟨0, by rw [List.take_zero]; rfl, rfl⟩, Below.refl _ _⟩
  case round =>
    obtain ⟨k, n, hk, rfl, rfl, hn0, hn1, HV, hbl⟩ := hrel
    have HB := Lib.hid hbl
    clear hbl
    by_cases hlt : k < s.size
    · have hget : l[k]? = some (s[k]'hlt) := by
        rw [HL.out, Array.getElem?_toList, Array.getElem?_eq_getElem (show k < s.data.size from hlt)]
        rfl
      have hlk : k < l.length := by rw [HLN.out]; exact hlt
      have htk : l.take (k + 1) = l.take k ++ [s[k]'hlt] := by
        rw [List.take_succ_eq_append_getElem hlk]
        congr 2
        rw [List.getElem?_eq_getElem hlk] at hget
        exact Option.some.inj hget
      have hsn := numv_snoc base (l.take k) 0 (s[k]'hlt)
      rw [← htk] at hsn
      have KD := Lib.hid (refDigit_any (s[k]'hlt) base HBB.out)
      obtain ⟨d, hd⟩ : ∃ d, d = digI base (s[k]'hlt) := ⟨_, rfl⟩
      rw [← hd] at KD
      unfold digI at hd
      cases hdv : digv base (s[k]'hlt) with
      | none =>
        rw [hdv] at hd hsn
        obtain ⟨v, hv, _⟩ := HV.out
        rw [hv] at hsn
        have hnone : numv base 0 l = none := by
          have h1 := numv_stop base (l.take (k + 1)) (l.drop (k + 1)) 0 hsn
          rwa [List.take_append_drop] at h1
        have hr : numI base l = -1 := by
          unfold numI numL
          rw [hnone]
          split
          · next h => split at h <;> cases h
          · rfl
        have HR := Lib.hid hr
        clear hr hnone hsn hv hdv hget hlk htk
        subst hd
        go_wp2_with fail
        refine (KD.out _).mono ?_
        rintro e w1 ⟨rfl, rfl⟩
        go_wp2_with fail
        go_ret
        exact ⟨ret_int HR.out.symm, HB.out⟩
      | some x =>
        rw [hdv] at hd hsn
        have hx : x < base := by
          unfold digv at hdv
          cases hh : hexv (s[k]'hlt) with
          | none => rw [hh] at hdv; cases hdv
          | some y =>
            rw [hh] at hdv
            simp only [Option.bind_some] at hdv
            split at hdv
            · next h => cases hdv; exact h
            · cases hdv
        have hnew : Hid (∃ v : Nat, numv base 0 (l.take (k + 1)) = some v ∧ (if 1114112 < n * (base : Int) + (x : Int) then 1114112 else n * (base : Int) + (x : Int)) = ((min v 1114112 : Nat) : Int)) := by
          obtain ⟨v, hv, hnv⟩ := HV.out
          rw [hv] at hsn
          refine ⟨_, hsn, ?_⟩
          show _ = ((min (v * base + x) 1114112 : Nat) : Int)
          split <;> rcases HBB.out with rfl | rfl <;> omega
        have hmul : 0 ≤ n * (base : Int) ∧ n * (base : Int) ≤ 1114112 * 16 := by
          rcases HBB.out with rfl | rfl <;> omega
        obtain ⟨m, hm⟩ : ∃ m, m = n * (base : Int) := ⟨_, rfl⟩
        clear hsn hdv hget hlk htk
        subst hd
        go_wp2_with fail
        refine (KD.out _).mono ?_
        rintro e w1 ⟨rfl, rfl⟩
        go_wp2_with fail
        exact ⟨⟨k + 1, _, by omega, by go_num, rfl, by split <;> omega, by split <;> omega, hnew, HB.out⟩, by simp [intOf]; omega⟩
    · obtain rfl : k = s.size := by omega
      rw [List.take_of_length_le (by rw [HLN.out]; exact Nat.le_refl _)] at HV
      by_cases hz : s.size = 0
      · have ht : s = ⟨#[]⟩ := by
          obtain ⟨⟨q⟩⟩ := s
          cases q with
          | nil => rfl
          | cons _ _ => simp [ByteArray.size] at hz
        have hr : numI base l = -1 := by
          rw [HL.out, ht]
          rfl
        have HR := Lib.hid hr
        clear hr HV
        subst ht
        go_wp2_with fail
        go_ret
        exact ⟨ret_int HR.out.symm, HB.out⟩
      · have hne : ¬ l = [] := fun h => hz (by rw [← HLN.out, h]; rfl)
        have hne2 := not_emp hz
        have KC := Lib.hid (refChar_any n)
        obtain ⟨v, hv, hnv⟩ := HV.out
        have hic : isChar n = isChar (v : Int) := by rw [hnv, isChar_min]
        have hr : numI base l = if isChar n = true then n else -1 := by
          unfold numI numL
          rw [if_neg hne, hv, hic]
          simp only [Option.bind_some]
          cases hcc : isChar (v : Int) with
          | true =>
            have := isChar_low v hcc
            simp only [if_true]
            omega
          | false => simp
        clear hic hnv
        have HR := Lib.hid hr
        clear hr hv HV
        cases hch : isChar n with
        | true =>
          rw [hch] at KC HR
          go_wp2_with fail
          refine (KC.out _).mono ?_
          rintro e w1 ⟨rfl, hb1⟩
          have HB1 := Lib.hid (below_two HB.out hb1)
          clear hb1
          go_wp2_with fail
          go_ret
          exact ⟨ret_int (by rw [HR.out]; rfl), HB1.out⟩
        | false =>
          rw [hch] at KC HR
          go_wp2_with fail
          refine (KC.out _).mono ?_
          rintro e w1 ⟨rfl, hb1⟩
          have HB1 := Lib.hid (below_two HB.out hb1)
          clear hb1
          go_wp2_with fail
          go_ret
          exact ⟨ret_int (by rw [HR.out]; rfl), HB1.out⟩
end Go.Proofs.YtfgcpkobfmcflaaGreatDoor
