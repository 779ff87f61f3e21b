/-
  The walk of EscapeParts.
-/
import Derived.Test.YtfgcpkobfmcflaaGreatDoorAwake
namespace Go.Proofs.YtfgcpkobfmcflaaGreatDoor
open Go.RowKit

theorem expC_same (l : List UInt8) : expC false l = expC true l := by
  have h := ex_none_iff l none
  unfold expC
  cases h1 : ex false none l <;> cases h2 : ex true none l <;> simp [h1, h2] at h ⊢

theorem expC_cases (attr : Bool) (l : List UInt8) : expC attr l = 0 ∨ expC attr l = 60 := by
  unfold expC
  cases ex attr none l
  · exact .inr rfl
  · exact .inl rfl

theorem exp_parts (attr : Bool) (s t : ByteArray) (h1 : expC attr s.data.toList = 0) (h2 : expC attr t.data.toList = 0) :
    expC attr (s ++ t).data.toList = 0 ∧ expS attr (s ++ t).data.toList = expS attr s.data.toList ++ expS attr t.data.toList := by
  have e : (s ++ t).data.toList = s.data.toList ++ t.data.toList := by simp [ByteArray.data_append]
  rw [e]
  unfold expC expS at *
  cases ha : ex attr none s.data.toList with
  | none => rw [ha] at h1; cases h1
  | some a =>
    cases hb : ex attr none t.data.toList with
    | none => rw [hb] at h2; cases h2
    | some b =>
      rw [ex_append attr _ _ none a ha, hb]
      simp only [Option.map_some]
      refine ⟨trivial, ?_⟩
      apply ByteArray.ext
      simp [ByteArray.data_append]

theorem ex_size (attr : Bool) : ∀ (l : List UInt8) (p : Option (List UInt8)) (a : List UInt8), ex attr p l = some a → a.length ≤ 4 * l.length
  | [], none, a, h => by simp [ex] at h; subst h; simp
  | [], some _, a, h => by simp [ex] at h
  | x :: l, none, a, h => by
    simp only [ex] at h
    split at h
    · have := ex_size attr l _ a h
      simp only [List.length_cons]; omega
    · cases hs : ex attr none l with
      | none => simp [hs] at h
      | some b =>
        simp [hs] at h
        subst h
        have := ex_size attr l _ b hs
        simp only [List.length_cons]; omega
  | x :: l, some nm, a, h => by
    simp only [ex] at h
    split at h
    · cases hn : namedL nm with
      | none => simp [hn] at h
      | some t =>
        cases hs : ex attr none l with
        | none => simp [hn, hs] at h
        | some b =>
          simp [hn, hs] at h
          subst h
          have := ex_size attr l _ b hs
          have := namedL_size nm t hn
          simp only [List.length_cons, List.length_append]; omega
    · have := ex_size attr l _ a h
      simp only [List.length_cons]; omega

theorem expS_size (attr : Bool) (s : ByteArray) : (expS attr s.data.toList).size ≤ 4 * s.size := by
  unfold expS
  split
  · next r h =>
    have := ex_size attr _ _ r h
    rw [Array.length_toList] at this
    show r.toArray.size ≤ 4 * s.data.size
    rw [List.size_toArray]
    exact this
  · exact Nat.zero_le _

set_option maxRecDepth 100000 in
set_option maxHeartbeats 4000000 in
theorem parts_any (s t : ByteArray) (w : World) (hw : Env w) :
    Calls Tryz.prog 6 #[.string s, .string t] w fun e w' => e = .returned (.bool true) ∧ Below w.heap.size w w' := by
  by_cases hst : s.size ≤ 3000 ∧ t.size ≤ 3000
  · obtain ⟨hs, ht⟩ := hst
    have hst2 : (s ++ t).size ≤ 20000 := by rw [ByteArray.size_append]; omega
    have HW := Lib.hid hw
    have K1 := Lib.hid (Expand_two s (by omega))
    have K2 := Lib.hid (Expand_two t (by omega))
    have K3 := Lib.hid (Expand_two (s ++ t) hst2)
    have K4 := Lib.hid (Value_two s (by omega))
    have K5 := Lib.hid (Value_two t (by omega))
    have K6 := Lib.hid (Value_two (s ++ t) hst2)
    have P1 := Lib.hid (exp_parts false s t)
    have P2 := Lib.hid (exp_parts true s t)
    have hz1 : (expS false s.data.toList).size + (expS false t.data.toList).size ≤ 9223372036854775807 := by have := expS_size false s; have := expS_size false t; omega
    have hz2 : (expS true s.data.toList).size + (expS true t.data.toList).size ≤ 9223372036854775807 := by have := expS_size true s; have := expS_size true t; omega
    obtain ⟨a1, ha1⟩ : ∃ x, x = expS false s.data.toList := ⟨_, rfl⟩
    obtain ⟨a2, ha2⟩ : ∃ x, x = expS false t.data.toList := ⟨_, rfl⟩
    obtain ⟨a3, ha3⟩ : ∃ x, x = expS false (s ++ t).data.toList := ⟨_, rfl⟩
    obtain ⟨a4, ha4⟩ : ∃ x, x = expS true s.data.toList := ⟨_, rfl⟩
    obtain ⟨a5, ha5⟩ : ∃ x, x = expS true t.data.toList := ⟨_, rfl⟩
    obtain ⟨a6, ha6⟩ : ∃ x, x = expS true (s ++ t).data.toList := ⟨_, rfl⟩
    obtain ⟨c1, hc1⟩ : ∃ x, x = expC false s.data.toList := ⟨_, rfl⟩
    obtain ⟨c2, hc2⟩ : ∃ x, x = expC false t.data.toList := ⟨_, rfl⟩
    obtain ⟨c3, hc3⟩ : ∃ x, x = expC false (s ++ t).data.toList := ⟨_, rfl⟩
    obtain ⟨c6, hc6⟩ : ∃ x, x = expC true (s ++ t).data.toList := ⟨_, rfl⟩
    rw [← expC_same, ← hc1, ← ha4] at K4
    rw [← expC_same, ← hc2, ← ha5] at K5
    rw [← hc6, ← ha6] at K6
    rw [← hc1, ← ha1] at K1
    rw [← ha1, ← ha2] at hz1
    rw [← ha4, ← ha5] at hz2
    rw [← hc2, ← ha2] at K2
    rw [← hc3, ← ha3] at K3
    rw [← hc1, ← hc2, ← hc3, ← ha1, ← ha2, ← ha3] at P1
    rw [← expC_same, ← expC_same, ← hc1, ← hc2, ← hc6, ← ha4, ← ha5, ← ha6] at P2
    have hc1' := expC_cases false s.data.toList
    have hc2' := expC_cases false t.data.toList
    rw [← hc1] at hc1'
    rw [← hc2] at hc2'
    clear hw ha1 ha2 ha3 ha4 ha5 ha6 hc1 hc2 hc3 hc6 hst2
    rcases hc1' with rfl | rfl <;> rcases hc2' with rfl | rfl
    · obtain ⟨rfl, rfl⟩ := P1.out rfl rfl
      obtain ⟨rfl, rfl⟩ := P2.out rfl rfl
      clear P1 P2
      go_enter Tryz.func6, Tryz.ntmps6
      go_wp2_with fail
      refine (awake_any _ HW.out).mono ?_
      rintro e w0 ⟨rfl, hb0⟩
      have HB0 := Lib.hid hb0
      clear hb0
      go_wp2_with fail
      refine (K1.out _ (HW.out.below HB0.out)).mono ?_
      rintro e w1 ⟨rfl, hb1⟩
      have HB1 := Lib.hid (below_two HB0.out hb1)
      clear hb1
      go_wp2_with fail
      refine (K2.out _ (HW.out.below HB1.out)).mono ?_
      rintro e w2 ⟨rfl, hb2⟩
      have HB2 := Lib.hid (below_two HB1.out hb2)
      clear hb2
      go_wp2_with fail
      refine (K3.out _ (HW.out.below HB2.out)).mono ?_
      rintro e w3 ⟨rfl, hb3⟩
      have HB3 := Lib.hid (below_two HB2.out hb3)
      clear hb3
      go_wp2_with fail
      refine (K4.out _ (HW.out.below HB3.out)).mono ?_
      rintro e w4 ⟨rfl, hb4⟩
      have HB4 := Lib.hid (below_two HB3.out hb4)
      clear hb4
      go_wp2_with fail
      refine (K5.out _ (HW.out.below HB4.out)).mono ?_
      rintro e w5 ⟨rfl, hb5⟩
      have HB5 := Lib.hid (below_two HB4.out hb5)
      clear hb5
      go_wp2_with fail
      refine (K6.out _ (HW.out.below HB5.out)).mono ?_
      rintro e w6 ⟨rfl, hb6⟩
      have HB6 := Lib.hid (below_two HB5.out hb6)
      clear hb6
      go_wp2_with fail
      go_ret
      exact ⟨rfl, HB6.out⟩
    all_goals
      clear P1 P2
      go_enter Tryz.func6, Tryz.ntmps6
      go_wp2_with fail
      refine (awake_any _ HW.out).mono ?_
      rintro e w0 ⟨rfl, hb0⟩
      have HB0 := Lib.hid hb0
      clear hb0
      go_wp2_with fail
      refine (K1.out _ (HW.out.below HB0.out)).mono ?_
      rintro e w1 ⟨rfl, hb1⟩
      have HB1 := Lib.hid (below_two HB0.out hb1)
      clear hb1
      go_wp2_with fail
      refine (K2.out _ (HW.out.below HB1.out)).mono ?_
      rintro e w2 ⟨rfl, hb2⟩
      have HB2 := Lib.hid (below_two HB1.out hb2)
      clear hb2
      go_wp2_with fail
      refine (K3.out _ (HW.out.below HB2.out)).mono ?_
      rintro e w3 ⟨rfl, hb3⟩
      have HB3 := Lib.hid (below_two HB2.out hb3)
      clear hb3
      go_wp2_with fail
      refine (K4.out _ (HW.out.below HB3.out)).mono ?_
      rintro e w4 ⟨rfl, hb4⟩
      have HB4 := Lib.hid (below_two HB3.out hb4)
      clear hb4
      go_wp2_with fail
      refine (K5.out _ (HW.out.below HB4.out)).mono ?_
      rintro e w5 ⟨rfl, hb5⟩
      have HB5 := Lib.hid (below_two HB4.out hb5)
      clear hb5
      go_wp2_with fail
      refine (K6.out _ (HW.out.below HB5.out)).mono ?_
      rintro e w6 ⟨rfl, hb6⟩
      have HB6 := Lib.hid (below_two HB5.out hb6)
      clear hb6
      go_wp2_with fail
      go_ret
      exact ⟨rfl, HB6.out⟩
  · have HW := Lib.hid hw
    by_cases hs : s.size ≤ 3000
    · have ht : ¬ t.size ≤ 3000 := fun h => hst ⟨hs, h⟩
      clear hw hst
      go_enter Tryz.func6, Tryz.ntmps6
      go_wp2_with fail
      refine (awake_any _ HW.out).mono ?_
      rintro e w0 ⟨rfl, hb0⟩
      have HB0 := Lib.hid hb0
      clear hb0
      go_wp2_with fail
      go_ret
      exact ⟨rfl, HB0.out⟩
    · clear hw hst
      go_enter Tryz.func6, Tryz.ntmps6
      go_wp2_with fail
      refine (awake_any _ HW.out).mono ?_
      rintro e w0 ⟨rfl, hb0⟩
      have HB0 := Lib.hid hb0
      clear hb0
      go_wp2_with fail
      go_ret
      exact ⟨rfl, HB0.out⟩
end Go.Proofs.YtfgcpkobfmcflaaGreatDoor
