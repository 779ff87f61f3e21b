/-
  Plain words: what is escaped is expanded as it was, and has none of the signs.
-/
import Derived.Test.YtfgcpkobfmcflaaGreatDoorRepSP
set_option linter.unusedVariables false
namespace Go.Proofs.YtfgcpkobfmcflaaGreatDoor

theorem esc_back_one (a b : Bool) (hab : b = true → a = true) (c : UInt8) : ex b none (escB a c) = some [c] := by
  unfold escB
  by_cases h1 : c = 38
  · subst h1; cases b <;> rfl
  rw [if_neg h1]
  by_cases h2 : c = 60
  · subst h2; cases b <;> rfl
  rw [if_neg h2]
  by_cases h3 : c = 62
  · subst h3; cases b <;> rfl
  rw [if_neg h3]
  by_cases h4 : c = 13
  · subst h4; cases b <;> kernel_rfl
  rw [if_neg h4]
  cases a with
  | false =>
    have hb : b = false := by cases b with
      | false => rfl
      | true => exact absurd (hab rfl) (by decide)
    subst hb
    simp [ex, flat, h1]
  | true =>
    by_cases h5 : c = 34
    · subst h5; cases b <;> rfl
    by_cases h6 : c = 9
    · subst h6; cases b <;> kernel_rfl
    by_cases h7 : c = 10
    · subst h7; cases b <;> kernel_rfl
    have e5 : (c == 34) = false := by simpa using h5
    have e6 : (c == 9) = false := by simpa using h6
    have e7 : (c == 10) = false := by simpa using h7
    have e8 : (c == 13) = false := by simpa using h4
    simp only [e5, e6, e7, Bool.and_false, if_false, Bool.false_eq_true]
    simp [ex, flat, h1, e6, e7, e8]

theorem esc_back (a b : Bool) (hab : b = true → a = true) : ∀ l : List UInt8, ex b none (escL a l) = some l
  | [] => rfl
  | c :: l => by
    have h1 := esc_back_one a b hab c
    have h2 := esc_back a b hab l
    have e : escL a (c :: l) = escB a c ++ escL a l := by simp [escL]
    rw [e, ex_append b _ _ none _ h1, h2]
    rfl

theorem escB_free (a : Bool) (c x : UInt8) (hx : x ∈ escB a c) : x ≠ 60 ∧ x ≠ 62 ∧ x ≠ 13 ∧ (a = true → x ≠ 34 ∧ x ≠ 9 ∧ x ≠ 10) := by
  unfold escB at hx
  by_cases h1 : c = 38
  · rw [if_pos h1] at hx; simp at hx; rcases hx with rfl | rfl | rfl | rfl | rfl <;> exact ⟨by decide, by decide, by decide, fun _ => by decide⟩
  rw [if_neg h1] at hx
  by_cases h2 : c = 60
  · rw [if_pos h2] at hx; simp at hx; rcases hx with rfl | rfl | rfl | rfl <;> exact ⟨by decide, by decide, by decide, fun _ => by decide⟩
  rw [if_neg h2] at hx
  by_cases h3 : c = 62
  · rw [if_pos h3] at hx; simp at hx; rcases hx with rfl | rfl | rfl | rfl <;> exact ⟨by decide, by decide, by decide, fun _ => by decide⟩
  rw [if_neg h3] at hx
  by_cases h4 : c = 13
  · rw [if_pos h4] at hx; simp at hx; rcases hx with rfl | rfl | rfl | rfl | rfl <;> exact ⟨by decide, by decide, by decide, fun _ => by decide⟩
  rw [if_neg h4] at hx
  cases a with
  | false =>
    simp at hx
    subst hx
    exact ⟨h2, h3, h4, fun h => by cases h⟩
  | true =>
    by_cases h5 : c = 34
    · subst h5; simp at hx; rcases hx with rfl | rfl | rfl | rfl | rfl | rfl <;> exact ⟨by decide, by decide, by decide, fun _ => by decide⟩
    by_cases h6 : c = 9
    · subst h6; simp at hx; rcases hx with rfl | rfl | rfl | rfl | rfl <;> exact ⟨by decide, by decide, by decide, fun _ => by decide⟩
    by_cases h7 : c = 10
    · subst h7; simp at hx; rcases hx with rfl | rfl | rfl | rfl | rfl <;> exact ⟨by decide, by decide, by decide, fun _ => by decide⟩
    simp [h5, h6, h7] at hx
    subst hx
    exact ⟨h2, h3, h4, fun _ => ⟨h5, h6, h7⟩⟩

theorem escL_free (a : Bool) (l : List UInt8) (x : UInt8) (hx : x ∈ escL a l) : x ≠ 60 ∧ x ≠ 62 ∧ x ≠ 13 ∧ (a = true → x ≠ 34 ∧ x ≠ 9 ∧ x ≠ 10) := by
  unfold escL at hx
  rw [List.mem_flatMap] at hx
  obtain ⟨c, _, hc⟩ := hx
  exact escB_free a c x hc

theorem escL_len (a : Bool) (l : List UInt8) : (escL a l).length ≤ 6 * l.length := by
  rw [escL_reps]
  exact (flat_len (reps_small a) l).2
end Go.Proofs.YtfgcpkobfmcflaaGreatDoor
