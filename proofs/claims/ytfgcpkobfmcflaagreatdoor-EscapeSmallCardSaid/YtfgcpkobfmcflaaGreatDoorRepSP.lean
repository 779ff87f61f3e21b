/-
  Plain words for a table of texts: what it makes of a text, and how long that is. No program.
-/
import Derived.Test.YtfgcpkobfmcflaaGreatDoorRepS
set_option linter.unusedVariables false
namespace Go.Proofs.YtfgcpkobfmcflaaGreatDoor

def escR (ps : List (UInt8 × List UInt8)) (c : UInt8) : List UInt8 := (lk ps c).getD [c]

theorem escR_none {ps : List (UInt8 × List UInt8)} {c : UInt8} (h : lk ps c = none) : escR ps c = [c] := by simp [escR, h]
theorem escR_some {ps : List (UInt8 × List UInt8)} {c : UInt8} {l : List UInt8} (h : lk ps c = some l) : escR ps c = l := by simp [escR, h]

theorem lk_mem {ps : List (UInt8 × List UInt8)} {c : UInt8} {l : List UInt8} (h : lk ps c = some l) : (c, l) ∈ ps := by
  unfold lk at h
  cases hf : ps.find? (fun p => p.1 == c) with
  | none => rw [hf] at h; cases h
  | some p =>
    rw [hf] at h
    have h1 := List.find?_some hf
    have h2 := List.mem_of_find?_eq_some hf
    simp at h h1
    obtain ⟨a, b⟩ := p
    simp at h h1
    subst h; subst h1
    exact h2

theorem lk_key {ps : List (UInt8 × List UInt8)} {c : UInt8} : (lk ps c).isSome = true ↔ c ∈ ps.map (·.1) := by
  constructor
  · intro h
    obtain ⟨l, hl⟩ := Option.isSome_iff_exists.1 h
    exact List.mem_map.2 ⟨_, lk_mem hl, rfl⟩
  · intro h
    cases hq : lk ps c with
    | some l => rfl
    | none =>
      obtain ⟨p, hp, e⟩ := List.mem_map.1 h
      unfold lk at hq
      cases hf : ps.find? (fun p => p.1 == c) with
      | some q => rw [hf] at hq; cases hq
      | none =>
        have := List.find?_eq_none.1 hf p hp
        simp [e] at this

theorem escR_pos {ps : List (UInt8 × List UInt8)} (h : ∀ p ∈ ps, p.2.length ≤ 6 ∧ 1 ≤ p.2.length) (c : UInt8) : 1 ≤ (escR ps c).length ∧ (escR ps c).length ≤ 6 := by
  cases hq : lk ps c with
  | none => rw [escR_none hq]; simp
  | some l => rw [escR_some hq]; have := h _ (lk_mem hq); exact ⟨this.2, this.1⟩

theorem flat_len {ps : List (UInt8 × List UInt8)} (h : ∀ p ∈ ps, p.2.length ≤ 6 ∧ 1 ≤ p.2.length) : ∀ l : List UInt8, l.length ≤ (l.flatMap (escR ps)).length ∧ (l.flatMap (escR ps)).length ≤ 6 * l.length
  | [] => by simp
  | c :: l => by
    have h1 := flat_len h l
    have h2 := escR_pos h c
    simp only [List.flatMap_cons, List.length_append, List.length_cons]
    omega

theorem flat_take (f : UInt8 → List UInt8) (l : List UInt8) (k : Nat) (h : k < l.length) : (l.take (k + 1)).flatMap f = (l.take k).flatMap f ++ f (l[k]'h) := by
  rw [List.take_succ_eq_append_getElem h, List.flatMap_append]
  simp

/-- The length by bytes that are counted. -/
def sA (f : UInt8 → List UInt8) (l : List UInt8) (ks : List UInt8) : Nat := (ks.map fun x => l.count x * ((f x).length - 1)).sum

theorem sA_cons (f : UInt8 → List UInt8) (c : UInt8) (l : List UInt8) : ∀ ks : List UInt8, ks.Nodup → sA f (c :: l) ks = sA f l ks + (if c ∈ ks then (f c).length - 1 else 0)
  | [], _ => by simp [sA]
  | x :: ks, hn => by
    rw [List.nodup_cons] at hn
    have ih := sA_cons f c l ks hn.2
    have e : ∀ m, sA f m (x :: ks) = m.count x * ((f x).length - 1) + sA f m ks := fun m => by simp [sA]
    rw [e, e, ih, List.count_cons]
    by_cases hx : c = x
    · subst hx
      simp only [beq_self_eq_true, if_true, List.mem_cons, true_or]
      rw [if_neg hn.1, Nat.add_mul]
      omega
    · have h1 : (c == x) = false := by simp [hx]
      simp only [h1, List.mem_cons, hx, false_or]
      simp
      omega

theorem sA_all (ps : List (UInt8 × List UInt8)) (h : ∀ p ∈ ps, p.2.length ≤ 6 ∧ 1 ≤ p.2.length) (ks : List UInt8) (hn : ks.Nodup) (hk : ∀ c, c ∈ ks ↔ (lk ps c).isSome = true) :
    ∀ l : List UInt8, l.length + sA (escR ps) l ks = (l.flatMap (escR ps)).length
  | [] => by
    have e : (fun x : UInt8 => ([] : List UInt8).count x * ((escR ps x).length - 1)) = fun _ => 0 := by funext x; simp
    unfold sA
    rw [e]
    have : ∀ m : List UInt8, (m.map fun _ => 0).sum = 0 := fun m => by induction m with
      | nil => rfl
      | cons _ _ ih => simp only [List.map_cons, List.sum_cons, ih]
    rw [this]; rfl
  | c :: l => by
    have ih := sA_all ps h ks hn hk l
    rw [sA_cons _ _ _ _ hn]
    have hp := escR_pos h c
    simp only [List.flatMap_cons, List.length_append, List.length_cons]
    by_cases hc : c ∈ ks
    · rw [if_pos hc]; omega
    · rw [if_neg hc]
      have : lk ps c = none := by
        cases hq : lk ps c with
        | none => rfl
        | some m => exact absurd ((hk c).2 (by rw [hq]; rfl)) hc
      rw [escR_none this]
      simp only [List.length_cons, List.length_nil]
      omega

theorem sA_take (f : UInt8 → List UInt8) (l ks : List UInt8) (k : Nat) (h : k < ks.length) : sA f l (ks.take (k + 1)) = sA f l (ks.take k) + l.count (ks[k]'h) * ((f (ks[k]'h)).length - 1) := by
  unfold sA
  rw [List.take_succ_eq_append_getElem h, List.map_append, List.sum_append]
  simp only [List.map_cons, List.map_nil, List.sum_cons, List.sum_nil, Nat.add_zero]

def anyR (ps : List (UInt8 × List UInt8)) (l : List UInt8) : Bool := l.any fun c => (lk ps c).isSome
def anyA (l ks : List UInt8) : Bool := ks.any fun x => l.count x != 0

theorem anyA_all (ps : List (UInt8 × List UInt8)) (ks : List UInt8) (hk : ∀ c, c ∈ ks ↔ (lk ps c).isSome = true) (l : List UInt8) : anyA l ks = anyR ps l := by
  unfold anyA anyR
  rw [Bool.eq_iff_iff, List.any_eq_true, List.any_eq_true]
  constructor
  · rintro ⟨x, hx, hc⟩
    refine ⟨x, ?_, (hk x).1 hx⟩
    have : l.count x ≠ 0 := by simpa using hc
    exact List.count_pos_iff.1 (by omega)
  · rintro ⟨x, hx, hc⟩
    refine ⟨x, (hk x).2 hc, ?_⟩
    have := List.count_pos_iff.2 hx
    simp
    omega

theorem anyR_no (ps : List (UInt8 × List UInt8)) : ∀ l : List UInt8, anyR ps l = false → l.flatMap (escR ps) = l
  | [], _ => rfl
  | c :: l, h => by
    unfold anyR at h
    rw [List.any_cons, Bool.or_eq_false_iff] at h
    have h2 := anyR_no ps l h.2
    have h1 : lk ps c = none := by
      cases hq : lk ps c with
      | none => rfl
      | some m => rw [hq] at h; simp at h
    rw [List.flatMap_cons, h2, escR_none h1]
    rfl

theorem escB_reps (attr : Bool) (c : UInt8) : escB attr c = escR (reps attr) c := by
  unfold escB escR
  cases attr
  · simp only [reps, lk, Bool.false_and, Bool.false_eq_true, if_false, List.append_nil]
    by_cases h1 : c = 38
    · subst h1; rfl
    by_cases h2 : c = 60
    · subst h2; rfl
    by_cases h3 : c = 62
    · subst h3; rfl
    by_cases h4 : c = 13
    · subst h4; rfl
    have n1 : ((38 : UInt8) == c) = false := by simp; exact fun e => h1 e.symm
    have n2 : ((60 : UInt8) == c) = false := by simp; exact fun e => h2 e.symm
    have n3 : ((62 : UInt8) == c) = false := by simp; exact fun e => h3 e.symm
    have n4 : ((13 : UInt8) == c) = false := by simp; exact fun e => h4 e.symm
    simp [h1, h2, h3, h4, n1, n2, n3, n4]
  · simp only [reps, lk, Bool.true_and, if_true]
    by_cases h1 : c = 38
    · subst h1; rfl
    by_cases h2 : c = 60
    · subst h2; rfl
    by_cases h3 : c = 62
    · subst h3; rfl
    by_cases h4 : c = 13
    · subst h4; rfl
    by_cases h5 : c = 34
    · subst h5; rfl
    by_cases h6 : c = 9
    · subst h6; rfl
    by_cases h7 : c = 10
    · subst h7; rfl
    have n1 : ((38 : UInt8) == c) = false := by simp; exact fun e => h1 e.symm
    have n2 : ((60 : UInt8) == c) = false := by simp; exact fun e => h2 e.symm
    have n3 : ((62 : UInt8) == c) = false := by simp; exact fun e => h3 e.symm
    have n4 : ((13 : UInt8) == c) = false := by simp; exact fun e => h4 e.symm
    have n5 : ((34 : UInt8) == c) = false := by simp; exact fun e => h5 e.symm
    have n6 : ((9 : UInt8) == c) = false := by simp; exact fun e => h6 e.symm
    have n7 : ((10 : UInt8) == c) = false := by simp; exact fun e => h7 e.symm
    simp [h1, h2, h3, h4, h5, h6, h7, n1, n2, n3, n4, n5, n6, n7]

theorem escL_reps (attr : Bool) (l : List UInt8) : escL attr l = l.flatMap (escR (reps attr)) := by
  unfold escL
  congr 1
  funext c
  exact escB_reps attr c
end Go.Proofs.YtfgcpkobfmcflaaGreatDoor
