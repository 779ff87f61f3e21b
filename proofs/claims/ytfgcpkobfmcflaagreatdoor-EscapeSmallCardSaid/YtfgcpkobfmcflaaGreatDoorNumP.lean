/-
  Plain words for numbers out of digits, to the bases 10 and 16. No program.
-/
import Derived.Test.YtfgcpkobfmcflaaGreatDoorEscP
import Derived.Lib.ParseIntB
namespace Go.Proofs.YtfgcpkobfmcflaaGreatDoor
open Go.Lib (NumEnd)

def hv (c : UInt8) : Nat := (hexv c).getD 0

theorem hexv_lt {c : UInt8} {d : Nat} (h : hexv c = some d) : d < 16 := by
  unfold hexv at h
  split at h
  · cases h; omega
  · split at h
    · cases h; omega
    · split at h
      · cases h; omega
      · cases h

/-- ParseUint(s, 16, 64) of hexadecimal digits. -/
def pu16 : Nat → List UInt8 → NumEnd Nat
  | acc, [] => .ok acc
  | acc, c :: r => if 1152921504606846976 ≤ acc then .range else pu16 (acc * 16 + hv c) r

theorem numv_ge (base : Nat) (hb : 1 ≤ base) : ∀ l acc v, numv base acc l = some v → acc ≤ v
  | [], acc, v, h => by simp [numv] at h; omega
  | c :: r, acc, v, h => by
    simp only [numv] at h
    cases hd : digv base c with
    | none => simp [hd] at h
    | some d =>
      simp [hd] at h
      have := numv_ge base hb r _ v h
      have h2 : acc * 1 ≤ acc * base := Nat.mul_le_mul_left _ hb
      omega

theorem numv_16 (c : UInt8) (r : List UInt8) (acc : Nat) (h : (hexv c).isSome) : numv 16 acc (c :: r) = numv 16 (acc * 16 + hv c) r := by
  obtain ⟨d, hd⟩ := Option.isSome_iff_exists.1 h
  have := hexv_lt hd
  simp [numv, digv, hv, hd, this]

theorem pu16_ok : ∀ l acc v, isHex l = true → numv 16 acc l = some v → v < 18446744073709551616 → pu16 acc l = .ok v
  | [], acc, v, _, h, _ => by simp [numv] at h; simp [pu16, h]
  | c :: r, acc, v, hx, h, hv' => by
    simp only [isHex, List.all_cons, Bool.and_eq_true] at hx
    rw [numv_16 c r acc hx.1] at h
    have hg := numv_ge 16 (by omega) r _ v h
    have hn : ¬ 1152921504606846976 ≤ acc := by omega
    simp only [pu16]
    rw [if_neg hn]
    exact pu16_ok r _ v hx.2 h hv'

theorem numv_16_some : ∀ l acc, isHex l = true → ∃ v, numv 16 acc l = some v
  | [], acc, _ => ⟨acc, rfl⟩
  | c :: r, acc, hx => by
    simp only [isHex, List.all_cons, Bool.and_eq_true] at hx
    rw [numv_16 c r acc hx.1]
    exact numv_16_some r _ hx.2

theorem pu16_big : ∀ l acc v, isHex l = true → numv 16 acc l = some v → 18446744073709551616 ≤ v → acc < 18446744073709551616 → pu16 acc l = .range
  | [], acc, v, _, h, hv', ha => by simp [numv] at h; omega
  | c :: r, acc, v, hx, h, hv', ha => by
    simp only [isHex, List.all_cons, Bool.and_eq_true] at hx
    rw [numv_16 c r acc hx.1] at h
    simp only [pu16]
    by_cases hn : 1152921504606846976 ≤ acc
    · rw [if_pos hn]
    · rw [if_neg hn]
      obtain ⟨d, hd⟩ := Option.isSome_iff_exists.1 hx.1
      have hlt := hexv_lt hd
      have : hv c = d := by simp [hv, hd]
      exact pu16_big r _ v hx.2 h hv' (by omega)

theorem pu16_lt : ∀ l acc v, acc < 18446744073709551616 → pu16 acc l = .ok v → v < 18446744073709551616
  | [], acc, v, ha, h => by simp [pu16] at h; omega
  | c :: r, acc, v, ha, h => by
    simp only [pu16] at h
    split at h
    · cases h
    · refine pu16_lt r _ v ?_ h
      have : hv c < 16 := by
        unfold hv
        cases hc : hexv c with
        | none => simp
        | some d => simpa using hexv_lt hc
      omega

/-- What ParseInt says of digits to a base: the number, if all are digits of that base and it fits. -/
def parseV (base : Nat) (l : List UInt8) : Option Nat :=
  if l = [] then none else (numv base 0 l).bind fun v => if v < 9223372036854775808 then some v else none

theorem digv_10 (c : UInt8) : digv 10 c = if 48 ≤ c.toNat ∧ c.toNat ≤ 57 then some (c.toNat - 48) else none := by
  unfold digv hexv
  by_cases h1 : 48 ≤ c.toNat ∧ c.toNat ≤ 57
  · rw [if_pos h1, if_pos h1]
    have : c.toNat - 48 < 10 := by omega
    simp [this]
  · rw [if_neg h1, if_neg h1]
    by_cases h2 : 97 ≤ c.toNat ∧ c.toNat ≤ 102
    · rw [if_pos h2]
      have : ¬ c.toNat - 87 < 10 := by omega
      simp [this]
    · rw [if_neg h2]
      by_cases h3 : 65 ≤ c.toNat ∧ c.toNat ≤ 70
      · rw [if_pos h3]
        have : ¬ c.toNat - 55 < 10 := by omega
        simp [this]
      · rw [if_neg h3]; rfl

theorem pum_ok : ∀ l acc v, numv 10 acc l = some v → v < 18446744073709551616 → Lib.parseUintM (2 ^ 64 - 1) acc l = .ok v
  | [], acc, v, h, _ => by simp [numv] at h; simp [Lib.parseUintM, h]
  | c :: r, acc, v, h, hv' => by
    simp only [numv, digv_10] at h
    by_cases hc : 48 ≤ c.toNat ∧ c.toNat ≤ 57
    · rw [if_pos hc] at h
      simp only [Option.bind_some] at h
      have hg := numv_ge 10 (by omega) r _ v h
      simp only [Lib.parseUintM]
      rw [if_pos hc, if_neg (by omega), if_neg (by omega)]
      exact pum_ok r _ v h hv'
    · rw [if_neg hc] at h; simp at h

theorem pum_only : ∀ l acc v, Lib.parseUintM (2 ^ 64 - 1) acc l = .ok v → numv 10 acc l = some v
  | [], acc, v, h => by simp [Lib.parseUintM] at h; simp [numv, h]
  | c :: r, acc, v, h => by
    simp only [Lib.parseUintM] at h
    by_cases hc : 48 ≤ c.toNat ∧ c.toNat ≤ 57
    · rw [if_pos hc] at h
      split at h
      · cases h
      · split at h
        · cases h
        · simp only [numv, digv_10, if_pos hc, Option.bind_some]
          exact pum_only r _ v h
    · rw [if_neg hc] at h; cases h

theorem hex_sign {c : UInt8} (h : (hexv c).isSome) : ¬ (c.toNat = 43 ∨ c.toNat = 45) ∧ ¬ c.toNat = 45 := by
  unfold hexv at h
  constructor
  · rintro (e | e) <;> simp [e] at h
  · intro e; simp [e] at h

theorem pib_ok (l : List UInt8) (v : Nat) (hx : isHex l = true) (h : parseV 10 l = some v) : Lib.parseIntB 64 l = .ok (v : Int) := by
  unfold parseV at h
  split at h
  · cases h
  · cases hn : numv 10 0 l with
    | none => simp [hn] at h
    | some u =>
      simp only [hn, Option.bind_some] at h
      split at h
      · cases h
        rename_i hne hlt
        have := pum_ok l 0 v hn (by omega)
        cases l with
        | nil => exact absurd rfl hne
        | cons c r =>
          simp only [isHex, List.all_cons, Bool.and_eq_true] at hx
          obtain ⟨h1, h2⟩ := hex_sign hx.1
          have e : Lib.parseUintB 64 (if c.toNat = 43 ∨ c.toNat = 45 then r else c :: r) = .ok v := by
            rw [if_neg h1]; unfold Lib.parseUintB; rw [if_neg hne]; exact this
          unfold Lib.parseIntB
          simp only []
          rw [e]
          simp only []
          rw [if_neg (by omega), if_neg (fun hh => h2 hh.1), if_neg h2]
      · cases h

theorem pib_bad (l : List UInt8) (hx : isHex l = true) (h : parseV 10 l = none) (v : Int) : Lib.parseIntB 64 l ≠ .ok v := by
  cases l with
  | nil => intro e; cases e
  | cons c r =>
    have hx0 := hx
    simp only [isHex, List.all_cons, Bool.and_eq_true] at hx
    obtain ⟨h1, h2⟩ := hex_sign hx.1
    have hne : ¬ (c :: r) = [] := by simp
    simp only [Lib.parseIntB, if_neg h1, Lib.parseUintB, if_neg hne]
    cases hp : Lib.parseUintM (2 ^ 64 - 1) 0 (c :: r)
    · rename_i u
      have hn := pum_only _ _ _ hp
      unfold parseV at h
      rw [if_neg hne, hn] at h
      simp only [Option.bind_some] at h
      split at h
      · cases h
      · rename_i hge
        simp only []
        rw [if_pos ⟨h2, by omega⟩]
        intro e; cases e
    · intro e; cases e
    · intro e; cases e

end Go.Proofs.YtfgcpkobfmcflaaGreatDoor
