/-
  escape.named, whole: what it answers, or that it panics.
-/
import Derived.Test.YtfgcpkobfmcflaaGreatDoorNamedW
namespace Go.Proofs.YtfgcpkobfmcflaaGreatDoor
open Go.RowKit

theorem numv_hex (base : Nat) : ∀ l acc, isHex l = false → numv base acc l = none
  | [], acc, h => by simp [isHex] at h
  | c :: r, acc, h => by
    simp only [numv]
    by_cases hc : (hexv c).isSome = true
    · have hr : isHex r = false := by
        have h' := h
        simp only [isHex, List.all_cons, hc, Bool.true_and] at h'
        exact h'
      cases hd : digv base c with
      | none => rfl
      | some d => simpa using numv_hex base r _ hr
    · have : hexv c = none := by
        cases hq : hexv c with
        | none => rfl
        | some d => simp [hq] at hc
      simp [digv, this]

theorem char_lt {v : Int} (h : isChar v = true) : v < 2000000 := by
  unfold isChar amongB charRs at h
  simp at h
  omega

theorem charOf_parse (base : Nat) (l : List UInt8) : charOf base l = (parseV base l).bind fun v => if isChar (v : Int) then some (Utf8.encode v).data.toList else none := by
  unfold charOf parseV
  by_cases hl : l = []
  · rw [if_pos hl, if_pos hl]; rfl
  · rw [if_neg hl, if_neg hl]
    cases hn : numv base 0 l with
    | none => rfl
    | some v =>
      simp only [Option.bind_some]
      by_cases hv : v < 9223372036854775808
      · rw [if_pos hv]; rfl
      · rw [if_neg hv]
        have : isChar (v : Int) = false := by
          cases hc : isChar (v : Int) with
          | false => rfl
          | true => have := char_lt hc; omega
        simp [this]

theorem charOf_nohex (base : Nat) (l : List UInt8) (h : isHex l = false) : charOf base l = none := by
  unfold charOf
  split
  · rfl
  · rw [numv_hex base l 0 h]; rfl

theorem namedL_five (l : List UInt8) (c : Int) (h : nameNum l = some c) : namedL l = some (Utf8.encode c).data.toList := by
  unfold nameNum at h
  unfold namedL
  split at h
  · cases h; subst l; rw [if_pos rfl]; decide
  · split at h
    · cases h; subst l; rfl
    · split at h
      · cases h; subst l; rfl
      · split at h
        · cases h; subst l; rfl
        · split at h
          · cases h; subst l; rfl
          · cases h

theorem namedL_rest (l : List UInt8) (h : nameNum l = none) : namedL l = hashL l := by
  unfold nameNum at h
  unfold namedL
  split at h
  · cases h
  · rename_i h1
    rw [if_neg h1]
    split at h
    · cases h
    · rename_i h2
      rw [if_neg h2]
      split at h
      · cases h
      · rename_i h3
        rw [if_neg h3]
        split at h
        · cases h
        · rename_i h4
          rw [if_neg h4]
          split at h
          · cases h
          · rename_i h5
            rw [if_neg h5]

theorem namedL_hash (l : List UInt8) (h : nameNum l = none) :
    (Lib.hasPrefix l [35] = false ∧ namedL l = none) ∨
    ∃ b m, Lib.hasPrefix l [35] = true ∧ Lib.hasPrefix (Lib.trimPrefix l [35]) [120] = b ∧ Lib.trimPrefix (Lib.trimPrefix l [35]) [120] = m ∧ m.length ≤ l.length ∧ namedL l = charOf (if b then 16 else 10) m := by
  rw [namedL_rest l h]
  cases l with
  | nil => left; exact ⟨rfl, rfl⟩
  | cons x t =>
    by_cases hx : x = 35
    · subst hx
      right
      have p1 : Lib.hasPrefix (35 :: t) [35] = true := by simp [Lib.hasPrefix, List.isPrefixOf]
      have p2 : Lib.trimPrefix (35 :: t) [35] = t := by unfold Lib.trimPrefix; rw [p1]; rfl
      rw [p1, p2]
      cases t with
      | nil => exact ⟨false, [], rfl, rfl, rfl, by simp, rfl⟩
      | cons y u =>
        by_cases hy : y = 120
        · subst hy
          have q1 : Lib.hasPrefix (120 :: u) [120] = true := by simp [Lib.hasPrefix, List.isPrefixOf]
          have q2 : Lib.trimPrefix (120 :: u) [120] = u := by unfold Lib.trimPrefix; rw [q1]; rfl
          exact ⟨true, u, rfl, q1, q2, by simp; omega, rfl⟩
        · have q1 : Lib.hasPrefix (y :: u) [120] = false := by
            have : ¬ 120 = y := fun e => hy e.symm
            simp [Lib.hasPrefix, List.isPrefixOf, this]
          have q2 : Lib.trimPrefix (y :: u) [120] = y :: u := by unfold Lib.trimPrefix; rw [q1]; rfl
          exact ⟨false, y :: u, rfl, q1, q2, by simp, by simp [hashL, hy]⟩
    · left
      constructor
      · have : ¬ 35 = x := fun e => hx e.symm
        simp [Lib.hasPrefix, List.isPrefixOf, this]
      · simp [hashL, hx]

theorem ba_eq (b : ByteArray) : (⟨b.data.toList.toArray⟩ : ByteArray) = b := by rw [Array.toArray_toList]

theorem named_some (s : ByteArray) (hs : s.size ≤ 100000) (r : List UInt8) (hr : namedL s.data.toList = some r) (w : World) (hw : Env w) :
    Calls Tryz.prog 25 #[.string s] w fun e w' => e = .returned (.string ⟨r.toArray⟩) ∧ Below w.heap.size w w' := by
  cases hc : nameNum s.data.toList with
  | some c =>
    rw [namedL_five _ c hc] at hr
    injection hr with hr
    subst hr
    rw [ba_eq]
    exact named_five s hs c hc w
  | none =>
    rcases namedL_hash _ hc with ⟨_, h⟩ | ⟨b, m, hp, hx, hm, hl, h⟩
    · rw [h] at hr; cases hr
    · rw [h] at hr
      have hml : m.length ≤ 100000 := by rw [← Lib.size_eq] at hl; omega
      cases hh : isHex m with
      | false => rw [charOf_nohex _ m hh] at hr; cases hr
      | true =>
        rw [charOf_parse] at hr
        cases hv : parseV (if b then 16 else 10) m with
        | none => rw [hv] at hr; cases hr
        | some v =>
          rw [hv] at hr
          simp only [Option.bind_some] at hr
          cases hch : isChar (v : Int) with
          | false => rw [hch] at hr; simp at hr
          | true =>
            rw [hch, if_pos rfl] at hr
            injection hr with hr
            subst hr
            rw [ba_eq]
            exact named_char s hs hc _ rfl hp b m hm hx hml hh v hv hch (by have := char_lt hch; omega) w hw

theorem named_fail (s : ByteArray) (hs : s.size ≤ 100000) (hr : namedL s.data.toList = none) (w : World) (hw : Env w) :
    Calls Tryz.prog 25 #[.string s] w fun e w' => RefPanic w.heap.size w e w' := by
  cases hc : nameNum s.data.toList with
  | some c => rw [namedL_five _ c hc] at hr; cases hr
  | none =>
    rcases namedL_hash _ hc with ⟨hp, _⟩ | ⟨b, m, hp, hx, hm, hl, h⟩
    · exact named_bare s hs hc hp w
    · rw [h] at hr
      have hml : m.length ≤ 100000 := by rw [← Lib.size_eq] at hl; omega
      cases hh : isHex m with
      | false => exact named_letters s hs hc _ rfl hp b m hm hx hml hh w
      | true =>
        rw [charOf_parse] at hr
        cases hv : parseV (if b then 16 else 10) m with
        | none => exact named_none s hs hc _ rfl hp b m hm hx hml hh hv w hw
        | some v =>
          rw [hv] at hr
          simp only [Option.bind_some] at hr
          cases hch : isChar (v : Int) with
          | true => rw [hch] at hr; simp at hr
          | false => exact named_wrong s hs hc _ rfl hp b m hm hx hml hh v hv hch w hw

theorem namedL_size (l r : List UInt8) (h : namedL l = some r) : r.length ≤ 4 := by
  have he : ∀ n : Int, (Utf8.encode n).data.toList.length ≤ 4 := by
    intro n
    unfold Utf8.encode
    dsimp only
    generalize (if Utf8.valid n = true then n.toNat else Utf8.runeError) = c
    split
    · exact Nat.le_of_ble_eq_true rfl
    · split
      · exact Nat.le_of_ble_eq_true rfl
      · split
        · exact Nat.le_of_ble_eq_true rfl
        · exact Nat.le_of_ble_eq_true rfl
  cases hc : nameNum l with
  | some c => rw [namedL_five _ c hc] at h; cases h; exact he c
  | none =>
    rcases namedL_hash _ hc with ⟨_, hn⟩ | ⟨b, m, _, _, _, _, hn⟩
    · rw [hn] at h; cases h
    · rw [hn, charOf_parse] at h
      cases hv : parseV (if b then 16 else 10) m with
      | none => rw [hv] at h; cases h
      | some v =>
        rw [hv] at h
        simp only [Option.bind_some] at h
        split at h
        · injection h with h; rw [← h]; exact he v
        · cases h
end Go.Proofs.YtfgcpkobfmcflaaGreatDoor
