/-
  The document's answer: what a reference's name is.
-/
import Derived.Test.YtfgcpkobfmcflaaGreatDoorRefU
import Derived.Lib.PathFns
namespace Go.Proofs.YtfgcpkobfmcflaaGreatDoor
open Go.RowKit

def namedR (l : List UInt8) : ByteArray := match namedL l with | some r => ⟨r.toArray⟩ | none => ⟨#[]⟩
def hashR (l : List UInt8) : ByteArray := match hashL l with | some r => ⟨r.toArray⟩ | none => ⟨#[]⟩

theorem namedR_hash (l : List UInt8) (h1 : ¬ l = [108, 116]) (h2 : ¬ l = [103, 116]) (h3 : ¬ l = [97, 109, 112]) (h4 : ¬ l = [113, 117, 111, 116]) (h5 : ¬ l = [97, 112, 111, 115]) : namedR l = hashR l := by
  unfold namedR hashR namedL
  rw [if_neg h1, if_neg h2, if_neg h3, if_neg h4, if_neg h5]

def charR (base : Nat) (l : List UInt8) : ByteArray := match numL base l with | some v => Utf8.encode (v : Int) | none => ⟨#[]⟩

theorem charR_of (base : Nat) (l : List UInt8) : (match charOf base l with | some r => (⟨r.toArray⟩ : ByteArray) | none => ⟨#[]⟩) = charR base l := by
  rw [charOf_num]
  unfold charR
  cases numL base l with
  | none => rfl
  | some v =>
    simp only [Option.map_some]
    exact ba_eq _

theorem hashR_16 (l : List UInt8) (h : l.take 2 = [35, 120]) : hashR l = charR 16 (l.drop 2) := by
  match l, h with
  | x :: y :: t, h =>
    simp at h
    obtain ⟨rfl, rfl⟩ := h
    exact charR_of 16 t
theorem hashR_10 (l : List UInt8) (h : ¬ (2 < l.length ∧ l.take 2 = [35, 120])) (h1 : 1 < l.length) (h2 : l.take 1 = [35]) : hashR l = charR 10 (l.drop 1) := by
  match l, h, h1, h2 with
  | y :: x :: t, h, _, h2 =>
    simp at h2
    subst h2
    by_cases hx : x = 120
    · subst hx
      cases t with
      | nil => decide
      | cons y t => exact absurd ⟨by simp, rfl⟩ h
    · have : hashL (35 :: x :: t) = charOf 10 (x :: t) := by
        unfold hashL
        split
        · next heq => injection heq with _ e2; injection e2 with e3 _; exact absurd e3 hx
        · next heq => injection heq with _ e2; rw [e2]
        · next hno => exact absurd rfl (hno _)
      unfold hashR
      rw [this]
      exact charR_of 10 _
theorem hashR_no (l : List UInt8) (h : ¬ (1 < l.length ∧ l.take 1 = [35])) : hashR l = ⟨#[]⟩ := by
  unfold hashR
  match l, h with
  | [], _ => rfl
  | [x], _ =>
    by_cases hx : x = 35
    · subst hx; decide
    · have : hashL [x] = none := by
        unfold hashL
        split
        · next heq => injection heq with _ e2; cases e2
        · next heq => injection heq with e1 _; exact absurd e1 hx
        · rfl
      rw [this]
  | x :: y :: t, h =>
    have hx : x ≠ 35 := fun e => h ⟨by simp, by subst e; rfl⟩
    have : hashL (x :: y :: t) = none := by
      unfold hashL
      split
      · next heq => injection heq with e1 _; exact absurd e1 hx
      · next heq => injection heq with e1 _; exact absurd e1 hx
      · rfl
    rw [this]

theorem charR_num (base : Nat) (l : List UInt8) : (numI base l = -1 ∧ charR base l = ⟨#[]⟩) ∨ ∃ v : Nat, numI base l = (v : Int) ∧ isChar (v : Int) = true ∧ charR base l = Utf8.encode (v : Int) := by
  unfold numI charR
  cases h : numL base l with
  | none => exact .inl ⟨rfl, rfl⟩
  | some v =>
    refine .inr ⟨v, rfl, ?_, rfl⟩
    unfold numL at h
    split at h
    · cases h
    · cases hn : numv base 0 l with
      | none => rw [hn] at h; cases h
      | some u =>
        rw [hn] at h
        simp only [Option.bind_some] at h
        split at h
        · next hc => cases h; exact hc
        · cases h

theorem beq_no {a b : List UInt8} (h : ¬ a = b) : (a == b) = false := by simpa using h

theorem refNamed_0 (w : World) :
    Calls Tryz.prog 26 #[.string ⟨#[108, 116]⟩] w fun e w' => e = .returned (.string ⟨#[60]⟩) ∧ Below w.heap.size w w' := by
  go_enter Tryz.func26, Tryz.ntmps26
  go_wp2_with fail
  go_ret
  exact ⟨rfl, Below.refl _ _⟩

theorem refNamed_1 (w : World) :
    Calls Tryz.prog 26 #[.string ⟨#[103, 116]⟩] w fun e w' => e = .returned (.string ⟨#[62]⟩) ∧ Below w.heap.size w w' := by
  go_enter Tryz.func26, Tryz.ntmps26
  go_wp2_with fail
  go_ret
  exact ⟨rfl, Below.refl _ _⟩

theorem refNamed_2 (w : World) :
    Calls Tryz.prog 26 #[.string ⟨#[97, 109, 112]⟩] w fun e w' => e = .returned (.string ⟨#[38]⟩) ∧ Below w.heap.size w w' := by
  go_enter Tryz.func26, Tryz.ntmps26
  go_wp2_with fail
  go_ret
  exact ⟨rfl, Below.refl _ _⟩

theorem refNamed_3 (w : World) :
    Calls Tryz.prog 26 #[.string ⟨#[113, 117, 111, 116]⟩] w fun e w' => e = .returned (.string ⟨#[34]⟩) ∧ Below w.heap.size w w' := by
  go_enter Tryz.func26, Tryz.ntmps26
  go_wp2_with fail
  go_ret
  exact ⟨rfl, Below.refl _ _⟩

theorem refNamed_4 (w : World) :
    Calls Tryz.prog 26 #[.string ⟨#[97, 112, 111, 115]⟩] w fun e w' => e = .returned (.string ⟨#[39]⟩) ∧ Below w.heap.size w w' := by
  go_enter Tryz.func26, Tryz.ntmps26
  go_wp2_with fail
  go_ret
  exact ⟨rfl, Below.refl _ _⟩

set_option maxRecDepth 100000 in
set_option maxHeartbeats 4000000 in
theorem refNamed_any (s : ByteArray) (hs : s.size ≤ 20000) (w : World) :
    Calls Tryz.prog 26 #[.string s] w fun e w' => e = .returned (.string (namedR s.data.toList)) ∧ Below w.heap.size w w' := by
  obtain ⟨l, hl⟩ : ∃ l, l = s.data.toList := ⟨_, rfl⟩
  rw [← hl]
  have etl : s.toList = l := by rw [hl]; exact ByteArray.toList_eq s
  have hsz : s.size = l.length := by rw [hl, Lib.size_eq]
  have hsb : s = ⟨l.toArray⟩ := by rw [hl]
  by_cases h0 : l = [108, 116]
  · rw [hsb, h0]
    exact refNamed_0 w
  by_cases h1 : l = [103, 116]
  · rw [hsb, h1]
    exact refNamed_1 w
  by_cases h2 : l = [97, 109, 112]
  · rw [hsb, h2]
    exact refNamed_2 w
  by_cases h3 : l = [113, 117, 111, 116]
  · rw [hsb, h3]
    exact refNamed_3 w
  by_cases h4 : l = [97, 112, 111, 115]
  · rw [hsb, h4]
    exact refNamed_4 w
  rw [namedR_hash l h0 h1 h2 h3 h4]
  have q0 : (s.toList == [108, 116]) = false := by rw [etl]; exact beq_no h0
  have q1 : (s.toList == [103, 116]) = false := by rw [etl]; exact beq_no h1
  have q2 : (s.toList == [97, 109, 112]) = false := by rw [etl]; exact beq_no h2
  have q3 : (s.toList == [113, 117, 111, 116]) = false := by rw [etl]; exact beq_no h3
  have q4 : (s.toList == [97, 112, 111, 115]) = false := by rw [etl]; exact beq_no h4
  clear h0 h1 h2 h3 h4
  by_cases hx : 2 < l.length ∧ l.take 2 = [35, 120]
  · obtain ⟨hx1, hx2⟩ := hx
    have hs2 : 2 < s.size := by omega
    have e02 : (s.extract 0 2).toList = [35, 120] := by rw [ByteArray.toList_eq, Lib.extract_upto, ← hl]; exact hx2
    have hz2 : (s.extract 2 s.size).size ≤ 20000 := by rw [ByteArray.size_extract]; omega
    have KN := refNumber_any (s.extract 2 s.size) hz2 16 (.inr rfl)
    rw [Lib.extract_to_end, ← hl] at KN
    have hr := hashR_16 l hx2
    clear hx2 hz2 hsb
    rcases charR_num 16 (l.drop 2) with ⟨hn, hc⟩ | ⟨v, hn, hcv, hc⟩
    · rw [hn] at KN
      rw [hr, hc]
      have HK := Lib.hid KN
      clear KN hr hn hc etl hl hsz
      go_enter Tryz.func26, Tryz.ntmps26
      go_wp2_with fail
      refine (HK.out _).mono ?_
      rintro e w1 ⟨rfl, hb1⟩
      have HB1 := Lib.hid hb1
      clear hb1
      go_wp2_with fail
      go_ret
      exact ⟨rfl, HB1.out⟩
    · rw [hn] at KN
      rw [hr, hc]
      have HK := Lib.hid KN
      have HU := Lib.hid (refUtf8_any v hcv)
      clear KN hr hn hc hcv etl hl hsz
      go_enter Tryz.func26, Tryz.ntmps26
      go_wp2_with fail
      refine (HK.out _).mono ?_
      rintro e w1 ⟨rfl, hb1⟩
      have HB1 := Lib.hid hb1
      clear hb1
      go_wp2_with fail
      refine (HU.out _).mono ?_
      rintro e w2 ⟨rfl, hb2⟩
      have HB2 := Lib.hid (below_two HB1.out hb2)
      clear hb2
      go_wp2_with fail
      go_ret
      exact ⟨rfl, HB2.out⟩
  · by_cases hy : 1 < l.length ∧ l.take 1 = [35]
    · obtain ⟨hy1, hy2⟩ := hy
      have hs1 : 1 < s.size := by omega
      have p0 : 0 < s.size := Nat.lt_trans Nat.zero_lt_one hs1
      have g0 : ((s[0]'p0).toNat : Int) = 35 := by
        have h0 : l[0]? = some (s[0]'p0) := by
          rw [hl, Array.getElem?_toList, Array.getElem?_eq_getElem (show 0 < s.data.size from by show 0 < s.size; omega)]
          rfl
        have h1 : l[0]? = some 35 := by
          cases l with
          | nil => simp at hy1
          | cons x t => simp at hy2; subst hy2; rfl
        rw [h1] at h0
        rw [← Option.some.inj h0]
        rfl
      have e02 : (decide (2 < s.size) && ((s.extract 0 2).toList == [35, 120])) = false := by
        rw [ByteArray.toList_eq, Lib.extract_upto, ← hl, hsz]
        cases h : decide (2 < l.length) with
        | false => rfl
        | true =>
          simp only [Bool.true_and]
          exact beq_no (fun e => hx ⟨of_decide_eq_true h, e⟩)
      have hz2 : (s.extract 1 s.size).size ≤ 20000 := by rw [ByteArray.size_extract]; omega
      have KN := refNumber_any (s.extract 1 s.size) hz2 10 (.inl rfl)
      rw [Lib.extract_to_end, ← hl] at KN
      have hr := hashR_10 l hx hy1 hy2
      clear hy2 hz2 hsb hx
      by_cases hbig : 2 < s.size
      · have e2 : ((s.extract 0 2).toList == [35, 120]) = false := by
          rw [decide_eq_true hbig] at e02
          exact e02
        clear e02
        rcases charR_num 10 (l.drop 1) with ⟨hn, hc⟩ | ⟨v, hn, hcv, hc⟩
        · rw [hn] at KN
          rw [hr, hc]
          have HK := Lib.hid KN
          clear KN hr hn hc etl hl hsz
          go_enter Tryz.func26, Tryz.ntmps26
          go_wp2_with fail
          refine (HK.out _).mono ?_
          rintro e w1 ⟨rfl, hb1⟩
          have HB1 := Lib.hid hb1
          clear hb1
          go_wp2_with fail
          go_ret
          exact ⟨rfl, HB1.out⟩
        · rw [hn] at KN
          rw [hr, hc]
          have HK := Lib.hid KN
          have HU := Lib.hid (refUtf8_any v hcv)
          clear KN hr hn hc hcv etl hl hsz
          go_enter Tryz.func26, Tryz.ntmps26
          go_wp2_with fail
          refine (HK.out _).mono ?_
          rintro e w1 ⟨rfl, hb1⟩
          have HB1 := Lib.hid hb1
          clear hb1
          go_wp2_with fail
          refine (HU.out _).mono ?_
          rintro e w2 ⟨rfl, hb2⟩
          have HB2 := Lib.hid (below_two HB1.out hb2)
          clear hb2
          go_wp2_with fail
          go_ret
          exact ⟨rfl, HB2.out⟩
      · clear e02
        rcases charR_num 10 (l.drop 1) with ⟨hn, hc⟩ | ⟨v, hn, hcv, hc⟩
        · rw [hn] at KN
          rw [hr, hc]
          have HK := Lib.hid KN
          clear KN hr hn hc etl hl hsz
          go_enter Tryz.func26, Tryz.ntmps26
          go_wp2_with fail
          refine (HK.out _).mono ?_
          rintro e w1 ⟨rfl, hb1⟩
          have HB1 := Lib.hid hb1
          clear hb1
          go_wp2_with fail
          go_ret
          exact ⟨rfl, HB1.out⟩
        · rw [hn] at KN
          rw [hr, hc]
          have HK := Lib.hid KN
          have HU := Lib.hid (refUtf8_any v hcv)
          clear KN hr hn hc hcv etl hl hsz
          go_enter Tryz.func26, Tryz.ntmps26
          go_wp2_with fail
          refine (HK.out _).mono ?_
          rintro e w1 ⟨rfl, hb1⟩
          have HB1 := Lib.hid hb1
          clear hb1
          go_wp2_with fail
          refine (HU.out _).mono ?_
          rintro e w2 ⟨rfl, hb2⟩
          have HB2 := Lib.hid (below_two HB1.out hb2)
          clear hb2
          go_wp2_with fail
          go_ret
          exact ⟨rfl, HB2.out⟩
    · rw [hashR_no l hy]
      by_cases hs1 : 1 < s.size
      · have p0 : 0 < s.size := Nat.lt_trans Nat.zero_lt_one hs1
        have g0 : (((s[0]'p0).toNat : Int) == 35) = false := by
          rw [beq_eq_false_iff_ne]
          intro e
          apply hy
          refine ⟨by omega, ?_⟩
          have h0 : l[0]? = some (s[0]'p0) := by
            rw [hl, Array.getElem?_toList, Array.getElem?_eq_getElem (show 0 < s.data.size from by show 0 < s.size; omega)]
            rfl
          cases l with
          | nil => simp at h0
          | cons x t =>
            simp at h0
            have : x = 35 := by
              rw [h0]
              apply UInt8.toNat_inj.1
              show _ = 35
              omega
            rw [this]
            rfl
        by_cases hbig : 2 < s.size
        · have e2 : ((s.extract 0 2).toList == [35, 120]) = false := by
            rw [ByteArray.toList_eq, Lib.extract_upto, ← hl]
            exact beq_no (fun e => hx ⟨by omega, e⟩)
          clear etl hl hx hy hsb hsz
          go_enter Tryz.func26, Tryz.ntmps26
          go_wp2_with fail
          go_ret
          exact ⟨rfl, Below.refl _ _⟩
        · clear etl hl hx hy hsb hsz
          go_enter Tryz.func26, Tryz.ntmps26
          go_wp2_with fail
          go_ret
          exact ⟨rfl, Below.refl _ _⟩
      · clear etl hl hx hy hsb hsz
        go_enter Tryz.func26, Tryz.ntmps26
        go_wp2_with fail
        go_ret
        exact ⟨rfl, Below.refl _ _⟩
end Go.Proofs.YtfgcpkobfmcflaaGreatDoor
