/-
  escape.named: the walk.
-/
import Derived.Test.YtfgcpkobfmcflaaGreatDoorNamed
namespace Go.Proofs.YtfgcpkobfmcflaaGreatDoor
open Go.RowKit Go.WideMaps Go.Maps

/-- What a panic with the error of references ends in. -/
def RefPanic (B : Nat) (w : World) (e : Ending) (w' : World) : Prop := e = .panicked [{ v := .iface 23 (.int .i64 60), recovered := false }] ∧ Below B w w'

set_option maxRecDepth 100000 in
set_option maxHeartbeats 1000000 in
/-- One of the five names. -/
theorem named_five (s : ByteArray) (hs : s.size ≤ 100000) (c : Int) (hc : nameNum s.data.toList = some c) (w : World) :
    Calls Tryz.prog 25 #[.string s] w fun e w' => e = .returned (.string (Utf8.encode c)) ∧ Below w.heap.size w w' := by
  have hmm := @run_makeMap Tryz.prog
  obtain ⟨w1, w2, w3, w4, w5, r1, r2, r3, r4, r5, hb, hl⟩ := names_made w
  have hl0 := hl s (by unfold maxLen; omega)
  rw [hc] at hl0
  simp only [Option.getD_some, Option.isSome_some] at hl0
  clear hl hc
  go_enter Tryz.func25, Tryz.ntmps25
  go_wp2_with fail
  go_ret
  exact ⟨rfl, hb⟩

set_option maxRecDepth 100000 in
set_option maxHeartbeats 1000000 in
/-- No name, and no '#' at its head. -/
theorem named_bare (s : ByteArray) (hs : s.size ≤ 100000) (hc : nameNum s.data.toList = none) (hp : Lib.hasPrefix s.data.toList [35] = false) (w : World) :
    Calls Tryz.prog 25 #[.string s] w fun e w' => RefPanic w.heap.size w e w' := by
  have hmm := @run_makeMap Tryz.prog
  obtain ⟨w1, w2, w3, w4, w5, r1, r2, r3, r4, r5, hb, hl⟩ := names_made w
  have hl0 := hl s (by unfold maxLen; omega)
  rw [hc] at hl0
  simp only [Option.getD_none, Option.isSome_none] at hl0
  clear hl hc
  have ht : Lib.trimPrefix s.data.toList [35] = s.data.toList := by unfold Lib.trimPrefix; rw [hp]; rfl
  have HP := Lib.hid hp
  have HT := Lib.hid ht
  clear hp ht
  go_enter Tryz.func25, Tryz.ntmps25
  go_wp2_with fail
  refine (cutp s ⟨#[35]⟩ _ _ HT.out HP.out _).mono ?_
  rintro e w' ⟨rfl, rfl⟩
  go_wp2_with fail
  by_cases hx : Lib.hasPrefix s.data.toList [120] = true
  all_goals
    refine (cutp _ ⟨#[120]⟩ _ _ rfl (by first | exact hx | exact Bool.eq_false_iff.2 hx) _).mono ?_
    rintro e w' ⟨rfl, rfl⟩
    clear hx
    go_wp2_with fail
    exact ⟨rfl, rfl, hb⟩

set_option maxRecDepth 100000 in
set_option maxHeartbeats 2000000 in
/-- A '#', and what stands behind it (and behind an x, if there is one: 'b') is 'l': not digits alone. -/
theorem named_letters (s : ByteArray) (hs : s.size ≤ 100000) (hc : nameNum s.data.toList = none) (t : List UInt8) (ht : Lib.trimPrefix s.data.toList [35] = t) (hp : Lib.hasPrefix s.data.toList [35] = true)
    (b : Bool) (l : List UInt8) (hl2 : Lib.trimPrefix t [120] = l) (hx : Lib.hasPrefix t [120] = b) (hll : l.length ≤ 100000) (hh : isHex l = false) (w : World) :
    Calls Tryz.prog 25 #[.string s] w fun e w' => RefPanic w.heap.size w e w' := by
  have hmm := @run_makeMap Tryz.prog
  obtain ⟨w1, w2, w3, w4, w5, r1, r2, r3, r4, r5, hb, hl⟩ := names_made w
  have hl0 := hl s (by unfold maxLen; omega)
  rw [hc] at hl0
  simp only [Option.getD_none, Option.isSome_none] at hl0
  clear hl hc
  have HP := Lib.hid hp
  have HT := Lib.hid ht
  have HL := Lib.hid hl2
  have HX := Lib.hid hx
  have hlt : t = l ∨ b = true := by
    rw [← hl2, ← hx]
    unfold Lib.trimPrefix
    cases Lib.hasPrefix t [120] <;> simp
  clear hp ht hl2 hx
  have hsz : (⟨l.toArray⟩ : ByteArray).size = l.length := rfl
  have hh' : isHex (⟨l.toArray⟩ : ByteArray).data.toList = false := hh
  have HH := Lib.hid hh'
  have HB := Lib.hid hb
  have HS := Lib.hid hsz
  clear hh hb hsz hh'
  go_enter Tryz.func25, Tryz.ntmps25
  go_wp2_with fail
  refine (cutp s ⟨#[35]⟩ _ _ HT.out HP.out _).mono ?_
  rintro e w' ⟨rfl, rfl⟩
  go_wp2_with fail
  refine (cutp _ ⟨#[120]⟩ l b HL.out HX.out _).mono ?_
  rintro e w' ⟨rfl, rfl⟩
  cases b
  case false =>
    obtain rfl : t = l := by simpa using hlt
    clear hlt
    go_wp2_with fail
    refine (trim_calls ⟨_⟩ (by rw [HS.out]; omega) _).mono ?_
    rintro e w6 ⟨x, rfl, hxe, hb6⟩
    have hx1 : x.toList.isEmpty = false := by
      rw [← decide_eq_emptyBytes]
      refine decide_eq_false (fun h => ?_)
      have := hxe.1 h
      rw [HH.out] at this
      cases this
    have HB6 := Lib.hid (HB.out.trans (hb6.mono HB.out.size))
    clear hxe hb6
    go_wp2_with fail
    exact ⟨rfl, rfl, HB6.out⟩
  case true =>
    clear hlt
    go_wp2_with fail
    refine (trim_calls ⟨_⟩ (by rw [HS.out]; omega) _).mono ?_
    rintro e w6 ⟨x, rfl, hxe, hb6⟩
    have hx1 : x.toList.isEmpty = false := by
      rw [← decide_eq_emptyBytes]
      refine decide_eq_false (fun h => ?_)
      have := hxe.1 h
      rw [HH.out] at this
      cases this
    have HB6 := Lib.hid (HB.out.trans (hb6.mono HB.out.size))
    clear hxe hb6
    go_wp2_with fail
    exact ⟨rfl, rfl, HB6.out⟩

set_option maxRecDepth 100000 in
set_option maxHeartbeats 2000000 in
/-- digits, but no number that fits. -/
theorem named_none (s : ByteArray) (hs : s.size ≤ 100000) (hc : nameNum s.data.toList = none) (t : List UInt8) (ht : Lib.trimPrefix s.data.toList [35] = t) (hp : Lib.hasPrefix s.data.toList [35] = true)
    (b : Bool) (l : List UInt8) (hl2 : Lib.trimPrefix t [120] = l) (hx : Lib.hasPrefix t [120] = b) (hll : l.length ≤ 100000) (hh : isHex l = true) (hv : parseV (if b then 16 else 10) l = none) (w : World) (hw : Env w) :
    Calls Tryz.prog 25 #[.string s] w fun e w' => RefPanic w.heap.size w e w' := by
  have hmm := @run_makeMap Tryz.prog
  obtain ⟨w1, w2, w3, w4, w5, r1, r2, r3, r4, r5, hb, hl⟩ := names_made w
  have hl0 := hl s (by unfold maxLen; omega)
  rw [hc] at hl0
  simp only [Option.getD_none, Option.isSome_none] at hl0
  clear hl hc
  have HP := Lib.hid hp
  have HT := Lib.hid ht
  have HL := Lib.hid hl2
  have HX := Lib.hid hx
  have hlt : t = l ∨ b = true := by
    rw [← hl2, ← hx]
    unfold Lib.trimPrefix
    cases Lib.hasPrefix t [120] <;> simp
  clear hp ht hl2 hx
  have hsz : (⟨l.toArray⟩ : ByteArray).size = l.length := rfl
  have hh' : isHex (⟨l.toArray⟩ : ByteArray).data.toList = true := hh
  have HH := Lib.hid hh'
  have HB := Lib.hid hb
  have HS := Lib.hid hsz
  clear hh hb hsz hh'
  have HW := Lib.hid (hw.below HB.out)
  have HV := Lib.hid hv
  clear hw hv
  go_enter Tryz.func25, Tryz.ntmps25
  go_wp2_with fail
  refine (cutp s ⟨#[35]⟩ _ _ HT.out HP.out _).mono ?_
  rintro e w' ⟨rfl, rfl⟩
  go_wp2_with fail
  refine (cutp _ ⟨#[120]⟩ l b HL.out HX.out _).mono ?_
  rintro e w' ⟨rfl, rfl⟩
  cases b
  case false =>
    obtain rfl : t = l := by simpa using hlt
    clear hlt
    go_wp2_with fail
    refine (trim_calls ⟨_⟩ (by rw [HS.out]; omega) _).mono ?_
    rintro e w6 ⟨x, rfl, hxe, hb6⟩
    obtain rfl : x = ⟨#[]⟩ := hxe.2 HH.out
    have HB6 := Lib.hid (HB.out.trans (hb6.mono HB.out.size))
    have hw6 := HW.out.below hb6
    clear hxe hb6
    go_wp2_with fail
    refine (pi_bad 10 (by simp) _ (by rw [HS.out]; omega) HH.out (by simpa using HV.out) _ hw6).mono ?_
    rintro e w7 ⟨y, N, rfl, hb7⟩
    have HB7 := Lib.hid (HB6.out.trans (hb7.mono HB6.out.size))
    clear hb7
    go_wp2_with fail
    exact ⟨rfl, rfl, HB7.out⟩
  case true =>
    clear hlt
    go_wp2_with fail
    refine (trim_calls ⟨_⟩ (by rw [HS.out]; omega) _).mono ?_
    rintro e w6 ⟨x, rfl, hxe, hb6⟩
    obtain rfl : x = ⟨#[]⟩ := hxe.2 HH.out
    have HB6 := Lib.hid (HB.out.trans (hb6.mono HB.out.size))
    have hw6 := HW.out.below hb6
    clear hxe hb6
    go_wp2_with fail
    refine (pi_bad 16 (by simp) _ (by rw [HS.out]; omega) HH.out (by simpa using HV.out) _ hw6).mono ?_
    rintro e w7 ⟨y, N, rfl, hb7⟩
    have HB7 := Lib.hid (HB6.out.trans (hb7.mono HB6.out.size))
    clear hb7
    go_wp2_with fail
    exact ⟨rfl, rfl, HB7.out⟩

set_option maxRecDepth 100000 in
set_option maxHeartbeats 2000000 in
/-- a number, but of no character that may be. -/
theorem named_wrong (s : ByteArray) (hs : s.size ≤ 100000) (hc : nameNum s.data.toList = none) (t : List UInt8) (ht : Lib.trimPrefix s.data.toList [35] = t) (hp : Lib.hasPrefix s.data.toList [35] = true)
    (b : Bool) (l : List UInt8) (hl2 : Lib.trimPrefix t [120] = l) (hx : Lib.hasPrefix t [120] = b) (hll : l.length ≤ 100000) (hh : isHex l = true) (v : Nat) (hv : parseV (if b then 16 else 10) l = some v) (hch : isChar (v : Int) = false) (w : World) (hw : Env w) :
    Calls Tryz.prog 25 #[.string s] w fun e w' => RefPanic w.heap.size w e w' := by
  have hmm := @run_makeMap Tryz.prog
  obtain ⟨w1, w2, w3, w4, w5, r1, r2, r3, r4, r5, hb, hl⟩ := names_made w
  have hl0 := hl s (by unfold maxLen; omega)
  rw [hc] at hl0
  simp only [Option.getD_none, Option.isSome_none] at hl0
  clear hl hc
  have HP := Lib.hid hp
  have HT := Lib.hid ht
  have HL := Lib.hid hl2
  have HX := Lib.hid hx
  have hlt : t = l ∨ b = true := by
    rw [← hl2, ← hx]
    unfold Lib.trimPrefix
    cases Lib.hasPrefix t [120] <;> simp
  clear hp ht hl2 hx
  have hsz : (⟨l.toArray⟩ : ByteArray).size = l.length := rfl
  have hh' : isHex (⟨l.toArray⟩ : ByteArray).data.toList = true := hh
  have HH := Lib.hid hh'
  have HB := Lib.hid hb
  have HS := Lib.hid hsz
  clear hh hb hsz hh'
  have HW := Lib.hid (hw.below HB.out)
  have HV := Lib.hid hv
  have HC := Lib.hid hch
  clear hw hv hch
  go_enter Tryz.func25, Tryz.ntmps25
  go_wp2_with fail
  refine (cutp s ⟨#[35]⟩ _ _ HT.out HP.out _).mono ?_
  rintro e w' ⟨rfl, rfl⟩
  go_wp2_with fail
  refine (cutp _ ⟨#[120]⟩ l b HL.out HX.out _).mono ?_
  rintro e w' ⟨rfl, rfl⟩
  cases b
  case false =>
    obtain rfl : t = l := by simpa using hlt
    clear hlt
    go_wp2_with fail
    refine (trim_calls ⟨_⟩ (by rw [HS.out]; omega) _).mono ?_
    rintro e w6 ⟨x, rfl, hxe, hb6⟩
    obtain rfl : x = ⟨#[]⟩ := hxe.2 HH.out
    have HB6 := Lib.hid (HB.out.trans (hb6.mono HB.out.size))
    have hw6 := HW.out.below hb6
    clear hxe hb6
    go_wp2_with fail
    refine (pi_ok 10 (by simp) _ (by rw [HS.out]; omega) HH.out v (by simpa using HV.out) _).mono ?_
    rintro e w7 ⟨rfl, hb7⟩
    have HB7 := Lib.hid (HB6.out.trans (hb7.mono HB6.out.size))
    clear hb7
    go_wp2_with fail
    refine (Char_any _ _).mono ?_
    rintro e w8 ⟨rfl, hb8⟩
    rw [HC.out]
    have HB8 := Lib.hid (HB7.out.trans (hb8.mono HB7.out.size))
    clear hb8
    go_wp2_with fail
    exact ⟨rfl, rfl, HB8.out⟩
  case true =>
    clear hlt
    go_wp2_with fail
    refine (trim_calls ⟨_⟩ (by rw [HS.out]; omega) _).mono ?_
    rintro e w6 ⟨x, rfl, hxe, hb6⟩
    obtain rfl : x = ⟨#[]⟩ := hxe.2 HH.out
    have HB6 := Lib.hid (HB.out.trans (hb6.mono HB.out.size))
    have hw6 := HW.out.below hb6
    clear hxe hb6
    go_wp2_with fail
    refine (pi_ok 16 (by simp) _ (by rw [HS.out]; omega) HH.out v (by simpa using HV.out) _).mono ?_
    rintro e w7 ⟨rfl, hb7⟩
    have HB7 := Lib.hid (HB6.out.trans (hb7.mono HB6.out.size))
    clear hb7
    go_wp2_with fail
    refine (Char_any _ _).mono ?_
    rintro e w8 ⟨rfl, hb8⟩
    rw [HC.out]
    have HB8 := Lib.hid (HB7.out.trans (hb8.mono HB7.out.size))
    clear hb8
    go_wp2_with fail
    exact ⟨rfl, rfl, HB8.out⟩

set_option maxRecDepth 100000 in
set_option maxHeartbeats 2000000 in
/-- the number of a character. -/
theorem named_char (s : ByteArray) (hs : s.size ≤ 100000) (hc : nameNum s.data.toList = none) (t : List UInt8) (ht : Lib.trimPrefix s.data.toList [35] = t) (hp : Lib.hasPrefix s.data.toList [35] = true)
    (b : Bool) (l : List UInt8) (hl2 : Lib.trimPrefix t [120] = l) (hx : Lib.hasPrefix t [120] = b) (hll : l.length ≤ 100000) (hh : isHex l = true) (v : Nat) (hv : parseV (if b then 16 else 10) l = some v) (hch : isChar (v : Int) = true) (hv32 : v < 2000000) (w : World) (hw : Env w) :
    Calls Tryz.prog 25 #[.string s] w fun e w' => e = .returned (.string (Utf8.encode v)) ∧ Below w.heap.size w w' := by
  have hmm := @run_makeMap Tryz.prog
  obtain ⟨w1, w2, w3, w4, w5, r1, r2, r3, r4, r5, hb, hl⟩ := names_made w
  have hl0 := hl s (by unfold maxLen; omega)
  rw [hc] at hl0
  simp only [Option.getD_none, Option.isSome_none] at hl0
  clear hl hc
  have HP := Lib.hid hp
  have HT := Lib.hid ht
  have HL := Lib.hid hl2
  have HX := Lib.hid hx
  have hlt : t = l ∨ b = true := by
    rw [← hl2, ← hx]
    unfold Lib.trimPrefix
    cases Lib.hasPrefix t [120] <;> simp
  clear hp ht hl2 hx
  have hsz : (⟨l.toArray⟩ : ByteArray).size = l.length := rfl
  have hh' : isHex (⟨l.toArray⟩ : ByteArray).data.toList = true := hh
  have HH := Lib.hid hh'
  have HB := Lib.hid hb
  have HS := Lib.hid hsz
  clear hh hb hsz hh'
  have HW := Lib.hid (hw.below HB.out)
  have HV := Lib.hid hv
  have HC := Lib.hid hch
  clear hw hv hch
  go_enter Tryz.func25, Tryz.ntmps25
  go_wp2_with fail
  refine (cutp s ⟨#[35]⟩ _ _ HT.out HP.out _).mono ?_
  rintro e w' ⟨rfl, rfl⟩
  go_wp2_with fail
  refine (cutp _ ⟨#[120]⟩ l b HL.out HX.out _).mono ?_
  rintro e w' ⟨rfl, rfl⟩
  cases b
  case false =>
    obtain rfl : t = l := by simpa using hlt
    clear hlt
    go_wp2_with fail
    refine (trim_calls ⟨_⟩ (by rw [HS.out]; omega) _).mono ?_
    rintro e w6 ⟨x, rfl, hxe, hb6⟩
    obtain rfl : x = ⟨#[]⟩ := hxe.2 HH.out
    have HB6 := Lib.hid (HB.out.trans (hb6.mono HB.out.size))
    have hw6 := HW.out.below hb6
    clear hxe hb6
    go_wp2_with fail
    refine (pi_ok 10 (by simp) _ (by rw [HS.out]; omega) HH.out v (by simpa using HV.out) _).mono ?_
    rintro e w7 ⟨rfl, hb7⟩
    have HB7 := Lib.hid (HB6.out.trans (hb7.mono HB6.out.size))
    clear hb7
    go_wp2_with fail
    refine (Char_any _ _).mono ?_
    rintro e w8 ⟨rfl, hb8⟩
    rw [HC.out]
    have HB8 := Lib.hid (HB7.out.trans (hb8.mono HB7.out.size))
    clear hb8
    go_wp2_with fail
    go_ret
    exact ⟨rfl, HB8.out⟩
  case true =>
    clear hlt
    go_wp2_with fail
    refine (trim_calls ⟨_⟩ (by rw [HS.out]; omega) _).mono ?_
    rintro e w6 ⟨x, rfl, hxe, hb6⟩
    obtain rfl : x = ⟨#[]⟩ := hxe.2 HH.out
    have HB6 := Lib.hid (HB.out.trans (hb6.mono HB.out.size))
    have hw6 := HW.out.below hb6
    clear hxe hb6
    go_wp2_with fail
    refine (pi_ok 16 (by simp) _ (by rw [HS.out]; omega) HH.out v (by simpa using HV.out) _).mono ?_
    rintro e w7 ⟨rfl, hb7⟩
    have HB7 := Lib.hid (HB6.out.trans (hb7.mono HB6.out.size))
    clear hb7
    go_wp2_with fail
    refine (Char_any _ _).mono ?_
    rintro e w8 ⟨rfl, hb8⟩
    rw [HC.out]
    have HB8 := Lib.hid (HB7.out.trans (hb8.mono HB7.out.size))
    clear hb8
    go_wp2_with fail
    go_ret
    exact ⟨rfl, HB8.out⟩

end Go.Proofs.YtfgcpkobfmcflaaGreatDoor
