/-
  The document's answer: texts and values without references.
-/
import Derived.Test.YtfgcpkobfmcflaaGreatDoorRefN
import Derived.Test.YtfgcpkobfmcflaaGreatDoorAwake
import Derived.Test.YtfgcpkobfmcflaaGreatDoorRefE
import Derived.Test.YtfgcpkobfmcflaaGreatDoorNamedA
set_option linter.unusedVariables false
set_option linter.unusedSimpArgs false
namespace Go.Proofs.YtfgcpkobfmcflaaGreatDoor
open Go.RowKit

theorem encode_ne (n : Int) : (Utf8.encode n).data.toList ≠ [] := by
  unfold Utf8.encode
  dsimp only
  generalize (if Utf8.valid n = true then n.toNat else Utf8.runeError) = c
  split
  · simp
  · split
    · simp
    · split <;> simp

theorem charOf_ne (base : Nat) (l t : List UInt8) (h : charOf base l = some t) : t ≠ [] := by
  unfold charOf at h
  split at h
  · cases h
  · cases hn : numv base 0 l with
    | none => rw [hn] at h; cases h
    | some v =>
      rw [hn] at h
      simp only [Option.bind_some] at h
      split at h
      · rw [← Option.some.inj h]; exact encode_ne _
      · cases h

theorem namedL_ne (l t : List UInt8) (h : namedL l = some t) : t ≠ [] := by
  unfold namedL at h
  split at h
  · cases h; simp
  · split at h
    · cases h; simp
    · split at h
      · cases h; simp
      · split at h
        · cases h; simp
        · split at h
          · cases h; simp
          · unfold hashL at h
            split at h
            · exact charOf_ne _ _ _ h
            · exact charOf_ne _ _ _ h
            · cases h

def Sofar (attr : Bool) (l o : List UInt8) (k : Nat) : Prop := ex attr none l = (ex attr none (l.drop k)).map (o ++ ·)
def Inside (attr : Bool) (l : List UInt8) (i j : Nat) : Prop := ex attr (some []) (l.drop (i + 1)) = ex attr (some ((l.drop (i + 1)).take (j - (i + 1)))) (l.drop j)

theorem sofar_start (attr : Bool) (l : List UInt8) : Sofar attr l [] 0 := by
  unfold Sofar
  rw [List.drop_zero]
  cases ex attr none l <;> rfl

theorem sofar_step {attr : Bool} {l o : List UInt8} {k : Nat} {c : UInt8} (h : Sofar attr l o k) (hc : l[k]? = some c) (h38 : c ≠ 38) : Sofar attr l (o ++ [flat attr c]) (k + 1) := by
  unfold Sofar at *
  obtain ⟨hk, hk2⟩ := List.getElem?_eq_some_iff.1 hc
  have e : l.drop k = c :: l.drop (k + 1) := by rw [List.drop_eq_getElem_cons hk, hk2]
  rw [h, e]
  simp only [ex]
  rw [if_neg h38]
  cases ex attr none (l.drop (k + 1)) with
  | none => rfl
  | some x => simp

theorem sofar_end {attr : Bool} {l o : List UInt8} {k : Nat} (h : Sofar attr l o k) (hk : l.length ≤ k) : ex attr none l = some o := by
  unfold Sofar at h
  rw [h, List.drop_of_length_le hk]
  simp [ex]

theorem sofar_amp {attr : Bool} {l o : List UInt8} {k : Nat} (h : Sofar attr l o k) (hc : l[k]? = some 38) : ex attr none l = (ex attr (some []) (l.drop (k + 1))).map (o ++ ·) := by
  unfold Sofar at h
  obtain ⟨hk, hk2⟩ := List.getElem?_eq_some_iff.1 hc
  have e : l.drop k = 38 :: l.drop (k + 1) := by rw [List.drop_eq_getElem_cons hk, hk2]
  rw [h, e]
  simp [ex]

theorem inside_start (attr : Bool) (l : List UInt8) (i : Nat) : Inside attr l i (i + 1) := by
  unfold Inside
  rw [Nat.sub_self, List.take_zero]

theorem inside_step {attr : Bool} {l : List UInt8} {i j : Nat} {c : UInt8} (h : Inside attr l i j) (hij : i + 1 ≤ j) (hc : l[j]? = some c) (h59 : c ≠ 59) : Inside attr l i (j + 1) := by
  unfold Inside at *
  obtain ⟨hk, hk2⟩ := List.getElem?_eq_some_iff.1 hc
  have e : l.drop j = c :: l.drop (j + 1) := by rw [List.drop_eq_getElem_cons hk, hk2]
  rw [h, e]
  simp only [ex]
  rw [if_neg h59]
  congr 2
  have hlen : j - (i + 1) < (l.drop (i + 1)).length := by rw [List.length_drop]; omega
  have e2 : j + 1 - (i + 1) = (j - (i + 1)) + 1 := by omega
  rw [e2, List.take_succ_eq_append_getElem hlen]
  congr 2
  rw [List.getElem_drop]
  rw [← hk2]
  congr 1
  omega

theorem inside_open {attr : Bool} {l : List UInt8} {i j : Nat} (h : Inside attr l i j) (hj : l.length ≤ j) : ex attr (some []) (l.drop (i + 1)) = none := by
  unfold Inside at h
  rw [h, List.drop_of_length_le hj]
  rfl

theorem inside_close {attr : Bool} {l : List UInt8} {i j : Nat} (h : Inside attr l i j) (hc : l[j]? = some 59) :
    ex attr (some []) (l.drop (i + 1)) = (namedL ((l.drop (i + 1)).take (j - (i + 1)))).bind fun t => (ex attr none (l.drop (j + 1))).map (t ++ ·) := by
  unfold Inside at h
  obtain ⟨hk, hk2⟩ := List.getElem?_eq_some_iff.1 hc
  have e : l.drop j = 59 :: l.drop (j + 1) := by rw [List.drop_eq_getElem_cons hk, hk2]
  rw [h, e]
  simp [ex]

theorem sofar_ref {attr : Bool} {l o t : List UInt8} {i j : Nat} (h : Sofar attr l o i) (hc : l[i]? = some 38) (hI : Inside attr l i j) (hc2 : l[j]? = some 59) (hn : namedL ((l.drop (i + 1)).take (j - (i + 1))) = some t) :
    Sofar attr l (o ++ t) (j + 1) := by
  have h1 := sofar_amp h hc
  rw [inside_close hI hc2, hn] at h1
  unfold Sofar
  rw [h1]
  simp only [Option.bind_some]
  cases ex attr none (l.drop (j + 1)) with
  | none => rfl
  | some x => simp

theorem exp_none {attr : Bool} {l : List UInt8} (h : ex attr none l = none) : expS attr l = ⟨#[]⟩ ∧ expC attr l = 60 := by
  unfold expS expC
  rw [h]
  exact ⟨rfl, rfl⟩
theorem exp_some {attr : Bool} {l : List UInt8} {o : ByteArray} (h : ex attr none l = some o.data.toList) : expS attr l = o ∧ expC attr l = 0 := by
  unfold expS expC
  rw [h]
  exact ⟨ba_eq o, rfl⟩

theorem mid_toList (s : ByteArray) (a b : Nat) : (s.extract a b).data.toList = (s.data.toList.drop a).take (b - a) := by
  rw [ByteArray.data_extract]
  apply List.ext_getElem?
  intro j
  rw [Array.getElem?_toList, Array.getElem?_extract, List.getElem?_take, List.getElem?_drop, Array.getElem?_toList]
  by_cases h : j < b - a
  · rw [if_pos h]
    by_cases h2 : j < min b s.data.size - a
    · rw [if_pos h2]
    · rw [if_neg h2, Array.getElem?_eq_none (by omega)]
  · rw [if_neg h, if_neg (by omega)]

theorem int_ne {c : UInt8} {n : Nat} (hn : n < 256) (h : ((c.toNat : Int) == (n : Int)) = false) : c ≠ UInt8.ofNat n := by
  intro e
  rw [beq_eq_false_iff_ne] at h
  apply h
  rw [e]
  show ((n % 256 : Nat) : Int) = n
  rw [Nat.mod_eq_of_lt hn]
theorem int_eq {c : UInt8} {n : Nat} (hn : n < 256) (h : ((c.toNat : Int) == (n : Int)) = true) : c = UInt8.ofNat n := by
  rw [beq_iff_eq] at h
  apply UInt8.toNat_inj.1
  show c.toNat = n % 256
  rw [Nat.mod_eq_of_lt hn]
  omega

theorem flat_space (c : UInt8) (h : (((c.toNat : Int) == 32) || ((c.toNat : Int) == 9) || ((c.toNat : Int) == 10) || ((c.toNat : Int) == 13)) = true) : flat true c = 32 := by
  unfold flat
  simp only [Bool.or_eq_true] at h
  rcases h with ((h | h) | h) | h
  · rw [int_eq (n := 32) (by decide) h]; decide
  · rw [int_eq (n := 9) (by decide) h]; decide
  · rw [int_eq (n := 10) (by decide) h]; decide
  · rw [int_eq (n := 13) (by decide) h]; decide
theorem flat_other (c : UInt8) (h : (((c.toNat : Int) == 32) || ((c.toNat : Int) == 9) || ((c.toNat : Int) == 10) || ((c.toNat : Int) == 13)) = false) : flat true c = c := by
  unfold flat
  simp only [Bool.or_eq_false_iff] at h
  obtain ⟨⟨⟨_, h9⟩, h10⟩, h13⟩ := h
  have a := int_ne (n := 9) (by decide) h9
  have b := int_ne (n := 10) (by decide) h10
  have d := int_ne (n := 13) (by decide) h13
  have e1 : (c == 9) = false := by simpa using a
  have e2 : (c == 10) = false := by simpa using b
  have e3 : (c == 13) = false := by simpa using d
  simp [e1, e2, e3]theorem flat_no (c : UInt8) : flat false c = c := rfl

set_option maxRecDepth 100000 in
set_option maxHeartbeats 8000000 in
theorem refexp_any (attr : Bool) (s : ByteArray) (hs : s.size ≤ 20000) (w : World) :
    Calls Tryz.prog 18 #[.string s, .bool attr] w fun e w' => e = .returned (.tuple #[.string (expS attr s.data.toList), .int .i64 (expC attr s.data.toList)]) ∧ Below w.heap.size w w' := by
  obtain ⟨l, hl⟩ : ∃ l, l = s.data.toList := ⟨_, rfl⟩
  have hln : l.length = s.size := by rw [hl, Lib.size_eq]
  have HL := Lib.hid hl
  have HLN := Lib.hid hln
  have hgt : ∀ (k : Nat) (hk : k < s.size), l[k]? = some (s[k]'hk) := by
    intro k hk
    have h1 : s.data.toList[k]? = some (s[k]'hk) := by
      rw [Array.getElem?_toList, Array.getElem?_eq_getElem (show k < s.data.size from hk)]
      rfl
    rwa [← hl] at h1
  have HG := Lib.hid hgt
  rw [← hl]
  obtain ⟨rs, hrs⟩ : ∃ x, x = expS attr l := ⟨_, rfl⟩
  obtain ⟨rc, hrc⟩ : ∃ x, x = expC attr l := ⟨_, rfl⟩
  have HRS := Lib.hid hrs
  have HRC := Lib.hid hrc
  rw [← hrs, ← hrc]
  clear hl hln hgt hrs hrc
  go_enter Tryz.func18, Tryz.ntmps18
  go_wp2_with fail
  go_loopw [6, 7] (fun v6 v7 wr => ∃ (k : Nat) (o : ByteArray), k ≤ s.size ∧ v7 = .int .i64 k ∧ v6 = .string o ∧ o.size ≤ 4 * k ∧ Hid (Sofar attr l o.data.toList k) ∧ Below w.heap.size w wr) (fun _ v _ => s.size - (intOf v).toNat)
  case atStart => exact ⟨0, ⟨#[]⟩, Nat.zero_le _, rfl, rfl, Nat.zero_le _, sofar_start attr l, Below.refl _ _⟩
  case round =>
    obtain ⟨k, o, hk, rfl, rfl, hos, HO, hb⟩ := hrel
    have HB := Lib.hid hb
    clear hb
    by_cases hlt : k < s.size
    · have H1 := Lib.hid (one_byte s k hlt)
      have HC := Lib.hid (HG.out k hlt)
      cases h38 : ((s[k]'hlt).toNat : Int) == 38 with
      | true =>
        have HC38 : Hid (l[k]? = some 38) := by
          have := HC.out
          rw [int_eq (n := 38) (by decide) h38] at this
          exact this
        go_wp2_with fail
        go_loopw [8] (fun v8 wr => ∃ (j : Nat), k + 1 ≤ j ∧ j ≤ s.size ∧ v8 = .int .i64 j ∧ Hid (Inside attr l k j) ∧ Below w.heap.size w wr) (fun v _ => s.size - (intOf v).toNat)
        case atStart => exact ⟨k + 1, Nat.le_refl _, hlt, by go_num, inside_start attr l k, HB.out⟩
        case round =>
          obtain ⟨j, hj0, hj, rfl, HI, hb2⟩ := hrel
          have HB2 := Lib.hid hb2
          clear hb2
          by_cases hjl : j < s.size
          · have HCJ := Lib.hid (HG.out j hjl)
            cases h59 : ((s[j]'hjl).toNat : Int) == 59 with
            | false =>
              have hne : (((s[j]'hjl).toNat : Int) != 59) = true := by rw [bne, h59]; rfl
              have HN := Lib.hid (inside_step HI.out hj0 HCJ.out (int_ne (n := 59) (by decide) h59))
              go_wp2_with fail
              exact ⟨⟨j + 1, by omega, by omega, by go_num, HN.out, HB2.out⟩, by simp [intOf]; omega⟩
            | true =>
              have hne : (((s[j]'hjl).toNat : Int) != 59) = false := by rw [bne, h59]; rfl
              have HC59 : Hid (l[j]? = some 59) := by
                have := HCJ.out
                rw [int_eq (n := 59) (by decide) h59] at this
                exact this
              have hz : (s.extract (k + 1) j).size ≤ 20000 := by rw [ByteArray.size_extract]; omega
              have KN := refNamed_any (s.extract (k + 1) j) hz
              rw [mid_toList, ← HL.out] at KN
              obtain ⟨tv, htv⟩ : ∃ tv, tv = namedR ((l.drop (k + 1)).take (j - (k + 1))) := ⟨_, rfl⟩
              rw [← htv] at KN
              have HK := Lib.hid KN
              clear KN hz
              have hejs : (((j : Int)) == ((s.size : Nat) : Int)) = false := by rw [beq_eq_false_iff_ne]; omega
              cases hnm : namedL ((l.drop (k + 1)).take (j - (k + 1))) with
              | none =>
                have htv2 : tv = ⟨#[]⟩ := by rw [htv]; unfold namedR; rw [hnm]
                have hno : ex attr none l = none := by
                  rw [sofar_amp HO.out HC38.out, inside_close HI.out HC59.out, hnm]
                  rfl
                obtain ⟨e1, e2⟩ := exp_none hno
                rw [← HRS.out] at e1
                rw [← HRC.out] at e2
                clear htv hnm hno HRS HRC
                subst htv2 e1 e2
                go_wp2_with fail
                refine (HK.out _).mono ?_
                rintro e w1 ⟨rfl, hb3⟩
                have HB3 := Lib.hid (below_two HB2.out hb3)
                clear hb3
                go_wp2_with fail
                go_ret2
                exact ⟨rfl, HB3.out⟩
              | some t =>
                have htv2 : tv.data.toList = t := by rw [htv]; unfold namedR; rw [hnm]
                have htz : tv.size ≠ 0 := by
                  intro e
                  rw [Lib.size_eq, htv2] at e
                  exact namedL_ne _ _ hnm (List.eq_nil_of_length_eq_zero e)
                have hemp := not_emp htz
                have ht4 : tv.size ≤ 4 := by rw [Lib.size_eq, htv2]; exact namedL_size _ _ hnm
                have HN : Hid (Sofar attr l (o ++ tv).data.toList (j + 1)) := by
                  have h0 := sofar_ref HO.out HC38.out HI.out HC59.out hnm
                  have e : (o ++ tv).data.toList = o.data.toList ++ t := by rw [← htv2]; simp [ByteArray.data_append]
                  unfold Hid
                  rw [e]
                  exact h0
                have hsz : (o ++ tv).size ≤ 4 * (j + 1) := by rw [ByteArray.size_append]; omega
                clear htv hnm htv2 htz
                go_wp2_with fail
                refine (HK.out _).mono ?_
                rintro e w1 ⟨rfl, hb3⟩
                have HB3 := Lib.hid (below_two HB2.out hb3)
                clear hb3
                go_wp2_with fail
                exact ⟨⟨j + 1, _, by omega, by go_num, rfl, hsz, HN.out, HB3.out⟩, by simp [intOf]; omega⟩
          · obtain rfl : j = s.size := by omega
            have hno : ex attr none l = none := by
              rw [sofar_amp HO.out HC38.out, inside_open HI.out (by rw [HLN.out]; exact Nat.le_refl _)]
              rfl
            obtain ⟨e1, e2⟩ := exp_none hno
            rw [← HRS.out] at e1
            rw [← HRC.out] at e2
            clear hno HRS HRC
            subst e1 e2
            go_wp2_with fail
            go_ret2
            exact ⟨rfl, HB2.out⟩
      | false =>
        have h0 := sofar_step HO.out HC.out (int_ne (n := 38) (by decide) h38)
        cases attr with
        | false =>
          rw [flat_no] at h0
          have HN : Hid (Sofar false l (o ++ s.extract k (k + 1)).data.toList (k + 1)) := by
            have e : (o ++ s.extract k (k + 1)).data.toList = o.data.toList ++ [s[k]'hlt] := by rw [← H1.out]; simp [ByteArray.data_append]
            unfold Hid
            rw [e]
            exact h0
          have hsz : (o ++ s.extract k (k + 1)).size ≤ 4 * (k + 1) := by rw [ByteArray.size_append, ByteArray.size_extract]; omega
          clear h0
          go_wp2_with fail
          exact ⟨⟨k + 1, _, by omega, by go_num, rfl, hsz, HN.out, HB.out⟩, by simp [intOf]; omega⟩
        | true =>
          have KS := refSpace_any ((s[k]'hlt).toNat : Int)
          have h256 : (s[k]'hlt).toNat < 256 := (s[k]'hlt).toNat_lt
          have hw64 : wrap64 ((s[k]'hlt).toNat : Int) = ((s[k]'hlt).toNat : Int) := by unfold wrap64; omega
          cases hsp : (((s[k]'hlt).toNat : Int) == 32 || ((s[k]'hlt).toNat : Int) == 9 || ((s[k]'hlt).toNat : Int) == 10 || ((s[k]'hlt).toNat : Int) == 13) with
          | true =>
            rw [hsp] at KS
            rw [flat_space _ hsp] at h0
            have HK := Lib.hid KS
            have HN : Hid (Sofar true l (o ++ ⟨#[32]⟩).data.toList (k + 1)) := by
              have e : (o ++ ⟨#[32]⟩ : ByteArray).data.toList = o.data.toList ++ [32] := by simp [ByteArray.data_append]
              unfold Hid
              rw [e]
              exact h0
            have hsz : (o ++ ⟨#[32]⟩ : ByteArray).size ≤ 4 * (k + 1) := by
              rw [ByteArray.size_append]
              show o.size + 1 ≤ _
              omega
            clear h0 KS hsp
            go_wp2_with fail
            refine (HK.out _).mono ?_
            rintro e w1 ⟨rfl, rfl⟩
            go_wp2_with fail
            exact ⟨⟨k + 1, _, by omega, by go_num, rfl, hsz, HN.out, HB.out⟩, by simp [intOf]; omega⟩
          | false =>
            rw [hsp] at KS
            rw [flat_other _ hsp] at h0
            have HK := Lib.hid KS
            have HN : Hid (Sofar true l (o ++ s.extract k (k + 1)).data.toList (k + 1)) := by
              have e : (o ++ s.extract k (k + 1)).data.toList = o.data.toList ++ [s[k]'hlt] := by rw [← H1.out]; simp [ByteArray.data_append]
              unfold Hid
              rw [e]
              exact h0
            have hsz : (o ++ s.extract k (k + 1)).size ≤ 4 * (k + 1) := by rw [ByteArray.size_append, ByteArray.size_extract]; omega
            clear h0 KS hsp
            go_wp2_with fail
            refine (HK.out _).mono ?_
            rintro e w1 ⟨rfl, rfl⟩
            go_wp2_with fail
            exact ⟨⟨k + 1, _, by omega, by go_num, rfl, hsz, HN.out, HB.out⟩, by simp [intOf]; omega⟩
    · obtain rfl : k = s.size := by omega
      have hsome := exp_some (sofar_end HO.out (by rw [HLN.out]; exact Nat.le_refl _))
      obtain ⟨e1, e2⟩ := hsome
      rw [← HRS.out] at e1
      rw [← HRC.out] at e2
      clear HRS HRC
      subst e1 e2
      go_wp2_with fail
      go_ret2
      exact ⟨rfl, HB.out⟩

theorem refExpand_any (s : ByteArray) (hs : s.size ≤ 20000) (w : World) :
    Calls Tryz.prog 10 #[.string s] w fun e w' => e = .returned (.tuple #[.string (expS false s.data.toList), .int .i64 (expC false s.data.toList)]) ∧ Below w.heap.size w w' := by
  have K := Lib.hid (refexp_any false s hs)
  obtain ⟨rs, hrs⟩ : ∃ x, x = expS false s.data.toList := ⟨_, rfl⟩
  obtain ⟨rc, hrc⟩ : ∃ x, x = expC false s.data.toList := ⟨_, rfl⟩
  rw [← hrs, ← hrc] at K
  rw [← hrs, ← hrc]
  clear hrs hrc
  go_enter Tryz.func10, Tryz.ntmps10
  go_wp2_with fail
  refine (K.out _).mono ?_
  rintro e w1 ⟨rfl, hb1⟩
  have HB1 := Lib.hid hb1
  clear hb1
  go_wp2_with fail
  go_ret2
  exact ⟨rfl, HB1.out⟩

theorem refValue_any (s : ByteArray) (hs : s.size ≤ 20000) (w : World) :
    Calls Tryz.prog 12 #[.string s] w fun e w' => e = .returned (.tuple #[.string (expS true s.data.toList), .int .i64 (expC true s.data.toList)]) ∧ Below w.heap.size w w' := by
  have K := Lib.hid (refexp_any true s hs)
  obtain ⟨rs, hrs⟩ : ∃ x, x = expS true s.data.toList := ⟨_, rfl⟩
  obtain ⟨rc, hrc⟩ : ∃ x, x = expC true s.data.toList := ⟨_, rfl⟩
  rw [← hrs, ← hrc] at K
  rw [← hrs, ← hrc]
  clear hrs hrc
  go_enter Tryz.func12, Tryz.ntmps12
  go_wp2_with fail
  refine (K.out _).mono ?_
  rintro e w1 ⟨rfl, hb1⟩
  have HB1 := Lib.hid hb1
  clear hb1
  go_wp2_with fail
  go_ret2
  exact ⟨rfl, HB1.out⟩
end Go.Proofs.YtfgcpkobfmcflaaGreatDoor
