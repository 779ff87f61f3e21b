/-
  escape.expanded: the walk, at whatever 'plain' keeps an invariant.
-/
import Derived.Test.YtfgcpkobfmcflaaGreatDoorExpL
import Derived.Lib.AppendIntMem
import Derived.OneCell
namespace Go.Proofs.YtfgcpkobfmcflaaGreatDoor
open Go.RowKit

theorem cut_calls (s : ByteArray) (c : UInt8) (hs : s.size ≤ 100000) (w : World) (hw : Env w) (a b : List UInt8) (f : Bool) (h : Lib.cut s.data.toList [c] = (a, b, f)) :
    Calls Tryz.prog 22 #[.string s, .string ⟨#[c]⟩] w fun e w' => e = .returned (.tuple #[.string ⟨a.toArray⟩, .string ⟨b.toArray⟩, .bool f]) ∧ Below w.heap.size w w' := by
  obtain ⟨⟨m, hm⟩, _, _⟩ := hw
  refine (Tryz.strings_Cut s ⟨#[c]⟩ m w (by omega) hm).mono ?_
  rintro e w' ⟨rfl, n, rfl⟩
  refine ⟨?_, below_drewN _ _ _⟩
  rw [show ((⟨#[c]⟩ : ByteArray).data.toList) = [c] from rfl, h]

/-- The loop's relation: what is to come, and what has been put together. -/
structure XRel (attr : Bool) (x : Option Nat) (I : World → Prop) (s : ByteArray) (w : World) (sr : ByteArray) (wr : World) : Prop where
  out : ∃ acc, XW x I w acc wr ∧ ex attr none s.data.toList = (ex attr none sr.data.toList).map (acc ++ ·) ∧ acc.length + 4 * sr.size ≤ 4 * s.size

set_option maxRecDepth 100000 in
set_option maxHeartbeats 2000000 in
theorem expanded_any (attr : Bool) (F : Nat) (first : Array Value) (x : Option Nat) (I : World → Prop) (s : ByteArray) (hs : s.size ≤ 20000) (w : World) (hent : ∀ args w, (callFunc F args).run Tryz.prog w = .ok (.enter F args) w)
    (hplain : ∀ (t : ByteArray) (W : World), t.size ≤ 20000 → w.heap.size + 2 < W.heap.size → I W → Calls Tryz.prog F (first.push (.string t)) W fun e W' => e = .returned (.string ⟨(t.data.toList.map (flat attr)).toArray⟩) ∧ I W' ∧ W.grownBy W' x)
    (hI : ∀ W W' : World, I W → Lib.OthersKept 5 (some (w.heap.size + 2)) W W' → I W') (hIw : I w) (hw : Env w)
    (hxs : ∀ k, x = some k → k < w.heap.size) (hx : ∀ k, x = some k → k ≠ 0 ∧ k ≠ 1 ∧ k ≠ 2) :
    Calls Tryz.prog 16 #[.string s, .func (.func F) first #[]] w fun e w' => e = .returned (expV attr s.data.toList) ∧ BelowX w.heap.size x w w' := by
  have hmf : ∀ (fn : Fn) (first cap : Array Value) (w : World), (Instr.makeFunc fn first cap).run Tryz.prog w = .ok (.func fn first cap) w := fun _ _ _ _ => rfl
  have HP := Lib.hid hplain
  have HI := Lib.hid hI
  have HX := Lib.hid hx
  have HXS := Lib.hid hxs
  have H0 := Lib.hid (XW.start (x := x) hI hIw hw)
  have HW := Lib.hid hw
  clear hplain hI hx hxs hIw hw
  go_enter_defers Tryz.func16, Tryz.ntmps16
  go_wp2_with fail
  go_loopw [0] (fun v wr => ∃ sr : ByteArray, v = .string sr ∧ XRel attr x I s w sr wr) (fun v _ => strLen v)
  case atStart => exact ⟨s, rfl, ⟨[], H0.out, by simp, by simp⟩⟩
  case round =>
    obtain ⟨sr, rfl, ⟨acc, hW, hex, hsz⟩⟩ := hrel
    have HE := Lib.hid hex
    have HWr := Lib.hid hW
    clear hex hW
    go_wp2_with fail
    cases hsp : split1 38 sr.data.toList with
    | none =>
      have hc := cut_one 38 sr.data.toList
      rw [hsp] at hc
      refine (cut_calls sr 38 (by omega) _ HWr.out.env _ _ _ hc).mono ?_
      rintro e w1 ⟨rfl, hb1⟩
      go_wp2_with fail
      have hI1 := (HWr.out.below HI.out hb1)
      have HI1 := Lib.hid hI1
      clear hI1 hb1
      refine (HP.out ⟨sr.data⟩ _ (show sr.size ≤ 20000 by omega) HI1.out.sz HI1.out.inv).mono ?_
      rintro e w2 ⟨rfl, hi2, hg2⟩
      have HW2 := Lib.hid (HI1.out.plain HXS.out HX.out hg2 hi2)
      clear hi2 hg2
      have hsr : ((⟨(sr.data.toList.map (flat attr)).toArray⟩ : ByteArray)).size = sr.size := by
        show (List.map (flat attr) sr.data.toList).toArray.size = _
        simp
      have HSR := Lib.hid hsr
      clear hsr
      go_wp2_with fail
      refine (bld_write (w.heap.size + 2) (w.heap.size + 2) _ _ _ HW2.out.bld (by rw [Lib.byteCells_length, HSR.out]; omega) (by have := HW2.out.sz; omega)).mono ?_
      rintro e w3 ⟨rfl, hb3, hB3, hO3⟩
      rw [Lib.strCells_toArray, ← Lib.byteCells_append] at hb3
      have HW3 := Lib.hid (HW2.out.write HI.out HW.out _ hb3.is hB3 hO3)
      clear hb3 hB3 hO3
      go_wp2_with fail
      refine (Tryz.Builder_String_any_k (w.heap.size + 2) (w.heap.size + 2) _ _ HW3.out.bld (by have := HW3.out.sz; omega)).mono ?_
      rintro e w4 ⟨rfl, hb4, hB4, hO4⟩
      have hW4 := (HW3.out.write HI.out HW.out _ hb4 hB4 hO4)
      have t1 := cell_of_one hW4.ht
      have t2 := free_of_one hW4.ht
      have t3 := cell_of_one hW4.he
      have t4 := free_of_one hW4.he
      have HW4 := Lib.hid hW4
      clear hb4 hB4 hO4 hW4
      go_wp2_with fail
      refine leaves_cons (f := 21) (args := #[.pointer (some ⟨w.heap.size, 0, none⟩), .pointer (some ⟨w.heap.size + 1, 0, none⟩)]) (by simp) (by simp [go_sem]) ?_
      refine (catch_idle _ _ _).mono ?_
      rintro e u' w'' ⟨rfl, rfl, rfl⟩
      simp [Leaves, settle, results, Tryz.results16, go_sem, t1, t3]
      have hes := ex_split attr sr.data.toList
      rw [hsp] at hes
      have hfin : expV attr s.data.toList = .tuple #[.string ⟨(acc ++ List.map (flat attr) sr.data.toList).toArray⟩, .int .i64 0] := by
        unfold expV
        rw [HE.out, hes]
        rfl
      exact ⟨hfin.symm, HW4.out.fr.trans (BelowX.of (((Below.refl _ _).setCell (p := ⟨w.heap.size, 0, none⟩) (Nat.le_refl _) _).setCell (p := ⟨w.heap.size + 1, 0, none⟩) (Nat.le_succ _) _))⟩
    | some p =>
      obtain ⟨p1, p2⟩ := p
      have hc := cut_one 38 sr.data.toList
      rw [hsp] at hc
      have hlen : p1.length + 1 + p2.length = sr.size := by
        have h1 := split1_take 38 _ _ hsp
        have h2 := congrArg List.length h1
        simp only [List.length_append, List.length_cons] at h2
        rw [← Lib.size_eq] at h2
        omega
      refine (cut_calls sr 38 (by omega) _ HWr.out.env _ _ _ hc).mono ?_
      rintro e w1 ⟨rfl, hb1⟩
      go_wp2_with fail
      have hI1 := (HWr.out.below HI.out hb1)
      have HI1 := Lib.hid hI1
      clear hI1 hb1
      have hs1 : ((⟨p1.toArray⟩ : ByteArray)).size = p1.length := rfl
      have HS1 := Lib.hid hs1
      clear hs1
      refine (HP.out ⟨p1.toArray⟩ _ (by rw [HS1.out]; omega) HI1.out.sz HI1.out.inv).mono ?_
      rintro e w2 ⟨rfl, hi2, hg2⟩
      have HW2 := Lib.hid (HI1.out.plain HXS.out HX.out hg2 hi2)
      clear hi2 hg2
      have hsr : ((⟨(List.map (flat attr) (⟨p1.toArray⟩ : ByteArray).data.toList).toArray⟩ : ByteArray)).size = p1.length := by
        show (List.map (flat attr) p1.toArray.toList).toArray.size = _
        simp
      have HSR := Lib.hid hsr
      clear hsr
      go_wp2_with fail
      refine (bld_write (w.heap.size + 2) (w.heap.size + 2) _ _ _ HW2.out.bld (by first | (rw [Lib.byteCells_length, HSR.out]; omega) | skip) (by have := HW2.out.sz; omega)).mono ?_
      rintro e w3 ⟨rfl, hb3, hB3, hO3⟩
      rw [Lib.strCells_toArray, ← Lib.byteCells_append] at hb3
      have HW3 := Lib.hid (HW2.out.write HI.out HW.out _ hb3.is hB3 hO3)
      clear hb3 hB3 hO3
      go_wp2_with fail
      have hs2 : ((⟨p2.toArray⟩ : ByteArray)).size = p2.length := rfl
      have HS2 := Lib.hid hs2
      clear hs2
      cases hsq : split1 59 p2 with
      | none =>
        have hc2 := cut_one 59 p2
        rw [hsq] at hc2
        refine (cut_calls ⟨p2.toArray⟩ 59 (by rw [HS2.out]; omega) _ HW3.out.env _ _ _ (by simpa using hc2)).mono ?_
        rintro e w4 ⟨rfl, hb4⟩
        have HW4 := Lib.hid (HW3.out.below HI.out hb4)
        clear hb4
        go_wp2_with fail
        have t1 := cell_of_one HW4.out.ht
        have t2 := free_of_one HW4.out.ht
        have t3 := cell_of_one HW4.out.he
        have t4 := free_of_one HW4.out.he
        refine leaves_cons (f := 21) (args := #[.pointer (some ⟨w.heap.size, 0, none⟩), .pointer (some ⟨w.heap.size + 1, 0, none⟩)]) (by simp) (by simp [go_sem]) ?_
        refine (catch_panicking ⟨w.heap.size, 0, none⟩ ⟨w.heap.size + 1, 0, none⟩ (by simp) _ _ [] _ t1 t2 t3 t4).mono ?_
        rintro e u' w'' ⟨rfl, rfl, rfl⟩
        simp [Leaves, settle, results, Tryz.results16, go_sem, t1, t3]
        have hes := ex_split attr sr.data.toList
        rw [hsp] at hes
        have hen := ex_name attr p2 []
        rw [hsq] at hen
        have hfin : expV attr s.data.toList = .tuple #[.string ⟨#[]⟩, .int .i64 60] := by
          unfold expV
          rw [HE.out, hes]
          simp only []
          rw [hen]
          rfl
        exact ⟨hfin.symm, HW4.out.fr.trans (BelowX.of (((Below.refl _ _).setCell (p := ⟨w.heap.size, 0, none⟩) (Nat.le_refl _) _).setCell (p := ⟨w.heap.size + 1, 0, none⟩) (Nat.le_succ _) _).drew)⟩
      | some q =>
        obtain ⟨q1, q2⟩ := q
        have hc2 := cut_one 59 p2
        rw [hsq] at hc2
        have hlen2 : q1.length + 1 + q2.length = p2.length := by
          have h1 := split1_take 59 _ _ hsq
          have h2 := congrArg List.length h1
          simp only [List.length_append, List.length_cons] at h2
          omega
        have hs3 : ((⟨q1.toArray⟩ : ByteArray)).size = q1.length := rfl
        have HS3 := Lib.hid hs3
        clear hs3
        refine (cut_calls ⟨p2.toArray⟩ 59 (by rw [HS2.out]; omega) _ HW3.out.env _ _ _ (by simpa using hc2)).mono ?_
        rintro e w4 ⟨rfl, hb4⟩
        have HW4 := Lib.hid (HW3.out.below HI.out hb4)
        clear hb4
        go_wp2_with fail
        cases hn : namedL q1 with
        | none =>
          refine (named_fail ⟨q1.toArray⟩ (by rw [HS3.out]; omega) (by simpa using hn) _ HW4.out.env).mono ?_
          rintro e w5 ⟨rfl, hb5⟩
          have HW5 := Lib.hid (HW4.out.below HI.out hb5)
          clear hb5
          go_wp2_with fail
          have t1 := cell_of_one HW5.out.ht
          have t2 := free_of_one HW5.out.ht
          have t3 := cell_of_one HW5.out.he
          have t4 := free_of_one HW5.out.he
          refine leaves_cons (f := 21) (args := #[.pointer (some ⟨w.heap.size, 0, none⟩), .pointer (some ⟨w.heap.size + 1, 0, none⟩)]) (by simp) (by simp [go_sem]) ?_
          refine (catch_panicking ⟨w.heap.size, 0, none⟩ ⟨w.heap.size + 1, 0, none⟩ (by simp) _ _ [] _ t1 t2 t3 t4).mono ?_
          rintro e u' w'' ⟨rfl, rfl, rfl⟩
          simp [Leaves, settle, results, Tryz.results16, go_sem, t1, t3]
          have hes := ex_split attr sr.data.toList
          rw [hsp] at hes
          have hen := ex_name attr p2 []
          rw [hsq] at hen
          have hfin : expV attr s.data.toList = .tuple #[.string ⟨#[]⟩, .int .i64 60] := by
            unfold expV
            rw [HE.out, hes]
            simp only []
            rw [hen]
            simp [hn]
          exact ⟨hfin.symm, HW5.out.fr.trans (BelowX.of (((Below.refl _ _).setCell (p := ⟨w.heap.size, 0, none⟩) (Nat.le_refl _) _).setCell (p := ⟨w.heap.size + 1, 0, none⟩) (Nat.le_succ _) _).drew)⟩
        | some r =>
          have hr4 := namedL_size _ _ hn
          have hs4 : ((⟨r.toArray⟩ : ByteArray)).size = r.length := rfl
          have HS4 := Lib.hid hs4
          clear hs4
          refine (named_some ⟨q1.toArray⟩ (by rw [HS3.out]; omega) r (by simpa using hn) _ HW4.out.env).mono ?_
          rintro e w5 ⟨rfl, hb5⟩
          have HW5 := Lib.hid (HW4.out.below HI.out hb5)
          clear hb5
          have hal : (acc ++ List.map (flat attr) (⟨p1.toArray⟩ : ByteArray).data.toList).length = acc.length + p1.length := by simp
          have HAL := Lib.hid hal
          clear hal
          go_wp2_with fail
          refine (bld_write (w.heap.size + 2) (w.heap.size + 2) _ _ _ HW5.out.bld (by rw [Lib.byteCells_length, HS4.out, HAL.out]; omega) (by have := HW5.out.sz; omega)).mono ?_
          rintro e w6 ⟨rfl, hb6, hB6, hO6⟩
          rw [Lib.strCells_toArray, ← Lib.byteCells_append] at hb6
          have HW6 := Lib.hid (HW5.out.write HI.out HW.out _ hb6.is hB6 hO6)
          clear hb6 hB6 hO6
          go_wp2_with fail
          have hes := ex_split attr sr.data.toList
          rw [hsp] at hes
          have hen := ex_name attr p2 []
          rw [hsq] at hen
          refine ⟨⟨⟨q2.toArray⟩, rfl, ⟨_, HW6.out, ?_, ?_⟩⟩, ?_⟩
          · rw [HE.out, hes]
            simp only []
            rw [hen]
            simp only [List.nil_append]
            rw [hn]
            simp only [Option.bind_some, Option.map_map]
            congr 1
            funext z
            simp
          · show (acc ++ List.map (flat attr) p1.toArray.toList ++ r).length + 4 * q2.length ≤ _
            simp
            omega
          · show q2.length < sr.size
            omega
end Go.Proofs.YtfgcpkobfmcflaaGreatDoor
