/-
  (*strings.byteReplacer).Replace: each byte through the table.
-/
import Derived.Test.YtfgcpkobfmcflaaGreatDoorRepO
import Derived.Laws.IdiomStrings
import Derived.Lib.SlBytesRow
namespace Go.Proofs.YtfgcpkobfmcflaaGreatDoor
open Go.RowKit

theorem BT.cell {w : World} {b : Nat} {f : Nat → Int} (h : BT w b f) (c : Nat) (hc : c < 256) : w.cell? ⟨b, c, none⟩ = some (.int .u8 (f c)) := by
  unfold BT at h
  rw [cell_of_row w b c _ _ _ h]
  simp [hc]

theorem BT.lt {w : World} {b : Nat} {f : Nat → Int} (h : BT w b f) : b < w.heap.size := (Array.getElem?_eq_some_iff.1 h).1

/-- The buffer behind k bytes. -/
inductive Buf (f : UInt8 → UInt8) (l : List UInt8) (B : Nat) (k : Nat) (v : Value) (wr : World) : Prop
  | no (hv : v = .slice none 0 0) (h : ∀ j, j < k → f (l.getD j 0) = l.getD j 0)
  | yes (g cap : Nat) (cs : Array Value) (fz : Nat × Nat) (hv : v = .slice (some ⟨g, 0, none⟩) l.length cap) (hg : B ≤ g) (hh : wr.heap[g]? = some (.cells cs 5 fz)) (hz : l.length ≤ fz.1)
      (hc : ∀ j, j < l.length → cs[j]? = some (.int .u8 ((if j < k then f (l.getD j 0) else l.getD j 0).toNat : Int)))

theorem Buf.same {f : UInt8 → UInt8} {l : List UInt8} {B k : Nat} {v : Value} {wr : World} (h : Buf f l B k v wr) (he : f (l.getD k 0) = l.getD k 0) : Buf f l B (k + 1) v wr := by
  cases h with
  | no hv h =>
    refine .no hv fun j hj => ?_
    by_cases e : j = k
    · rw [e]; exact he
    · exact h j (by omega)
  | yes g cap cs fz hv hg hh hz hc =>
    refine .yes g cap cs fz hv hg hh hz fun j hj => ?_
    rw [hc j hj]
    by_cases e : j = k
    · subst e; rw [if_neg (by omega), if_pos (by omega), he]
    · by_cases h2 : j < k
      · rw [if_pos h2, if_pos (by omega)]
      · rw [if_neg h2, if_neg (by omega)]

/-- A byte is laid in the buffer. -/
theorem Buf.put {f : UInt8 → UInt8} {l : List UInt8} {B k g cap : Nat} {cs : Array Value} {fz : Nat × Nat} {wr : World} (hk : k < l.length) (hg : B ≤ g) (hh : wr.heap[g]? = some (.cells cs 5 fz)) (hz : l.length ≤ fz.1)
    (hc : ∀ j, j < l.length → cs[j]? = some (.int .u8 ((if j < k then f (l.getD j 0) else l.getD j 0).toNat : Int))) :
    Buf f l B (k + 1) (.slice (some ⟨g, 0, none⟩) l.length cap) (wr.setCell ⟨g, k, none⟩ (.int .u8 ((f (l.getD k 0)).toNat : Int))) := by
  refine .yes g cap (cs.setIfInBounds k (.int .u8 ((f (l.getD k 0)).toNat : Int))) fz rfl hg ?_ hz fun j hj => ?_
  · rw [setCell_eq_setRow wr g k cs _ fz _ hh]
    exact setRow_heap wr g cs _ _ fz hh
  · rw [Array.getElem?_setIfInBounds]
    by_cases e : k = j
    · subst e
      have := (Array.getElem?_eq_some_iff.1 (hc k hj)).1
      rw [if_pos rfl, if_pos this, if_pos (by omega)]
    · rw [if_neg e, hc j hj]
      by_cases h2 : j < k
      · rw [if_pos h2, if_pos (by omega)]
      · rw [if_neg h2, if_neg (by omega)]

theorem buf_free {wr : World} {g k n : Nat} {cs : Array Value} {fz : Nat × Nat} {t : TypeId} (hh : wr.heap[g]? = some (.cells cs t fz)) (hz : n ≤ fz.1) (hk : k < n) : wr.frozen? ⟨g, k, none⟩ = false := by
  obtain ⟨lo, hi⟩ := fz
  simp only [World.frozen?, hh, Bool.and_eq_false_iff, decide_eq_false_iff_not]
  left
  simp only at hz
  omega

theorem bytesCells_at (w : World) (e : TypeId) (s : ByteArray) (j : Nat) (hj : j < s.data.toList.length) : (Lib.bytesCells w e s)[j]? = some (.int .u8 ((s.data.toList.getD j 0).toNat : Int)) := by
  have h := Lib.bytesWorld_cell w e s j (by rw [Lib.size_eq]; exact hj)
  rw [cell_of_row _ _ _ _ _ _ (Lib.bytesWorld_at_new w e s)] at h
  exact h

theorem bs_eql (a : Addr) (n c : Nat) (w : World) : (binOp .eql 30 (.slice (some a) n c) (.slice none 0 0)).run Tryz.prog w = .ok (.bool false) w := by
  have h := Lib.run_eql_slice_nil (P := Tryz.prog) w 30 5 (some a) n c 0 0 Tryz.underlying30
  simpa using h
theorem bs_eql_nil (w : World) : (binOp .eql 30 (.slice none 0 0) (.slice none 0 0)).run Tryz.prog w = .ok (.bool true) w := by
  have h := Lib.run_eql_slice_nil (P := Tryz.prog) w 30 5 none 0 0 0 0 Tryz.underlying30
  simpa using h
theorem bs_neq (a : Addr) (n c : Nat) (w : World) : (binOp .neq 30 (.slice (some a) n c) (.slice none 0 0)).run Tryz.prog w = .ok (.bool true) w := by
  have h := run_neq_slice_nil_any (P := Tryz.prog) w 30 5 (some a) n c 0 0 Tryz.underlying30
  simpa using h
theorem bs_neq_nil (w : World) : (binOp .neq 30 (.slice none 0 0) (.slice none 0 0)).run Tryz.prog w = .ok (.bool false) w := by
  have h := run_neq_slice_nil_any (P := Tryz.prog) w 30 5 none 0 0 0 0 Tryz.underlying30
  simpa using h

set_option maxRecDepth 100000 in
set_option maxHeartbeats 2000000 in
theorem bytes_replace (tb : Nat) (f : UInt8 → UInt8) (s : ByteArray) (hs : s.size ≤ 20000) (w : World) (ht : BT w tb (fun c => ((f (UInt8.ofNat c)).toNat : Int))) :
    Calls Tryz.prog 151 #[.pointer (some ⟨tb, 0, none⟩), .string s] w fun e w' => e = .returned (.string ⟨(s.data.toList.map f).toArray⟩) ∧ Below w.heap.size w w' := by
  have hT : ∀ c : UInt8, w.cell? ⟨tb, c.toNat, none⟩ = some (.int .u8 ((f c).toNat : Int)) := fun c => by
    have := ht.cell c.toNat c.toNat_lt
    simpa using this
  have HT := Lib.hid hT
  have tlt := ht.lt
  have hcv := fun w => Lib.run_convert_string_bytes (P := Tryz.prog) w 9 30 5 s (u := .string) Tryz.underlying9 Tryz.underlying30 Tryz.underlying5
  obtain ⟨l, hl⟩ : ∃ l, l = s.data.toList := ⟨_, rfl⟩
  have hln : l.length = s.size := by rw [hl, Lib.size_eq]
  have HL := Lib.hid hl
  have HLN := Lib.hid hln
  have HCV := Lib.hid hcv
  rw [← hl]
  clear hT ht hl hln hcv
  have q1 := bs_eql
  have q2 := bs_eql_nil
  go_enter Tryz.func151, Tryz.ntmps151
  go_wp2_with fail
  go_loopw [5, 6] (fun v i wr => ∃ k : Nat, k ≤ s.size ∧ i = .int .i64 k ∧ Buf f l w.heap.size k v wr ∧ Below w.heap.size w wr) (fun _ i _ => s.size - (intOf i).toNat)
  case atStart => exact ⟨0, Nat.zero_le _, rfl, .no rfl (fun j hj => by omega), Below.refl _ _⟩
  case round =>
    obtain ⟨k, hk, rfl, hbuf, hb⟩ := hrel
    by_cases hlt : k < s.size
    · have hget : l.getD k 0 = s[k]'hlt := by
        rw [HL.out, List.getD_eq_getElem?_getD, List.getElem?_eq_getElem (by rw [← Lib.size_eq]; exact hlt)]
        rfl
      have htc := (hb.cell (p := ⟨tb, (s[k]'hlt).toNat, none⟩) tlt).trans (HT.out (s[k]'hlt))
      have hc256 : (s[k]'hlt).toNat < 256 := (s[k]'hlt).toNat_lt
      have HG := Lib.hid hget
      have HBF := Lib.hid hbuf
      have HB := Lib.hid hb
      clear hget hbuf hb
      by_cases hf : f (s[k]'hlt) = s[k]'hlt
      · have h1 : (((f (s[k]'hlt)).toNat : Int) != ((s[k]'hlt).toNat : Int)) = false := by rw [hf]; simp
        have HF := Lib.hid hf
        clear hf
        go_wp2_with fail
        exact ⟨⟨k + 1, by omega, by go_num, HBF.out.same (by rw [HG.out]; exact HF.out), HB.out⟩, by simp [intOf]; omega⟩
      · have h1 : (((f (s[k]'hlt)).toNat : Int) != ((s[k]'hlt).toNat : Int)) = true := by
          rw [bne_iff_ne]
          intro e
          exact hf (UInt8.toNat_inj.1 (by omega))
        clear hf
        rcases HBF.out with ⟨rfl, hno⟩ | ⟨g, cap, cs, fz, rfl, hg, hh, hz, hc⟩
        · have hcw := HCV.out wr
          have hnew := Lib.bytesWorld_at_new wr 5 s
          have hsz : s.data.toList.length ≤ (Lib.bytesCells wr 5 s).size := by simp [Lib.bytesCells]
          have hba := bytesCells_at wr 5 s
          have hbw := below_bytes wr s
          have ht1 := (hbw.cell (p := ⟨tb, (s[k]'hlt).toNat, none⟩) (Nat.lt_of_lt_of_le tlt HB.out.size)).trans htc
          obtain ⟨W1, hW1⟩ : ∃ W1, W1 = Lib.bytesWorld wr 5 s := ⟨_, rfl⟩
          rw [← hW1] at hcw hnew hbw ht1
          have hlk : k < l.length := by rw [HLN.out]; exact hlt
          have hput : ∀ j, j < l.length → (Lib.bytesCells wr 5 s)[j]? = some (.int .u8 ((if j < k then f (l.getD j 0) else l.getD j 0).toNat : Int)) := by
            intro j hj
            rw [hba j (by rw [← HL.out]; exact hj), ← HL.out]
            by_cases hjk : j < k
            · rw [if_pos hjk, hno j hjk]
            · rw [if_neg hjk]
          have hck := cell_of_row W1 wr.heap.size k _ _ _ hnew
          rw [hput k hlk] at hck
          have hfk := buf_free (k := k) hnew hsz (by rw [← HL.out]; exact hlk)
          have HP := Lib.hid (Buf.put (cap := grownCap wr s.size 0 5) (f := f) hlk HB.out.size hnew (by rw [HL.out]; exact hsz) hput)
          have HB1 := Lib.hid (HB.out.trans (hbw.mono HB.out.size))
          have HWS := Lib.hid HB.out.size
          clear hnew hsz hba hbw hW1 hno hput
          go_wp2_with fail
          refine ⟨⟨k + 1, by omega, by go_num, ?_, HB1.out.setCell (p := ⟨wr.heap.size, k, none⟩) HWS.out _⟩, by simp [intOf]; omega⟩
          have hp := HP.out
          rw [HG.out, HLN.out] at hp
          exact hp
        · have hlk : k < l.length := by rw [HLN.out]; exact hlt
          have hck := cell_of_row wr g k _ _ _ hh
          rw [hc k hlk] at hck
          have hfk := buf_free (k := k) hh hz hlk
          have HP := Lib.hid (Buf.put (cap := cap) (f := f) hlk hg hh hz hc)
          have HLN2 := HLN.out
          have hlen : (.slice (some ⟨g, 0, none⟩) l.length cap : Value) = .slice (some ⟨g, 0, none⟩) s.size cap := by rw [HLN.out]
          rw [hlen]
          clear hh hz hc hlk HLN2 hlen
          go_wp2_with fail
          refine ⟨⟨k + 1, by omega, by go_num, ?_, HB.out.setCell (p := ⟨g, k, none⟩) hg _⟩, by simp [intOf]; omega⟩
          have hp := HP.out
          rw [HG.out, HLN.out] at hp
          exact hp
    · obtain rfl : k = s.size := by omega
      rcases hbuf with ⟨rfl, hno⟩ | ⟨g, cap, cs, fz, rfl, hg, hh, hz, hc⟩
      · have hm : l.map f = l := by
          apply List.ext_getElem?
          intro j
          rw [List.getElem?_map]
          by_cases hj : j < l.length
          · have := hno j (by rw [← HLN.out]; exact hj)
            rw [List.getD_eq_getElem?_getD, List.getElem?_eq_getElem hj] at this
            rw [List.getElem?_eq_getElem hj]
            simpa using this
          · rw [List.getElem?_eq_none (by omega)]; rfl
        have HM := Lib.hid hm
        clear hm hno hlt
        go_wp2_with fail
        go_ret
        refine ⟨?_, hb⟩
        rw [HM.out, HL.out, ba_eq]
        rfl
      · have hback := run_convert_bytes_back (P := Tryz.prog) wr 30 9 5 ⟨g, 0, none⟩ cap (l.map f) Tryz.underlying30 Tryz.underlying5 Tryz.underlying9 (by
          intro j hj
          rw [addr_add, cell_of_row wr g j _ _ _ hh]
          have hj' : j < l.length := by simpa using hj
          rw [hc j hj', if_pos (by rw [← HLN.out]; exact hj')]
          simp [List.getD_eq_getElem?_getD, List.getElem?_eq_getElem hj'])
        rw [List.length_map, HLN.out] at hback
        have hlen : (.slice (some ⟨g, 0, none⟩) l.length cap : Value) = .slice (some ⟨g, 0, none⟩) s.size cap := by rw [HLN.out]
        rw [hlen]
        clear hh hz hc hlt hlen
        go_wp2_with fail
        go_ret
        exact ⟨rfl, hb⟩
end Go.Proofs.YtfgcpkobfmcflaaGreatDoor
