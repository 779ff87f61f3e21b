/-
  (*strings.byteStringReplacer).Replace: each byte through the table.
-/
import Derived.Test.YtfgcpkobfmcflaaGreatDoorRepSP
import Derived.Laws.CopyOwn
import Derived.Deep.RegionLaw
import Derived.Deep.QuietTactic
import Derived.BigQuiet
import Derived.IntWalk
set_option linter.unusedVariables false
namespace Go.Proofs.YtfgcpkobfmcflaaGreatDoor
open Go.RowKit

/-- What the walks ask of the table: the entry of each byte. -/
structure TabW (ps : List (UInt8 × List UInt8)) (tb : Nat) (w : World) : Prop where
  lt : tb < w.heap.size
  off : ∀ c : UInt8, lk ps c = none → w.cell? ⟨tb, c.toNat, none⟩ = some (.slice none 0 0)
  on : ∀ (c : UInt8) l, lk ps c = some l → ∃ g cap, w.cell? ⟨tb, c.toNat, none⟩ = some (.slice (some ⟨g, 0, none⟩) l.length cap) ∧ g < w.heap.size ∧ ∀ k (h : k < l.length), w.cell? ⟨g, k, none⟩ = some (.int .u8 ((l[k]'h).toNat : Int))
  row : ∃ tr cap, w.cell? ⟨tb, 256, none⟩ = some (.slice (some ⟨tr, 0, none⟩) ps.length cap) ∧ tr < w.heap.size ∧ ∀ k (h : k < ps.length), w.cell? ⟨tr, k, none⟩ = some (.string ⟨#[((ps.reverse.map (·.1))[k]'(by simpa using h))]⟩)

theorem Tab.words {wr : World} {B0 b : Nat} {ps : List (UInt8 × List UInt8)} {tv : Value} (h : Tab wr B0 b ps tv) (hpos : 0 < ps.length) : TabW ps b wr := by
  have hcell := fun c => h.cell c
  have hrow := h.row
  obtain ⟨⟨cs, hh, hcs, _⟩, hown, hne⟩ := h
  refine ⟨(Array.getElem?_eq_some_iff.1 hh).1, ?_, ?_, ?_⟩
  · intro c hc
    obtain ⟨v, h1, _, _, h4⟩ := hcell c
    rw [hc] at h4
    rw [h1, show v = .slice none 0 0 from h4]
  · intro c l hc
    obtain ⟨v, h1, _, _, h4⟩ := hcell c
    rw [hc] at h4
    obtain ⟨g, cap, cs', fz, hv, _, hg, hb⟩ := h4
    refine ⟨g, cap, by rw [h1, hv], (Array.getElem?_eq_some_iff.1 hg).1, ?_⟩
    intro k hk
    rw [cell_of_row _ _ _ _ _ _ hg]
    exact hb k hk
  · rcases hown.2 with ⟨_, h0⟩ | ⟨g, cap, cur, hv, _, hg, _, _, _, htake⟩
    · omega
    · refine ⟨g, cap, by rw [hrow.1, hv], (Array.getElem?_eq_some_iff.1 hg).1, ?_⟩
      intro k hk
      have := hown.cells (g := g) (by rw [hv]; rfl) k (.string ⟨#[((ps.reverse.map (·.1))[k]'(by simpa using hk))]⟩) (by
        rw [List.getElem?_map, List.getElem?_eq_getElem (by simpa using hk)]
        simp)
      rwa [addr_add] at this

theorem TabW.below {ps : List (UInt8 × List UInt8)} {tb : Nat} {w w' : World} (h : TabW ps tb w) (hb : Below w.heap.size w w') : TabW ps tb w' := by
  refine ⟨Nat.lt_of_lt_of_le h.lt hb.size, fun c hc => (hb.cell h.lt).trans (h.off c hc), fun c l hc => ?_, ?_⟩
  · obtain ⟨g, cap, h1, h2, h3⟩ := h.on c l hc
    exact ⟨g, cap, (hb.cell h.lt).trans h1, Nat.lt_of_lt_of_le h2 hb.size, fun k hk => (hb.cell h2).trans (h3 k hk)⟩
  · obtain ⟨tr, cap, h1, h2, h3⟩ := h.row
    exact ⟨tr, cap, (hb.cell h.lt).trans h1, Nat.lt_of_lt_of_le h2 hb.size, fun k hk => (hb.cell h2).trans (h3 k hk)⟩

def zeroBytes (n : Nat) : Array Value := (List.replicate n (Value.int .u8 0)).toArray

theorem make_bytes (N : Nat) (hN : N ≤ 100000000) (w : World) : (Instr.makeSlice 30 (.int .i64 (N : Int)) (.int .i64 (N : Int))).run Tryz.prog w = .ok (.slice (some ⟨w.heap.size, 0, none⟩) N N) (w.alloc (.cells (zeroBytes N) 5)) := by
  obtain ⟨i0, hi, hz0, hz1, hz2⟩ := info_parts byte_info
  have h := run_make (P := Tryz.prog) w 30 5 i0 (.int .u8 0) Tryz.underlying30 hi hz0 .i64 .i64 (N : Int) (N : Int) (by omega) (by omega) (by rw [hz2]; omega) (by omega)
  rw [h, hz1]
  have e : madeCells (Value.int IntKind.u8 0).cells ((N : Int).toNat * 1) = zeroBytes N := by
    have h1 : (Value.int IntKind.u8 0).cells = #[Value.int .u8 0] := rfl
    rw [h1]
    apply Array.ext_getElem?
    intro i
    simp only [madeCells, zeroBytes, Array.getElem?_map, Array.getElem?_range, List.getElem?_toArray, List.getElem?_replicate]
    by_cases hi : i < N
    · rw [if_pos (by omega), if_pos hi]
      simp [Nat.mod_one]
    · rw [if_neg (by omega), if_neg hi]; rfl
  rw [e]
  simp

/-- The buffer in block g when D is laid. -/
def Fill (g : Nat) (D : List UInt8) (N : Nat) (wr : World) : Prop := wr.heap[g]? = some (Obj.cells (Lib.byteCells D ++ List.replicate (N - D.length) (Value.int .u8 0)).toArray 5 (0, 0))

theorem Fill.start (N : Nat) (w : World) : Fill w.heap.size [] N (w.alloc (.cells (zeroBytes N) 5)) := by
  unfold Fill
  rw [heap_alloc_new]
  simp [Lib.byteCells, zeroBytes]

theorem Fill.at {g : Nat} {D : List UInt8} {N : Nat} {wr : World} (h : Fill g D N wr) (hj : D.length < N) : wr.cell? ⟨g, D.length, none⟩ = some (.int .u8 0) ∧ wr.frozen? ⟨g, D.length, none⟩ = false := by
  unfold Fill at h
  refine ⟨?_, frozen_of_row _ _ _ _ _ h⟩
  rw [cell_of_row _ _ _ _ _ _ h, List.getElem?_toArray, List.getElem?_append_right (by rw [Lib.byteCells_length]; exact Nat.le_refl _), Lib.byteCells_length, Nat.sub_self, List.getElem?_replicate, if_pos (by omega)]

theorem Fill.one {g : Nat} {D : List UInt8} {N : Nat} {wr : World} (h : Fill g D N wr) (hj : D.length < N) (c : UInt8) : Fill g (D ++ [c]) N (wr.setCell ⟨g, D.length, none⟩ (.int .u8 c.toNat)) := by
  unfold Fill at *
  rw [heap_setCell_same wr g _ _ _ _ h]
  have e : (Lib.byteCells D ++ List.replicate (N - D.length) (Value.int .u8 0)).set D.length (.int .u8 c.toNat) = Lib.byteCells (D ++ [c]) ++ List.replicate (N - (D ++ [c]).length) (Value.int .u8 0) := by
    obtain ⟨n, hn⟩ : ∃ n, N - D.length = n + 1 := ⟨N - D.length - 1, by omega⟩
    have h2 : N - (D ++ [c]).length = n := by simp; omega
    rw [hn, h2, List.replicate_succ, List.set_append_right _ _ (by rw [Lib.byteCells_length]; exact Nat.le_refl _), Lib.byteCells_length, Nat.sub_self, List.set_cons_zero, Lib.byteCells_append]
    simp [Lib.byteCells]
  rw [List.setIfInBounds_toArray, e]

theorem Fill.many {g : Nat} {D : List UInt8} {N : Nat} {wr w' : World} (m : List UInt8) (hj : D.length + m.length ≤ N)
    (h : w'.heap[g]? = some (Obj.cells (splice (Lib.byteCells D ++ List.replicate (N - D.length) (Value.int .u8 0)) D.length (Lib.byteCells m)).toArray 5 (0, 0))) : Fill g (D ++ m) N w' := by
  unfold Fill
  rw [h]
  unfold splice
  have e1 : (Lib.byteCells D ++ List.replicate (N - D.length) (Value.int .u8 0)).take D.length = Lib.byteCells D := by
    rw [List.take_append_of_le_length (by rw [Lib.byteCells_length]; exact Nat.le_refl _)]
    exact List.take_of_length_le (by rw [Lib.byteCells_length]; exact Nat.le_refl _)
  have e2 : (Lib.byteCells D ++ List.replicate (N - D.length) (Value.int .u8 0)).drop (D.length + (Lib.byteCells m).length) = List.replicate (N - (D ++ m).length) (Value.int .u8 0) := by
    rw [List.drop_append, List.drop_eq_nil_of_le (by rw [Lib.byteCells_length]; omega), List.nil_append, List.drop_replicate, Lib.byteCells_length, Lib.byteCells_length, List.length_append]
    congr 1
    omega
  rw [e1, e2, Lib.byteCells_append, List.append_assoc]

theorem fill_copy {g gm gcap N j : Nat} {D m : List UInt8} {wr w : World} (hF : Fill g D N wr) (hj : j = D.length) (hjN : j + m.length ≤ N) (hcs : ∀ i (h : i < m.length), wr.cell? ⟨gm, i, none⟩ = some (.int .u8 ((m[i]'h).toNat : Int)))
    (hb : Below g w wr) : ∃ W4, (Builtin.copy_ #[30, 30] 3 #[.slice (some ⟨g, j, none⟩) (N - j) (N - j), .slice (some ⟨gm, 0, none⟩) m.length gcap]).run Tryz.prog wr.drew = .ok (.int .i64 m.length) W4 ∧ Fill g (D ++ m) N W4 ∧ Below g w W4 := by
  have hbs : (Tryz.prog.info? 5).map (·.size) = some 1 := by kernel_rfl
  have hcp := run_copy_row (P := Tryz.prog) wr.drew 30 30 3 5 g j (N - j) (N - j) ⟨gm, 0, none⟩ m.length gcap _ 5 (Lib.byteCells m) Tryz.underlying30 hbs (show wr.drew.heap[g]? = _ from hF) (by
    rw [Lib.byteCells_length]; exact (Nat.min_eq_left (by omega)).symm) (by
    intro i v hv
    rw [addr_add]
    unfold Lib.byteCells at hv
    rw [List.getElem?_map] at hv
    cases hq2 : m[i]? with
    | none => simp [hq2] at hv
    | some x =>
      obtain ⟨hi, hx⟩ := List.getElem?_eq_some_iff.1 hq2
      have := hcs i hi
      simp [hq2] at hv
      rw [← hv, ← hx]
      exact this) (by
    rw [Lib.byteCells_length, List.size_toArray, List.length_append, Lib.byteCells_length, List.length_replicate]; omega) (by
    intro v hv
    unfold Lib.byteCells at hv
    obtain ⟨x, _, rfl⟩ := List.mem_map.1 hv
    rfl)
  have hbl : (Lib.byteCells m).length = m.length := Lib.byteCells_length m
  rw [show goInt ((Lib.byteCells m).length : Int) = Value.int .i64 (m.length : Int) by rw [hbl]; rfl] at hcp
  refine ⟨_, hcp, ?_, ?_⟩
  · subst hj
    refine Fill.many m (wr := wr) hjN ?_
    rw [setRow_heap wr.drew g _ _ _ _ (show wr.drew.heap[g]? = _ from hF)]
    simp only [splice, List.append_assoc]
  · exact below_setRow (show Below g w wr.drew from hb.drew) (Nat.le_refl _) _

theorem flat_take_le (f : UInt8 → List UInt8) (l : List UInt8) (k : Nat) : ((l.take k).flatMap f).length ≤ (l.flatMap f).length := by
  have h : l.flatMap f = (l.take k).flatMap f ++ (l.drop k).flatMap f := by rw [← List.flatMap_append, List.take_append_drop]
  rw [h, List.length_append]
  omega

set_option maxRecDepth 100000 in
set_option maxHeartbeats 4000000 in
theorem text_replace_short (ps : List (UInt8 × List UInt8)) (hps : ∀ p ∈ ps, p.2.length ≤ 6 ∧ 1 ≤ p.2.length) (hn : ps.length ≤ 7) (tb : Nat) (s : ByteArray) (hs : s.size < ps.length * 8) (w : World) (ht : TabW ps tb w) :
    Calls Tryz.prog 153 #[.pointer (some ⟨tb, 0, none⟩), .string s] w fun e w' => e = .returned (.string ⟨(s.data.toList.flatMap (escR ps)).toArray⟩) ∧ Below w.heap.size w w' := by
  obtain ⟨l, hl⟩ : ∃ l, l = s.data.toList := ⟨_, rfl⟩
  have hln : l.length = s.size := by rw [hl, Lib.size_eq]
  have HL := Lib.hid hl
  have HLN := Lib.hid hln
  rw [← hl]
  obtain ⟨tr, cap, hrow, htr, hkeys⟩ := ht.row
  have HT := Lib.hid ht
  have HPS := Lib.hid hps
  have q1 := bs_eql
  have q2 := bs_eql_nil
  have q3 := bs_neq
  have q4 := bs_neq_nil
  clear ht hps hl hln hkeys htr
  go_enter Tryz.func153, Tryz.ntmps153
  go_wp2_with fail
  go_loopw [5, 6, 10] (fun v5 v6 v10 wr => ∃ (k : Nat) (a : Int) (b : Bool), k ≤ s.size ∧ v10 = .int .i64 k ∧ v5 = .int .i64 a ∧ v6 = .bool b ∧ 0 ≤ a ∧ a ≤ 400 ∧ Hid (a + k = (s.size : Int) + ((l.take k).flatMap (escR ps)).length ∧ b = anyR ps (l.take k)) ∧ w = wr) (fun _ _ v _ => s.size - (intOf v).toNat)
  case atStart => exact ⟨0, (s.size : Int), false, Nat.zero_le _, rfl, rfl, rfl, by omega, by omega, ⟨by simp, rfl⟩, rfl⟩
  case round =>
    obtain ⟨k, a, b, hk, rfl, rfl, rfl, ha0, ha1, hh, rfl⟩ := hrel
    have HH := Lib.hid hh.out
    clear hh
    by_cases hlt : k < s.size
    · have hget : l[k]'(by rw [HLN.out]; exact hlt) = s[k]'hlt := by
        have e := HL.out
        subst e
        rfl
      have hc256 : (s[k]'hlt).toNat < 256 := (s[k]'hlt).toNat_lt
      have htk := flat_take (escR ps) l k (by rw [HLN.out]; exact hlt)
      have hany : anyR ps (l.take (k + 1)) = (anyR ps (l.take k) || (lk ps (s[k]'hlt)).isSome) := by
        unfold anyR
        rw [List.take_succ_eq_append_getElem (by rw [HLN.out]; exact hlt), List.any_append, hget]
        simp
      rw [hget] at htk
      have hfl := flat_len HPS.out (l.take (k + 1))
      rw [List.length_take] at hfl
      have hfl2 : ((l.take (k + 1)).flatMap (escR ps)).length ≤ 6 * (k + 1) ∧ k + 1 ≤ ((l.take (k + 1)).flatMap (escR ps)).length := by
        have := HLN.out
        omega
      cases hq : lk ps (s[k]'hlt) with
      | none =>
        have hc := HT.out.off _ hq
        rw [escR_none hq] at htk
        rw [hq] at hany
        have HK := Lib.hid (And.intro htk hany)
        clear htk hany hfl hfl2 hget hq
        go_wp2_with fail
        refine ⟨⟨k + 1, a, b, by omega, by go_num, rfl, rfl, ha0, ha1, ?_, trivial⟩, by simp [intOf]; omega⟩
        obtain ⟨h1, h2⟩ := HH.out
        obtain ⟨h3, h4⟩ := HK.out
        have h5 : ((l.take (k + 1)).flatMap (escR ps)).length = ((l.take k).flatMap (escR ps)).length + 1 := by rw [h3]; simp
        exact ⟨by rw [h5]; omega, by rw [h4, h2]; simp⟩
      | some m =>
        obtain ⟨g, gcap, hc, hgl, hcs⟩ := HT.out.on _ _ hq
        have hml := HPS.out _ (lk_mem hq)
        rw [escR_some hq] at htk
        rw [hq] at hany
        have hm1 : 1 ≤ m.length := hml.2
        have hm6 : m.length ≤ 6 := hml.1
        have ham : 0 ≤ a + ((m.length : Int) - 1) ∧ a + ((m.length : Int) - 1) ≤ 400 := by
          obtain ⟨h1, h2⟩ := HH.out
          have h5 : ((l.take (k + 1)).flatMap (escR ps)).length = ((l.take k).flatMap (escR ps)).length + m.length := by rw [htk]; simp
          omega
        have HK := Lib.hid (And.intro htk hany)
        clear htk hany hfl hfl2 hget hq hcs hml
        obtain ⟨hb0, hb1⟩ := ham
        go_wp2_with fail
        refine ⟨⟨k + 1, _, true, by omega, by go_num, rfl, rfl, hb0, hb1, ?_, trivial⟩, by simp [intOf]; omega⟩
        obtain ⟨h1, h2⟩ := HH.out
        obtain ⟨h3, h4⟩ := HK.out
        have h5 : ((l.take (k + 1)).flatMap (escR ps)).length = ((l.take k).flatMap (escR ps)).length + m.length := by rw [h3]; simp
        exact ⟨by rw [h5]; omega, by rw [h4]; simp⟩
    · obtain rfl : k = s.size := by omega
      obtain ⟨h1, h2⟩ := HH.out
      rw [← HLN.out, List.take_length] at h1 h2
      obtain ⟨N, hN⟩ : ∃ N, N = (l.flatMap (escR ps)).length := ⟨_, rfl⟩
      have haN : a = (N : Int) := by rw [hN, ← HLN.out] at *; omega
      subst haN
      have HN := Lib.hid hN
      clear h1 hN HH hlt hk ha0
      cases hany : anyR ps l with
      | false =>
        rw [hany] at h2
        subst h2
        have hres := anyR_no ps l hany
        have HR := Lib.hid hres
        clear hany hres
        go_wp2_with fail
        go_ret
        exact ⟨by rw [HR.out, HL.out, ba_eq]; rfl, Below.refl _ _⟩
      | true =>
        rw [hany] at h2
        subst h2
        clear hany
        have hmk := make_bytes N (by omega)
        go_wp2_with fail
        go_loopw [13, 14] (fun v13 v14 wr => ∃ (k j : Nat) (D : List UInt8), k ≤ s.size ∧ v14 = .int .i64 k ∧ v13 = .int .i64 j ∧ Hid (D = (l.take k).flatMap (escR ps) ∧ j = D.length ∧ j ≤ N) ∧ Fill w.heap.size D N wr ∧ Below w.heap.size w wr) (fun _ v _ => s.size - (intOf v).toNat)
        case atStart => exact ⟨0, 0, [], Nat.zero_le _, rfl, rfl, ⟨rfl, rfl, Nat.zero_le _⟩, Fill.start N w, (Below.refl _ _).alloc (Nat.le_refl _) _⟩
        case round =>
          obtain ⟨k, j, D, hk, rfl, rfl, hD, hF, hb⟩ := hrel
          have HD := Lib.hid hD.out
          have HTr := Lib.hid (HT.out.below hb)
          have HB := Lib.hid hb
          clear hD
          by_cases hlt : k < s.size
          · have hget : l[k]'(by rw [HLN.out]; exact hlt) = s[k]'hlt := by
              have e := HL.out
              subst e
              rfl
            have hc256 : (s[k]'hlt).toNat < 256 := (s[k]'hlt).toNat_lt
            have htk := flat_take (escR ps) l k (by rw [HLN.out]; exact hlt)
            rw [hget] at htk
            have hle := flat_take_le (escR ps) l (k + 1)
            cases hq : lk ps (s[k]'hlt) with
            | none =>
              have hc := HTr.out.off _ hq
              rw [escR_none hq] at htk
              have hjN : j + 1 ≤ N := by
                obtain ⟨h3, h4, _⟩ := HD.out
                rw [HN.out, h4, h3]
                rw [htk] at hle
                simpa using hle
              obtain ⟨h3, h4, h5⟩ := HD.out
              obtain ⟨hz1, hz2⟩ := hF.at (by omega)
              have hone := hF.one (by omega) (s[k]'hlt)
              rw [← h4] at hz1 hz2 hone
              have HO := Lib.hid hone
              have HK := Lib.hid (show D ++ [s[k]'hlt] = (l.take (k + 1)).flatMap (escR ps) by rw [htk, h3])
              have HJ := Lib.hid h4
              clear hone h3 h4 h5 htk hle hq hF hget hb
              go_wp2_with fail
              refine ⟨⟨k + 1, j + 1, D ++ [s[k]'hlt], by omega, by go_num, by go_num, ⟨HK.out, by have := HJ.out; simp [this], by omega⟩, HO.out, HB.out.setCell (p := ⟨w.heap.size, j, none⟩) (Nat.le_refl _) _⟩, by simp [intOf]; omega⟩
            | some m =>
              obtain ⟨gm, gcap, hc, hgl, hcs⟩ := HTr.out.on _ _ hq
              have hml := HPS.out _ (lk_mem hq)
              rw [escR_some hq] at htk
              have hjN : j + m.length ≤ N := by
                obtain ⟨h3, h4, _⟩ := HD.out
                rw [HN.out, h4, h3]
                rw [htk] at hle
                simpa using hle
              obtain ⟨h3, h4, h5⟩ := HD.out
              have hm1 : 1 ≤ m.length := hml.2
              have hm6 : m.length ≤ 6 := hml.1
              have HK := Lib.hid (show D ++ m = (l.take (k + 1)).flatMap (escR ps) by rw [htk, h3])
              have hJ0 := h4
              have HJ := Lib.hid h4
              have HF := Lib.hid hF
              have hNj : ¬ N = j := by omega
              have hci : ((s[k]'hlt).toNat : Int) < 256 := by omega
              have hlow : ∀ i (h : i < m.length), wr.cell? ⟨gm, i, none⟩ = some (.int .u8 ((m[i]'h).toNat : Int)) := hcs
              have HCS := Lib.hid hlow
              have HQ := Lib.hid htk
              obtain ⟨W4, hcp, hF4, hb4⟩ := fill_copy (gcap := gcap) hF hJ0 hjN hlow hb
              have HF4 := Lib.hid hF4
              have HB4 := Lib.hid hb4
              have hsum : IntKind.i64.wrap ((j : Int) + (m.length : Int)) = (j : Int) + (m.length : Int) := IntWalk.i64_in _ (by omega)
              clear h3 h4 htk hle hq hget hml hF hlow hcs hb hF4 hb4 hJ0
              go_wp2_with fail
              go_region
              all_goals
                go_wp2_with fail
                refine ⟨⟨k + 1, j + m.length, D ++ m, by omega, by go_num, by go_num, ⟨HK.out, by have := HJ.out; simp [this], by omega⟩, HF4.out, HB4.out⟩, by simp [intOf]; omega⟩
          · obtain rfl : k = s.size := by omega
            obtain ⟨h3, h4, _⟩ := HD.out
            rw [← HLN.out, List.take_length] at h3
            have hback := run_convert_bytes_back (P := Tryz.prog) wr 30 9 5 ⟨w.heap.size, 0, none⟩ N D Tryz.underlying30 Tryz.underlying5 Tryz.underlying9 (by
              intro i hi
              rw [addr_add, cell_of_row _ _ _ _ _ _ hF, List.getElem?_toArray, List.getElem?_append_left (by rw [Lib.byteCells_length]; exact hi)]
              simp [Lib.byteCells, List.getElem?_eq_getElem hi])
            have hDN : D.length = N := by rw [HN.out, h3]
            rw [hDN] at hback
            have HD3 := Lib.hid h3
            clear h3 h4 hF hb hlt hDN hk
            go_wp2_with fail
            go_ret
            exact ⟨by rw [HD3.out]; rfl, HB.out⟩

set_option maxRecDepth 100000 in
set_option maxHeartbeats 4000000 in
theorem text_replace_long (ps : List (UInt8 × List UInt8)) (hps : ∀ p ∈ ps, p.2.length ≤ 6 ∧ 1 ≤ p.2.length) (hnd : (ps.map (·.1)).Nodup) (hn : ps.length ≤ 7) (tb : Nat) (s : ByteArray) (hs : ps.length * 8 ≤ s.size) (hs2 : s.size ≤ 20000) (w : World) (ht : TabW ps tb w) :
    Calls Tryz.prog 153 #[.pointer (some ⟨tb, 0, none⟩), .string s] w fun e w' => e = .returned (.string ⟨(s.data.toList.flatMap (escR ps)).toArray⟩) ∧ Below w.heap.size w w' := by
  obtain ⟨l, hl⟩ : ∃ l, l = s.data.toList := ⟨_, rfl⟩
  have hln : l.length = s.size := by rw [hl, Lib.size_eq]
  have HL := Lib.hid hl
  have HLN := Lib.hid hln
  rw [← hl]
  obtain ⟨tr, cap, hrow, htr, hkeys⟩ := ht.row
  obtain ⟨ks, hks⟩ : ∃ ks, ks = ps.reverse.map (·.1) := ⟨_, rfl⟩
  have hkl : ks.length = ps.length := by rw [hks]; simp
  have hkn : ks.Nodup := by rw [hks, List.map_reverse]; exact (List.reverse_perm _).nodup_iff.2 hnd
  have hkm : ∀ c, c ∈ ks ↔ (lk ps c).isSome = true := fun c => by rw [hks, List.map_reverse, List.mem_reverse]; exact lk_key.symm
  have hkc : ∀ k (h : k < ks.length), w.cell? ⟨tr, k, none⟩ = some (.string ⟨#[ks[k]'h]⟩) := by
    intro k h
    subst hks
    exact hkeys k (by simpa using h)
  have HK := Lib.hid (And.intro hkl (And.intro hkn (And.intro hkm hkc)))
  have HT := Lib.hid ht
  have HPS := Lib.hid hps
  have q1 := bs_eql
  have q2 := bs_eql_nil
  have q3 := bs_neq
  have q4 := bs_neq_nil
  have hdl : decide ((ps.length : Int) * 8 ≤ (s.size : Int)) = true := by simp; omega
  clear ht hps hl hln hkeys htr hks hkl hkn hkm hkc hnd
  go_enter Tryz.func153, Tryz.ntmps153
  go_wp2_with fail
  go_loopw [5, 6, 32] (fun v5 v6 v32 wr => ∃ (k : Nat) (a : Int) (b : Bool), k ≤ ps.length ∧ v32 = .int .i64 k ∧ v5 = .int .i64 a ∧ v6 = .bool b ∧ 0 ≤ a ∧ a ≤ 200000 ∧ Hid (a = (s.size : Int) + (sA (escR ps) l (ks.take k) : Nat) ∧ b = anyA l (ks.take k)) ∧ Hid (∃ n, wr = w.drewN n)) (fun _ _ v _ => ps.length - (intOf v).toNat)
  case atStart => exact ⟨0, (s.size : Int), false, Nat.zero_le _, rfl, rfl, rfl, by omega, by omega, ⟨by simp [sA], rfl⟩, ⟨0, rfl⟩⟩
  case round =>
    obtain ⟨k, a, b, hk, rfl, rfl, rfl, ha0, ha1, hh, hww⟩ := hrel
    obtain ⟨n, rfl⟩ := hww.out
    clear hww
    have HH := Lib.hid hh.out
    clear hh
    by_cases hlt : k < ps.length
    · obtain ⟨hkl, hkn, hkm, hkc⟩ := HK.out
      have hc := hkc k (by rw [hkl]; exact hlt)
      have hst := sA_take (escR ps) l ks k (by rw [hkl]; exact hlt)
      have hin := (hkm (ks[k]'(by rw [hkl]; exact hlt))).1 (List.getElem_mem _)
      have hany : anyA l (ks.take (k + 1)) = (anyA l (ks.take k) || (l.count (ks[k]'(by rw [hkl]; exact hlt)) != 0)) := by
        unfold anyA
        rw [List.take_succ_eq_append_getElem (by rw [hkl]; exact hlt), List.any_append]
        simp
      have htot := sA_all ps HPS.out ks hkn hkm l
      have hfl := flat_len HPS.out l
      have hmono : sA (escR ps) l (ks.take (k + 1)) ≤ sA (escR ps) l ks := by
        have e := List.take_append_drop (k + 1) ks
        have : sA (escR ps) l ks = sA (escR ps) l (ks.take (k + 1)) + sA (escR ps) l (ks.drop (k + 1)) := by
          conv => lhs; rw [← e]
          unfold sA
          rw [List.map_append, List.sum_append]
        omega
      generalize (ks[k]'(by rw [hkl]; exact hlt)) = key at hc hst hin hany
      obtain ⟨m, hm⟩ := Option.isSome_iff_exists.1 hin
      rw [escR_some hm] at hst
      obtain ⟨gm, gcap, hct, _, _⟩ := HT.out.on _ _ hm
      have hml := HPS.out _ (lk_mem hm)
      have hc256 : key.toNat < 256 := key.toNat_lt
      have hci : (key.toNat : Int) < 256 := by omega
      have hm1 : 1 ≤ m.length := hml.2
      have hm6 : m.length ≤ 6 := hml.1
      have hfb := first_byte key
      obtain ⟨cnt, hcnt⟩ : ∃ cnt, cnt = l.count key := ⟨_, rfl⟩
      rw [← hcnt] at hst hany
      have hcnt2 : Lib.countByte s.data.toList key = cnt := by rw [hcnt, HL.out]; rfl
      have hcl : cnt ≤ 20000 := by rw [hcnt]; have := List.count_le_length (a := key) (l := l); have := HLN.out; omega
      have hsz : (sA (escR ps) l (ks.take (k + 1)) : Nat) + s.size ≤ 120000 := by have := HLN.out; omega
      have HST := Lib.hid (And.intro hst hany)
      have HSZ := Lib.hid hsz
      have HC2 := Lib.hid hcnt2
      clear hst hany htot hfl hmono hin hm hcnt hcnt2 hsz hml hkl hkn hkm hkc
      by_cases hz : cnt = 0
      · subst hz
        go_wp2_with fail
        refine (Tryz.strings_Count_one s key _).mono ?_
        rintro e w' ⟨rfl, rfl⟩
        rw [HC2.out]
        go_wp2_with fail
        refine ⟨⟨k + 1, a, b, by omega, by go_num, rfl, rfl, ha0, ha1, ?_, ⟨n, rfl⟩⟩, by simp [intOf]; omega⟩
        obtain ⟨h1, h2⟩ := HH.out
        obtain ⟨h3, h4⟩ := HST.out
        exact ⟨by rw [h3, h1]; simp, by rw [h4, h2]; simp⟩
      · have hne : ((cnt : Int) != 0) = true := by rw [bne_iff_ne]; omega
        go_wp2_with fail
        refine (Tryz.strings_Count_one s key _).mono ?_
        rintro e w' ⟨rfl, rfl⟩
        rw [HC2.out]
        go_wp2_with fail
        have ham : 0 ≤ a + (cnt : Int) * ((m.length : Int) - 1) ∧ a + (cnt : Int) * ((m.length : Int) - 1) ≤ 200000 ∧ (cnt : Int) * ((m.length : Int) - 1) ≤ 200000 ∧ 0 ≤ (cnt : Int) * ((m.length : Int) - 1) ∧ a + (cnt : Int) * ((m.length : Int) - 1) = (s.size : Int) + (sA (escR ps) l (ks.take (k + 1)) : Nat) := by
          obtain ⟨h1, h2⟩ := HH.out
          obtain ⟨h3, h4⟩ := HST.out
          have hsz := HSZ.out
          obtain ⟨q, hq⟩ : ∃ q, m.length = q + 1 := ⟨m.length - 1, by omega⟩
          have e1 : m.length - 1 = q := by omega
          have e2 : (m.length : Int) - 1 = (q : Int) := by omega
          rw [e1] at h3
          rw [e2]
          have e3 : (cnt : Int) * (q : Int) = ((cnt * q : Nat) : Int) := by simp
          rw [e3]
          omega
        obtain ⟨p1, p2, p3, p4, p5⟩ := ham
        have HP5 := Lib.hid p5
        have w1 : IntKind.i64.wrap ((m.length : Int) - 1) = (m.length : Int) - 1 := IntWalk.i64_in _ (by omega)
        have w2 : IntKind.i64.wrap ((cnt : Int) * ((m.length : Int) - 1)) = (cnt : Int) * ((m.length : Int) - 1) := IntWalk.i64_in _ (by omega)
        have w3 : IntKind.i64.wrap (a + (cnt : Int) * ((m.length : Int) - 1)) = a + (cnt : Int) * ((m.length : Int) - 1) := IntWalk.i64_in _ (by omega)
        clear p5
        go_quiet (fail)
        go_wp2_with fail
        refine ⟨⟨k + 1, _, true, by omega, by go_num, rfl, rfl, p1, p2, ⟨HP5.out, ?_⟩, ⟨n + nq, rfl⟩⟩, by simp [intOf]; omega⟩
        obtain ⟨h3, h4⟩ := HST.out
        rw [h4]
        simp [hz]
    · obtain rfl : k = ps.length := by omega
      obtain ⟨h1, h2⟩ := HH.out
      obtain ⟨hkl, hkn, hkm, hkc⟩ := HK.out
      have htot := sA_all ps HPS.out ks hkn hkm l
      rw [← hkl, List.take_length] at h1 h2
      rw [anyA_all ps ks hkm l] at h2
      have hmm := HLN.out
      have hbn := below_drewN w n w.heap.size
      have HBN := Lib.hid hbn
      have HTn := Lib.hid (HT.out.below hbn)
      have hrn : (w.drewN n).cell? ⟨tb, 256, none⟩ = some (.slice (some ⟨tr, 0, none⟩) ps.length cap) := (hbn.cell HT.out.lt).trans hrow
      clear hkl hkn hkm hkc hbn hrow HT
      generalize w.drewN n = wn at *
      obtain ⟨N, hN⟩ : ∃ N, N = (l.flatMap (escR ps)).length := ⟨_, rfl⟩
      have haN : a = (N : Int) := by rw [hN]; omega
      subst haN
      have HN := Lib.hid hN
      clear h1 hN HH hlt hk ha0 htot hmm
      cases hany : anyR ps l with
      | false =>
        rw [hany] at h2
        subst h2
        have hres := anyR_no ps l hany
        have HR := Lib.hid hres
        clear hany hres
        go_wp2_with fail
        go_ret
        exact ⟨by rw [HR.out, HL.out, ba_eq]; rfl, HBN.out⟩
      | true =>
        rw [hany] at h2
        subst h2
        clear hany
        have hmk := make_bytes N (by omega)
        go_wp2_with fail
        go_loopw [13, 14] (fun v13 v14 wr => ∃ (k j : Nat) (D : List UInt8), k ≤ s.size ∧ v14 = .int .i64 k ∧ v13 = .int .i64 j ∧ Hid (D = (l.take k).flatMap (escR ps) ∧ j = D.length ∧ j ≤ N) ∧ Fill wn.heap.size D N wr ∧ Below wn.heap.size wn wr) (fun _ v _ => s.size - (intOf v).toNat)
        case atStart => exact ⟨0, 0, [], Nat.zero_le _, rfl, rfl, ⟨rfl, rfl, Nat.zero_le _⟩, Fill.start N wn, (Below.refl _ _).alloc (Nat.le_refl _) _⟩
        case round =>
          obtain ⟨k, j, D, hk, rfl, rfl, hD, hF, hb⟩ := hrel
          have HD := Lib.hid hD.out
          have HTr := Lib.hid (HTn.out.below hb)
          have HB := Lib.hid hb
          clear hD
          by_cases hlt : k < s.size
          · have hget : l[k]'(by rw [HLN.out]; exact hlt) = s[k]'hlt := by
              have e := HL.out
              subst e
              rfl
            have hc256 : (s[k]'hlt).toNat < 256 := (s[k]'hlt).toNat_lt
            have htk := flat_take (escR ps) l k (by rw [HLN.out]; exact hlt)
            rw [hget] at htk
            have hle := flat_take_le (escR ps) l (k + 1)
            cases hq : lk ps (s[k]'hlt) with
            | none =>
              have hc := HTr.out.off _ hq
              rw [escR_none hq] at htk
              have hjN : j + 1 ≤ N := by
                obtain ⟨h3, h4, _⟩ := HD.out
                rw [HN.out, h4, h3]
                rw [htk] at hle
                simpa using hle
              obtain ⟨h3, h4, h5⟩ := HD.out
              obtain ⟨hz1, hz2⟩ := hF.at (by omega)
              have hone := hF.one (by omega) (s[k]'hlt)
              rw [← h4] at hz1 hz2 hone
              have HO := Lib.hid hone
              have HK := Lib.hid (show D ++ [s[k]'hlt] = (l.take (k + 1)).flatMap (escR ps) by rw [htk, h3])
              have HJ := Lib.hid h4
              clear hone h3 h4 h5 htk hle hq hF hget hb
              go_wp2_with fail
              refine ⟨⟨k + 1, j + 1, D ++ [s[k]'hlt], by omega, by go_num, by go_num, ⟨HK.out, by have := HJ.out; simp [this], by omega⟩, HO.out, HB.out.setCell (p := ⟨wn.heap.size, j, none⟩) (Nat.le_refl _) _⟩, by simp [intOf]; omega⟩
            | some m =>
              obtain ⟨gm, gcap, hc, hgl, hcs⟩ := HTr.out.on _ _ hq
              have hml := HPS.out _ (lk_mem hq)
              rw [escR_some hq] at htk
              have hjN : j + m.length ≤ N := by
                obtain ⟨h3, h4, _⟩ := HD.out
                rw [HN.out, h4, h3]
                rw [htk] at hle
                simpa using hle
              obtain ⟨h3, h4, h5⟩ := HD.out
              have hm1 : 1 ≤ m.length := hml.2
              have hm6 : m.length ≤ 6 := hml.1
              have HK := Lib.hid (show D ++ m = (l.take (k + 1)).flatMap (escR ps) by rw [htk, h3])
              have hJ0 := h4
              have HJ := Lib.hid h4
              have HF := Lib.hid hF
              have hNj : ¬ N = j := by omega
              have hci : ((s[k]'hlt).toNat : Int) < 256 := by omega
              have hlow : ∀ i (h : i < m.length), wr.cell? ⟨gm, i, none⟩ = some (.int .u8 ((m[i]'h).toNat : Int)) := hcs
              have HCS := Lib.hid hlow
              have HQ := Lib.hid htk
              obtain ⟨W4, hcp, hF4, hb4⟩ := fill_copy (gcap := gcap) hF hJ0 hjN hlow hb
              have HF4 := Lib.hid hF4
              have HB4 := Lib.hid hb4
              have hsum : IntKind.i64.wrap ((j : Int) + (m.length : Int)) = (j : Int) + (m.length : Int) := IntWalk.i64_in _ (by omega)
              clear h3 h4 htk hle hq hget hml hF hlow hcs hb hF4 hb4 hJ0
              go_wp2_with fail
              go_region
              all_goals
                go_wp2_with fail
                refine ⟨⟨k + 1, j + m.length, D ++ m, by omega, by go_num, by go_num, ⟨HK.out, by have := HJ.out; simp [this], by omega⟩, HF4.out, HB4.out⟩, by simp [intOf]; omega⟩
          · obtain rfl : k = s.size := by omega
            obtain ⟨h3, h4, _⟩ := HD.out
            rw [← HLN.out, List.take_length] at h3
            have hback := run_convert_bytes_back (P := Tryz.prog) wr 30 9 5 ⟨wn.heap.size, 0, none⟩ N D Tryz.underlying30 Tryz.underlying5 Tryz.underlying9 (by
              intro i hi
              rw [addr_add, cell_of_row _ _ _ _ _ _ hF, List.getElem?_toArray, List.getElem?_append_left (by rw [Lib.byteCells_length]; exact hi)]
              simp [Lib.byteCells, List.getElem?_eq_getElem hi])
            have hDN : D.length = N := by rw [HN.out, h3]
            rw [hDN] at hback
            have HD3 := Lib.hid h3
            clear h3 h4 hF hb hlt hDN hk
            go_wp2_with fail
            go_ret
            exact ⟨by rw [HD3.out]; rfl, HBN.out.trans (HB.out.mono HBN.out.size)⟩
end Go.Proofs.YtfgcpkobfmcflaaGreatDoor
