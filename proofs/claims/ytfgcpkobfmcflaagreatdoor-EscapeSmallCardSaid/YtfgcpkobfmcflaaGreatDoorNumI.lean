/-
  strconv.ParseInt to the bases 10 and 16, of hexadecimal digits.
-/
import Derived.Test.YtfgcpkobfmcflaaGreatDoorNum
import Derived.Test.YtfgcpkobfmcflaaGreatDoorShelf
import Derived.Test.YtfgcpkobfmcflaaGreatDoorErrLaw
namespace Go.Proofs.YtfgcpkobfmcflaaGreatDoor
open Go.RowKit

theorem serr_comp : (Tryz.prog.info? 115).map (·.comparable) = some true := by kernel_rfl
theorem serr_neq (a b : Int) (w : World) : (binOp .neq 45 (.iface 115 (.int .i64 a)) (.iface 115 (.int .i64 b))).run Tryz.prog w = .ok (.bool (a != b)) w := by
  obtain ⟨i, hi, hc⟩ := Option.map_eq_some_iff.1 serr_comp
  exact neq_iface_int w a b Tryz.underlying45 Tryz.underlying115 hi hc

theorem first_hex (t : ByteArray) (h0 : 0 < t.size) (hx : isHex t.data.toList = true) : (((t[0]'h0).toNat : Int) == 43) = false ∧ (((t[0]'h0).toNat : Int) == 45) = false := by
  have h1 : t[0]'h0 ∈ t.data.toList := Array.getElem_mem_toList (show 0 < t.data.size from h0)
  have h2 := (List.all_eq_true.1 hx) _ h1
  obtain ⟨h3, h4⟩ := hex_sign h2
  constructor <;> (rw [beq_eq_false_iff_ne]; omega)

theorem ne_empty {t : ByteArray} (hne : t.size ≠ 0) : t.toList.isEmpty = false := by
  rw [← decide_eq_emptyBytes]
  exact decide_eq_false (fun h => hne (by rw [h]; rfl))

set_option maxHeartbeats 4000000 in
set_option maxRecDepth 100000 in
theorem pi16_ok (t : ByteArray) (hmax : t.size ≤ 9223372036854775806) (hx : isHex t.data.toList = true) (v : Nat) (hne : t.size ≠ 0) (hv : pu16 0 t.data.toList = .ok v) (hlt : v < 9223372036854775808) (w : World) :
    Calls Tryz.prog 51 #[.string t, .int .i64 16, .int .i64 64] w fun e w' => e = .returned (.tuple #[.int .i64 v, .nilIface]) ∧ w' = Lib.bytesWorld w 5 t := by
  have hemp := ne_empty hne
  have h0 : 0 < t.size := by omega
  obtain ⟨h43, h45⟩ := first_hex t h0 hx
  have hU := Lib.hid (pu16_any t hne hmax hx w)
  rw [hv] at hU
  clear hx hv
  obtain ⟨x, hxv⟩ : ∃ x : Int, x = (v : Int) := ⟨_, rfl⟩
  have x0 : 0 ≤ x := by omega
  have x1 : x < 9223372036854775808 := by omega
  simp only [Lib.uintTuple] at hU
  rw [← hxv] at hU ⊢
  clear hxv hlt
  go_enter Tryz.func51, Tryz.ntmps51
  go_wp2_with (go_at_call 71; refine hU.out.mono ?_; rintro e w' ⟨rfl, rfl⟩)
  go_ret2
  exact ⟨rfl, rfl⟩

set_option maxHeartbeats 4000000 in
set_option maxRecDepth 100000 in
theorem pi16_big (t : ByteArray) (hmax : t.size ≤ 9223372036854775806) (hx : isHex t.data.toList = true) (v : Nat) (hne : t.size ≠ 0) (hv : pu16 0 t.data.toList = .ok v) (hlt : 9223372036854775808 ≤ v) (w : World) :
    Calls Tryz.prog 51 #[.string t, .int .i64 16, .int .i64 64] w fun e w' => e = .returned (.tuple #[.int .i64 9223372036854775807, .iface 115 (.int .i64 1)]) ∧ w' = Lib.bytesWorld w 5 t := by
  have hemp := ne_empty hne
  have h0 : 0 < t.size := by omega
  obtain ⟨h43, h45⟩ := first_hex t h0 hx
  have hvl := pu16_lt _ _ _ (by omega) hv
  have hU := Lib.hid (pu16_any t hne hmax hx w)
  rw [hv] at hU
  clear hx hv
  obtain ⟨x, hxv⟩ : ∃ x : Int, x = (v : Int) := ⟨_, rfl⟩
  have x0 : 9223372036854775808 ≤ x := by omega
  have x1 : x < 18446744073709551616 := by omega
  simp only [Lib.uintTuple] at hU
  rw [← hxv] at hU
  clear hxv hlt hvl
  go_enter Tryz.func51, Tryz.ntmps51
  go_wp2_with (go_at_call 71; refine hU.out.mono ?_; rintro e w' ⟨rfl, rfl⟩)
  go_ret2
  exact ⟨rfl, rfl⟩

set_option maxHeartbeats 4000000 in
set_option maxRecDepth 100000 in
theorem pi16_range (t : ByteArray) (hmax : t.size ≤ 9223372036854775806) (hx : isHex t.data.toList = true) (hne : t.size ≠ 0) (hv : pu16 0 t.data.toList = .range) (w : World) :
    Calls Tryz.prog 51 #[.string t, .int .i64 16, .int .i64 64] w fun e w' => e = .returned (.tuple #[.int .i64 9223372036854775807, .iface 115 (.int .i64 1)]) ∧ w' = Lib.bytesWorld w 5 t := by
  have hemp := ne_empty hne
  have h0 : 0 < t.size := by omega
  obtain ⟨h43, h45⟩ := first_hex t h0 hx
  have hU := Lib.hid (pu16_any t hne hmax hx w)
  rw [hv] at hU
  clear hx hv
  simp only [Lib.uintTuple] at hU
  have hE : ∀ w, (binOp .neq 45 (.iface 115 (.int .i64 1)) (.iface 115 (.int .i64 1))).run Tryz.prog w = .ok (.bool false) w := fun w => serr_neq 1 1 w
  go_enter Tryz.func51, Tryz.ntmps51
  go_wp2_with (go_at_call 71; refine hU.out.mono ?_; rintro e w' ⟨rfl, rfl⟩)
  go_ret2
  exact ⟨rfl, rfl⟩

/-- What of the program's own variables the walks ask: bytealg.MaxLen holds a number; strconv's two errors hold one each. -/
def Env (w : World) : Prop :=
  (∃ m, w.cell? ⟨0, 0, none⟩ = some (.int .i64 m)) ∧ (∃ t p, w.cell? ⟨1, 0, none⟩ = some (.iface t p)) ∧ (∃ t p, w.cell? ⟨2, 0, none⟩ = some (.iface t p))

theorem Env.below {w w' : World} (h : Env w) (hb : Below w.heap.size w w') : Env w' := by
  obtain ⟨⟨m, h1⟩, ⟨t, p, h2⟩, ⟨t', p', h3⟩⟩ := h
  exact ⟨⟨m, (hb.cell (World.block_lt_of_cell? _ _ h1)).trans h1⟩, ⟨t, p, (hb.cell (World.block_lt_of_cell? _ _ h2)).trans h2⟩, ⟨t', p', (hb.cell (World.block_lt_of_cell? _ _ h3)).trans h3⟩⟩

theorem below_bytes (w : World) (t : ByteArray) : Below w.heap.size w (Lib.bytesWorld w 5 t) :=
  ⟨rfl, rfl, rfl, by rw [Lib.bytesWorld_size]; omega, fun k hk => Lib.bytesWorld_at_old w _ t k hk⟩

/-- ParseInt of digits that are a number that fits. -/
theorem pi_ok (base : Nat) (hb : base = 10 ∨ base = 16) (t : ByteArray) (hmax : t.size ≤ 281474976710656) (hx : isHex t.data.toList = true) (v : Nat) (hv : parseV base t.data.toList = some v) (w : World) :
    Calls Tryz.prog 34 #[.string t, .int .i64 base, .int .i64 64] w fun e w' => e = .returned (.tuple #[.int .i64 v, .nilIface]) ∧ Below w.heap.size w w' := by
  rcases hb with rfl | rfl
  · refine (Tryz.strconv_ParseInt_10_at64_ok t (by omega) v (pib_ok _ v hx hv) w).mono ?_
    rintro e w' ⟨rfl, rfl | ⟨s, rfl⟩⟩
    · exact ⟨rfl, Below.refl _ _⟩
    · exact ⟨rfl, below_bytes _ _⟩
  · unfold parseV at hv
    split at hv
    · cases hv
    · rename_i hne
      have hsz : t.size ≠ 0 := fun h => hne (List.eq_nil_of_length_eq_zero (by rw [← Lib.size_eq]; exact h))
      cases hn : numv 16 0 t.data.toList with
      | none => simp [hn] at hv
      | some u =>
        simp only [hn, Option.bind_some] at hv
        split at hv
        · cases hv
          rename_i hlt
          have hp := pu16_ok _ 0 v hx hn (by omega)
          have hC := Lib.hid (pi16_ok t (by omega) hx v hsz hp hlt)
          clear hp hn hne hx
          go_enter Tryz.func34, Tryz.ntmps34
          go_wp2_with (go_at_call 51; refine (hC.out _).mono ?_; rintro e w' ⟨rfl, rfl⟩)
          go_ret2
          exact ⟨rfl, below_bytes _ _⟩
        · cases hv

set_option maxHeartbeats 1000000 in
/-- ParseInt of digits that are none: some number, and an error. -/
theorem pi_bad (base : Nat) (hb : base = 10 ∨ base = 16) (t : ByteArray) (hmax : t.size ≤ 281474976710656) (hx : isHex t.data.toList = true) (hv : parseV base t.data.toList = none) (w : World) (hw : Env w) :
    Calls Tryz.prog 34 #[.string t, .int .i64 base, .int .i64 64] w fun e w' => ∃ x N, e = .returned (.tuple #[.int .i64 x, .iface 119 (.pointer (some ⟨N, 0, none⟩))]) ∧ Below w.heap.size w w' := by
  obtain ⟨_, ⟨tp, pv, hs⟩, ⟨tp', pv', hr⟩⟩ := hw
  rcases hb with rfl | rfl
  · cases h : Lib.parseIntB 64 t.data.toList
    · exact absurd h (pib_bad _ hx hv _)
    · refine (Any.strconv_ParseInt_10_at64_syntax Tryz.laysC174 t hmax h _ w hs (.inr ⟨_, _, rfl⟩)).mono ?_
      rintro e w' ⟨N, rfl, _, _, hb⟩
      exact ⟨_, N, rfl, hb⟩
    · refine (Tryz.strconv_ParseInt_10_at64_range t hmax h _ w hr (.inr ⟨_, _, rfl⟩)).mono ?_
      rintro e w' ⟨N, rfl, _, _, hb⟩
      exact ⟨_, N, rfl, hb⟩
  · by_cases hz : t.size = 0
    · have ht : t = ⟨#[]⟩ := by
        obtain ⟨⟨l⟩⟩ := t
        cases l with
        | nil => rfl
        | cons _ _ => simp [ByteArray.size] at hz
      subst ht
      go_enter Tryz.func34, Tryz.ntmps34
      go_wp2_with (first | (go_at_call 51; go_in) | (go_at_call 52; refine (Tryz.strconv_toError_syntax _ _ _ _ _ w (by simp [ByteArray.size]) hs (.inr ⟨_, _, rfl⟩)).mono ?_; rintro e w' ⟨N, rfl, _, _, hbb⟩))
      go_ret2
      exact ⟨_, _, rfl, hbb⟩
    · have hP : ∀ w, Calls Tryz.prog 51 #[.string t, .int .i64 16, .int .i64 64] w fun e w' => e = .returned (.tuple #[.int .i64 9223372036854775807, .iface 115 (.int .i64 1)]) ∧ w' = Lib.bytesWorld w 5 t := by
        intro w
        have hne : ¬ t.data.toList = [] := fun h => hz (by rw [Lib.size_eq, h]; rfl)
        obtain ⟨u, hu⟩ := numv_16_some _ 0 hx
        unfold parseV at hv
        rw [if_neg hne, hu] at hv
        simp only [Option.bind_some] at hv
        split at hv
        · cases hv
        · rename_i hge
          by_cases hbig : u < 18446744073709551616
          · exact pi16_big t (by omega) hx u hz (pu16_ok _ 0 u hx hu hbig) (by omega) w
          · exact pi16_range t (by omega) hx hz (pu16_big _ 0 u hx hu (by omega) (by omega)) w
      have hC := Lib.hid hP
      have hbl := below_bytes w t
      have hr' := (hbl.cell (World.block_lt_of_cell? _ _ hr)).trans hr
      obtain ⟨W1, hW1⟩ : ∃ W1, W1 = Lib.bytesWorld w 5 t := ⟨_, rfl⟩
      have hC2 := hC.out w
      rw [← hW1] at hbl hr' hC2
      have HC2 := Lib.hid hC2
      clear hP hC hC2 hx hv hW1
      have hsz := Lib.hid hbl.size
      go_enter Tryz.func34, Tryz.ntmps34
      go_wp2_with (first | (go_at_call 51; refine (HC2.out).mono ?_; rintro e w' ⟨rfl, rfl⟩) | (go_at_call 52; refine (Tryz.strconv_toError_range _ _ _ _ _ _ hmax hr' (.inr ⟨_, _, rfl⟩)).mono ?_; rintro e w' ⟨N, rfl, _, _, hbb⟩))
      go_ret2
      exact ⟨_, _, rfl, hbl.trans (hbb.mono hsz.out)⟩
end Go.Proofs.YtfgcpkobfmcflaaGreatDoor
