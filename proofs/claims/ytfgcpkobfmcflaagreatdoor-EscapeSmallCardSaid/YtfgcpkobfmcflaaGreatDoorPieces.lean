/-
  Pieces: some text, and how long it may be.
-/
import Derived.Test.YtfgcpkobfmcflaaGreatDoorRepN
set_option linter.unusedVariables false
namespace Go.Proofs.YtfgcpkobfmcflaaGreatDoor
open Go.RowKit

/-- A slice of bytes that may be read. -/
def BytesAt (w : World) (v : Value) : Prop :=
  (∃ a cap, v = .slice a 0 cap) ∨ ∃ ab ao len cap, v = .slice (some ⟨ab, ao, none⟩) len cap ∧ len ≤ maxLen ∧ ∀ i, i < len → ∃ z : Int, w.cell? ⟨ab, ao + i, none⟩ = some (.int .u8 z) ∧ 0 ≤ z ∧ z < 256

theorem BytesAt.below {w w' : World} {v : Value} (h : BytesAt w v) (hb : Below w.heap.size w w') : BytesAt w' v := by
  rcases h with h | ⟨ab, ao, len, cap, h1, h2, h3⟩
  · exact .inl h
  · refine .inr ⟨ab, ao, len, cap, h1, h2, fun i hi => ?_⟩
    obtain ⟨z, h4, h5⟩ := h3 i hi
    exact ⟨z, (hb.cell (World.block_lt_of_cell? _ _ h4)).trans h4, h5⟩

set_option maxRecDepth 100000 in
set_option maxHeartbeats 4000000 in
theorem pieces_any (v : Value) (b n c M : Nat) (ss : List ByteArray) (hn : ss.length = n) (hpos : 0 < n) (hmax : n ≤ 100) (hM : M ≤ 1000) (hss : ∀ x ∈ ss, x.size ≤ M) (w : World) (hs : Strs w b ss) (hv : BytesAt w v) :
    Calls Tryz.prog 15 #[v, .slice (some ⟨b, 0, none⟩) n c] w fun e w' => (∃ s : ByteArray, e = .returned (.string s) ∧ s.size ≤ 12 * M) ∧ Below w.heap.size w w' := by
  have hcell : ∀ j, j < n → ∃ x : ByteArray, w.cell? ⟨b, j, none⟩ = some (.string x) ∧ x.size ≤ M := by
    intro j hj
    have hj' : j < ss.length := by omega
    exact ⟨ss[j], hs.cell j _ (List.getElem?_eq_getElem hj'), hss _ (List.getElem_mem hj')⟩
  have HS := Lib.hid hcell
  have hbl := hs.lt
  rcases hv with ⟨av, capv, rfl⟩ | ⟨ab, ao, len, cap, rfl, hlen, hz⟩
  · clear hcell hs hss hn
    go_enter Tryz.func15, Tryz.ntmps15
    go_wp2_with fail
    go_loopw [5, 6] (fun v5 v6 wr => v5 = .string ⟨#[]⟩ ∧ v6 = .int .i64 0 ∧ Below w.heap.size w wr) (fun _ v _ => 0)
    case atStart => exact ⟨rfl, rfl, Below.refl _ _⟩
    case round =>
      obtain ⟨rfl, rfl, hb⟩ := hrel
      go_wp2_with fail
      go_ret
      exact ⟨⟨_, rfl, Nat.zero_le _⟩, hb⟩
  · have HZ := Lib.hid hz
    unfold maxLen at hlen
    clear hcell hs hss hn hz
    go_enter Tryz.func15, Tryz.ntmps15
    go_wp2_with fail
    go_loopw [5, 6] (fun v5 v6 wr => ∃ (k : Nat) (o : ByteArray), k ≤ 12 ∧ k ≤ len ∧ v6 = .int .i64 k ∧ v5 = .string o ∧ o.size ≤ k * M ∧ Below w.heap.size w wr) (fun _ v _ => 12 - (intOf v).toNat)
    case atStart => exact ⟨0, ⟨#[]⟩, by omega, Nat.zero_le _, rfl, rfl, Nat.zero_le _, Below.refl _ _⟩
    case round =>
      obtain ⟨k, o, hk12, hk, rfl, rfl, hos, hb⟩ := hrel
      have HB := Lib.hid hb
      clear hb
      have hkM : k * M ≤ 12 * M := Nat.mul_le_mul_right _ hk12
      by_cases hlt : k < len
      · by_cases h12 : k < 12
        · obtain ⟨z, hc, hz0, hz1⟩ := HZ.out k hlt
          have hc' := (HB.out.cell (World.block_lt_of_cell? _ _ hc)).trans hc
          have hq : 0 ≤ z % (n : Int) ∧ z % (n : Int) < n := ⟨Int.emod_nonneg _ (by omega), Int.emod_lt_of_pos _ (by omega)⟩
          obtain ⟨x, hx, hxM⟩ := HS.out (z % (n : Int)).toNat (by omega)
          have hx' := (HB.out.cell (World.block_lt_of_cell? _ _ hx)).trans hx
          have htm : z.tmod (n : Int) = z % (n : Int) := Int.tmod_eq_emod_of_nonneg hz0
          obtain ⟨q, hqq⟩ : ∃ q, q = z % (n : Int) := ⟨_, rfl⟩
          rw [← hqq] at htm hq hx'
          obtain ⟨hq0, hq1⟩ := hq
          have hsz : (o ++ x).size ≤ (k + 1) * M := by rw [ByteArray.size_append, Nat.add_mul]; omega
          clear hc hx hqq
          go_wp2_with fail
          exact ⟨⟨k + 1, _, by omega, by omega, by go_num, rfl, hsz, HB.out⟩, by simp [intOf]; omega⟩
        · go_wp2_with fail
          go_ret
          exact ⟨⟨_, rfl, by omega⟩, HB.out⟩
      · go_wp2_with fail
        go_ret
        exact ⟨⟨_, rfl, by omega⟩, HB.out⟩
end Go.Proofs.YtfgcpkobfmcflaaGreatDoor
