/-
  The document's answer: a code point's bytes.
-/
import Derived.Test.YtfgcpkobfmcflaaGreatDoorRefB
import Derived.Test.YtfgcpkobfmcflaaGreatDoorRepBR
set_option linter.unusedVariables false
namespace Go.Proofs.YtfgcpkobfmcflaaGreatDoor
open Go.RowKit

theorem u8_info : (Tryz.prog.info? 5).map (fun i => (i.zero, i.size, i.bytes)) = some (some (.int .u8 0), 1, 1) := by kernel_rfl

theorem app_back {w w1 : World} {v' : Value} {n : Nat} (bs : List UInt8) (hn : bs.length = n) (hpos : 0 < n) (hw : w1.ownsRow w.heap.size 5 1 v' n (bs.map fun b => Value.int .u8 (b.toNat : Int))) :
    ∃ g cap, v' = .slice (some ⟨g, 0, none⟩) n cap ∧ (convert 30 9 (.slice (some ⟨g, 0, none⟩) n cap)).run Tryz.prog w1 = .ok (.string ⟨bs.toArray⟩) w1 := by
  rcases hw.2 with ⟨_, h0⟩ | ⟨g, cap, cur, hv, hg, hh, _⟩
  · omega
  · subst hv
    refine ⟨g, cap, rfl, ?_⟩
    subst hn
    refine run_convert_bytes_back (P := Tryz.prog) w1 30 9 5 ⟨g, 0, none⟩ cap bs Tryz.underlying30 Tryz.underlying5 Tryz.underlying9 ?_
    intro j hj
    exact hw.cells (g := g) rfl j _ (by simp [hj])

theorem of_toNat (n : Nat) (h : n < 256) : (UInt8.ofNat n).toNat = n := Nat.mod_eq_of_lt h

theorem isChar_valid (v : Nat) (h : isChar (v : Int) = true) : Utf8.valid (v : Int) = true := by
  unfold isChar amongB charRs at h
  simp at h
  unfold Utf8.valid
  simp
  omega

theorem enc1 (v : Nat) (hv : isChar (v : Int) = true) (h1 : v < 128) : (Utf8.encode (v : Int)).data.toList.map (fun b => Value.int .u8 (b.toNat : Int)) = [.int .u8 (v : Int)] := by
  unfold Utf8.encode
  simp only [isChar_valid v hv, if_true, Int.toNat_natCast]
  rw [if_pos (show v < 0x80 from h1)]
  simp only [List.map_cons, List.map_nil, of_toNat v (by omega)]
theorem enc2 (v : Nat) (hv : isChar (v : Int) = true) (h1 : ¬ v < 128) (h2 : v < 2048) : (Utf8.encode (v : Int)).data.toList.map (fun b => Value.int .u8 (b.toNat : Int)) = [.int .u8 (192 + (v : Int) / 64), .int .u8 (128 + (v : Int) % 64)] := by
  unfold Utf8.encode
  simp only [isChar_valid v hv, if_true, Int.toNat_natCast]
  rw [if_neg (show ¬ v < 0x80 from h1), if_pos (show v < 0x800 from h2)]
  simp only [List.map_cons, List.map_nil]
  rw [of_toNat _ (by omega), of_toNat _ (by omega)]
  simp
theorem enc3 (v : Nat) (hv : isChar (v : Int) = true) (h1 : ¬ v < 128) (h2 : ¬ v < 2048) (h3 : v < 65536) : (Utf8.encode (v : Int)).data.toList.map (fun b => Value.int .u8 (b.toNat : Int)) = [.int .u8 (224 + (v : Int) / 4096), .int .u8 (128 + (v : Int) / 64 % 64), .int .u8 (128 + (v : Int) % 64)] := by
  unfold Utf8.encode
  simp only [isChar_valid v hv, if_true, Int.toNat_natCast]
  rw [if_neg (show ¬ v < 0x80 from h1), if_neg (show ¬ v < 0x800 from h2), if_pos (show v < 0x10000 from h3)]
  simp only [List.map_cons, List.map_nil]
  rw [of_toNat _ (by omega), of_toNat _ (by omega), of_toNat _ (by omega)]
  simp
theorem enc4 (v : Nat) (hv : isChar (v : Int) = true) (h1 : ¬ v < 128) (h2 : ¬ v < 2048) (h3 : ¬ v < 65536) (hl : v < 1114112) : (Utf8.encode (v : Int)).data.toList.map (fun b => Value.int .u8 (b.toNat : Int)) = [.int .u8 (240 + (v : Int) / 262144), .int .u8 (128 + (v : Int) / 4096 % 64), .int .u8 (128 + (v : Int) / 64 % 64), .int .u8 (128 + (v : Int) % 64)] := by
  unfold Utf8.encode
  simp only [isChar_valid v hv, if_true, Int.toNat_natCast]
  rw [if_neg (show ¬ v < 0x80 from h1), if_neg (show ¬ v < 0x800 from h2), if_neg (show ¬ v < 0x10000 from h3)]
  simp only [List.map_cons, List.map_nil]
  rw [of_toNat _ (by omega), of_toNat _ (by omega), of_toNat _ (by omega), of_toNat _ (by omega)]
  simp

set_option maxRecDepth 100000 in
set_option maxHeartbeats 4000000 in
theorem refUtf8_1 (v : Int) (en : ByteArray) (HEN : Hid (en.data.toList.map (fun b => Value.int .u8 (b.toNat : Int)) = [.int .u8 v])) (h0 : 0 ≤ v) (h1 : v < 128) (w : World) :
    Calls Tryz.prog 37 #[.int .i64 v] w fun e w' => e = .returned (.string en) ∧ Below w.heap.size w w' := by
  obtain ⟨i0, hi, hz0, hz1, hz2⟩ := info_parts u8_info
  go_enter Tryz.func37, Tryz.ntmps37
  go_wp2_with (at_builtin; refine wpList_append_own _ rfl _ _ 30 rfl w.heap.size 5 i0 (.int .u8 0) 1 1 Tryz.underlying30 hi hz0 hz1 hz2 rfl (by decide) _ 0 [] rfl (World.ownsRow_nil _ _ _ _) ⟨w.heap.size, 0, none⟩ 1 1 [.int .u8 v] rfl rfl ?c1 ?c2 ?c3 ?c4 ?c5 ?_)
  all_goals try (simp; done)
  all_goals try (unfold maxLen; omega)
  all_goals try omega
  all_goals try (first | exact ⟨rfl, rfl⟩ | exact ⟨rfl, rfl, rfl⟩ | exact ⟨rfl, rfl, rfl, rfl⟩)
  all_goals try (intro j u hj; rw [addr_add]; refine (cell_of_row _ _ j _ _ _ (heap_alloc_new w _)).trans ?_; simpa using hj)
  all_goals try (intro u hu; simp at hu; subst hu; rfl; done)
  all_goals try (simp; done)
  intro v' w1 hown hgrow hnil
  rw [← HEN.out] at hown
  have hlen : en.data.toList.length = 1 := by
    have := congrArg List.length HEN.out
    simpa using this
  obtain ⟨g, cap, rfl, hcv⟩ := app_back (w := w) en.data.toList hlen (by decide) (by simpa using hown)
  have hb1 : Below w.heap.size w w1 := ((Below.refl _ _).alloc (Nat.le_refl _) _).grown hgrow (by simp) (fun k hk => by simp [Value.ownBlock] at hk)
  have HB1 := Lib.hid hb1
  rw [ba_eq] at hcv
  clear hb1 hown hgrow hnil hlen
  go_wp2_with fail
  go_ret
  exact ⟨rfl, HB1.out⟩

set_option maxRecDepth 100000 in
set_option maxHeartbeats 4000000 in
theorem refUtf8_2 (v : Int) (en : ByteArray) (HEN : Hid (en.data.toList.map (fun b => Value.int .u8 (b.toNat : Int)) = [.int .u8 (192 + v / 64), .int .u8 (128 + v % 64)])) (h0 : 0 ≤ v) (h1 : ¬ v < 128) (h2 : v < 2048) (w : World) :
    Calls Tryz.prog 37 #[.int .i64 v] w fun e w' => e = .returned (.string en) ∧ Below w.heap.size w w' := by
  obtain ⟨i0, hi, hz0, hz1, hz2⟩ := info_parts u8_info
  go_enter Tryz.func37, Tryz.ntmps37
  go_wp2_with (at_builtin; refine wpList_append_own _ rfl _ _ 30 rfl w.heap.size 5 i0 (.int .u8 0) 1 1 Tryz.underlying30 hi hz0 hz1 hz2 rfl (by decide) _ 0 [] rfl (World.ownsRow_nil _ _ _ _) ⟨w.heap.size, 0, none⟩ 2 2 [.int .u8 (192 + v / 64), .int .u8 (128 + v % 64)] rfl rfl ?c1 ?c2 ?c3 ?c4 ?c5 ?_)
  all_goals try (simp; done)
  all_goals try (unfold maxLen; omega)
  all_goals try omega
  all_goals try (first | exact ⟨rfl, rfl⟩ | exact ⟨rfl, rfl, rfl⟩ | exact ⟨rfl, rfl, rfl, rfl⟩)
  all_goals try (intro j u hj; rw [addr_add]; refine (cell_of_row _ _ j _ _ _ (heap_alloc_new w _)).trans ?_; simpa using hj)
  all_goals try (intro u hu; simp at hu; rcases hu with rfl | rfl <;> rfl; done)
  all_goals try (simp; done)
  intro v' w1 hown hgrow hnil
  rw [← HEN.out] at hown
  have hlen : en.data.toList.length = 2 := by
    have := congrArg List.length HEN.out
    simpa using this
  obtain ⟨g, cap, rfl, hcv⟩ := app_back (w := w) en.data.toList hlen (by decide) (by simpa using hown)
  have hb1 : Below w.heap.size w w1 := ((Below.refl _ _).alloc (Nat.le_refl _) _).grown hgrow (by simp) (fun k hk => by simp [Value.ownBlock] at hk)
  have HB1 := Lib.hid hb1
  rw [ba_eq] at hcv
  clear hb1 hown hgrow hnil hlen
  go_wp2_with fail
  go_ret
  exact ⟨rfl, HB1.out⟩

set_option maxRecDepth 100000 in
set_option maxHeartbeats 4000000 in
theorem refUtf8_3 (v : Int) (en : ByteArray) (HEN : Hid (en.data.toList.map (fun b => Value.int .u8 (b.toNat : Int)) = [.int .u8 (224 + v / 4096), .int .u8 (128 + v / 64 % 64), .int .u8 (128 + v % 64)])) (h0 : 0 ≤ v) (h1 : ¬ v < 128) (h2 : ¬ v < 2048) (h3 : v < 65536) (w : World) :
    Calls Tryz.prog 37 #[.int .i64 v] w fun e w' => e = .returned (.string en) ∧ Below w.heap.size w w' := by
  obtain ⟨i0, hi, hz0, hz1, hz2⟩ := info_parts u8_info
  go_enter Tryz.func37, Tryz.ntmps37
  go_wp2_with (at_builtin; refine wpList_append_own _ rfl _ _ 30 rfl w.heap.size 5 i0 (.int .u8 0) 1 1 Tryz.underlying30 hi hz0 hz1 hz2 rfl (by decide) _ 0 [] rfl (World.ownsRow_nil _ _ _ _) ⟨w.heap.size, 0, none⟩ 3 3 [.int .u8 (224 + v / 4096), .int .u8 (128 + v / 64 % 64), .int .u8 (128 + v % 64)] rfl rfl ?c1 ?c2 ?c3 ?c4 ?c5 ?_)
  all_goals try (simp; done)
  all_goals try (unfold maxLen; omega)
  all_goals try omega
  all_goals try (first | exact ⟨rfl, rfl⟩ | exact ⟨rfl, rfl, rfl⟩ | exact ⟨rfl, rfl, rfl, rfl⟩)
  all_goals try (intro j u hj; rw [addr_add]; refine (cell_of_row _ _ j _ _ _ (heap_alloc_new w _)).trans ?_; simpa using hj)
  all_goals try (intro u hu; simp at hu; rcases hu with rfl | rfl | rfl <;> rfl; done)
  all_goals try (simp; done)
  intro v' w1 hown hgrow hnil
  rw [← HEN.out] at hown
  have hlen : en.data.toList.length = 3 := by
    have := congrArg List.length HEN.out
    simpa using this
  obtain ⟨g, cap, rfl, hcv⟩ := app_back (w := w) en.data.toList hlen (by decide) (by simpa using hown)
  have hb1 : Below w.heap.size w w1 := ((Below.refl _ _).alloc (Nat.le_refl _) _).grown hgrow (by simp) (fun k hk => by simp [Value.ownBlock] at hk)
  have HB1 := Lib.hid hb1
  rw [ba_eq] at hcv
  clear hb1 hown hgrow hnil hlen
  go_wp2_with fail
  go_ret
  exact ⟨rfl, HB1.out⟩

set_option maxRecDepth 100000 in
set_option maxHeartbeats 4000000 in
theorem refUtf8_4 (v : Int) (en : ByteArray) (HEN : Hid (en.data.toList.map (fun b => Value.int .u8 (b.toNat : Int)) = [.int .u8 (240 + v / 262144), .int .u8 (128 + v / 4096 % 64), .int .u8 (128 + v / 64 % 64), .int .u8 (128 + v % 64)])) (h0 : 0 ≤ v) (h1 : ¬ v < 128) (h2 : ¬ v < 2048) (h3 : ¬ v < 65536) (h4 : v < 1114112) (w : World) :
    Calls Tryz.prog 37 #[.int .i64 v] w fun e w' => e = .returned (.string en) ∧ Below w.heap.size w w' := by
  obtain ⟨i0, hi, hz0, hz1, hz2⟩ := info_parts u8_info
  go_enter Tryz.func37, Tryz.ntmps37
  go_wp2_with (at_builtin; refine wpList_append_own _ rfl _ _ 30 rfl w.heap.size 5 i0 (.int .u8 0) 1 1 Tryz.underlying30 hi hz0 hz1 hz2 rfl (by decide) _ 0 [] rfl (World.ownsRow_nil _ _ _ _) ⟨w.heap.size, 0, none⟩ 4 4 [.int .u8 (240 + v / 262144), .int .u8 (128 + v / 4096 % 64), .int .u8 (128 + v / 64 % 64), .int .u8 (128 + v % 64)] rfl rfl ?c1 ?c2 ?c3 ?c4 ?c5 ?_)
  all_goals try (simp; done)
  all_goals try (unfold maxLen; omega)
  all_goals try omega
  all_goals try (first | exact ⟨rfl, rfl⟩ | exact ⟨rfl, rfl, rfl⟩ | exact ⟨rfl, rfl, rfl, rfl⟩)
  all_goals try (intro j u hj; rw [addr_add]; refine (cell_of_row _ _ j _ _ _ (heap_alloc_new w _)).trans ?_; simpa using hj)
  all_goals try (intro u hu; simp at hu; rcases hu with rfl | rfl | rfl | rfl <;> rfl; done)
  all_goals try (simp; done)
  intro v' w1 hown hgrow hnil
  rw [← HEN.out] at hown
  have hlen : en.data.toList.length = 4 := by
    have := congrArg List.length HEN.out
    simpa using this
  obtain ⟨g, cap, rfl, hcv⟩ := app_back (w := w) en.data.toList hlen (by decide) (by simpa using hown)
  have hb1 : Below w.heap.size w w1 := ((Below.refl _ _).alloc (Nat.le_refl _) _).grown hgrow (by simp) (fun k hk => by simp [Value.ownBlock] at hk)
  have HB1 := Lib.hid hb1
  rw [ba_eq] at hcv
  clear hb1 hown hgrow hnil hlen
  go_wp2_with fail
  go_ret
  exact ⟨rfl, HB1.out⟩

theorem refUtf8_any (v : Nat) (hv : isChar (v : Int) = true) (w : World) :
    Calls Tryz.prog 37 #[.int .i64 (v : Int)] w fun e w' => e = .returned (.string (Utf8.encode (v : Int))) ∧ Below w.heap.size w w' := by
  have hl := isChar_low v hv
  by_cases h1 : v < 128
  · exact refUtf8_1 v _ (enc1 v hv h1) (by omega) (by omega) w
  by_cases h2 : v < 2048
  · exact refUtf8_2 v _ (enc2 v hv h1 h2) (by omega) (by omega) (by omega) w
  by_cases h3 : v < 65536
  · exact refUtf8_3 v _ (enc3 v hv h1 h2 h3) (by omega) (by omega) (by omega) (by omega) w
  · exact refUtf8_4 v _ (enc4 v hv h1 h2 h3 hl) (by omega) (by omega) (by omega) (by omega) (by omega) w
end Go.Proofs.YtfgcpkobfmcflaaGreatDoor
