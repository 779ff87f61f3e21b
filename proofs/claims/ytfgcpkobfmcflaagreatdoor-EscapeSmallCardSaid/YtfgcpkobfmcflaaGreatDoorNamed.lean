/-
  escape.named: what a reference is. First its table of names: a map that the call makes.
-/
import Derived.Test.YtfgcpkobfmcflaaGreatDoorNumI
import Derived.Maps.OwnSet
import Derived.Maps.OwnOps
import Derived.Maps.Views
import Derived.BigQuiet
import Derived.Deep.QuietTactic
import Derived.Shelf.Strings.SlTrimAscii
namespace Go.Proofs.YtfgcpkobfmcflaaGreatDoor
open Go.RowKit Go.WideMaps Go.Maps

theorem str_law : Keyed Tryz.prog 9 := string_keyed Tryz.underlying9
theorem zero_rune (w : World) : (zeroValue 21).run Tryz.prog w = .ok (.int .i32 0) w := by kernel_rfl

def nameNum (l : List UInt8) : Option Int :=
  if l = [108, 116] then some 60 else if l = [103, 116] then some 62 else if l = [97, 109, 112] then some 38 else if l = [113, 117, 111, 116] then some 34 else if l = [97, 112, 111, 115] then some 39 else none

def nameD : DataW Unit :=
  ((((DataW.put (.map []) (.string [108, 116]) (.lit (.int .i32 60))).put (.string [103, 116]) (.lit (.int .i32 62))).put (.string [97, 109, 112]) (.lit (.int .i32 38))).put (.string [113, 117, 111, 116]) (.lit (.int .i32 34))).put (.string [97, 112, 111, 115]) (.lit (.int .i32 39))

theorem isKeyStr (l : List UInt8) : WideAt.IsKeyLit (.string l) := trivial

theorem lit_ne {l m : List UInt8} (h : ¬ l = m) : Lit.string l ≠ Lit.string m := fun e => h (Lit.string.inj e)

theorem nameD_has (l : List UInt8) : Maps.has nameD (.string l) = (nameNum l).isSome ∧ nameD.atKey (.string l) (.lit (.int .i32 0)) = .lit (.int .i32 ((nameNum l).getD 0)) := by
  have m0 : IsMap (.map [] : DataW Unit) := isMap_empty
  have m1 := m0.put (.string [108, 116]) (.lit (.int .i32 60))
  have m2 := m1.put (.string [103, 116]) (.lit (.int .i32 62))
  have m3 := m2.put (.string [97, 109, 112]) (.lit (.int .i32 38))
  have m4 := m3.put (.string [113, 117, 111, 116]) (.lit (.int .i32 34))
  unfold nameD nameNum
  by_cases h5 : l = [97, 112, 111, 115]
  · subst h5
    rw [has_put_same m4 (isKeyStr _), atKey_put_same m4 (isKeyStr _)]
    exact ⟨by decide, rfl⟩
  rw [has_put_other (lit_ne h5), atKey_put_other (lit_ne h5)]
  by_cases h4 : l = [113, 117, 111, 116]
  · subst h4
    rw [has_put_same m3 (isKeyStr _), atKey_put_same m3 (isKeyStr _)]
    exact ⟨by decide, rfl⟩
  rw [has_put_other (lit_ne h4), atKey_put_other (lit_ne h4)]
  by_cases h3 : l = [97, 109, 112]
  · subst h3
    rw [has_put_same m2 (isKeyStr _), atKey_put_same m2 (isKeyStr _)]
    exact ⟨by decide, rfl⟩
  rw [has_put_other (lit_ne h3), atKey_put_other (lit_ne h3)]
  by_cases h2 : l = [103, 116]
  · subst h2
    rw [has_put_same m1 (isKeyStr _), atKey_put_same m1 (isKeyStr _)]
    exact ⟨by decide, rfl⟩
  rw [has_put_other (lit_ne h2), atKey_put_other (lit_ne h2)]
  by_cases h1 : l = [108, 116]
  · subst h1
    rw [has_put_same m0 (isKeyStr _), atKey_put_same m0 (isKeyStr _)]
    exact ⟨by decide, rfl⟩
  rw [has_put_other (lit_ne h1), atKey_put_other (lit_ne h1)]
  rw [if_neg h1, if_neg h2, if_neg h3, if_neg h4, if_neg h5]
  exact ⟨rfl, rfl⟩

/-- One entry of the table more. -/
theorem name_put {w : World} {b n : Nat} {D : DataW Unit} (h : w.ownsMap Tryz.prog 9 (plainElem Tryz.prog 21) b n D) (hn : n < 10) (k : ByteArray) (hk : k.size ≤ maxLen) (c : Int) (hc : (Lit.int .i32 c).wf = true) :
    ∃ w', (Instr.mapUpdate 68 (.map (some b)) (.string k) (.int .i32 c)).run Tryz.prog w = .ok () w' ∧ w'.ownsMap Tryz.prog 9 (plainElem Tryz.prog 21) b (n + 1) (D.put (.string k.data.toList) (.lit (.int .i32 c))) ∧ w.grownBy w' (some b) :=
  h.update str_law Tryz.underlying68 (by unfold maxLen; omega) (keyOf_string_mk Tryz.underlying9 hk) (plainElem_int Tryz.underlying21 hc)

/-- The table, made; and what it answers. -/
theorem names_made (w : World) : ∃ w1 w2 w3 w4 w5 : World,
    (Instr.mapUpdate 68 (.map (some w.heap.size)) (.string ⟨#[108, 116]⟩) (.int .i32 60)).run Tryz.prog (w.alloc (.map #[] 0)) = .ok () w1 ∧
    (Instr.mapUpdate 68 (.map (some w.heap.size)) (.string ⟨#[103, 116]⟩) (.int .i32 62)).run Tryz.prog w1 = .ok () w2 ∧
    (Instr.mapUpdate 68 (.map (some w.heap.size)) (.string ⟨#[97, 109, 112]⟩) (.int .i32 38)).run Tryz.prog w2 = .ok () w3 ∧
    (Instr.mapUpdate 68 (.map (some w.heap.size)) (.string ⟨#[113, 117, 111, 116]⟩) (.int .i32 34)).run Tryz.prog w3 = .ok () w4 ∧
    (Instr.mapUpdate 68 (.map (some w.heap.size)) (.string ⟨#[97, 112, 111, 115]⟩) (.int .i32 39)).run Tryz.prog w4 = .ok () w5 ∧
    Below w.heap.size w w5 ∧
    ∀ s : ByteArray, s.size ≤ maxLen → (Instr.lookup 68 (.map (some w.heap.size)) (.string s) true).run Tryz.prog w5 = .ok (.tuple #[.int .i32 ((nameNum s.data.toList).getD 0), .bool (nameNum s.data.toList).isSome]) w5 := by
  obtain ⟨w1, r1, o1, g1⟩ := name_put (World.ownsMap_made w Tryz.prog 9 (plainElem Tryz.prog 21)) (by omega) ⟨#[108, 116]⟩ (by decide) 60 (by decide)
  obtain ⟨w2, r2, o2, g2⟩ := name_put o1 (by omega) ⟨#[103, 116]⟩ (by decide) 62 (by decide)
  obtain ⟨w3, r3, o3, g3⟩ := name_put o2 (by omega) ⟨#[97, 109, 112]⟩ (by decide) 38 (by decide)
  obtain ⟨w4, r4, o4, g4⟩ := name_put o3 (by omega) ⟨#[113, 117, 111, 116]⟩ (by decide) 34 (by decide)
  obtain ⟨w5, r5, o5, g5⟩ := name_put o4 (by omega) ⟨#[97, 112, 111, 115]⟩ (by decide) 39 (by decide)
  have hk : ∀ k : Nat, some w.heap.size = some k → w.heap.size ≤ k := fun k h => by cases h; exact Nat.le_refl _
  have b0 : Below w.heap.size w (w.alloc (.map #[] 0)) := (Below.refl _ _).alloc (Nat.le_refl _) _
  have b1 := b0.grown g1 b0.size hk
  have b2 := b1.grown g2 b1.size hk
  have b3 := b2.grown g3 b2.size hk
  have b4 := b3.grown g4 b3.size hk
  have b5 := b4.grown g5 b4.size hk
  refine ⟨w1, w2, w3, w4, w5, r1, r2, r3, r4, r5, b5, ?_⟩
  intro s hs
  have hD : w5.ownsMap Tryz.prog 9 (plainElem Tryz.prog 21) w.heap.size 5 nameD := o5
  obtain ⟨v, ps, hrun, hv⟩ := hD.look_ok str_law Tryz.underlying68 (zero_rune w5) (plainElem_int Tryz.underlying21 (by decide)) (keyOf_string_mk Tryz.underlying9 hs)
  obtain ⟨c, rfl, hc, _⟩ := plainElem_int_inv Tryz.underlying21 hv
  obtain ⟨h1, h2⟩ := nameD_has s.data.toList
  simp only [Prod.mk.injEq] at hc
  have hcc := hc.1
  rw [h2] at hcc
  rw [h1] at hrun
  have : c = (nameNum s.data.toList).getD 0 := by
    have := congrArg (fun d : DataW Unit => match d with | .lit (.int _ x) => x | _ => 0) hcc
    simpa using this.symm
  rw [hrun, this]

theorem cutp (s p : ByteArray) (l : List UInt8) (b : Bool) (h1 : Lib.trimPrefix s.data.toList p.data.toList = l) (h2 : Lib.hasPrefix s.data.toList p.data.toList = b) (w : World) :
    Calls Tryz.prog 32 #[.string s, .string p] w fun e w' => e = .returned (.tuple #[.string ⟨l.toArray⟩, .bool b]) ∧ w = w' := by
  subst h1; subst h2
  exact (Tryz.strings_CutPrefix s p w).mono fun e w' ⟨h1, h2⟩ => ⟨h1, h2.symm⟩

def hexSet : ByteArray := ⟨#[48, 49, 50, 51, 52, 53, 54, 55, 56, 57, 97, 98, 99, 100, 101, 102, 65, 66, 67, 68, 69, 70]⟩

theorem hexSet_has (c : UInt8) : hexSet.data.toList.contains c = (hexv c).isSome := by
  have h : ∀ n : Nat, n < 256 → hexSet.data.toList.contains (UInt8.ofNat n) = (hexv (UInt8.ofNat n)).isSome := by decide +kernel
  have := h c.toNat c.toNat_lt
  simpa using this

theorem dropWhile_nil {α : Type} (p : α → Bool) : ∀ l : List α, l.dropWhile p = [] ↔ l.all p = true
  | [] => by simp
  | x :: l => by
    by_cases h : p x = true
    · simp only [List.dropWhile_cons, h, if_true, List.all_cons, Bool.true_and]
      exact dropWhile_nil p l
    · simp only [List.dropWhile_cons, h, List.all_cons]
      simp

theorem all_dropWhile {α : Type} (p : α → Bool) : ∀ l : List α, (l.dropWhile p).all p = l.all p
  | [] => rfl
  | x :: l => by
    by_cases h : p x = true
    · simp only [List.dropWhile_cons, h, if_true, List.all_cons, Bool.true_and]
      exact all_dropWhile p l
    · simp only [List.dropWhile_cons, h, List.all_cons]
      simp [h]

theorem trim_hex (l : List UInt8) : Lib.trimS l hexSet.data.toList = [] ↔ isHex l = true := by
  have e : ∀ m : List UInt8, m.all (hexSet.data.toList.contains ·) = isHex m := fun m => by unfold isHex; congr 1; funext c; exact hexSet_has c
  unfold Lib.trimS Lib.trimRightS Lib.trimLeftS
  rw [dropWhile_nil, List.all_reverse, all_dropWhile, List.all_reverse, e]

theorem trim_size (l : List UInt8) (cs : List UInt8) : (Lib.trimS l cs).length ≤ l.length := by
  unfold Lib.trimS Lib.trimRightS Lib.trimLeftS
  have h1 := (List.dropWhile_sublist (fun b => cs.contains b) (l := l.reverse)).length_le
  have h2 := (List.dropWhile_sublist (fun b => cs.contains b) (l := (List.dropWhile (fun b => cs.contains b) l.reverse).reverse)).length_le
  simp at h1 h2 ⊢
  omega

/-- strings.Trim at the digits: what it leaves is empty, just if all are digits. -/
theorem trim_calls (s : ByteArray) (hs : s.size ≤ 9223372036854775807) (w : World) :
    Calls Tryz.prog 33 #[.string s, .string hexSet] w fun e w' => ∃ x : ByteArray, e = .returned (.string x) ∧ (x = ⟨#[]⟩ ↔ isHex s.data.toList = true) ∧ Below w.heap.size w w' := by
  refine (Any.strings_Trim_laid Tryz.lays160 (by kernel_rfl) s hexSet w hs (by decide) (ascii_of_all (by decide))).mono ?_
  rintro e w' ⟨rfl, hb⟩
  refine ⟨_, rfl, ?_, hb⟩
  rw [← trim_hex]
  constructor
  · intro h
    have := congrArg (fun b : ByteArray => b.data.toList) h
    simpa using this
  · intro h; rw [h]
end Go.Proofs.YtfgcpkobfmcflaaGreatDoor
