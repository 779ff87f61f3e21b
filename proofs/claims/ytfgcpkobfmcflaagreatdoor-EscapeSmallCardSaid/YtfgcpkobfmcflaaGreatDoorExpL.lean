/-
  escape.expanded: what its loop keeps.
-/
import Derived.Test.YtfgcpkobfmcflaaGreatDoorExp
namespace Go.Proofs.YtfgcpkobfmcflaaGreatDoor
open Go.RowKit

/-- As 'Below', but for one block. -/
structure BelowX (B : Nat) (x : Option Nat) (w w' : World) : Prop where
  os : w'.os = w.os
  tape : w'.tape = w.tape
  output : w'.output = w.output
  size : w.heap.size ≤ w'.heap.size
  block : ∀ k, k < B → some k ≠ x → w'.heap[k]? = w.heap[k]?

theorem BelowX.refl (B : Nat) (x : Option Nat) (w : World) : BelowX B x w w := ⟨rfl, rfl, rfl, Nat.le_refl _, fun _ _ _ => rfl⟩
theorem BelowX.trans {B : Nat} {x : Option Nat} {a b c : World} (h : BelowX B x a b) (k : BelowX B x b c) : BelowX B x a c :=
  ⟨k.os.trans h.os, k.tape.trans h.tape, k.output.trans h.output, Nat.le_trans h.size k.size, fun i hi hx => (k.block i hi hx).trans (h.block i hi hx)⟩
theorem BelowX.of {B : Nat} {x : Option Nat} {a b : World} (h : Below B a b) : BelowX B x a b := ⟨h.os, h.tape, h.output, h.size, fun i hi _ => h.block i hi⟩
theorem BelowX.none {B : Nat} {a b : World} (h : BelowX B none a b) : Below B a b := ⟨h.os, h.tape, h.output, h.size, fun i hi => h.block i hi (by simp)⟩
theorem BelowX.ofGrown {B : Nat} {x : Option Nat} {a b : World} (h : a.grownBy b x) (hB : B ≤ a.heap.size) : BelowX B x a b := ⟨h.os, h.tape, h.output, h.size, fun i hi hx => h.block i (by omega) hx⟩
theorem grown_below {a b : World} (h : Below a.heap.size a b) (x : Option Nat) : a.grownBy b x := ⟨h.os, h.tape, h.output, h.size, fun i hi _ => h.block i hi⟩
theorem below_drewN (w : World) (n : Nat) (B : Nat) : Below B w (w.drewN n) := ⟨rfl, rfl, rfl, Nat.le_refl _, fun _ _ => rfl⟩
theorem others_below {e : TypeId} {b : Option Nat} {a c : World} (h : Below a.heap.size a c) : Lib.OthersKept e b a c := fun k o hk _ _ => by
  rw [h.block k (Array.getElem?_eq_some_iff.1 hk).1]; exact hk

/-- A builder that other code doesn't touch is what it was. -/
theorem IsB.grown {B b : Nat} {bs : List Value} {w w' : World} {x : Option Nat} (h : IsB B b bs w) (hg : w.grownBy w' x) (hx : ∀ k, x = some k → k < B) : IsB B b bs w' := by
  have one : ∀ p, Lib.BuilderAtF 41 5 B b p bs w → Lib.BuilderAtF 41 5 B b p bs w' := by
    intro p hp
    have hlt := hp.lt
    obtain ⟨hB, v, hb, hown, hne⟩ := hp
    refine ⟨hB, v, ?_, hown.kept hg ?_, hne⟩
    · rw [hg.block b hlt (fun e => by have := hx b e.symm; omega)]; exact hb
    · cases hv : v.ownBlock with
      | none => exact .inl rfl
      | some g =>
        right
        intro e
        have := (hown.lt g hv).1
        have := hx g e.symm
        omega
  exact h.elim (fun q => .inl (one _ q)) (fun q => .inr (one _ q))

theorem IsBU.is {B b : Nat} {bs : List Value} {w : World} (h : IsBU B b bs w) : IsB B b bs w := .inr h
theorem IsB.lt {B b : Nat} {bs : List Value} {w : World} (h : IsB B b bs w) : b < w.heap.size := h.elim (fun q => q.lt) (fun q => q.lt)

/-- The worlds of expanded's loop. w: the world of the call. -/
structure XW (x : Option Nat) (I : World → Prop) (w : World) (acc : List UInt8) (wr : World) : Prop where
  bld : IsB (w.heap.size + 2) (w.heap.size + 2) (Lib.byteCells acc) wr
  ht : wr.heap[w.heap.size]? = some (.cells #[.string ⟨#[]⟩] 9 (0, 0))
  he : wr.heap[w.heap.size + 1]? = some (.cells #[.int .i64 0] 23 (0, 0))
  fr : BelowX w.heap.size x w wr
  inv : I wr
  env : Env wr

section
variable {x : Option Nat} {I : World → Prop} {w : World} {acc : List UInt8} {wr w' : World}

theorem XW.sz (h : XW x I w acc wr) : w.heap.size + 2 < wr.heap.size := h.bld.lt

theorem Env.lt {a : World} (h : Env a) : 0 < a.heap.size ∧ 1 < a.heap.size ∧ 2 < a.heap.size := by
  obtain ⟨⟨m, h1⟩, ⟨t, p, h2⟩, ⟨t', p', h3⟩⟩ := h
  exact ⟨World.block_lt_of_cell? _ _ h1, World.block_lt_of_cell? _ _ h2, World.block_lt_of_cell? _ _ h3⟩

theorem Env.grown {a b : World} (h : Env a) (hg : a.grownBy b x) (hx : ∀ k, x = some k → k ≠ 0 ∧ k ≠ 1 ∧ k ≠ 2) : Env b := by
  obtain ⟨⟨m, h1⟩, ⟨t, p, h2⟩, ⟨t', p', h3⟩⟩ := h
  exact ⟨⟨m, hg.cell h1 (fun e => (hx _ e.symm).1 rfl)⟩, ⟨t, p, hg.cell h2 (fun e => (hx _ e.symm).2.1 rfl)⟩, ⟨t', p', hg.cell h3 (fun e => (hx _ e.symm).2.2 rfl)⟩⟩

/-- Other code ran: what it makes is new, what it writes is the block x. -/
theorem XW.plain (h : XW x I w acc wr) (hxs : ∀ k, x = some k → k < w.heap.size) (hx : ∀ k, x = some k → k ≠ 0 ∧ k ≠ 1 ∧ k ≠ 2)
    (hg : wr.grownBy w' x) (hI : I w') : XW x I w acc w' := by
  have hs := h.sz
  have ne : ∀ k, w.heap.size ≤ k → some k ≠ x := fun k hk e => by have := hxs k e.symm; omega
  exact ⟨h.bld.grown hg (fun k e => by have := hxs k e; omega), by rw [hg.block _ (by omega) (ne _ (Nat.le_refl _))]; exact h.ht, by rw [hg.block _ (by omega) (ne _ (by omega))]; exact h.he,
    h.fr.trans (BelowX.ofGrown hg (by omega)), hI, h.env.grown hg hx⟩

theorem XW.below (h : XW x I w acc wr) (hI : ∀ W W' : World, I W → Lib.OthersKept 5 (some (w.heap.size + 2)) W W' → I W') (hb : Below wr.heap.size wr w') : XW x I w acc w' := by
  have hs := h.sz
  exact ⟨h.bld.grown (grown_below hb none) (fun k e => by cases e), by rw [hb.block _ (by omega)]; exact h.ht, by rw [hb.block _ (by omega)]; exact h.he,
    h.fr.trans (BelowX.of (hb.mono (by omega))), hI _ _ h.inv (others_below hb), h.env.below hb⟩

/-- The builder is written. -/
theorem XW.write (h : XW x I w acc wr) (hI : ∀ W W' : World, I W → Lib.OthersKept 5 (some (w.heap.size + 2)) W W' → I W') (hw : Env w) (acc' : List UInt8)
    (hb : IsB (w.heap.size + 2) (w.heap.size + 2) (Lib.byteCells acc') w') (hB : Below (w.heap.size + 2) wr w') (hO : Lib.OthersKept 5 (some (w.heap.size + 2)) wr w') : XW x I w acc' w' := by
  obtain ⟨⟨m, h1⟩, ⟨t, p, h2⟩, ⟨t', p', h3⟩⟩ := h.env
  exact ⟨hb, by rw [hB.block _ (by omega)]; exact h.ht, by rw [hB.block _ (by omega)]; exact h.he, h.fr.trans (BelowX.of (hB.mono (by omega))), hI _ _ h.inv hO,
    ⟨m, (hB.cell (by have := hw.lt.1; show 0 < _; omega)).trans h1⟩, ⟨t, p, (hB.cell (by have := hw.lt.2.1; show 1 < _; omega)).trans h2⟩,
    ⟨t', p', (hB.cell (by have := hw.lt.2.2; show 2 < _; omega)).trans h3⟩⟩

/-- The first world of the loop. -/
theorem XW.start (hI : ∀ W W' : World, I W → Lib.OthersKept 5 (some (w.heap.size + 2)) W W' → I W') (hIw : I w) (hw : Env w) :
    XW x I w [] (((w.alloc (.cells #[.string ⟨#[]⟩] 9)).alloc (.cells #[.int .i64 0] 23)).alloc (.cells #[.pointer none, .slice none 0 0] 41)) := by
  have hb : Below w.heap.size w (((w.alloc (.cells #[.string ⟨#[]⟩] 9)).alloc (.cells #[.int .i64 0] 23)).alloc (.cells #[.pointer none, .slice none 0 0] 41)) :=
    (((Below.refl _ _).alloc (Nat.le_refl _) _).alloc (by simp) _).alloc (by simp; omega) _
  refine ⟨?_, ?_, ?_, BelowX.of hb, hI _ _ hIw (others_below hb), hw.below hb⟩
  · have := bld_new ((w.alloc (.cells #[.string ⟨#[]⟩] 9)).alloc (.cells #[.int .i64 0] 23))
    have e : ((w.alloc (.cells #[.string ⟨#[]⟩] 9)).alloc (.cells #[.int .i64 0] 23)).heap.size = w.heap.size + 2 := by simp
    rw [e] at this
    exact this
  · rw [Below.heap_alloc _ _ _ (by simp; omega), Below.heap_alloc _ _ _ (by simp)]
    exact heap_alloc_new _ _
  · rw [Below.heap_alloc _ _ _ (by simp)]
    have := heap_alloc_new (w.alloc (.cells #[.string ⟨#[]⟩] 9)) (.cells #[.int .i64 0] 23)
    simpa using this
end

def strLen : Value → Nat | .string b => b.size | _ => 0

/-- What expanded hands back. -/
def expV (attr : Bool) (l : List UInt8) : Value :=
  match ex attr none l with
  | some r => .tuple #[.string ⟨r.toArray⟩, .int .i64 0]
  | none => .tuple #[.string ⟨#[]⟩, .int .i64 60]
end Go.Proofs.YtfgcpkobfmcflaaGreatDoor
