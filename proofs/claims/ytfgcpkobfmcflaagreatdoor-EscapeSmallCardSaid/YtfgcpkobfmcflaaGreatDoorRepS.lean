/-
  (*strings.Replacer).build at lists of single bytes and longer texts: a table of rows of bytes.
-/
import Derived.Test.YtfgcpkobfmcflaaGreatDoorRepBR
import Derived.Laws.MakeOwn
import Derived.Laws.OwnMore
set_option linter.unusedVariables false
namespace Go.Proofs.YtfgcpkobfmcflaaGreatDoor
open Go.RowKit

/-- What a byte is replaced by. -/
def lk (ps : List (UInt8 × List UInt8)) (c : UInt8) : Option (List UInt8) := (ps.find? fun p => p.1 == c).map (·.2)

def pairList : List (UInt8 × List UInt8) → List ByteArray
  | [] => []
  | p :: ps => ⟨#[p.1]⟩ :: ⟨p.2.toArray⟩ :: pairList ps

def reps (attr : Bool) : List (UInt8 × List UInt8) :=
  [(38, [38, 97, 109, 112, 59]), (60, [38, 108, 116, 59]), (62, [38, 103, 116, 59]), (13, [38, 35, 120, 68, 59])] ++
    if attr then [(34, [38, 113, 117, 111, 116, 59]), (9, [38, 35, 120, 57, 59]), (10, [38, 35, 120, 65, 59])] else []

/-- A table's entry. -/
def Ent (wr : World) (B0 : Nat) (v : Value) : Option (List UInt8) → Prop
  | none => v = .slice none 0 0
  | some l => ∃ g cap cs fz, v = .slice (some ⟨g, 0, none⟩) l.length cap ∧ B0 ≤ g ∧ wr.heap[g]? = some (.cells cs 5 fz) ∧ ∀ k (h : k < l.length), cs[k]? = some (.int .u8 ((l[k]'h).toNat : Int))

theorem Ent.kept {wr w' : World} {B0 : Nat} {v : Value} {o : Option (List UInt8)} (h : Ent wr B0 v o) (hk : ∀ g cs fz, B0 ≤ g → wr.heap[g]? = some (.cells cs 5 fz) → w'.heap[g]? = wr.heap[g]?) : Ent w' B0 v o := by
  cases o with
  | none => exact h
  | some l =>
    obtain ⟨g, cap, cs, fz, hv, hg, hh, hc⟩ := h
    exact ⟨g, cap, cs, fz, hv, hg, (hk g cs fz hg hh).trans hh, hc⟩

theorem lk_cons (p : UInt8 × List UInt8) (qs : List (UInt8 × List UInt8)) (c : UInt8) : lk (p :: qs) c = if p.1 = c then some p.2 else lk qs c := by
  unfold lk
  by_cases h : p.1 = c
  · simp [h]
  · have : (p.1 == c) = false := by simp [h]
    simp [List.find?_cons, this, h]

theorem lk_none (qs : List (UInt8 × List UInt8)) (c : UInt8) (h : ∀ q ∈ qs, q.1 ≠ c) : lk qs c = none := by
  unfold lk
  rw [List.find?_eq_none.2 (fun q hq => by simpa using h q hq)]
  rfl

/-- The table in block b while it is built: the pairs in qs are in. -/
structure Tab (wr : World) (B0 b : Nat) (qs : List (UInt8 × List UInt8)) (tv : Value) : Prop where
  hh : ∃ cs : Array Value, wr.heap[b]? = some (.cells (cs.push tv) 106 (0, 0)) ∧ cs.size = 256 ∧ ∀ c : UInt8, ∃ v, cs[c.toNat]? = some v ∧ (v.oneCell' = true) ∧ Ent wr B0 v (lk qs c)
  own : wr.ownsRow B0 9 1 tv qs.length ((qs.reverse.map fun p => Value.string ⟨#[p.1]⟩))
  ne : tv.ownBlock ≠ some b

theorem push_last (cs : Array Value) (x y : Value) (h : cs.size = 256) : (cs.push x).setIfInBounds 256 y = cs.push y := by
  apply Array.ext_getElem?
  intro i
  rw [Array.getElem?_setIfInBounds, Array.getElem?_push, Array.getElem?_push]
  by_cases e : 256 = i
  · subst e
    rw [if_pos rfl, if_pos (by simp [h]), if_pos h.symm]
  · rw [if_neg e, if_neg (fun q => e (h.symm.trans q.symm)), if_neg (fun q => e (h.symm.trans q.symm))]

theorem push_set (cs : Array Value) (x y : Value) (k : Nat) (h : k < cs.size) : (cs.push x).setIfInBounds k y = (cs.setIfInBounds k y).push x := by
  apply Array.ext_getElem?
  intro i
  simp only [Array.getElem?_setIfInBounds, Array.getElem?_push, Array.size_setIfInBounds, Array.size_push]
  by_cases e : k = i
  · subst e
    rw [if_pos rfl, if_pos (by omega), if_neg (by omega), if_pos rfl, if_pos h]
  · rw [if_neg e, if_neg e]

theorem others_of_grown {a b : World} {row : Option Nat} {g : Nat} {cs : Array Value} {fz : Nat × Nat} {t : TypeId} (hg : a.grownBy b row) (hrow : ∀ k, row = some k → ∃ c f, a.heap[k]? = some (Obj.cells c t f)) (ht : t ≠ 5) (hh : a.heap[g]? = some (Obj.cells cs 5 fz)) :
    b.heap[g]? = a.heap[g]? := by
  refine hg.block g (Array.getElem?_eq_some_iff.1 hh).1 (fun e => ?_)
  obtain ⟨c, f, hc⟩ := hrow g e.symm
  rw [hh] at hc
  injection hc with hc
  injection hc with _ h2 _
  exact ht h2.symm

theorem own_kind {w : World} {B : Nat} {e : TypeId} {v : Value} {n : Nat} {xs : List Value} (h : w.ownsRow B e 1 v n xs) : ∀ g, v.ownBlock = some g → ∃ c fz, w.heap[g]? = some (Obj.cells c e fz) := by
  intro g hg
  rcases h.2 with ⟨rfl, _⟩ | ⟨g', cap, cur, rfl, _, hgg, _⟩
  · simp [Value.ownBlock] at hg
  · simp [Value.ownBlock] at hg
    subst hg
    exact ⟨cur, _, hgg⟩

/-- One pair more. -/
theorem Tab.step {wr w2 : World} {B0 b : Nat} {qs : List (UInt8 × List UInt8)} {tv v' : Value} {A Bk : Obj} (h : Tab wr B0 b qs tv) (hb : b < wr.heap.size) (hB : B0 ≤ wr.heap.size) (p : UInt8 × List UInt8) (s : ByteArray) (hsp : s.data.toList = p.2)
    (hown : w2.ownsRow B0 9 1 v' (qs.length + 1) ((qs.reverse.map fun p => Value.string ⟨#[p.1]⟩) ++ [.string ⟨#[p.1]⟩])) (hg : ((wr.alloc A).alloc Bk).grownBy w2 tv.ownBlock) :
    Tab ((Lib.bytesWorld (w2.setCell ⟨b, 256, none⟩ v') 5 s).setCell ⟨b, p.1.toNat, none⟩ (.slice (some ⟨w2.heap.size, 0, none⟩) s.size (grownCap (w2.setCell ⟨b, 256, none⟩ v') s.size 0 5))) B0 b (p :: qs) v' := by
  obtain ⟨⟨cs, hh, hcs, hent⟩, htv, hne⟩ := h
  have hA : ((wr.alloc A).alloc Bk).heap.size = wr.heap.size + 2 := by simp
  have old : ∀ k, k < wr.heap.size → ((wr.alloc A).alloc Bk).heap[k]? = wr.heap[k]? := fun k hk => by
    rw [Below.heap_alloc _ _ _ (by simp; omega), Below.heap_alloc _ _ _ hk]
  have hb2 : w2.heap[b]? = some (Obj.cells (cs.push tv) 106 (0, 0)) := by
    rw [hg.block b (by omega) (fun e => hne e.symm), old b hb]; exact hh
  have hv'ne : v'.ownBlock ≠ some b := by
    intro e
    obtain ⟨c, fz, hc⟩ := own_kind hown b e
    rw [hb2] at hc
    injection hc with hc
    injection hc with _ h2 _
    exact absurd h2 (by decide)
  have hs2 : b < w2.heap.size := (Array.getElem?_eq_some_iff.1 hb2).1
  have hb3 : (w2.setCell ⟨b, 256, none⟩ v').heap[b]? = some (Obj.cells (cs.push v') 106 (0, 0)) := by
    rw [heap_setCell_same w2 b 256 _ _ v' hb2, push_last cs tv v' hcs]
  have hsz3 : (w2.setCell ⟨b, 256, none⟩ v').heap.size = w2.heap.size := by simp [World.setCell]
  obtain ⟨w3, hw3⟩ : ∃ w3, w3 = w2.setCell ⟨b, 256, none⟩ v' := ⟨_, rfl⟩
  have hg3 : w2.grownBy w3 (some b) := by rw [hw3]; exact grown_set w2 b 256 v'
  rw [← hw3] at hb3 hsz3 ⊢
  have hb4 : (Lib.bytesWorld w3 5 s).heap[b]? = some (Obj.cells (cs.push v') 106 (0, 0)) := by
    rw [Lib.bytesWorld_at_old _ _ _ _ (by omega)]; exact hb3
  have hnew := Lib.bytesWorld_at_new w3 5 s
  have hgrow4 : w3.grownBy (Lib.bytesWorld w3 5 s) none := grown_below (below_bytes w3 s) none
  have hc256 : p.1.toNat < 256 := p.1.toNat_lt
  -- what holds bytes stands
  have keep : ∀ (g : Nat) (cs' : Array Value) (fz : Nat × Nat), wr.heap[g]? = some (Obj.cells cs' 5 fz) → ((Lib.bytesWorld w3 5 s).setCell ⟨b, p.1.toNat, none⟩ (.slice (some ⟨w2.heap.size, 0, none⟩) s.size (grownCap w3 s.size 0 5))).heap[g]? = wr.heap[g]? := by
    intro g cs' fz hq
    have hgl := (Array.getElem?_eq_some_iff.1 hq).1
    have hgb : g ≠ b := by
      intro e
      rw [e, hh] at hq
      injection hq with hq
      injection hq with _ h2 _
      exact absurd h2 (by decide)
    have q1 : ((wr.alloc A).alloc Bk).heap[g]? = some (Obj.cells cs' 5 fz) := (old g hgl).trans hq
    have q2 := others_of_grown (t := 9) hg (fun k hk => by
      obtain ⟨c, f, hc⟩ := own_kind htv k hk
      exact ⟨c, f, (old k (Array.getElem?_eq_some_iff.1 hc).1).trans hc⟩) (by decide) q1
    have hg2 : g < w2.heap.size := by have := hg.size; rw [hA] at this; omega
    rw [Below.heap_setCell _ _ _ _ hgb, Lib.bytesWorld_at_old _ _ _ _ (by omega), hg3.block g hg2 (fun e => hgb (Option.some.inj e)), q2, old g hgl]
  refine ⟨⟨cs.setIfInBounds p.1.toNat (.slice (some ⟨w2.heap.size, 0, none⟩) s.size (grownCap w3 s.size 0 5)), ?_, by simp [hcs], ?_⟩, ?_, hv'ne⟩
  · rw [heap_setCell_same _ b _ _ _ _ hb4, push_set cs v' _ _ (by omega)]
  · intro c
    rw [lk_cons]
    by_cases e : p.1 = c
    · rw [if_pos e]
      refine ⟨_, by rw [e, Array.getElem?_setIfInBounds, if_pos rfl, if_pos (by rw [hcs]; exact c.toNat_lt)], rfl, ?_⟩
      have hlen : s.size = p.2.length := by rw [← hsp, Lib.size_eq]
      refine ⟨w2.heap.size, _, _, _, by rw [hlen], ?_, by rw [Below.heap_setCell _ _ _ _ (by show w2.heap.size ≠ b; omega), ← hsz3]; exact hnew, ?_⟩
      · have := hg.size; rw [hA] at this; omega
      · intro k hk
        rw [bytesCells_at w3 _ s k (by rw [hsp]; exact hk), hsp]
        simp [List.getD_eq_getElem?_getD, List.getElem?_eq_getElem hk]
    · rw [if_neg e]
      obtain ⟨v, hv, h1, he⟩ := hent c
      refine ⟨v, ?_, h1, he.kept (fun g cs' fz _ hq => keep g cs' fz hq)⟩
      rw [Array.getElem?_setIfInBounds, if_neg (fun q => e (UInt8.toNat_inj.1 q))]
      exact hv
  · have k1 := hown.kept hg3 (.inr hv'ne)
    have k2 := k1.kept hgrow4 (by cases v'.ownBlock <;> simp)
    have k3 := k2.kept (grown_set _ b p.1.toNat (.slice (some ⟨w2.heap.size, 0, none⟩) s.size (grownCap w3 s.size 0 5))) (.inr hv'ne)
    simpa using k3

def emptyRow (n : Nat) : Array Value := Array.replicate n (.string ⟨#[]⟩)
def nilTab (v : Value) : Array Value := (Array.replicate 256 (.slice none 0 0)).push v

theorem make_row4 (w : World) : (Instr.makeSlice 32 (.int .i64 0) (.int .i64 4)).run Tryz.prog w = .ok (.slice (some ⟨w.heap.size, 0, none⟩) 0 4) (w.alloc (.cells (emptyRow 4) 9)) := by kernel_rfl
theorem make_row7 (w : World) : (Instr.makeSlice 32 (.int .i64 0) (.int .i64 7)).run Tryz.prog w = .ok (.slice (some ⟨w.heap.size, 0, none⟩) 0 7) (w.alloc (.cells (emptyRow 7) 9)) := by kernel_rfl
theorem setRow_last (w : World) (cs ds : Array Value) (T : TypeId) : (w.alloc (.cells cs T)).setRow w.heap.size ds = w.alloc (.cells ds T) := by
  have hh : (w.heap.push (.cells cs T)).modify w.heap.size (fun | .cells _ elem frozen => .cells ds elem frozen | o => o) = w.heap.push (.cells ds T) := by
    apply Array.ext_getElem?
    intro i
    rw [Array.getElem?_modify, Array.getElem?_push, Array.getElem?_push]
    by_cases e : w.heap.size = i
    · rw [if_pos e, if_pos e.symm, if_pos e.symm]; rfl
    · rw [if_neg e, if_neg (fun h => e h.symm), if_neg (fun h => e h.symm)]
  show ({ w with heap := (w.heap.push (.cells cs T)).modify w.heap.size (fun | .cells _ elem frozen => .cells ds elem frozen | o => o) } : World) = { w with heap := w.heap.push (.cells ds T) }
  rw [hh]

/-- What has just been made, laid over whole. -/
theorem store_over {P : Program} (w : World) (cs : Array Value) (vs : List Value) (T : TypeId) (hl : vs.length = cs.size) (h1 : ∀ v ∈ vs, v.oneCell' = true) :
    (storeCells ⟨w.heap.size, 0, none⟩ vs).run P (w.alloc (.cells cs T)) = .ok () (w.alloc (.cells vs.toArray T)) := by
  have hg : (w.alloc (.cells cs T)).heap[w.heap.size]? = some (Obj.cells cs T (0, 0)) := heap_alloc_new w _
  have h := run_storeCells_atF P w.heap.size 0 T (0, 0) vs 0 cs _ hg (Nat.le_refl _) (by omega) h1
  have h0 : cs.toList.drop (0 + 0 + vs.length) = [] := List.drop_eq_nil_of_le (by simp; omega)
  rw [h0] at h
  simp only [Nat.add_zero, List.take_zero, List.nil_append, List.append_nil] at h
  rw [setRow_last] at h
  exact h

theorem pair_at : ∀ (ps : List (UInt8 × List UInt8)) (j : Nat) (h : j < ps.length), (pairList ps)[2 * j]? = some ⟨#[(ps[j]'h).1]⟩ ∧ (pairList ps)[2 * j + 1]? = some ⟨(ps[j]'h).2.toArray⟩
  | [], j, h => by simp at h
  | p :: ps, 0, h => by simp [pairList]
  | p :: ps, j + 1, h => by
    have := pair_at ps j (by simpa using h)
    have e1 : 2 * (j + 1) = 2 * j + 1 + 1 := by omega
    have e2 : 2 * (j + 1) + 1 = 2 * j + 1 + 1 + 1 := by omega
    rw [e1]
    simpa [pairList] using this

theorem lk_drop (ps : List (UInt8 × List UInt8)) (hn : (ps.map (·.1)).Nodup) (j : Nat) (h : j < ps.length) : lk (ps.drop (j + 1)) (ps[j]'h).1 = none := by
  apply lk_none
  intro q hq e
  have h1 : (ps.drop j).map (·.1) = (ps[j]'h).1 :: (ps.drop (j + 1)).map (·.1) := by rw [List.drop_eq_getElem_cons h]; rfl
  have h2 : ((ps.drop j).map (·.1)).Nodup := by rw [List.map_drop]; exact hn.sublist (List.drop_sublist _ _)
  rw [h1, List.nodup_cons] at h2
  exact h2.1 (by rw [← e]; exact List.mem_map_of_mem hq)

theorem reps_nodup (attr : Bool) : ((reps attr).map (·.1)).Nodup := by cases attr <;> decide
theorem reps_small (attr : Bool) : ∀ p ∈ reps attr, p.2.length ≤ 6 ∧ 1 ≤ p.2.length := by cases attr <;> decide

theorem Tab.cell {wr : World} {B0 b : Nat} {qs : List (UInt8 × List UInt8)} {tv : Value} (h : Tab wr B0 b qs tv) (c : UInt8) : ∃ v, wr.cell? ⟨b, c.toNat, none⟩ = some v ∧ wr.frozen? ⟨b, c.toNat, none⟩ = false ∧ v.oneCell' = true ∧ Ent wr B0 v (lk qs c) := by
  obtain ⟨⟨cs, hh, hcs, hent⟩, _, _⟩ := h
  obtain ⟨v, hv, h1, he⟩ := hent c
  refine ⟨v, ?_, frozen_of_row _ _ _ _ _ hh, h1, he⟩
  rw [cell_of_row _ _ _ _ _ _ hh, Array.getElem?_push, if_neg (by rw [hcs]; have := c.toNat_lt; omega)]
  exact hv

theorem Tab.row {wr : World} {B0 b : Nat} {qs : List (UInt8 × List UInt8)} {tv : Value} (h : Tab wr B0 b qs tv) : wr.cell? ⟨b, 256, none⟩ = some tv ∧ wr.frozen? ⟨b, 256, none⟩ = false := by
  obtain ⟨⟨cs, hh, hcs, hent⟩, _, _⟩ := h
  refine ⟨?_, frozen_of_row _ _ _ _ _ hh⟩
  rw [cell_of_row _ _ _ _ _ _ hh, Array.getElem?_push, if_pos hcs.symm]

theorem Tab.start (w : World) (n : Nat) (hn : n ≤ 100) : Tab ((w.alloc (.cells (emptyRow n) 9)).alloc (.cells (Tryz.zeroCells106.toList.set 256 (.slice (some ⟨w.heap.size, 0, none⟩) 0 n)).toArray 106)) w.heap.size (w.heap.size + 1) [] (.slice (some ⟨w.heap.size, 0, none⟩) 0 n) := by
  have hz : Tryz.zeroCells106 = (Array.replicate 256 (Value.slice none 0 0)).push (.slice none 0 0) := by kernel_rfl
  have hset : (Tryz.zeroCells106.toList.set 256 (.slice (some ⟨w.heap.size, 0, none⟩) 0 n)).toArray = (Array.replicate 256 (Value.slice none 0 0)).push (.slice (some ⟨w.heap.size, 0, none⟩) 0 n) := by
    rw [← List.setIfInBounds_toArray, Array.toArray_toList, hz, push_last _ _ _ (by simp)]
  rw [hset]
  refine ⟨⟨Array.replicate 256 (.slice none 0 0), ?_, Array.size_replicate, ?_⟩, ⟨rfl, .inr ⟨w.heap.size, n, emptyRow n, rfl, Nat.le_refl _, ?_, Nat.zero_le _, by unfold maxLen; omega, by simp [emptyRow], by simp⟩⟩, by simp [Value.ownBlock]⟩
  · have := heap_alloc_new (w.alloc (.cells (emptyRow n) 9)) (.cells ((Array.replicate 256 (Value.slice none 0 0)).push (.slice (some ⟨w.heap.size, 0, none⟩) 0 n)) 106)
    simpa using this
  · intro c
    exact ⟨.slice none 0 0, by rw [Array.getElem?_replicate, if_pos c.toNat_lt], rfl, rfl⟩
  · rw [Below.heap_alloc _ _ _ (by simp)]
    exact heap_alloc_new w _

theorem zeroTab_one (n : Nat) (a : Nat) : ∀ v ∈ Tryz.zeroCells106.toList.set 256 (.slice (some ⟨a, 0, none⟩) 0 n), v.oneCell' = true := by
  intro v hv
  rcases List.mem_or_eq_of_mem_set hv with h | h
  · have hz : Tryz.zeroCells106 = (Array.replicate 256 (Value.slice none 0 0)).push (.slice none 0 0) := by kernel_rfl
    rw [hz] at h
    have : v = .slice none 0 0 := by
      rw [Array.mem_toList_iff, Array.mem_push, Array.mem_replicate] at h
      rcases h with ⟨_, h⟩ | h <;> exact h
    rw [this]; rfl
  · rw [h]; rfl

set_option maxRecDepth 100000 in
set_option maxHeartbeats 8000000 in
theorem build_text4 (r ob cap : Nat) (w : World) (d st : Int) (rv : Value) (hr : RB w r d st rv (.slice (some ⟨ob, 0, none⟩) 8 cap)) (hs : Strs w ob (pairList (reps false))) :
    Calls Tryz.prog 40 #[.pointer (some ⟨r, 0, none⟩)] w fun e w' => e = .returned (.iface 107 (.pointer (some ⟨w.heap.size + 1, 0, none⟩))) ∧
      (∃ tv, Tab w' w.heap.size (w.heap.size + 1) (reps false) tv) ∧ Below w.heap.size w w' := by
  have c4 := hr.c4
  have s0 := hs.cell 0 _ rfl
  have s1 := hs.cell 1 _ rfl
  have s2 := hs.cell 2 _ rfl
  have s3 := hs.cell 3 _ rfl
  have s4 := hs.cell 4 _ rfl
  have s5 := hs.cell 5 _ rfl
  have s6 := hs.cell 6 _ rfl
  have s7 := hs.cell 7 _ rfl
  have HS := Lib.hid hs
  have hmk := make_row4
  have hso := store_over (P := Tryz.prog) (w.alloc (.cells (emptyRow 4) 9)) Tryz.zeroCells106 (Tryz.zeroCells106.toList.set 256 (.slice (some ⟨w.heap.size, 0, none⟩) 0 4)) 106 (by simp) (zeroTab_one 4 _)
  have hsz1 : (w.alloc (.cells (emptyRow 4) 9)).heap.size = w.heap.size + 1 := by simp
  rw [hsz1] at hso
  clear hsz1 hr hs
  obtain ⟨i0, hi, hz0, hz1, hz2⟩ := info_parts str_info
  have q2 := bs_eql_nil
  go_enter Tryz.func40, Tryz.ntmps40
  go_wp2_with fail
  refine wp_loop_rounds 5 ?_
  rw [rounds_succ]
  go_wp2_with fail
  rw [rounds_succ]
  go_wp2_with fail
  rw [rounds_succ]
  go_wp2_with fail
  rw [rounds_succ]
  go_wp2_with fail
  rw [rounds_succ]
  go_wp2_with fail
  clear s0 s1 s2 s3 s4 s5 s6 s7 hmk hso c4
  have HT0 := Lib.hid (Tab.start w 4 (by omega))
  have HB0 : Hid (Below w.heap.size w ((w.alloc (.cells (emptyRow 4) 9)).alloc (.cells (Tryz.zeroCells106.toList.set 256 (.slice (some ⟨w.heap.size, 0, none⟩) 0 4)).toArray 106))) := Lib.hid (((Below.refl _ _).alloc (Nat.le_refl _) _).alloc (by simp) _)
  have HSL := Lib.hid HS.out.lt
  go_loopw [12] (fun v wr => ∃ (j : Nat) (z : Int) (tv : Value), v = .int .i64 z ∧ Hid (z = 2 * (j : Int) - 2) ∧ j ≤ 4 ∧ Tab wr w.heap.size (w.heap.size + 1) ((reps false).drop j) tv ∧ w.heap.size + 1 < wr.heap.size ∧ Below w.heap.size w wr) (fun v _ => (intOf v + 2).toNat)
  case atStart => exact ⟨4, _, _, rfl, rfl, Nat.le_refl _, HT0.out, by simp, HB0.out⟩
  case round =>
    obtain ⟨j, z, tv, rfl, hz, hj, htab, hbs, hb⟩ := hrel
    have HZ := hz.out
    clear hz
    cases j with
    | zero =>
      have hneg : z < 0 := by omega
      have HTB := Lib.hid htab
      have HB := Lib.hid hb
      clear HZ htab hb
      go_wp2_with fail
      go_ret
      exact ⟨rfl, ⟨tv, HTB.out⟩, HB.out⟩
    | succ j =>
      have hjl : j < (reps false).length := by show j < 4; omega
      obtain ⟨m, hm⟩ : ∃ m : Nat, m = 2 * j := ⟨_, rfl⟩
      have hzm : z = (m : Int) := by omega
      subst hzm
      obtain ⟨hp1, hp2⟩ := pair_at (reps false) j hjl
      have hlk := lk_drop (reps false) (reps_nodup false) j hjl
      have hsm := reps_small false _ (List.getElem_mem hjl)
      have hdrop : (reps false).drop j = (reps false)[j]'hjl :: (reps false).drop (j + 1) := List.drop_eq_getElem_cons hjl
      rw [← hm] at hp1 hp2
      have e1 := (hb.cell (p := ⟨ob, m, none⟩) HSL.out).trans (HS.out.cell m _ hp1)
      have e2 := (hb.cell (p := ⟨ob, m + 1, none⟩) HSL.out).trans (HS.out.cell (m + 1) _ hp2)
      generalize (reps false)[j]'hjl = p at e1 e2 hlk hsm hdrop
      obtain ⟨v0, hv0, hf0, _, hent⟩ := htab.cell p.1
      rw [hlk] at hent
      obtain rfl : v0 = .slice none 0 0 := hent
      obtain ⟨hrow, hfrow⟩ := htab.row
      have hc256 : p.1.toNat < 256 := p.1.toNat_lt
      have hm2 : m + 2 ≤ 8 := by omega
      have hfb := first_byte p.1
      have hcvb := fun (W : World) (cap : Nat) (b : Nat) (hc : W.cell? ⟨b, 0, none⟩ = some (.int .u8 p.1.toNat)) => run_convert_bytes_back (P := Tryz.prog) W 30 9 5 ⟨b, 0, none⟩ cap [p.1] Tryz.underlying30 Tryz.underlying5 Tryz.underlying9 (fun k hk => by
        obtain rfl : k = 0 := by simpa using hk
        rw [addr_add]; exact hc)
      have hq := hcvb (wr.alloc (.cells #[.int .u8 p.1.toNat] 5)) 1 wr.heap.size (by simp)
      simp only [List.length_cons, List.length_nil, Nat.zero_add] at hq
      have HD := Lib.hid hdrop
      have HZ2 := Lib.hid HZ
      have HM := Lib.hid hm
      have HTB := Lib.hid htab
      have HB := Lib.hid hb
      have HSM := Lib.hid hsm
      have hown := htab.own
      have HOWN := Lib.hid hown
      obtain ⟨ta, tn, tc, htv⟩ : ∃ ta tn tc, tv = .slice ta tn tc := by
        rcases hown.2 with ⟨hv, _⟩ | ⟨g, cap, cur, hv, _⟩
        · exact ⟨_, _, _, hv⟩
        · exact ⟨_, _, _, hv⟩
      subst htv
      clear hdrop HZ hm htab hb hsm hown hlk hp1 hp2 hcvb
      go_wp2_with (at_builtin; refine wpList_append_own _ rfl _ _ 32 rfl w.heap.size 9 i0 (.string ⟨#[]⟩) 1 16 Tryz.underlying32 hi hz0 hz1 hz2 rfl (by decide) _ _ _ rfl ((HOWN.out.alloc _).alloc _) ⟨wr.heap.size + 1, 0, none⟩ 1 1 [.string ⟨#[p.1]⟩] rfl rfl ?c1 ?c2 ?c3 ?c4 ?c5 ?_)
      case c1 =>
        intro k u hk
        match k, hk with
        | 0, hk => simp at hk; subst hk; rw [addr_add]; simp
      case c2 => intro u hu; simp at hu; subst hu; rfl
      case c3 => simp only [List.length_drop]; unfold maxLen; have : (reps false).length = 4 := rfl; omega
      case c4 => simp only [List.length_drop]; have : (reps false).length = 4 := rfl; omega
      case c5 => have := HB.out.size; simp; omega
      intro v' w2 hown' hgrow _
      have hstep := Tab.step HTB.out hbs (by omega) p ⟨p.2.toArray⟩ (by simp) (by simpa using hown') hgrow
      have hb2' : Below w.heap.size w w2 := ((HB.out.alloc HB.out.size _).alloc (by have := HB.out.size; simp; omega) _).grown hgrow (by have := HB.out.size; simp; omega) (fun k hk => (HOWN.out.lt k hk).1)
      obtain ⟨x1, hx1, hy1, hsz2⟩ : ∃ x1, w2.cell? ⟨w.heap.size + 1, 256, none⟩ = some x1 ∧ w2.frozen? ⟨w.heap.size + 1, 256, none⟩ = false ∧ wr.heap.size + 2 ≤ w2.heap.size := by
        obtain ⟨⟨cs, hh, hcs, _⟩, _, hne⟩ := HTB.out
        have e2 : w2.heap[w.heap.size + 1]? = some (Obj.cells (cs.push (.slice ta tn tc)) 106 (0, 0)) := by
          rw [hgrow.block _ (by simp; omega) (fun e => hne e.symm), Below.heap_alloc _ _ _ (by simp; omega), Below.heap_alloc _ _ _ hbs]; exact hh
        exact ⟨_, by rw [cell_of_row _ _ _ _ _ _ e2, Array.getElem?_push, if_pos hcs.symm], frozen_of_row _ _ _ _ _ e2, by have := hgrow.size; simpa using this⟩
      obtain ⟨x2, hx2, hy2⟩ : ∃ x2, (Lib.bytesWorld (w2.setCell ⟨w.heap.size + 1, 256, none⟩ v') 5 ⟨p.2.toArray⟩).cell? ⟨w.heap.size + 1, p.1.toNat, none⟩ = some x2 ∧ (Lib.bytesWorld (w2.setCell ⟨w.heap.size + 1, 256, none⟩ v') 5 ⟨p.2.toArray⟩).frozen? ⟨w.heap.size + 1, p.1.toNat, none⟩ = false := by
        obtain ⟨⟨cs, hh, hcs, _⟩, _, hne⟩ := HTB.out
        have e2 : w2.heap[w.heap.size + 1]? = some (Obj.cells (cs.push (.slice ta tn tc)) 106 (0, 0)) := by
          rw [hgrow.block _ (by simp; omega) (fun e => hne e.symm), Below.heap_alloc _ _ _ (by simp; omega), Below.heap_alloc _ _ _ hbs]; exact hh
        have e3 := heap_setCell_same w2 (w.heap.size + 1) 256 _ _ v' e2
        have e4 : (Lib.bytesWorld (w2.setCell ⟨w.heap.size + 1, 256, none⟩ v') 5 ⟨p.2.toArray⟩).heap[w.heap.size + 1]? = _ := (Lib.bytesWorld_at_old _ _ _ _ (Array.getElem?_eq_some_iff.1 e3).1).trans e3
        have hsz5 : p.1.toNat < ((cs.push (Value.slice ta tn tc)).setIfInBounds 256 v').size := by simp [hcs]; omega
        exact ⟨_, by rw [cell_of_row _ _ _ _ _ _ e4, Array.getElem?_eq_getElem hsz5], frozen_of_row _ _ _ _ _ e4⟩
      obtain ⟨va, vn, vc, hvv⟩ : ∃ va vn vc, v' = .slice va vn vc := by
        rcases hown'.2 with ⟨hv, _⟩ | ⟨g, cap, cur, hv, _⟩
        · exact ⟨_, _, _, hv⟩
        · exact ⟨_, _, _, hv⟩
      subst hvv
      have hcw := Lib.run_convert_string_bytes (P := Tryz.prog) (w2.setCell ⟨w.heap.size + 1, 256, none⟩ (.slice va vn vc)) 9 30 5 ⟨p.2.toArray⟩ (u := .string) Tryz.underlying9 Tryz.underlying30 Tryz.underlying5
      have hszs : (w2.setCell ⟨w.heap.size + 1, 256, none⟩ (.slice va vn vc)).heap.size = w2.heap.size := by simp [World.setCell]
      rw [hszs] at hcw
      have HST := Lib.hid hstep
      have HB2 := Lib.hid hb2'
      have HSZ := Lib.hid hszs
      clear hown' hgrow hstep hb2' hszs
      obtain ⟨W4, hW4⟩ : ∃ W4, W4 = Lib.bytesWorld (w2.setCell ⟨w.heap.size + 1, 256, none⟩ (.slice va vn vc)) 5 ⟨p.2.toArray⟩ := ⟨_, rfl⟩
      have hb4 : Below w.heap.size w W4 := by
        rw [hW4]
        exact (HB2.out.setCell (p := ⟨w.heap.size + 1, 256, none⟩) (Nat.le_succ _) _).trans ((below_bytes _ _).mono (by rw [HSZ.out]; exact HB2.out.size))
      have hs4 : w2.heap.size + 1 = W4.heap.size := by rw [hW4, Lib.bytesWorld_size, HSZ.out]
      rw [← hW4] at hcw hx2 hy2
      have HST2 := Lib.hid HST.out
      rw [← hW4] at HST2
      clear HST hW4
      have HB4 := Lib.hid hb4
      have HS4 := Lib.hid hs4
      clear hb4 hs4
      go_wp2_with fail
      refine ⟨⟨j, (m : Int) - 2, .slice va vn vc, rfl, ?_, by omega, ?_, ?_, HB4.out.setCell (p := ⟨w.heap.size + 1, p.1.toNat, none⟩) (Nat.le_succ _) _⟩, ?_⟩
      · have h1 := HM.out
        have h2 : (m : Int) - 2 = 2 * (j : Int) - 2 := by omega
        exact h2
      · rw [HD.out]
        exact HST2.out
      · have h1 := HS4.out
        simp [World.setCell]
        omega
      · have h1 := HM.out
        simp [intOf]
        omega

set_option maxRecDepth 100000 in
set_option maxHeartbeats 8000000 in
theorem build_text7 (r ob cap : Nat) (w : World) (d st : Int) (rv : Value) (hr : RB w r d st rv (.slice (some ⟨ob, 0, none⟩) 14 cap)) (hs : Strs w ob (pairList (reps true))) :
    Calls Tryz.prog 40 #[.pointer (some ⟨r, 0, none⟩)] w fun e w' => e = .returned (.iface 107 (.pointer (some ⟨w.heap.size + 1, 0, none⟩))) ∧
      (∃ tv, Tab w' w.heap.size (w.heap.size + 1) (reps true) tv) ∧ Below w.heap.size w w' := by
  have c4 := hr.c4
  have s0 := hs.cell 0 _ rfl
  have s1 := hs.cell 1 _ rfl
  have s2 := hs.cell 2 _ rfl
  have s3 := hs.cell 3 _ rfl
  have s4 := hs.cell 4 _ rfl
  have s5 := hs.cell 5 _ rfl
  have s6 := hs.cell 6 _ rfl
  have s7 := hs.cell 7 _ rfl
  have s8 := hs.cell 8 _ rfl
  have s9 := hs.cell 9 _ rfl
  have s10 := hs.cell 10 _ rfl
  have s11 := hs.cell 11 _ rfl
  have s12 := hs.cell 12 _ rfl
  have s13 := hs.cell 13 _ rfl
  have HS := Lib.hid hs
  have hmk := make_row7
  have hso := store_over (P := Tryz.prog) (w.alloc (.cells (emptyRow 7) 9)) Tryz.zeroCells106 (Tryz.zeroCells106.toList.set 256 (.slice (some ⟨w.heap.size, 0, none⟩) 0 7)) 106 (by simp) (zeroTab_one 7 _)
  have hsz1 : (w.alloc (.cells (emptyRow 7) 9)).heap.size = w.heap.size + 1 := by simp
  rw [hsz1] at hso
  clear hsz1 hr hs
  obtain ⟨i0, hi, hz0, hz1, hz2⟩ := info_parts str_info
  have q2 := bs_eql_nil
  go_enter Tryz.func40, Tryz.ntmps40
  go_wp2_with fail
  refine wp_loop_rounds 8 ?_
  rw [rounds_succ]
  go_wp2_with fail
  rw [rounds_succ]
  go_wp2_with fail
  rw [rounds_succ]
  go_wp2_with fail
  rw [rounds_succ]
  go_wp2_with fail
  rw [rounds_succ]
  go_wp2_with fail
  rw [rounds_succ]
  go_wp2_with fail
  rw [rounds_succ]
  go_wp2_with fail
  rw [rounds_succ]
  go_wp2_with fail
  clear s0 s1 s2 s3 s4 s5 s6 s7 s8 s9 s10 s11 s12 s13 hmk hso c4
  have HT0 := Lib.hid (Tab.start w 7 (by omega))
  have HB0 : Hid (Below w.heap.size w ((w.alloc (.cells (emptyRow 7) 9)).alloc (.cells (Tryz.zeroCells106.toList.set 256 (.slice (some ⟨w.heap.size, 0, none⟩) 0 7)).toArray 106))) := Lib.hid (((Below.refl _ _).alloc (Nat.le_refl _) _).alloc (by simp) _)
  have HSL := Lib.hid HS.out.lt
  go_loopw [12] (fun v wr => ∃ (j : Nat) (z : Int) (tv : Value), v = .int .i64 z ∧ Hid (z = 2 * (j : Int) - 2) ∧ j ≤ 7 ∧ Tab wr w.heap.size (w.heap.size + 1) ((reps true).drop j) tv ∧ w.heap.size + 1 < wr.heap.size ∧ Below w.heap.size w wr) (fun v _ => (intOf v + 2).toNat)
  case atStart => exact ⟨7, _, _, rfl, rfl, Nat.le_refl _, HT0.out, by simp, HB0.out⟩
  case round =>
    obtain ⟨j, z, tv, rfl, hz, hj, htab, hbs, hb⟩ := hrel
    have HZ := hz.out
    clear hz
    cases j with
    | zero =>
      have hneg : z < 0 := by omega
      have HTB := Lib.hid htab
      have HB := Lib.hid hb
      clear HZ htab hb
      go_wp2_with fail
      go_ret
      exact ⟨rfl, ⟨tv, HTB.out⟩, HB.out⟩
    | succ j =>
      have hjl : j < (reps true).length := by show j < 7; omega
      obtain ⟨m, hm⟩ : ∃ m : Nat, m = 2 * j := ⟨_, rfl⟩
      have hzm : z = (m : Int) := by omega
      subst hzm
      obtain ⟨hp1, hp2⟩ := pair_at (reps true) j hjl
      have hlk := lk_drop (reps true) (reps_nodup true) j hjl
      have hsm := reps_small true _ (List.getElem_mem hjl)
      have hdrop : (reps true).drop j = (reps true)[j]'hjl :: (reps true).drop (j + 1) := List.drop_eq_getElem_cons hjl
      rw [← hm] at hp1 hp2
      have e1 := (hb.cell (p := ⟨ob, m, none⟩) HSL.out).trans (HS.out.cell m _ hp1)
      have e2 := (hb.cell (p := ⟨ob, m + 1, none⟩) HSL.out).trans (HS.out.cell (m + 1) _ hp2)
      generalize (reps true)[j]'hjl = p at e1 e2 hlk hsm hdrop
      obtain ⟨v0, hv0, hf0, _, hent⟩ := htab.cell p.1
      rw [hlk] at hent
      obtain rfl : v0 = .slice none 0 0 := hent
      obtain ⟨hrow, hfrow⟩ := htab.row
      have hc256 : p.1.toNat < 256 := p.1.toNat_lt
      have hm2 : m + 2 ≤ 14 := by omega
      have hfb := first_byte p.1
      have hcvb := fun (W : World) (cap : Nat) (b : Nat) (hc : W.cell? ⟨b, 0, none⟩ = some (.int .u8 p.1.toNat)) => run_convert_bytes_back (P := Tryz.prog) W 30 9 5 ⟨b, 0, none⟩ cap [p.1] Tryz.underlying30 Tryz.underlying5 Tryz.underlying9 (fun k hk => by
        obtain rfl : k = 0 := by simpa using hk
        rw [addr_add]; exact hc)
      have hq := hcvb (wr.alloc (.cells #[.int .u8 p.1.toNat] 5)) 1 wr.heap.size (by simp)
      simp only [List.length_cons, List.length_nil, Nat.zero_add] at hq
      have HD := Lib.hid hdrop
      have HZ2 := Lib.hid HZ
      have HM := Lib.hid hm
      have HTB := Lib.hid htab
      have HB := Lib.hid hb
      have HSM := Lib.hid hsm
      have hown := htab.own
      have HOWN := Lib.hid hown
      obtain ⟨ta, tn, tc, htv⟩ : ∃ ta tn tc, tv = .slice ta tn tc := by
        rcases hown.2 with ⟨hv, _⟩ | ⟨g, cap, cur, hv, _⟩
        · exact ⟨_, _, _, hv⟩
        · exact ⟨_, _, _, hv⟩
      subst htv
      clear hdrop HZ hm htab hb hsm hown hlk hp1 hp2 hcvb
      go_wp2_with (at_builtin; refine wpList_append_own _ rfl _ _ 32 rfl w.heap.size 9 i0 (.string ⟨#[]⟩) 1 16 Tryz.underlying32 hi hz0 hz1 hz2 rfl (by decide) _ _ _ rfl ((HOWN.out.alloc _).alloc _) ⟨wr.heap.size + 1, 0, none⟩ 1 1 [.string ⟨#[p.1]⟩] rfl rfl ?c1 ?c2 ?c3 ?c4 ?c5 ?_)
      case c1 =>
        intro k u hk
        match k, hk with
        | 0, hk => simp at hk; subst hk; rw [addr_add]; simp
      case c2 => intro u hu; simp at hu; subst hu; rfl
      case c3 => simp only [List.length_drop]; unfold maxLen; have : (reps true).length = 7 := rfl; omega
      case c4 => simp only [List.length_drop]; have : (reps true).length = 7 := rfl; omega
      case c5 => have := HB.out.size; simp; omega
      intro v' w2 hown' hgrow _
      have hstep := Tab.step HTB.out hbs (by omega) p ⟨p.2.toArray⟩ (by simp) (by simpa using hown') hgrow
      have hb2' : Below w.heap.size w w2 := ((HB.out.alloc HB.out.size _).alloc (by have := HB.out.size; simp; omega) _).grown hgrow (by have := HB.out.size; simp; omega) (fun k hk => (HOWN.out.lt k hk).1)
      obtain ⟨x1, hx1, hy1, hsz2⟩ : ∃ x1, w2.cell? ⟨w.heap.size + 1, 256, none⟩ = some x1 ∧ w2.frozen? ⟨w.heap.size + 1, 256, none⟩ = false ∧ wr.heap.size + 2 ≤ w2.heap.size := by
        obtain ⟨⟨cs, hh, hcs, _⟩, _, hne⟩ := HTB.out
        have e2 : w2.heap[w.heap.size + 1]? = some (Obj.cells (cs.push (.slice ta tn tc)) 106 (0, 0)) := by
          rw [hgrow.block _ (by simp; omega) (fun e => hne e.symm), Below.heap_alloc _ _ _ (by simp; omega), Below.heap_alloc _ _ _ hbs]; exact hh
        exact ⟨_, by rw [cell_of_row _ _ _ _ _ _ e2, Array.getElem?_push, if_pos hcs.symm], frozen_of_row _ _ _ _ _ e2, by have := hgrow.size; simpa using this⟩
      obtain ⟨x2, hx2, hy2⟩ : ∃ x2, (Lib.bytesWorld (w2.setCell ⟨w.heap.size + 1, 256, none⟩ v') 5 ⟨p.2.toArray⟩).cell? ⟨w.heap.size + 1, p.1.toNat, none⟩ = some x2 ∧ (Lib.bytesWorld (w2.setCell ⟨w.heap.size + 1, 256, none⟩ v') 5 ⟨p.2.toArray⟩).frozen? ⟨w.heap.size + 1, p.1.toNat, none⟩ = false := by
        obtain ⟨⟨cs, hh, hcs, _⟩, _, hne⟩ := HTB.out
        have e2 : w2.heap[w.heap.size + 1]? = some (Obj.cells (cs.push (.slice ta tn tc)) 106 (0, 0)) := by
          rw [hgrow.block _ (by simp; omega) (fun e => hne e.symm), Below.heap_alloc _ _ _ (by simp; omega), Below.heap_alloc _ _ _ hbs]; exact hh
        have e3 := heap_setCell_same w2 (w.heap.size + 1) 256 _ _ v' e2
        have e4 : (Lib.bytesWorld (w2.setCell ⟨w.heap.size + 1, 256, none⟩ v') 5 ⟨p.2.toArray⟩).heap[w.heap.size + 1]? = _ := (Lib.bytesWorld_at_old _ _ _ _ (Array.getElem?_eq_some_iff.1 e3).1).trans e3
        have hsz5 : p.1.toNat < ((cs.push (Value.slice ta tn tc)).setIfInBounds 256 v').size := by simp [hcs]; omega
        exact ⟨_, by rw [cell_of_row _ _ _ _ _ _ e4, Array.getElem?_eq_getElem hsz5], frozen_of_row _ _ _ _ _ e4⟩
      obtain ⟨va, vn, vc, hvv⟩ : ∃ va vn vc, v' = .slice va vn vc := by
        rcases hown'.2 with ⟨hv, _⟩ | ⟨g, cap, cur, hv, _⟩
        · exact ⟨_, _, _, hv⟩
        · exact ⟨_, _, _, hv⟩
      subst hvv
      have hcw := Lib.run_convert_string_bytes (P := Tryz.prog) (w2.setCell ⟨w.heap.size + 1, 256, none⟩ (.slice va vn vc)) 9 30 5 ⟨p.2.toArray⟩ (u := .string) Tryz.underlying9 Tryz.underlying30 Tryz.underlying5
      have hszs : (w2.setCell ⟨w.heap.size + 1, 256, none⟩ (.slice va vn vc)).heap.size = w2.heap.size := by simp [World.setCell]
      rw [hszs] at hcw
      have HST := Lib.hid hstep
      have HB2 := Lib.hid hb2'
      have HSZ := Lib.hid hszs
      clear hown' hgrow hstep hb2' hszs
      obtain ⟨W4, hW4⟩ : ∃ W4, W4 = Lib.bytesWorld (w2.setCell ⟨w.heap.size + 1, 256, none⟩ (.slice va vn vc)) 5 ⟨p.2.toArray⟩ := ⟨_, rfl⟩
      have hb4 : Below w.heap.size w W4 := by
        rw [hW4]
        exact (HB2.out.setCell (p := ⟨w.heap.size + 1, 256, none⟩) (Nat.le_succ _) _).trans ((below_bytes _ _).mono (by rw [HSZ.out]; exact HB2.out.size))
      have hs4 : w2.heap.size + 1 = W4.heap.size := by rw [hW4, Lib.bytesWorld_size, HSZ.out]
      rw [← hW4] at hcw hx2 hy2
      have HST2 := Lib.hid HST.out
      rw [← hW4] at HST2
      clear HST hW4
      have HB4 := Lib.hid hb4
      have HS4 := Lib.hid hs4
      clear hb4 hs4
      go_wp2_with fail
      refine ⟨⟨j, (m : Int) - 2, .slice va vn vc, rfl, ?_, by omega, ?_, ?_, HB4.out.setCell (p := ⟨w.heap.size + 1, p.1.toNat, none⟩) (Nat.le_succ _) _⟩, ?_⟩
      · have h1 := HM.out
        have h2 : (m : Int) - 2 = 2 * (j : Int) - 2 := by omega
        exact h2
      · rw [HD.out]
        exact HST2.out
      · have h1 := HS4.out
        simp [World.setCell]
        omega
      · have h1 := HM.out
        simp [intOf]
        omega

end Go.Proofs.YtfgcpkobfmcflaaGreatDoor
