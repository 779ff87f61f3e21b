/-
  Plain words for package escape: what its functions compute, over lists of bytes. No program.
-/
import Derived.Test.YtfgcpkobfmcflaaGreatDoorGlyA
import Derived.Lib.IndexMore
import Derived.Lib.Strings
import GoSem.Core.Utf8
namespace Go.Proofs.YtfgcpkobfmcflaaGreatDoor

def split1 (c : UInt8) : List UInt8 → Option (List UInt8 × List UInt8)
  | [] => none
  | x :: l => if x = c then some ([], l) else (split1 c l).map fun p => (x :: p.1, p.2)

theorem index_one (c : UInt8) : ∀ l : List UInt8, Lib.index l [c] = match split1 c l with | some p => (p.1.length : Int) | none => -1
  | [] => by simp [Lib.index, split1]
  | x :: l => by
    have ih := index_one c l
    simp only [Lib.index, split1]
    by_cases h : x = c
    · subst h; simp [List.isPrefixOf]
    · have h' : ¬ c = x := fun e => h e.symm
      rw [if_neg h]
      simp only [List.isPrefixOf, beq_iff_eq, h', Bool.and_true]
      rw [ih]
      cases split1 c l with
      | none => simp
      | some p =>
        simp

theorem split1_take (c : UInt8) : ∀ l p, split1 c l = some p → l = p.1 ++ c :: p.2
  | [], p, h => by simp [split1] at h
  | x :: l, p, h => by
    simp only [split1] at h
    by_cases hx : x = c
    · rw [if_pos hx] at h; cases h; simp [hx]
    · rw [if_neg hx] at h
      cases hs : split1 c l with
      | none => simp [hs] at h
      | some q =>
        have := split1_take c l q hs
        simp [hs] at h
        subst h
        simp [this]

theorem cut_one (c : UInt8) (l : List UInt8) : Lib.cut l [c] = match split1 c l with | some p => (p.1, p.2, true) | none => (l, [], false) := by
  unfold Lib.cut
  rw [index_one]
  cases h : split1 c l with
  | none => simp
  | some p =>
    have := split1_take c l p h
    subst this
    simp

/-- The worth of a hexadecimal digit. -/
def hexv (c : UInt8) : Option Nat :=
  if 48 ≤ c.toNat ∧ c.toNat ≤ 57 then some (c.toNat - 48)
  else if 97 ≤ c.toNat ∧ c.toNat ≤ 102 then some (c.toNat - 87)
  else if 65 ≤ c.toNat ∧ c.toNat ≤ 70 then some (c.toNat - 55)
  else none

def digv (base : Nat) (c : UInt8) : Option Nat := (hexv c).bind fun d => if d < base then some d else none

/-- The number that digits tell, on top of what came ahead of them. -/
def numv (base : Nat) : Nat → List UInt8 → Option Nat
  | acc, [] => some acc
  | acc, c :: l => (digv base c).bind fun d => numv base (acc * base + d) l

def isHex (l : List UInt8) : Bool := l.all fun c => (hexv c).isSome

/-- The character that digits tell. -/
def charOf (base : Nat) (l : List UInt8) : Option (List UInt8) :=
  if l = [] then none else (numv base 0 l).bind fun v => if isChar (v : Int) then some (Utf8.encode v).data.toList else none

def hashL : List UInt8 → Option (List UInt8)
  | 35 :: 120 :: t => charOf 16 t
  | 35 :: t => charOf 10 t
  | _ => none

/-- What a reference is. -/
def namedL (l : List UInt8) : Option (List UInt8) :=
  if l = [108, 116] then some [60]
  else if l = [103, 116] then some [62]
  else if l = [97, 109, 112] then some [38]
  else if l = [113, 117, 111, 116] then some [34]
  else if l = [97, 112, 111, 115] then some [39]
  else hashL l

def flat (attr : Bool) (c : UInt8) : UInt8 := if attr && (c == 9 || c == 10 || c == 13) then 32 else c

/-- A text without references: 'none' in the first place: not in a reference; 'some nm': in one, whose name has begun so. -/
def ex (attr : Bool) : Option (List UInt8) → List UInt8 → Option (List UInt8)
  | none, [] => some []
  | some _, [] => none
  | none, x :: l => if x = 38 then ex attr (some []) l else (ex attr none l).map (flat attr x :: ·)
  | some nm, x :: l => if x = 59 then (namedL nm).bind fun t => (ex attr none l).map (t ++ ·) else ex attr (some (nm ++ [x])) l

theorem ex_split (attr : Bool) : ∀ l, ex attr none l = match split1 38 l with | some p => (ex attr (some []) p.2).map (p.1.map (flat attr) ++ ·) | none => some (l.map (flat attr))
  | [] => by simp [ex, split1]
  | x :: l => by
    have ih := ex_split attr l
    simp only [ex, split1]
    by_cases h : x = 38
    · simp [h]
    · rw [if_neg h, if_neg h, ih]
      cases split1 38 l with
      | none => simp
      | some p =>
        simp only [Option.map_some, Option.map_map]
        congr 1

theorem ex_name (attr : Bool) : ∀ (l nm : List UInt8), ex attr (some nm) l = match split1 59 l with | some p => (namedL (nm ++ p.1)).bind fun t => (ex attr none p.2).map (t ++ ·) | none => none
  | [], nm => by simp [ex, split1]
  | x :: l, nm => by
    have ih := ex_name attr l (nm ++ [x])
    simp only [ex, split1]
    by_cases h : x = 59
    · simp [h]
    · rw [if_neg h, if_neg h, ih]
      cases split1 59 l with
      | none => simp
      | some p => simp

/-- A byte with a reference in its place, where it needs one. -/
def escB (attr : Bool) (c : UInt8) : List UInt8 :=
  if c = 38 then [38, 97, 109, 112, 59]
  else if c = 60 then [38, 108, 116, 59]
  else if c = 62 then [38, 103, 116, 59]
  else if c = 13 then [38, 35, 120, 68, 59]
  else if attr && c == 34 then [38, 113, 117, 111, 116, 59]
  else if attr && c == 9 then [38, 35, 120, 57, 59]
  else if attr && c == 10 then [38, 35, 120, 65, 59]
  else [c]

def escL (attr : Bool) (l : List UInt8) : List UInt8 := l.flatMap (escB attr)

theorem ex_append (attr : Bool) : ∀ (l m : List UInt8) (p : Option (List UInt8)) (a : List UInt8), ex attr p l = some a → ex attr p (l ++ m) = (ex attr none m).map (a ++ ·)
  | [], m, none, a, h => by simp [ex] at h; subst h; simp
  | [], m, some _, a, h => by simp [ex] at h
  | x :: l, m, none, a, h => by
    simp only [ex, List.cons_append] at h ⊢
    by_cases hx : x = 38
    · rw [if_pos hx] at h ⊢; exact ex_append attr l m _ a h
    · rw [if_neg hx] at h ⊢
      cases hs : ex attr none l with
      | none => simp [hs] at h
      | some b =>
        simp [hs] at h
        subst h
        rw [ex_append attr l m none b hs]
        cases ex attr none m <;> simp
  | x :: l, m, some nm, a, h => by
    simp only [ex, List.cons_append] at h ⊢
    by_cases hx : x = 59
    · rw [if_pos hx] at h ⊢
      cases hn : namedL nm with
      | none => simp [hn] at h
      | some t =>
        cases hs : ex attr none l with
        | none => simp [hn, hs] at h
        | some b =>
          simp [hn, hs] at h
          subst h
          rw [ex_append attr l m none b hs]
          cases ex attr none m <;> simp
    · rw [if_neg hx] at h ⊢; exact ex_append attr l m _ a h

theorem ex_none_iff : ∀ (l : List UInt8) (p : Option (List UInt8)), (ex false p l).isSome = (ex true p l).isSome
  | [], none => rfl
  | [], some _ => rfl
  | x :: l, none => by
    simp only [ex]
    split
    · exact ex_none_iff l _
    · simpa using ex_none_iff l none
  | x :: l, some nm => by
    simp only [ex]
    split
    · cases namedL nm with
      | none => rfl
      | some t => simpa using ex_none_iff l none
    · exact ex_none_iff l _

#print axioms ex_append
end Go.Proofs.YtfgcpkobfmcflaaGreatDoor
