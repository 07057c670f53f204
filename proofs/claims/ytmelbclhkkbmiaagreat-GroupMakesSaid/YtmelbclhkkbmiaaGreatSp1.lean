/- What writers, readers and frames answer, in plain Lean. No condition beyond those that each theorem names. -/
import Derived.Test.YtmelbclhkkbmiaaGreatSp0
set_option linter.unusedVariables false
set_option linter.unusedSimpArgs false
namespace Go.Proofs.YtmelbclhkkbmiaaGreat.K
open Go Go.RowKit

/-! ### Numbers written and read -/
def be4 (x : UInt32) : List UInt8 := [(x >>> 24).toUInt8, (x >>> 16).toUInt8, (x >>> 8).toUInt8, x.toUInt8]
def rd4 (l : List UInt8) : UInt32 := l.foldl (fun n c => (n <<< 8) ||| c.toUInt32) 0
theorem rd4_snoc (l : List UInt8) (c : UInt8) : rd4 (l ++ [c]) = (rd4 l <<< 8) ||| c.toUInt32 := by simp [rd4]
/-- A reader: what is left, and whether bytes were missing. -/
def tkV (n : Nat) (b : List UInt8) (bad : Bool) : List UInt8 := if bad = true then [] else if b.length < n then [] else b.take n
def tkB (n : Nat) (b : List UInt8) (bad : Bool) : List UInt8 := if bad = true then b else if b.length < n then [] else b.drop n
def tkF (n : Nat) (b : List UInt8) (bad : Bool) : Bool := bad || decide (b.length < n)
theorem tkV_len (n : Nat) (b : List UInt8) (bad : Bool) : (tkV n b bad).length ≤ b.length := by unfold tkV; split <;> (try split) <;> simp; omega
theorem tkB_len (n : Nat) (b : List UInt8) (bad : Bool) : (tkB n b bad).length ≤ b.length := by unfold tkB; split <;> (try split) <;> simp
/-- The same of a reader as one value. -/
def rdB (n : Nat) (s : List UInt8 × Bool) : List UInt8 × Bool := (tkB n s.1 s.2, tkF n s.1 s.2)
def rdV (n : Nat) (s : List UInt8 × Bool) : List UInt8 := tkV n s.1 s.2
theorem rdV_len (n : Nat) (s : List UInt8 × Bool) : (rdV n s).length ≤ s.1.length := tkV_len n s.1 s.2
theorem rdB_len (n : Nat) (s : List UInt8 × Bool) : (rdB n s).1.length ≤ s.1.length := tkB_len n s.1 s.2
def u8at (l : List UInt8) : UInt8 := l.headD 0
/-! ### Frames -/
def roomOf (k : Int) : Nat := if k = 6 then 79 else 64
def uCheck (u : AUnit) : Int :=
  if u.label < 1 ∨ u.label > 2147483647 ∨ u.number < 0 ∨ u.number > 2147483647 then 1
  else if 1 ≤ u.kind ∧ u.kind ≤ 6 then (if u.load.length > roomOf u.kind then 4 else 0) else 1
def fHead (u : AUnit) : List UInt8 := (([b8 u.kind] ++ be4 (b32 u.label)) ++ be4 (b32 u.number)) ++ [b8 ((u.load.length : Int) / 2 ^ 8)] ++ [b8 (u.load.length : Int)]
def fBody (u : AUnit) : List UInt8 := fHead u ++ (u.load ++ (List.replicate (roomOf u.kind) (0 : UInt8)).drop u.load.length)
def fMade (u : AUnit) : List UInt8 := fBody u ++ be4 (b32 ((crc (fBody u)).toNat : Int))
@[simp] theorem be4_len (x : UInt32) : (be4 x).length = 4 := rfl
@[simp] theorem fHead_len (u : AUnit) : (fHead u).length = 11 := rfl
theorem fBody_len (u : AUnit) (h : u.load.length ≤ roomOf u.kind) : (fBody u).length = 11 + roomOf u.kind := by
  simp only [fBody, List.length_append, fHead_len, List.length_drop, List.length_replicate]; omega
theorem fMade_len (u : AUnit) (h : u.load.length ≤ roomOf u.kind) : (fMade u).length = 15 + roomOf u.kind := by
  simp only [fMade, List.length_append, fBody_len u h, be4_len]; omega
theorem roomOf_le (k : Int) : roomOf k ≤ 79 := by unfold roomOf; split <;> omega
theorem room_of (k : Int) : (if k = 6 then (79 : Int) else 64) = (roomOf k : Int) := by unfold roomOf; split <;> rfl
theorem uCheck_le {u : AUnit} (h : uCheck u = 0) : u.load.length ≤ roomOf u.kind := by
  unfold uCheck at h
  split at h
  · cases h
  · split at h
    · split at h
      · cases h
      · omega
    · cases h
/-- A frame read. -/
def fRead (b : List UInt8) : AUnit × Bool :=
  let s1 := rdB 1 (b, false)
  let s2 := rdB 4 s1
  let s3 := rdB 4 s2
  let s4 := rdB 1 s3
  let s5 := rdB 1 s4
  let n := (u8at (rdV 1 s3)).toNat * 256 + (u8at (rdV 1 s4)).toNat
  (⟨((u8at (rdV 1 (b, false))).toNat : Int), ((rd4 (rdV 4 s1)).toNat : Int), ((rd4 (rdV 4 s2)).toNat : Int), rdV n s5⟩, (rdB n s5).2)
def uZero : AUnit := ⟨0, 0, 0, []⟩
def fGet (b : List UInt8) : AUnit × Int := if (fRead b).2 = true ∨ uCheck (fRead b).1 ≠ 0 ∨ ¬ (b = fMade (fRead b).1) then (uZero, 2) else ((fRead b).1, 0)
theorem fGet_bad {b : List UInt8} (h : ((fRead b).2 = true ∨ ¬ uCheck (fRead b).1 = 0) ∨ ¬ b = fMade (fRead b).1) : fGet b = (uZero, 2) := by
  rw [fGet, if_pos (by rcases h with (h | h) | h; exact .inl h; exact .inr (.inl h); exact .inr (.inr h))]
theorem fGet_ok {b : List UInt8} (h : ((fRead b).2 = false ∧ uCheck (fRead b).1 = 0) ∧ b = fMade (fRead b).1) : fGet b = ((fRead b).1, 0) := by
  rw [fGet, if_neg (by rintro (h1 | h1 | h1); rw [h.1.1] at h1; cases h1; exact h1 h.1.2; exact h1 h.2)]
theorem rdB_l2 {n m : Nat} (s : List UInt8 × Bool) : (rdB n (rdB m s)).1.length ≤ s.1.length := Nat.le_trans (rdB_len _ _) (rdB_len _ _)
theorem rdB_l3 {n m k : Nat} (s : List UInt8 × Bool) : (rdB n (rdB m (rdB k s))).1.length ≤ s.1.length := Nat.le_trans (rdB_len _ _) (rdB_l2 _)
theorem rdB_l4 {n m k l : Nat} (s : List UInt8 × Bool) : (rdB n (rdB m (rdB k (rdB l s)))).1.length ≤ s.1.length := Nat.le_trans (rdB_len _ _) (rdB_l3 _)
theorem rdB_l5 {n m k l i : Nat} (s : List UInt8 × Bool) : (rdB n (rdB m (rdB k (rdB l (rdB i s))))).1.length ≤ s.1.length := Nat.le_trans (rdB_len _ _) (rdB_l4 _)
theorem rdB_l6 {n m k l i j : Nat} (s : List UInt8 × Bool) : (rdB n (rdB m (rdB k (rdB l (rdB i (rdB j s)))))).1.length ≤ s.1.length := Nat.le_trans (rdB_len _ _) (rdB_l5 _)
theorem gpow_step (n : Nat) : n / 2 < n ∨ n = 0 := by omega
end Go.Proofs.YtmelbclhkkbmiaaGreat.K
