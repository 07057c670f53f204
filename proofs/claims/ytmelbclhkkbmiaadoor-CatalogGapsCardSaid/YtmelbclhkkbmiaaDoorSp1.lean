/- What writers, readers and frames answer, in plain Lean. No condition beyond those that each theorem names. -/
import Derived.Test.YtmelbclhkkbmiaaDoorSp0
set_option linter.unusedVariables false
set_option linter.unusedSimpArgs false
namespace Go.Proofs.YtmelbclhkkbmiaaDoor.K
open Go Go.RowKit

/-! ### Numbers written and read -/
def be4 (x : UInt32) : List UInt8 := [(x >>> 24).toUInt8, (x >>> 16).toUInt8, (x >>> 8).toUInt8, x.toUInt8]
def rd4 (l : List UInt8) : UInt32 := l.foldl (fun n c => (n <<< 8) ||| c.toUInt32) 0
theorem rd4_snoc (l : List UInt8) (c : UInt8) : rd4 (l ++ [c]) = (rd4 l <<< 8) ||| c.toUInt32 := by simp [rd4]
/-- A reader: what is left, and whether bytes were missing. -/
def tkV (n : Nat) (b : List UInt8) (bad : Bool) : List UInt8 := if bad = true then [] else if b.length < n then [] else b.take n
def tkB (n : Nat) (b : List UInt8) (bad : Bool) : List UInt8 := if bad = true then b else if b.length < n then [] else b.drop n
def tkF (n : Nat) (b : List UInt8) (bad : Bool) : Bool := bad || decide (b.length < n)
theorem tkV_len (n : Nat) (b : List UInt8) (bad : Bool) : (tkV n b bad).length ≤ b.length := by unfold tkV; split <;> (try split) <;> simp; omega
theorem tkB_len (n : Nat) (b : List UInt8) (bad : Bool) : (tkB n b bad).length ≤ b.length := by unfold tkB; split <;> (try split) <;> simp
def u8at (l : List UInt8) : UInt8 := l.headD 0
/-! ### Frames -/
def roomOf (k : Int) : Nat := if k = 6 then 79 else 64
def uCheck (u : AUnit) : Int :=
  if u.label < 1 ∨ u.label > 2147483647 ∨ u.number < 0 ∨ u.number > 2147483647 then 1
  else if 1 ≤ u.kind ∧ u.kind ≤ 6 then (if u.load.length > roomOf u.kind then 4 else 0) else 1
def fHead (u : AUnit) : List UInt8 := (([b8 u.kind] ++ be4 (b32 u.label)) ++ be4 (b32 u.number)) ++ [b8 ((u.load.length : Int) / 2 ^ 8)] ++ [b8 (u.load.length : Int)]
def fBody (u : AUnit) : List UInt8 := fHead u ++ (u.load ++ (List.replicate (roomOf u.kind) (0 : UInt8)).drop u.load.length)
def fMade (u : AUnit) : List UInt8 := fBody u ++ be4 (b32 ((crc (fBody u)).toNat : Int))
theorem be4_len (x : UInt32) : (be4 x).length = 4 := rfl
theorem fHead_len (u : AUnit) : (fHead u).length = 11 := rfl
theorem fBody_len (u : AUnit) (h : u.load.length ≤ roomOf u.kind) : (fBody u).length = 11 + roomOf u.kind := by
  simp only [fBody, List.length_append, fHead_len, List.length_drop, List.length_replicate]; omega
theorem fMade_len (u : AUnit) (h : u.load.length ≤ roomOf u.kind) : (fMade u).length = 15 + roomOf u.kind := by
  simp only [fMade, List.length_append, fBody_len u h, be4_len]; omega
theorem roomOf_le (k : Int) : roomOf k ≤ 79 := by unfold roomOf; split <;> omega
theorem gpow_step (n : Nat) : n / 2 < n ∨ n = 0 := by omega
end Go.Proofs.YtmelbclhkkbmiaaDoor.K
