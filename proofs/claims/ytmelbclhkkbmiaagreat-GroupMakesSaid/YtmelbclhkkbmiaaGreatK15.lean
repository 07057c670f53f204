/- Rules for shifts by a number that is not known, and for numbers that are combined bit by bit. No condition beyond those that each theorem names. -/
import Derived.Test.YtmelbclhkkbmiaaGreatK14
set_option linter.unusedVariables false
set_option linter.unusedSimpArgs false
namespace Go.Proofs.YtmelbclhkkbmiaaGreat.K
open Go Go.RowKit

section
variable {P : Program} {t : TypeId} {x y : Operand}
theorem wrap_u64 {a : Int} {k : Nat} (h : a = (k : Int)) (hk : k < 1000000) : IntKind.u64.wrap a = (k : Int) := by
  rw [h]
  show ((k : Int) % ((2 ^ 64 : Nat) : Int)) = _
  exact Int.emod_eq_of_lt (by omega) (by omega)
theorem bn_shr8N {a : UInt8} {c : Nat} (hc : c < 8) : BR P .shr t x y (.int .u8 a.toNat) (.int .u64 (c : Int)) (.int .u8 (a >>> UInt8.ofNat c).toNat) := by
  have h := bn_shr (P := P) (t := t) (x := x) (y := y) (k := .u8) (yk := .u64) (a := (a.toNat : Int)) (c := c) (by show c ≤ 8; omega)
  have e : (a.toNat : Int) / 2 ^ c = ((a >>> UInt8.ofNat c).toNat : Int) := by
    rw [UInt8.toNat_shiftRight, show (UInt8.ofNat c).toNat = c from by rw [UInt8.toNat_ofNat']; omega, Nat.mod_eq_of_lt hc, Nat.shiftRight_eq_div_pow]
    simp
  rw [e] at h
  exact h
theorem bn_shrN {a c : Nat} (hc : c < 64) : BR P .shr t x y (.int .i64 (a : Int)) (.int .u64 (c : Int)) (.int .i64 ((a / 2 ^ c : Nat) : Int)) := by
  have h := bn_shr (P := P) (t := t) (x := x) (y := y) (k := .i64) (yk := .u64) (a := (a : Int)) (c := c) (by show c ≤ 64; omega)
  have e : (a : Int) / 2 ^ c = ((a / 2 ^ c : Nat) : Int) := by simp
  rw [e] at h
  exact h
theorem bn_shlV {a c : Nat} (hc : c < 64) (ha : a * 2 ^ c < 9223372036854775808) : BR P .shl t x y (.int .i64 (a : Int)) (.int .u64 (c : Int)) (.int .i64 ((a * 2 ^ c : Nat) : Int)) := by
  have h := bn_shl (P := P) (t := t) (x := x) (y := y) (k := .i64) (yk := .u64) (a := (a : Int)) (c := c) (by show c ≤ 64; omega)
  have e : (a : Int) * 2 ^ c = ((a * 2 ^ c : Nat) : Int) := by simp
  rw [e, IntWalk.i64_in _ (by omega)] at h
  exact h
theorem bn_xorN {a b : Nat} (ha : a < 32768) (hb : b < 32768) : BR P .xor t x y (.int .i64 (a : Int)) (.int .i64 (b : Int)) (.int .i64 ((a ^^^ b : Nat) : Int)) :=
  bn_bits (by
    have hx : a ^^^ b < 2 ^ 15 := Nat.xor_lt_two_pow ha hb
    show IntKind.i64.wrap ((BitVec.ofInt 64 (a : Int) ^^^ BitVec.ofInt 64 (b : Int)).toNat : Int) = _
    rw [BitVec.toNat_xor, BitVec.ofInt_natCast, BitVec.ofInt_natCast, BitVec.toNat_ofNat, BitVec.toNat_ofNat, Nat.mod_eq_of_lt (by omega), Nat.mod_eq_of_lt (by omega)]
    exact IntWalk.i64_in _ (by omega)) (.inr (.inr rfl))
end
section
variable {P : Program} {Q : Exit → Act → World → Prop} {e : Ent} {n : Nat} {L : List (Nat × Value)} {I : Imm} {own : List Res}
/-- A row that the call owns and that holds nil slices alone, as a row of rows. -/
theorem RunC.toNest {α : Type} {x : Code} {v v' : Value} {tO t : TypeId} {sz m : Nat} {xs : List Value} (hv : v = v') (hx : xs = List.replicate m (.slice none 0 0))
    (K : RunC P Q x e n L I (row v' tO 1 (nCells (List.replicate m (nNil α))) :: allR (nRes t sz (List.replicate m (nNil α))) :: own)) : RunC P Q x e n L I (row v tO 1 xs :: own) := fun a w hF hS => by
  subst hv
  rw [hx, ← nCells_nil α] at hS
  exact K a w hF ((hS.nilN t sz m).perm' (List.Perm.swap _ _ _))
end
end Go.Proofs.YtmelbclhkkbmiaaGreat.K
