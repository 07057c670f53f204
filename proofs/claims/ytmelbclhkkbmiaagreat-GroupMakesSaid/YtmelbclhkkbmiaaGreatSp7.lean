/- What the reference's multiplication, inverse and erasure code answer, in plain Lean. No condition beyond those that each theorem names. -/
import Derived.Test.YtmelbclhkkbmiaaGreatSp6
set_option linter.unusedVariables false
set_option linter.unusedSimpArgs false
namespace Go.Proofs.YtmelbclhkkbmiaaGreat.K
open Go Go.RowKit

/-! ### The reference's multiplication -/
def rmA (a b : UInt8) : Nat → Nat
  | 0 => 0
  | k + 1 => if b >>> UInt8.ofNat k &&& 1 = 1 then rmA a b k ^^^ a.toNat * 2 ^ k else rmA a b k
def rmB (x : Nat) : Nat → Nat
  | 0 => x
  | j + 1 => if rmB x j / 2 ^ (14 - j) % 2 = 1 then rmB x j ^^^ 285 * 2 ^ (6 - j) else rmB x j
def rmul (a b : UInt8) : UInt8 := b8 ((rmB (rmA a b 8) 7 : Nat) : Int)
def rpow (a : UInt8) : Nat → UInt8
  | 0 => 1
  | k + 1 => rmul (rpow a k) a
def rinv (a : UInt8) : UInt8 := rpow a 254
theorem shl_lt15 {a : UInt8} {k : Nat} (h : k < 8) : a.toNat * 2 ^ k < 32768 := by
  have h1 := a.toNat_lt
  have h2 : 2 ^ k ≤ 2 ^ 7 := Nat.pow_le_pow_right (by decide) (by omega)
  have h3 : a.toNat * 2 ^ k ≤ 255 * 2 ^ 7 := Nat.mul_le_mul (by omega) h2
  omega
theorem poly_lt15 {j : Nat} : 285 * 2 ^ (6 - j) < 32768 := by
  have h2 : 2 ^ (6 - j) ≤ 2 ^ 6 := Nat.pow_le_pow_right (by decide) (by omega)
  omega
theorem rmA_lt (a b : UInt8) : ∀ k, k ≤ 8 → rmA a b k < 32768
  | 0, _ => by show (0 : Nat) < 32768; decide
  | k + 1, h => by
    have h1 := rmA_lt a b k (by omega)
    rw [rmA]
    split
    · exact Nat.xor_lt_two_pow (n := 15) h1 (shl_lt15 (by omega))
    · exact h1
theorem rmB_lt {x : Nat} (h : x < 32768) : ∀ j, rmB x j < 32768
  | 0 => h
  | j + 1 => by
    have h1 := rmB_lt h j
    rw [rmB]
    split
    · exact Nat.xor_lt_two_pow (n := 15) h1 poly_lt15
    · exact h1
def invTab : List UInt8 := [0, 1, 142, 244, 71, 167, 122, 186, 173, 157, 221, 152, 61, 170, 93, 150]
theorem inv_tab : ∀ i, i < 16 → ginv (UInt8.ofNat i) = invTab.getD i 0 ∧ rinv (UInt8.ofNat i) = invTab.getD i 0 := by decide +kernel
theorem mul_tab : ∀ a ∈ invTab, ∀ b, b < 256 → rmul a (UInt8.ofNat b) = gmul a (UInt8.ofNat b) := by decide +kernel
theorem tab_mem {i : Nat} (h : i < 16) : invTab.getD i 0 ∈ invTab := by
  rw [List.getD_eq_getElem?_getD, List.getElem?_eq_getElem (show i < invTab.length from h)]; exact List.getElem_mem _
theorem small_inv {a : UInt8} (h : a.toNat < 16) : rinv a = ginv a ∧ ginv a ∈ invTab := by
  have e : a = UInt8.ofNat a.toNat := by simp
  have := inv_tab a.toNat h
  rw [e, this.1, this.2]; exact ⟨rfl, tab_mem h⟩
theorem small_mul {a b : UInt8} (h : a ∈ invTab) : rmul a b = gmul a b := by
  have := mul_tab a h b.toNat b.toNat_lt
  simpa using this
/-! ### The reference's erasure code -/
theorem small_xor {a b : UInt8} (ha : a.toNat < 16) (hb : b.toNat < 16) : (a ^^^ b).toNat < 16 := by
  rw [UInt8.toNat_xor]; exact Nat.xor_lt_two_pow (n := 4) ha hb
theorem b8_small {n : Int} (h0 : 0 ≤ n) (h : n < 16) : (b8 n).toNat < 16 := by
  obtain ⟨k, rfl⟩ := Int.eq_ofNat_of_zero_le h0
  have : ∀ k : Nat, k < 16 → (b8 (k : Int)).toNat < 16 := by decide
  exact this k (by omega)
def eM (l : List (List UInt8)) (p : Int) : List (List UInt8) := mCauchy l.length p p.toNat
theorem eM_len (l : List (List UInt8)) (p : Int) : (eM l p).length = p.toNat := mCauchy_len _ _ _
theorem cau_inv {i p q : Int} (h0 : 0 ≤ i) (hp : i < p) (hq : 0 ≤ q) (h : p + q < 16) : rinv (b8 i ^^^ b8 (p + q)) = ginv (b8 i ^^^ b8 (p + q)) ∧ ginv (b8 i ^^^ b8 (p + q)) ∈ invTab :=
  small_inv (small_xor (b8_small h0 (by omega)) (b8_small (by omega) h))
theorem cau_mem {l : List (List UInt8)} {p : Int} {i j : Nat} {r : List UInt8} {x : UInt8} (h : (eM l p)[i]? = some r) (hx : r[j]? = some x) (hs : (l.length : Int) + p ≤ 14) : x ∈ invTab := by
  have hi := (List.getElem?_eq_some_iff.1 h).1
  rw [eM_len] at hi
  rw [eM, mCauchy, List.getElem?_map, List.getElem?_range hi] at h
  have e := Option.some.inj h
  subst e
  have hj := (List.getElem?_eq_some_iff.1 hx).1
  simp at hj
  rw [List.getElem?_map, List.getElem?_range hj] at hx
  have e := Option.some.inj hx
  subst e
  exact (cau_inv (i := (i : Int)) (p := p) (q := (j : Int)) (by omega) (by omega) (by omega) (by omega)).2
theorem col_at {l : List (List UInt8)} {j q : Nat} {r : List UInt8} {x : UInt8} (h : l[j]? = some r) (hx : r[q]? = some x) : (colOf l q)[j]? = some x := by
  rw [colOf, List.getElem?_map, h]
  simp [List.getD_eq_getElem?_getD, hx]
theorem cell_eq {l : List (List UInt8)} {p : Int} {i k : Nat} (hi : i < p.toNat) : cellOf (eM l p) l i k = dotP ((eM l p).getD i []) (colOf l k) l.length := by
  have h1 : i < (eM l p).length := by rw [eM_len]; exact hi
  have hr := mCauchy_row (List.getElem_mem h1)
  rw [cellOf, List.getD_eq_getElem?_getD, List.getD_eq_getElem?_getD, mApply, List.getElem?_map, List.getElem?_eq_getElem h1]
  simp only [Option.map_some, Option.getD_some]
  rw [hr]
def eRow (l : List (List UInt8)) (p : Int) (i : Nat) : List UInt8 := (List.range 79).map fun k => cellOf (eM l p) l i k
def eOut (l : List (List UInt8)) (p : Int) : List (List UInt8) := (List.range p.toNat).map (eRow l p)
theorem eOut_eq {l : List (List UInt8)} {p : Int} (h1 : 1 ≤ l.length) (hp : 1 ≤ p) (hs : (l.length : Int) + p ≤ 14) (hall : ∀ r ∈ l, r.length = 79) : eEnc l p = (eOut l p, 0) := by
  have h0 : h0len l = 79 := by
    cases l with
    | nil => simp at h1
    | cons a l => show (a.length : Int) = 79; rw [hall a (by simp)]; rfl
  have ha : lAlike l = true := by
    rw [lAlike, Bool.not_eq_true', List.any_eq_false]
    intro r hr
    rw [hall r hr, h0]; simp
  rw [eEnc_at (by exact ⟨by omega, ha⟩), if_neg (by omega), mReckon, h0, mCauchy_len]
  rfl
/-! ### The reference's parity of tapes -/
theorem par_ok {l : List ATape} {p : Int} (h1 : 1 ≤ l.length) (h2 : 1 ≤ p) (h3 : (l.length : Int) + p ≤ 14) : (eEnc (tRow l (-1)) p).2 = 0 := by
  refine (row_enc (l := l) (n := -1) (p := p) (by omega) ?_).1
  rw [List.any_eq_false]
  intro b hb
  simp only [tRow, List.mem_map] at hb
  obtain ⟨t, _, rfl⟩ := hb
  rw [tCell_out (.inl (.inr (by decide)))]; simp
theorem row79 {l : List ATape} {k : Nat} (h : ∀ r ∈ tRow l (k : Int), ¬ r.length = 0) : ∀ r ∈ tRow l (k : Int), r.length = 79 := fun r hr => by
  have h1 := h r hr
  simp only [tRow, List.mem_map] at hr
  obtain ⟨t, _, rfl⟩ := hr
  exact tCell_79 h1
theorem rowBad_no {l : List ATape} {k : Nat} (h : ∀ r ∈ tRow l (k : Int), ¬ r.length = 0) : rowBad l k = false := by
  rw [rowBad, List.any_eq_false]; intro r hr; simpa using h r hr
theorem rowBad_yes {l : List ATape} {k i : Nat} {r : List UInt8} (h : (tRow l (k : Int))[i]? = some r) (h0 : r.length = 0) : (tRow l (k : Int)).any (fun b => decide (b.length = 0)) = true :=
  List.any_eq_true.2 ⟨r, List.mem_of_getElem? h, by simp [h0]⟩
theorem par_cell {l : List ATape} {p : Int} {k q : Nat} {x : List UInt8} (h1 : 1 ≤ l.length) (h2 : 1 ≤ p) (h3 : (l.length : Int) + p ≤ 14) (h : ∀ r ∈ tRow l (k : Int), ¬ r.length = 0) (hx : (eOut (tRow l (k : Int)) p)[q]? = some x) : x = parCell l p q k := by
  rw [parCell, eOut_eq (by rw [tRow_len]; exact h1) h2 (by rw [tRow_len]; exact h3) (row79 h), List.getD_eq_getElem?_getD, hx]; rfl
theorem eOut_len (l : List (List UInt8)) (p : Int) : (eOut l p).length = p.toNat := by simp [eOut]
end Go.Proofs.YtmelbclhkkbmiaaGreat.K
