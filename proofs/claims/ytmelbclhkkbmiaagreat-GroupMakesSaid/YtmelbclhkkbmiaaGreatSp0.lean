/- What the functions of the field, of sums and of searches answer, in plain Lean. No condition beyond those that each theorem names. -/
import Derived.Test.YtmelbclhkkbmiaaGreatD
set_option linter.unusedVariables false
set_option linter.unusedSimpArgs false
namespace Go.Proofs.YtmelbclhkkbmiaaGreat.K
open Go Go.RowKit

/-! ### What the functions answer, in plain Lean: numbers of the field, sums -/
def gstep (a : UInt8) : UInt8 := if a &&& 128 ≠ 0 then (a <<< 1) ^^^ 29 else a <<< 1
def gmulL : Nat → UInt8 → UInt8 → UInt8 → UInt8
  | 0, _, _, out => out
  | n + 1, a, b, out => if b = 0 then out else gmulL n (gstep a) (b >>> 1) (if b &&& 1 = 1 then out ^^^ a else out)
def gmul (a b : UInt8) : UInt8 := gmulL 8 a b 0
theorem gmulL_zero (n : Nat) (a out : UInt8) : gmulL n a 0 out = out := by cases n <;> simp [gmulL]
theorem shr1_lt {b : UInt8} {n : Nat} (h : b.toNat < 2 ^ (n + 1)) : (b >>> 1).toNat < 2 ^ n := by
  simp only [UInt8.toNat_shiftRight]
  show b.toNat >>> 1 < 2 ^ n
  rw [Nat.shiftRight_eq_div_pow, Nat.pow_one]
  rw [Nat.pow_succ] at h
  omega
theorem u8_zero {b : UInt8} (h : b.toNat < 2 ^ 0) : b = 0 := UInt8.toNat_inj.1 (by simpa using h)
/-- a to the n, as the program reckons it. -/
def gpowL : Nat → UInt8 → Nat → UInt8 → UInt8
  | 0, _, _, out => out
  | k + 1, a, n, out => if n = 0 then out else gpowL k (gmul a a) (n / 2) (if n % 2 = 1 then gmul out a else out)
def gpow (a : UInt8) (n : Nat) : UInt8 := gpowL n a n 1
theorem gpowL_zero (k : Nat) (a out : UInt8) : gpowL k a 0 out = out := by cases k <;> simp [gpowL]
def ginv (a : UInt8) : UInt8 := gpow a 254

def crcBit (x : UInt32) : UInt32 := if x &&& 1 = 1 then (x >>> 1) ^^^ 0x82f63b78 else x >>> 1
def crcBits : Nat → UInt32 → UInt32
  | 0, x => x
  | n + 1, x => crcBits n (crcBit x)
def crcL (x : UInt32) (b : List UInt8) : UInt32 := b.foldl (fun x c => crcBits 8 (x ^^^ c.toUInt32)) x
def crc (b : List UInt8) : UInt32 := crcL (0 ^^^ 0xffffffff) b ^^^ 0xffffffff
theorem crcL_snoc (x : UInt32) (b : List UInt8) (c : UInt8) : crcL x (b ++ [c]) = crcBits 8 (crcL x b ^^^ c.toUInt32) := by simp [crcL]
theorem crcBits_succ (n : Nat) (x : UInt32) : crcBits (n + 1) x = crcBit (crcBits n x) := by
  induction n generalizing x with
  | zero => rfl
  | succ n ih => rw [crcBits, ih, crcBits]

theorem take_snoc' {α : Type} {l : List α} {k : Nat} {x : α} (h : l[k]? = some x) : l.take (k + 1) = l.take k ++ [x] := by
  rw [List.take_add_one, h]; rfl
/-- The first place of a list of which something is so; below 0: none. -/
def idx {α : Type} (p : α → Bool) (l : List α) : Int := match l.findIdx? p with | some i => (i : Int) | none => -1
theorem idx_none {α : Type} {p : α → Bool} {l : List α} (h : ∀ x ∈ l, p x = false) : idx p l = -1 := by
  have : l.findIdx? p = none := by
    rw [List.findIdx?_eq_none_iff]; exact h
  simp [idx, this]
theorem idx_at {α : Type} {p : α → Bool} {l : List α} {k : Nat} {x : α} (hx : l[k]? = some x) (hp : p x = true) (h : ∀ y ∈ l.take k, p y = false) : idx p l = k := by
  have hk := (List.getElem?_eq_some_iff.1 hx).1
  have hxe := (List.getElem?_eq_some_iff.1 hx).2
  have : l.findIdx? p = some k := by
    rw [List.findIdx?_eq_some_iff_getElem]
    refine ⟨hk, by rw [hxe]; exact hp, fun j hj => ?_⟩
    have := h l[j] (List.mem_take_iff_getElem.2 ⟨j, by omega, rfl⟩)
    simpa using this
  simp [idx, this]
theorem take_all {α : Type} {p : α → Bool} {l : List α} {k : Nat} {x : α} (hx : l[k]? = some x) (hp : p x = false) (h : ∀ y ∈ l.take k, p y = false) : ∀ y ∈ l.take (k + 1), p y = false := by
  rw [take_snoc' hx]
  intro y hy
  rcases List.mem_append.1 hy with hy | hy
  · exact h y hy
  · simp at hy; subst hy; exact hp
theorem idx_ge {α : Type} (p : α → Bool) (l : List α) : -1 ≤ idx p l := by unfold idx; split <;> omega
theorem idx_le {α : Type} (p : α → Bool) (l : List α) : idx p l < l.length ∨ idx p l = -1 := by
  unfold idx
  split
  · rename_i i h
    have := (List.findIdx?_eq_some_iff_getElem.1 h).1
    left; omega
  · right; rfl
theorem any_idx {α : Type} (p : α → Bool) (l : List α) : decide (idx p l ≥ 0) = l.any p := by
  unfold idx
  split
  · rename_i i h
    obtain ⟨hi, hp, _⟩ := List.findIdx?_eq_some_iff_getElem.1 h
    have : l.any p = true := List.any_eq_true.2 ⟨_, List.getElem_mem hi, hp⟩
    rw [this]; simp
  · rename_i h
    rw [List.findIdx?_eq_none_iff] at h
    have : l.any p = false := by rw [List.any_eq_false]; intro x hx; simp [h x hx]
    rw [this]; simp
theorem contains_idx {α : Type} [DecidableEq α] (l : List α) (v : α) : decide (idx (fun y => decide (v = y)) l ≥ 0) = l.contains v := by
  rw [any_idx, List.contains_eq_any_beq]
  congr 1
theorem slc_nil {α : Type} {T : Ty α} {I : Imm} {A : Option Addr} {c : Nat} {xs : List α} (h : Sl T I A c xs) (hA : A = none) : xs = [] := by
  obtain ⟨cells, hr, _⟩ := h
  rcases Nat.eq_zero_or_pos xs.length with h0 | h0
  · exact List.eq_nil_of_length_eq_zero h0
  · obtain ⟨p, hp, _⟩ := hr.2.2.2 h0
    rw [hA] at hp; cases hp
end Go.Proofs.YtmelbclhkkbmiaaGreat.K
