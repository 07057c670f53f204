/- What the catalog answers, in plain Lean, and that a file is found just if no part is missing. No condition beyond those that each theorem names. -/
import Derived.Test.YtmelbclhkkbmiaaDoorSp1
set_option linter.unusedVariables false
set_option linter.unusedSimpArgs false
namespace Go.Proofs.YtmelbclhkkbmiaaDoor.K
open Go Go.RowKit

/-! ### What the catalog answers, in plain Lean -/
def hKey (h : AHead) : AHead := ⟨h.path, h.version, h.size, 0, 0, h.serial, h.sum, h.gone⟩
def nextP (q : Int) (p : APart) : Bool := decide (p.head.frm = q) && (decide (p.head.size = 0) || decide (p.head.len > 0))
def wNext (ps : List APart) (q : Int) : Int := idx (nextP q) ps
def phead : List APart → AHead
  | [] => ⟨bstr [], 0, 0, 0, 0, 0, 0, false⟩
  | p :: _ => p.head
theorem phead_of {ps : List APart} {p : APart} (h : ps[0]? = some p) : phead ps = p.head := by
  cases ps with
  | nil => cases h
  | cons a l => injection h with h; subst h; rfl
def plen (ps : List APart) (i : Int) : Int := match ps[i.toNat]? with | some p => p.head.len | none => 0
theorem plen_of {ps : List APart} {i : Int} {p : APart} (h : ps[i.toNat]? = some p) : plen ps i = p.head.len := by simp [plen, h]
def wChainL (ps : List APart) (size : Int) : Nat → Int → List APart → List APart × Bool
  | 0, _, _ => ([], false)
  | k + 1, q, out =>
    if size < 0 then ([], false) else
    if wNext ps q < 0 ∨ plen ps (wNext ps q) > size - q then ([], false) else
    match ps[(wNext ps q).toNat]? with
    | none => ([], false)
    | some p => if q + p.head.len = size then (out ++ [p], true) else if p.head.len ≤ 0 then ([], false) else wChainL ps size k (q + p.head.len) (out ++ [p])
theorem wChainL_neg (ps : List APart) (size : Int) (k : Nat) (q : Int) (out : List APart) (h : size < 0) : wChainL ps size k q out = ([], false) := by
  cases k <;> simp [wChainL, h]
theorem wChainL_no {ps : List APart} {size : Int} {k : Nat} {q : Int} {out : List APart} (h : wNext ps q < 0 ∨ plen ps (wNext ps q) > size - q) : wChainL ps size k q out = ([], false) := by
  cases k with
  | zero => rfl
  | succ k => simp only [wChainL, if_pos h]; split <;> rfl
theorem wChainL_at {ps : List APart} {size : Int} {k : Nat} {q : Int} {out : List APart} {p : APart} (hs : 0 ≤ size) (h : ¬ (wNext ps q < 0 ∨ plen ps (wNext ps q) > size - q)) (hp : ps[(wNext ps q).toNat]? = some p) :
    wChainL ps size (k + 1) q out = if q + p.head.len = size then (out ++ [p], true) else if p.head.len ≤ 0 then ([], false) else wChainL ps size k (q + p.head.len) (out ++ [p]) := by
  rw [wChainL, if_neg (by omega), if_neg h, hp]
def wChain (ps : List APart) : List APart × Bool := wChainL ps (phead ps).size ((phead ps).size.toNat + 1) 0 []
def fZero : AFile := ⟨ByteArray.mk #[], 0, 0, 0, 0, false, []⟩
def wWhole (ps : List APart) : AFile × Bool :=
  if ps.length = 0 ∨ (ps.any fun p => !AHead.eqb (hKey p.head) (hKey (phead ps))) = true then (fZero, false) else
  if (wChain ps).2 then (⟨(phead ps).path, (phead ps).version, (phead ps).size, (phead ps).sum, (phead ps).serial, (phead ps).gone, (wChain ps).1⟩, true) else (fZero, false)
theorem wWhole_no1 {ps : List APart} (h : (ps.length : Int) = 0 ∨ (ps.any fun p => !AHead.eqb (hKey p.head) (hKey (phead ps))) = true) : wWhole ps = (fZero, false) := by
  rw [wWhole, if_pos (h.imp (fun e => by omega) id)]
theorem wWhole_no2 {ps : List APart} (h : (wChain ps).2 = false) : wWhole ps = (fZero, false) := by
  rw [wWhole]; split <;> simp [h]
theorem wWhole_yes {ps : List APart} (h : ¬ (ps.length : Int) = 0 ∧ (ps.any fun p => !AHead.eqb (hKey p.head) (hKey (phead ps))) = false) (hc : (wChain ps).2 = true) :
    wWhole ps = (⟨(phead ps).path, (phead ps).version, (phead ps).size, (phead ps).sum, (phead ps).serial, (phead ps).gone, (wChain ps).1⟩, true) := by
  rw [wWhole, if_neg (by rw [h.2]; simp; intro e; exact h.1 (by simp [e])), if_pos hc]
theorem idx_lt {α : Type} (p : α → Bool) (l : List α) : idx p l < l.length := by
  rcases idx_le p l with h | h <;> omega
/-- The parts of CatalogGaps. -/
def gapP (n : Int) (k : Nat) : APart := ⟨⟨bstr [97], 1, 10 * n, 10 * (k : Int), 10, 1, 0, false⟩, (k : Int) + 1, 1⟩
def gapsL (n m : Int) (w : Bool) : Nat → List APart
  | 0 => []
  | k + 1 => if (k : Int) = m ∧ w = false then gapsL n m w k else gapP n k :: gapsL n m w k
theorem phead_gaps (n m : Int) (w : Bool) (hn : 0 ≤ n) (k : Nat) : (phead (gapsL n m w k)).size ≤ 10 * n := by
  induction k with
  | zero => show (0 : Int) ≤ _; omega
  | succ k ih => rw [gapsL]; split; exact ih; show 10 * n ≤ _; omega
def gapOK (n m : Nat) (w : Bool) : Bool :=
  let r := wWhole (gapsL ((n : Int) + 1) m w (n + 1))
  if w then r.2 && decide (r.1.parts.length = n + 1) && (List.range (n + 1)).all fun i => match r.1.parts[i]? with | some p => decide (p.label = (i : Int) + 1) | none => false
  else !r.2 && decide (r.1.parts.length = 0)
theorem gap_ok : ∀ n < 10, ∀ m < 10, ∀ w : Bool, m ≤ n → gapOK n m w = true := by decide +kernel
theorem gap_no {n m : Int} (h1 : 1 ≤ n) (h2 : n ≤ 10) (h3 : 0 ≤ m) (h4 : m < n) : (wWhole (gapsL n m false n.toNat)).2 = false ∧ (wWhole (gapsL n m false n.toNat)).1.parts.length = 0 := by
  have h := gap_ok (n.toNat - 1) (by omega) m.toNat (by omega) false (by omega)
  rw [gapOK, show ((n.toNat - 1 : Nat) : Int) + 1 = n by omega, show n.toNat - 1 + 1 = n.toNat by omega, show (m.toNat : Int) = m by omega] at h
  simpa using h
theorem gap_yes {n m : Int} (h1 : 1 ≤ n) (h2 : n ≤ 10) (h3 : 0 ≤ m) (h4 : m < n) : (wWhole (gapsL n m true n.toNat)).2 = true ∧ (wWhole (gapsL n m true n.toNat)).1.parts.length = n.toNat ∧
    ∀ i p, i < n.toNat → (wWhole (gapsL n m true n.toNat)).1.parts[i]? = some p → p.label = (i : Int) + 1 := by
  have h := gap_ok (n.toNat - 1) (by omega) m.toNat (by omega) true (by omega)
  rw [gapOK, show ((n.toNat - 1 : Nat) : Int) + 1 = n by omega, show n.toNat - 1 + 1 = n.toNat by omega, show (m.toNat : Int) = m by omega] at h
  simp only [if_true, Bool.and_eq_true, decide_eq_true_eq, List.all_eq_true, List.mem_range] at h
  refine ⟨h.1.1, h.1.2, fun i p hi hp => ?_⟩
  have := h.2 i hi
  rw [hp] at this
  simpa using this
end Go.Proofs.YtmelbclhkkbmiaaDoor.K
