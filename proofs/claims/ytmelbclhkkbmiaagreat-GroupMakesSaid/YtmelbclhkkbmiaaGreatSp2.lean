/- What seals, tapes and groups answer, in plain Lean. No condition beyond those that each theorem names. -/
import Derived.Test.YtmelbclhkkbmiaaGreatSp1
set_option linter.unusedVariables false
set_option linter.unusedSimpArgs false
namespace Go.Proofs.YtmelbclhkkbmiaaGreat.K
open Go Go.RowKit

/-! ### Seals -/
def lblsL : List Int → List Int → Bool
  | _, [] => true
  | p, x :: r => (decide (1 ≤ x ∧ x ≤ 2147483647) && !p.contains x) && lblsL (p ++ [x]) r
theorem lblsL_at {l : List Int} {k : Nat} {x : Int} (h : l[k]? = some x) : lblsL (l.take k) (l.drop k) = ((decide (1 ≤ x ∧ x ≤ 2147483647) && !(l.take k).contains x) && lblsL (l.take (k + 1)) (l.drop (k + 1))) := by
  have hk := (List.getElem?_eq_some_iff.1 h).1
  have hx := (List.getElem?_eq_some_iff.1 h).2
  rw [List.drop_eq_getElem_cons hk, hx, lblsL, take_snoc' h]
def sRightP (s : ASeal) : Prop := (1 ≤ s.number ∧ s.number ≤ 1073741824 ∧ 1 ≤ s.data ∧ s.data ≤ 14 ∧ 1 ≤ s.parity ∧ s.parity ≤ 14 - s.data) ∧ 0 ≤ s.index ∧ s.index ≤ s.data + s.parity - 1 ∧ (s.labels.length : Int) = s.data + s.parity
instance (s : ASeal) : Decidable (sRightP s) := by unfold sRightP; infer_instance
def sRight (s : ASeal) : Bool := decide (sRightP s) && lblsL [] s.labels
theorem sRight_no {s : ASeal} (h : ¬ sRightP s) : sRight s = false := by simp [sRight, h]
theorem sRight_yes {s : ASeal} (h : sRightP s) : sRight s = lblsL [] s.labels := by simp [sRight, h]
theorem sRight_P {s : ASeal} (h : sRight s = true) : sRightP s := by
  unfold sRight at h
  simp only [Bool.and_eq_true, decide_eq_true_eq] at h
  exact h.1
def sHead (s : ASeal) : List UInt8 := be4 (b32 s.number) ++ [b8 s.index, b8 s.data, b8 s.parity]
def sBytes (s : ASeal) : List UInt8 := sHead s ++ s.labels.flatMap (fun x => be4 (b32 x))
theorem be4s_len (l : List Int) : (l.flatMap (fun x => be4 (b32 x))).length = 4 * l.length := by
  induction l with
  | nil => rfl
  | cons a l ih => rw [List.flatMap_cons, List.length_append, ih, be4_len, List.length_cons]; omega
theorem sHead_len (s : ASeal) : (sHead s).length = 7 := rfl
theorem sLen {s : ASeal} {k : Nat} (h1 : 1 ≤ s.number ∧ s.number ≤ 1073741824 ∧ 1 ≤ s.data ∧ s.data ≤ 14 ∧ 1 ≤ s.parity ∧ s.parity ≤ 14 - s.data) (hk : k ≤ s.labels.length) (hl : (s.labels.length : Int) = s.data + s.parity) :
    (sHead s ++ (s.labels.take k).flatMap (fun x => be4 (b32 x))).length ≤ 1000000 := by
  rw [List.length_append, sHead_len, be4s_len, List.length_take]; omega
def lblRd : Nat → List UInt8 × Bool → List Int → List Int × Bool
  | 0, s, l => (l, s.2)
  | k + 1, s, l => if s.1.length = 0 then (l, s.2) else lblRd k (rdB 4 s) (l ++ [((rd4 (rdV 4 s)).toNat : Int)])
theorem lblRd_nil {k : Nat} {s : List UInt8 × Bool} {l : List Int} (h : s.1.length = 0) : lblRd k s l = (l, s.2) := by cases k <;> simp [lblRd, h]
def sRest (b : List UInt8) : List UInt8 × Bool := rdB 1 (rdB 1 (rdB 1 (rdB 4 (b, false))))
def sLbl (b : List UInt8) : List Int × Bool := lblRd (sRest b).1.length (sRest b) []
def sRd (b : List UInt8) : ASeal := ⟨((rd4 (rdV 4 (b, false))).toNat : Int), ((u8at (rdV 1 (rdB 4 (b, false)))).toNat : Int), ((u8at (rdV 1 (rdB 1 (rdB 4 (b, false))))).toNat : Int), ((u8at (rdV 1 (rdB 1 (rdB 1 (rdB 4 (b, false)))))).toNat : Int), (sLbl b).1⟩
def sZero : ASeal := ⟨0, 0, 0, 0, []⟩
def sRead (b : List UInt8) : ASeal × Int := if (sLbl b).2 = true ∨ sRight (sRd b) = false then (sZero, 2) else (sRd b, 0)
theorem sRead_bad {b : List UInt8} (h : (sLbl b).2 = true ∨ sRight (sRd b) = false) : sRead b = (sZero, 2) := by rw [sRead, if_pos h]
theorem sRead_ok {b : List UInt8} (h : (sLbl b).2 = false ∧ sRight (sRd b) = true) : sRead b = (sRd b, 0) := by
  rw [sRead, if_neg (by rw [h.1, h.2]; simp)]
/-- Bytes were missing: nothing is left. -/
def Rok (s : List UInt8 × Bool) : Prop := s.2 = true → s.1 = []
theorem Rok.rdB {s : List UInt8 × Bool} (h : Rok s) (n : Nat) : Rok (rdB n s) := by
  intro hb
  simp only [K.rdB, tkB, tkF, Bool.or_eq_true, decide_eq_true_eq] at hb ⊢
  rcases hb with hb | hb
  · rw [if_pos hb]; exact h hb
  · split
    · rename_i h2; exact h h2
    · first | rfl | rw [if_pos hb]
theorem rdB_less {s : List UInt8 × Bool} (h : Rok s) (hp : 0 < s.1.length) : (rdB 4 s).1.length < s.1.length := by
  have hb : s.2 = false := by
    cases hs : s.2
    · rfl
    · rw [h hs] at hp; simp at hp
  simp only [rdB, tkB, hb]
  split
  · contradiction
  · split
    · simpa using hp
    · simp; omega
theorem rlen (b : List UInt8) : (sRest b).1.length ≤ b.length := Nat.le_trans (rdB_len _ _) (Nat.le_trans (rdB_len _ _) (Nat.le_trans (rdB_len _ _) (rdB_len _ (b, false))))
theorem rok0 (b : List UInt8) : Rok (b, false) := fun h => by cases h
/-! ### Tapes -/
def vGood (t : ATape) (n : Int) : AUnit × Bool :=
  if (t.lost = true ∨ n < 0) ∨ (t.blocks.length : Int) ≤ n then (uZero, false) else
  match t.blocks[n.toNat]? with
  | none => (uZero, false)
  | some b => if (¬ (fGet b).2 = 0 ∨ ¬ (fGet b).1.label = t.label) ∨ ¬ (fGet b).1.number = n then (uZero, false) else ((fGet b).1, true)
theorem vGood_no1 {t : ATape} {n : Int} (h : (t.lost = true ∨ n < 0) ∨ (t.blocks.length : Int) ≤ n) : vGood t n = (uZero, false) := by rw [vGood, if_pos h]
theorem vGood_no2 {t : ATape} {n : Int} {b : List UInt8} (hb : t.blocks[n.toNat]? = some b) (h : (¬ (fGet b).2 = 0 ∨ ¬ (fGet b).1.label = t.label) ∨ ¬ (fGet b).1.number = n) : vGood t n = (uZero, false) := by
  rw [vGood]; split
  · rfl
  · simp only [hb]; rw [if_pos h]
theorem vGood_yes {t : ATape} {n : Int} {b : List UInt8} (h1 : (t.lost = false ∧ 0 ≤ n) ∧ n < (t.blocks.length : Int)) (hb : t.blocks[n.toNat]? = some b) (h : ((fGet b).2 = 0 ∧ (fGet b).1.label = t.label) ∧ (fGet b).1.number = n) : vGood t n = ((fGet b).1, true) := by
  rw [vGood, if_neg (by rintro ((h2 | h2) | h2); rw [h1.1.1] at h2; cases h2; omega; omega)]
  simp only [hb]
  rw [if_neg (by rintro ((h2 | h2) | h2); exact h2 h.1.1; exact h2 h.1.2; exact h2 h.2)]
theorem fGet_load (b : List UInt8) : (fGet b).1.load.length ≤ 79 := by
  rw [fGet]
  split
  · simp [uZero]
  · rename_i h
    have h0 : uCheck (fRead b).1 = 0 := Decidable.not_not.1 fun h2 => h (.inr (.inl h2))
    exact Nat.le_trans (uCheck_le h0) (roomOf_le _)
theorem vGood_load (t : ATape) (n : Int) : (vGood t n).1.load.length ≤ 79 := by
  rw [vGood]
  split
  · simp [uZero]
  · split
    · simp [uZero]
    · split
      · simp [uZero]
      · exact fGet_load _
def vSealed (t : ATape) : ASeal × Bool :=
  if (vGood t ((t.blocks.length : Int) - 1)).2 = false ∨ ¬ (vGood t ((t.blocks.length : Int) - 1)).1.kind = 5 then (sZero, false) else
  ((sRead (vGood t ((t.blocks.length : Int) - 1)).1.load).1, decide ((sRead (vGood t ((t.blocks.length : Int) - 1)).1.load).2 = 0))
theorem vSealed_no {t : ATape} (h : (vGood t ((t.blocks.length : Int) - 1)).2 = false ∨ ¬ (vGood t ((t.blocks.length : Int) - 1)).1.kind = 5) : vSealed t = (sZero, false) := by rw [vSealed, if_pos h]
theorem vSealed_yes {t : ATape} (h : (vGood t ((t.blocks.length : Int) - 1)).2 = true ∧ (vGood t ((t.blocks.length : Int) - 1)).1.kind = 5) :
    vSealed t = ((sRead (vGood t ((t.blocks.length : Int) - 1)).1.load).1, decide ((sRead (vGood t ((t.blocks.length : Int) - 1)).1.load).2 = 0)) := by
  rw [vSealed, if_neg (by rintro (h2 | h2); rw [h.1] at h2; cases h2; exact h2 h.2)]
/-! ### Stripes -/
def tLenL (l : List ATape) : Int := l.foldl (fun n t => if t.lost = true then n else max n (t.blocks.length : Int)) 0
theorem tLenL_snoc (l : List ATape) (t : ATape) : tLenL (l ++ [t]) = if t.lost = true then tLenL l else max (tLenL l) (t.blocks.length : Int) := by simp [tLenL]
def tCell (t : ATape) (n : Int) : List UInt8 :=
  if (t.lost = true ∨ n < 0) ∨ (t.blocks.length : Int) ≤ n then List.replicate 79 0 else
  match t.blocks[n.toNat]? with
  | none => []
  | some b => if (b.length : Int) = 79 then b else []
theorem tCell_out {t : ATape} {n : Int} (h : (t.lost = true ∨ n < 0) ∨ (t.blocks.length : Int) ≤ n) : tCell t n = List.replicate 79 0 := by rw [tCell, if_pos h]
theorem tCell_at {t : ATape} {n : Int} {b : List UInt8} (h1 : (t.lost = false ∧ 0 ≤ n) ∧ n < (t.blocks.length : Int)) (hb : t.blocks[n.toNat]? = some b) : tCell t n = if (b.length : Int) = 79 then b else [] := by
  rw [tCell, if_neg (by rintro ((h2 | h2) | h2); rw [h1.1.1] at h2; cases h2; omega; omega)]
  simp only [hb]
def tRow (l : List ATape) (n : Int) : List (List UInt8) := l.map fun t => tCell t n
theorem tCell_len (t : ATape) (n : Int) : (tCell t n).length ≤ 79 := by
  rw [tCell]
  split
  · simp
  · split
    · simp
    · split
      · omega
      · simp
/-! ### Matrices -/
def dotP (r v : List UInt8) (j : Nat) : UInt8 := ((r.take j).zip (v.take j)).foldl (fun a p => a ^^^ gmul p.1 p.2) 0
theorem dotP_succ {r v : List UInt8} {j : Nat} {x y : UInt8} (hr : r[j]? = some x) (hv : v[j]? = some y) : dotP r v (j + 1) = dotP r v j ^^^ gmul x y := by
  have h1 := (List.getElem?_eq_some_iff.1 hr).1
  have h2 := (List.getElem?_eq_some_iff.1 hv).1
  rw [dotP, take_snoc' hr, take_snoc' hv, List.zip_append (by simp; omega), List.foldl_append]
  rfl
def mApply (m : List (List UInt8)) (v : List UInt8) : List UInt8 := m.map fun r => dotP r v r.length
theorem set_same {o : List UInt8} {k : Nat} {a : UInt8} (h : o[k]? = some a) : o.set k a = o := by
  apply List.ext_getElem?
  intro q
  by_cases hq : k = q
  · subst hq; rw [List.getElem?_set_self (List.getElem?_eq_some_iff.1 h).1, h]
  · rw [List.getElem?_set_ne hq]
theorem set_take {o : List UInt8} {k : Nat} {a : UInt8} (hk : k < o.length) : (o.set k a).take (k + 1) = o.take k ++ [a] := by
  rw [List.take_set, take_snoc' (List.getElem?_eq_getElem hk), List.set_append_right _ _ (by simp; omega)]
  simp [Nat.min_eq_left (Nat.le_of_lt hk)]
def h0len (m : List (List UInt8)) : Int := match m with | [] => 0 | r :: _ => (r.length : Int)
theorem h0len_of {m : List (List UInt8)} {r : List UInt8} (h : m[0]? = some r) : h0len m = (r.length : Int) := by
  cases m with
  | nil => cases h
  | cons a l => injection h with h; subst h; rfl
def lAlike (m : List (List UInt8)) : Bool := !(m.any fun r => decide ((r.length : Int) ≠ h0len m))
def mRight (m : List (List UInt8)) : Bool := decide ((1 ≤ m.length ∧ m.length ≤ 255) ∧ 1 ≤ h0len m ∧ h0len m ≤ 255) && lAlike m
theorem mRight_no {m : List (List UInt8)} (h : ¬ ((1 ≤ m.length ∧ m.length ≤ 255) ∧ 1 ≤ h0len m ∧ h0len m ≤ 255)) : mRight m = false := by simp only [mRight, decide_eq_false h, Bool.false_and]
theorem mRight_yes {m : List (List UInt8)} (h : (1 ≤ m.length ∧ m.length ≤ 255) ∧ 1 ≤ h0len m ∧ h0len m ≤ 255) : mRight m = lAlike m := by simp only [mRight, decide_eq_true h, Bool.true_and]
theorem mRight_len {m : List (List UInt8)} (h : mRight m = true) : m.length ≤ 255 := by
  by_cases h1 : (1 ≤ m.length ∧ m.length ≤ 255) ∧ 1 ≤ h0len m ∧ h0len m ≤ 255
  · exact h1.1.2
  · rw [mRight_no h1] at h; cases h
theorem mRight_pos {m : List (List UInt8)} (h : mRight m = true) : 1 ≤ m.length := by
  by_cases h1 : (1 ≤ m.length ∧ m.length ≤ 255) ∧ 1 ≤ h0len m ∧ h0len m ≤ 255
  · exact h1.1.1
  · rw [mRight_no h1] at h; cases h
theorem lAlike_all {m : List (List UInt8)} (h : lAlike m = true) {r : List UInt8} (hr : r ∈ m) : (r.length : Int) = h0len m := by
  simp only [lAlike, Bool.not_eq_true', List.any_eq_false] at h
  have := h r hr
  simpa using this
theorem mRight_all {m : List (List UInt8)} (h : mRight m = true) {r : List UInt8} (hr : r ∈ m) : (r.length : Int) = h0len m := by
  simp only [mRight, Bool.and_eq_true] at h
  exact lAlike_all h.2 hr
def mApp (m : List (List UInt8)) (v : List UInt8) : List UInt8 × Int := if mRight m = true ∧ (v.length : Int) = h0len m then (mApply m v, 0) else ([], 1)
theorem mApp_no {m : List (List UInt8)} {v : List UInt8} (h : mRight m = false ∨ ¬ (v.length : Int) = h0len m) : mApp m v = ([], 1) := by
  rw [mApp, if_neg (by rintro ⟨h1, h2⟩; rcases h with h | h; rw [h1] at h; cases h; exact h h2)]
theorem mApp_yes {m : List (List UInt8)} {v : List UInt8} (h : mRight m = true ∧ (v.length : Int) = h0len m) : mApp m v = (mApply m v, 0) := by rw [mApp, if_pos h]
def mCauchy (data : Nat) (parity : Int) (n : Nat) : List (List UInt8) := (List.range n).map fun (k : Nat) => (List.range data).map fun (q : Nat) => ginv (b8 (k : Int) ^^^ b8 (parity + (q : Int)))
def cCauchy (data parity : Int) : List (List UInt8) × Int := if ((data < 1 ∨ parity < 1) ∨ 255 < data) ∨ 255 - data < parity then ([], 1) else (mCauchy data.toNat parity parity.toNat, 0)
theorem cCauchy_no {data parity : Int} (h : ((data < 1 ∨ parity < 1) ∨ 255 < data) ∨ 255 - data < parity) : cCauchy data parity = ([], 1) := by rw [cCauchy, if_pos h]
theorem cCauchy_yes {data parity : Int} (h : ((1 ≤ data ∧ 1 ≤ parity) ∧ data ≤ 255) ∧ parity ≤ 255 - data) : cCauchy data parity = (mCauchy data.toNat parity parity.toNat, 0) := by rw [cCauchy, if_neg (by omega)]
theorem mCauchy_len (d : Nat) (p : Int) (n : Nat) : (mCauchy d p n).length = n := by simp [mCauchy]
theorem mCauchy_row {d : Nat} {p : Int} {n : Nat} {r : List UInt8} (h : r ∈ mCauchy d p n) : r.length = d := by
  simp only [mCauchy, List.mem_map] at h
  obtain ⟨k, _, rfl⟩ := h
  simp
theorem mCauchy_h0 {d : Nat} {p : Int} {n : Nat} (hn : 1 ≤ n) : h0len (mCauchy d p n) = (d : Int) := by
  have hl := mCauchy_len d p n
  cases hm : mCauchy d p n with
  | nil => rw [hm] at hl; simp at hl; omega
  | cons a l => show (a.length : Int) = d; rw [mCauchy_row (p := p) (n := n) (by rw [hm]; simp)]
theorem mCauchy_right {d : Nat} {p : Int} {n : Nat} (hn : 1 ≤ n) (hn2 : n ≤ 255) (hd : 1 ≤ d) (hd2 : d ≤ 255) : mRight (mCauchy d p n) = true := by
  have h0 := mCauchy_h0 (d := d) (p := p) hn
  rw [mRight_yes ⟨by rw [mCauchy_len]; exact ⟨hn, hn2⟩, by rw [h0]; omega, by rw [h0]; omega⟩, lAlike, Bool.not_eq_true', List.any_eq_false]
  intro r hr
  rw [mCauchy_row hr, h0]
  simp
/-! ### Parity of rows -/
def colOf (l : List (List UInt8)) (k : Nat) : List UInt8 := l.map fun r => r.getD k 0
def cellOf (m l : List (List UInt8)) (i k : Nat) : UInt8 := (mApply m (colOf l k)).getD i 0
def mReckon (m l : List (List UInt8)) : List (List UInt8) := (List.range m.length).map fun i => (List.range (h0len l).toNat).map fun k => cellOf m l i k
def eEnc (l : List (List UInt8)) (p : Int) : List (List UInt8) × Int :=
  if ((((l.length : Int) < 1 ∨ 255 < (l.length : Int)) ∨ p < 0) ∨ 255 - (l.length : Int) < p) ∨ lAlike l = false then ([], 1) else if p = 0 then ([], 0) else (mReckon (mCauchy l.length p p.toNat) l, 0)
theorem eEnc_no {l : List (List UInt8)} {p : Int} (h : ((((l.length : Int) < 1 ∨ 255 < (l.length : Int)) ∨ p < 0) ∨ 255 - (l.length : Int) < p) ∨ lAlike l = false) : eEnc l p = ([], 1) := by rw [eEnc, if_pos h]
theorem eEnc_at {l : List (List UInt8)} {p : Int} (h : ((((1 ≤ (l.length : Int)) ∧ (l.length : Int) ≤ 255) ∧ 0 ≤ p) ∧ p ≤ 255 - (l.length : Int)) ∧ lAlike l = true) : eEnc l p = if p = 0 then ([], 0) else (mReckon (mCauchy l.length p p.toNat) l, 0) := by
  rw [eEnc, if_neg (by rintro ((((h1 | h1) | h1) | h1) | h1); omega; omega; omega; omega; rw [h.2] at h1; cases h1)]
theorem range_ext {β : Type} {X : List β} {n : Nat} {f : Nat → β} (h : ∀ i < n, X[i]? = some (f i)) (hl : X.length = n) : X = (List.range n).map f := by
  apply List.ext_getElem?
  intro i
  rcases Nat.lt_or_ge i n with hi | hi
  · rw [h i hi, List.getElem?_map, List.getElem?_range hi]; rfl
  · rw [List.getElem?_eq_none (by omega), List.getElem?_eq_none (by simpa using hi)]
theorem nest_step {X : List (List UInt8)} {n q k : Nat} {F : Nat → Nat → UInt8} {x : UInt8} (h : ∀ i < n, X[i]? = some (if i < q then (List.range (k + 1)).map (fun a => F i a) else (List.range k).map fun a => F i a)) (hq : q < n) (hx : x = F q k) :
    ∀ i < n, (X.set q ((List.range k).map (fun a => F q a) ++ [x]))[i]? = some (if i < q + 1 then (List.range (k + 1)).map (fun a => F i a) else (List.range k).map fun a => F i a) := by
  intro i hi
  have hl : q < X.length := (List.getElem?_eq_some_iff.1 (h q hq)).1
  by_cases e : q = i
  · subst e
    rw [List.getElem?_set_self hl, if_pos (by omega), List.range_succ, List.map_append, hx]; rfl
  · rw [List.getElem?_set_ne e, h i hi]
    by_cases h1 : i < q
    · rw [if_pos h1, if_pos (by omega)]
    · rw [if_neg h1, if_neg (by omega)]
theorem mApply_len (m : List (List UInt8)) (v : List UInt8) : (mApply m v).length = m.length := by simp [mApply]
end Go.Proofs.YtmelbclhkkbmiaaGreat.K
