/- What the reference's group of tapes is: the plain law of GroupMakes. No condition beyond those that each theorem names. -/
import Derived.Test.YtmelbclhkkbmiaaGreatSp7
import Derived.Test.YtmelbclhkkbmiaaGreatSp5
set_option linter.unusedVariables false
set_option linter.unusedSimpArgs false
namespace Go.Proofs.YtmelbclhkkbmiaaGreat.K
open Go Go.RowKit

/-! ### Frames of a tape -/
def frs (lbl : Int) : Nat → List AUnit → List (List UInt8)
  | _, [] => []
  | k, u :: r => fMade (atU lbl k u) :: frs lbl (k + 1) r
theorem frs_append (lbl : Int) : ∀ (U V : List AUnit) (k : Nat), frs lbl k (U ++ V) = frs lbl k U ++ frs lbl (k + U.length) V
  | [], V, k => by simp [frs]
  | u :: U, V, k => by
    rw [List.cons_append, frs, frs_append lbl U V (k + 1), frs, List.cons_append, List.length_cons, show k + 1 + U.length = k + (U.length + 1) by omega]
theorem frs_len (lbl : Int) : ∀ (U : List AUnit) (k : Nat), (frs lbl k U).length = U.length
  | [], k => rfl
  | u :: U, k => by rw [frs, List.length_cons, frs_len lbl U, List.length_cons]
theorem putL_all {lbl : Int} : ∀ (U : List AUnit) (k : Nat) (out : List (List UInt8)), (∀ u ∈ U, ∀ q, q < k + U.length → uCheck (atU lbl q u) = 0) → putL lbl k U out = (out ++ frs lbl k U, 0)
  | [], k, out, _ => by simp [putL, frs]
  | u :: U, k, out, h => by
    rw [putL, if_pos (h u (by simp) k (by simp)), putL_all U (k + 1) _ (fun v hv q hq => h v (by simp [hv]) q (by simp; omega)), frs, List.append_assoc]; rfl
def rFr (t : ATape) (rows : List (List UInt8)) : List (List UInt8) := frs t.label 0 ([(⟨1, 0, 0, [80]⟩ : AUnit)] ++ rows.map (fun b => (⟨6, 0, 0, b⟩ : AUnit)))
theorem rFr_nil (t : ATape) : rFr t [] = [fMade ⟨1, t.label, 0, [80]⟩] := rfl
theorem rFr_len (t : ATape) (rows : List (List UInt8)) : (rFr t rows).length = rows.length + 1 := by rw [rFr, frs_len]; simp
theorem rFr_snoc (t : ATape) (rows : List (List UInt8)) (r : List UInt8) : rFr t (rows ++ [r]) = rFr t rows ++ [fMade ⟨6, t.label, (rows.length : Int) + 1, r⟩] := by
  rw [rFr, List.map_append, ← List.append_assoc, frs_append, ← rFr]
  congr 1
  simp only [List.map_singleton, frs, atU, List.length_append, List.length_map, List.length_singleton]
  rw [show ((0 + (1 + rows.length) : Nat) : Int) = (rows.length : Int) + 1 by omega]
theorem rFr_seal {t : ATape} {s : ASeal} {rows : List (List UInt8)} (hs : sRight s = true) : frs t.label 0 (gUnits s rows) = rFr t rows ++ [fMade ⟨5, t.label, (rows.length : Int) + 1, sBytes s⟩] := by
  rw [gUnits, frs_append, ← rFr, if_pos hs]
  congr 1
  simp only [frs, atU, List.length_append, List.length_map, List.length_singleton]
  rw [show ((0 + (1 + rows.length) : Nat) : Int) = (rows.length : Int) + 1 by omega]
theorem chk_1 {lbl : Int} (hl : 1 ≤ lbl ∧ lbl ≤ 2147483647) : uCheck ⟨1, lbl, 0, [80]⟩ = 0 := uCheck_yes hl (by dsimp only; omega) (by dsimp only; omega) (by simp [roomOf])
theorem chk_6 {lbl q : Int} {r : List UInt8} (hl : 1 ≤ lbl ∧ lbl ≤ 2147483647) (hq : 0 ≤ q ∧ q ≤ 2147483647) (hr : r.length ≤ 79) : uCheck ⟨6, lbl, q, r⟩ = 0 := uCheck_yes hl hq (by dsimp only; omega) (by simpa [roomOf] using hr)
theorem chk_5 {lbl q : Int} {s : ASeal} (hl : 1 ≤ lbl ∧ lbl ≤ 2147483647) (hq : 0 ≤ q ∧ q ≤ 2147483647) (hs : sRight s = true) : uCheck ⟨5, lbl, q, sBytes s⟩ = 0 := uCheck_yes hl hq (by dsimp only; omega) (by simpa [roomOf] using sBytes_64 hs)
theorem gTape_all {t : ATape} {s : ASeal} {rows : List (List UInt8)} (hl : 1 ≤ t.label ∧ t.label ≤ 2147483647) (hs : sRight s = true) (hr : ∀ r ∈ rows, r.length ≤ 79) (hn : rows.length ≤ 1000000) :
    gTape t s rows = (⟨t.label, t.cap, rFr t rows ++ [fMade ⟨5, t.label, (rows.length : Int) + 1, sBytes s⟩], false⟩, 0) := by
  have hp : gPut t s rows = (frs t.label 0 (gUnits s rows), 0) := by
    rw [gPut, putL_all]
    · rfl
    · intro u hu q hq
      have hlen : (gUnits s rows).length = rows.length + 2 := by simp [gUnits]
      rw [hlen] at hq
      rw [gUnits, if_pos hs] at hu
      simp only [List.mem_append, List.mem_singleton, List.mem_map] at hu
      rcases hu with (rfl | ⟨r, hr1, rfl⟩) | rfl
      · exact uCheck_yes hl (by show 0 ≤ (q : Int) ∧ (q : Int) ≤ 2147483647; omega) (by show (1 : Int) ≤ 1 ∧ (1 : Int) ≤ 6; omega) (by simp [roomOf, atU])
      · exact chk_6 hl (by omega) (hr r hr1)
      · exact chk_5 hl (by omega) hs
  rw [gTape, hp, rFr_seal hs]; rfl
/-! ### The checks of a group -/
def rLost (d b : List ATape) : Bool := d.any (fun t => t.lost) || b.any (fun t => t.lost)
def rBad (d : List ATape) : Bool := decide (tLenL d = 0) || !d.all goodAll
theorem gCheck_1 {d b : List ATape} {n : Int} (h : (sRight (gSeal d b n) = false ∨ rLost d b = true) ∨ rBad d = true) : gMake d b n = ([], 1) := by
  have hc : gCheck d b (gSeal d b n) = 1 := by
    rw [gCheck, if_pos]
    rcases h with (h | h) | h
    · exact .inl (.inl (.inl (.inl h)))
    · rw [rLost, Bool.or_eq_true] at h
      rcases h with h | h
      · exact .inl (.inl (.inl (.inr h)))
      · exact .inl (.inl (.inr h))
    · rw [rBad, Bool.or_eq_true, decide_eq_true_eq, Bool.not_eq_true'] at h
      rcases h with h | h
      · exact .inl (.inr h)
      · exact .inr h
  rw [gMake, hc, if_pos (by decide)]
def rOk (d b : List ATape) (n : Int) : Prop := (sRight (gSeal d b n) = true ∧ rLost d b = false) ∧ rBad d = false
theorem gCheck_2 {d b : List ATape} {n : Int} (h : rOk d b n) : gCheck d b (gSeal d b n) = if b.any (fun t => decide (t.blocks.length > 0)) = true then 11 else if b.any (fun t => decide (tLenL d + 2 > t.cap)) = true then 6 else 0 := by
  obtain ⟨⟨h1, h2⟩, h3⟩ := h
  rw [rLost, Bool.or_eq_false_iff] at h2
  rw [rBad, Bool.or_eq_false_iff, decide_eq_false_iff_not, Bool.not_eq_false'] at h3
  rw [gCheck, if_neg]
  rintro ((((h | h) | h) | h) | h)
  · rw [h1] at h; cases h
  · rw [h2.1] at h; cases h
  · rw [h2.2] at h; cases h
  · exact h3.1 h
  · rw [h3.2] at h; cases h
theorem gMake_11 {d b : List ATape} {n : Int} {k : Nat} {t : ATape} (h : rOk d b n) (ht : b[k]? = some t) (hb : t.blocks.length > 0) : gMake d b n = ([], 11) := by
  have hc := gCheck_2 h
  rw [if_pos (List.any_eq_true.2 ⟨t, List.mem_of_getElem? ht, by simpa using hb⟩)] at hc
  rw [gMake, hc, if_pos (by decide)]
theorem gMake_6 {d b : List ATape} {n : Int} {k : Nat} {t : ATape} (h : rOk d b n) (h0 : ∀ t ∈ b, ¬ t.blocks.length > 0) (ht : b[k]? = some t) (hb : tLenL d + 2 > t.cap) : gMake d b n = ([], 6) := by
  have hc := gCheck_2 h
  rw [if_neg (by rw [List.any_eq_true]; rintro ⟨x, hx, h1⟩; exact h0 x hx (by simpa using h1)), if_pos (List.any_eq_true.2 ⟨t, List.mem_of_getElem? ht, by simpa using hb⟩)] at hc
  rw [gMake, hc, if_pos (by decide)]
theorem gMake_0 {d b : List ATape} {n : Int} (h : rOk d b n) (h0 : ∀ t ∈ b, ¬ t.blocks.length > 0) (h6 : ∀ t ∈ b, ¬ tLenL d + 2 > t.cap) : gCheck d b (gSeal d b n) = 0 := by
  rw [gCheck_2 h, if_neg (by rw [List.any_eq_true]; rintro ⟨x, hx, h1⟩; exact h0 x hx (by simpa using h1)), if_neg (by rw [List.any_eq_true]; rintro ⟨x, hx, h1⟩; exact h6 x hx (by simpa using h1))]
theorem eEnc_row {l : List (List UInt8)} {p : Int} {r : List UInt8} (h : r ∈ (eEnc l p).1) : r.length ≤ (h0len l).toNat := by
  unfold eEnc at h
  split at h
  · cases h
  · split at h
    · cases h
    · simp only [mReckon, List.mem_map] at h
      obtain ⟨i, _, rfl⟩ := h
      simp
theorem h0len_79 (l : List ATape) (n : Int) : h0len (tRow l n) ≤ 79 := by
  cases l with
  | nil => simp [tRow, h0len]
  | cons t l => show ((tCell t n).length : Int) ≤ _; have := tCell_len t n; omega
theorem parCell_len (l : List ATape) (p : Int) (i k : Nat) : (parCell l p i k).length ≤ 79 := by
  rw [parCell, List.getD_eq_getElem?_getD]
  cases hx : (eEnc (tRow l (k : Int)) p).1[i]? with
  | none => simp
  | some x =>
    have h1 := eEnc_row (List.mem_of_getElem? hx)
    have h2 := h0len_79 l (k : Int)
    simp only [Option.getD_some]
    omega
theorem sParity_cell {l : List ATape} {p : Int} {r : List (List UInt8)} {x : List UInt8} (hr : r ∈ (sParity l p).1) (hx : x ∈ r) : x.length ≤ 79 := by
  unfold sParity at hr
  split at hr
  · cases hr
  · split at hr
    · cases hr
    · simp only [sPar, List.mem_map] at hr
      obtain ⟨i, _, rfl⟩ := hr
      simp only [List.mem_map] at hx
      obtain ⟨k, _, rfl⟩ := hx
      exact parCell_len _ _ _ _
theorem lblsL_all : ∀ (l p : List Int), lblsL p l = true → ∀ x ∈ l, 1 ≤ x ∧ x ≤ 2147483647
  | [], p, _, x, hx => by cases hx
  | y :: r, p, h, x, hx => by
    rw [lblsL, Bool.and_eq_true, Bool.and_eq_true, decide_eq_true_eq] at h
    rcases List.mem_cons.1 hx with rfl | hx
    · exact h.1.1
    · exact lblsL_all r _ h.2 x hx
theorem seal_lab {d b : List ATape} {n : Int} {t : ATape} (h : sRight (gSeal d b n) = true) (ht : t ∈ b) : 1 ≤ t.label ∧ t.label ≤ 2147483647 := by
  rw [sRight_yes (sRight_P h)] at h
  refine lblsL_all _ _ h t.label ?_
  simp only [gSeal, gLabels, List.flatten_cons, List.flatten_nil, List.append_nil, List.mem_append, List.mem_map]
  exact ⟨t, .inr ht, rfl⟩
theorem tLenL_le {l : List ATape} {m : Int} (hm : 0 ≤ m) (h : ∀ t ∈ l, (t.blocks.length : Int) ≤ m) : tLenL l ≤ m := by
  have : ∀ (l : List ATape) (n : Int), n ≤ m → (∀ t ∈ l, (t.blocks.length : Int) ≤ m) → l.foldl (fun n t => if t.lost = true then n else max n (t.blocks.length : Int)) n ≤ m := by
    intro l
    induction l with
    | nil => intro n h _; exact h
    | cons t l ih => intro n h h2; rw [List.foldl_cons]; refine ih _ ?_ (fun x hx => h2 x (by simp [hx])); have := h2 t (by simp); split <;> omega
  exact this l 0 hm h
theorem few_tlen {l : List ATape} (h : ∀ t ∈ l, t.blocks.length ≤ 90 ∧ ∀ b ∈ t.blocks, b.length ≤ 300) : tLenL l ≤ 1000000 :=
  tLenL_le (by decide) (fun t ht => by have := (h t ht).1; omega)
end Go.Proofs.YtmelbclhkkbmiaaGreat.K
