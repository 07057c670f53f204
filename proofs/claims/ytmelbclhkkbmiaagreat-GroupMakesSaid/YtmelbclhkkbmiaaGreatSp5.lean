/- What groups of one tape of data are, and how they are found: the plain law of GroupNumbers. No condition beyond those that each theorem names. -/
import Derived.Test.YtmelbclhkkbmiaaGreatSp4
set_option linter.unusedVariables false
set_option linter.unusedSimpArgs false
namespace Go.Proofs.YtmelbclhkkbmiaaGreat.K
open Go Go.RowKit

/-! ### One tape of data -/
structure OneData (t : ATape) (u : AUnit) : Prop where
  lost : t.lost = false
  blocks : t.blocks = [fMade u]
  chk : uCheck u = 0
  label : u.label = t.label
  number : u.number = 0
  room : roomOf u.kind = 64
theorem OneData.len {t : ATape} {u : AUnit} (h : OneData t u) : (fMade u).length = 79 := by rw [fMade_len u (uCheck_le h.chk), h.room]
theorem OneData.good {t : ATape} {u : AUnit} (h : OneData t u) : vGood t 0 = (u, true) :=
  vGood_made (n := 0) h.lost (by rw [h.blocks]; rfl) h.chk h.label (by rw [h.number]; rfl)
theorem OneData.goodAll {t : ATape} {u : AUnit} (h : OneData t u) : goodAll t = true :=
  goodAll_yes (k := 1) (by rw [h.blocks]; exact Nat.le_refl 1) (fun a ha => by
    obtain rfl : a = 0 := by omega
    have := h.good
    rw [Int.natCast_zero, this])
theorem OneData.tlen {t : ATape} {u : AUnit} (h : OneData t u) : tLenL [t] = 1 := by
  simp only [tLenL, List.foldl_cons, List.foldl_nil, h.lost, h.blocks]; rfl
theorem OneData.cell {t : ATape} {u : AUnit} (h : OneData t u) : tCell t 0 = fMade u := by
  rw [tCell_at (b := fMade u) ⟨⟨h.lost, by omega⟩, by rw [h.blocks]; simp⟩ (by rw [h.blocks]; rfl), if_pos (by have := h.len; omega)]
theorem enc_one {r : List UInt8} {m : Int} (h1 : 1 ≤ m) (h2 : m ≤ 254) : (eEnc [r] m).2 = 0 ∧ (eEnc [r] m).1 = mReckon (mCauchy 1 m m.toNat) [r] := by
  have ha : lAlike [r] = true := by simp [lAlike, h0len]
  rw [eEnc_at (by simp only [List.length_singleton]; exact ⟨by omega, ha⟩), if_neg (by omega)]
  exact ⟨rfl, rfl⟩
theorem OneData.par {t : ATape} {u : AUnit} (h : OneData t u) {m : Int} (h1 : 1 ≤ m) (h2 : m ≤ 254) : sParity [t] m = (sPar [t] m 1, 0) := by
  refine sParity_yes (k := 1) ?_ (by rw [h.tlen]; rfl) (fun a ha => ?_)
  · exact (enc_one h1 h2).1
  · obtain rfl : a = 0 := by omega
    have e : tRow [t] ((0 : Nat) : Int) = [fMade u] := by simp only [tRow, List.map_cons, List.map_nil, Int.natCast_zero, h.cell]
    rw [rowBad, e]
    have := h.len
    simp only [List.any_cons, List.any_nil, Bool.or_false, decide_eq_false_iff_not]
    omega
theorem OneData.parLen {t : ATape} {u : AUnit} (h : OneData t u) {m : Int} (h1 : 1 ≤ m) (h2 : m ≤ 254) {i : Nat} (hi : i < m.toNat) : (parCell [t] m i 0).length = 79 := by
  have e : tRow [t] ((0 : Nat) : Int) = [fMade u] := by simp only [tRow, List.map_cons, List.map_nil, Int.natCast_zero, h.cell]
  rw [parCell, e, (enc_one h1 h2).2]
  have hl := h.len
  simp only [mReckon, mCauchy_len, List.getD_eq_getElem?_getD, List.getElem?_map, List.getElem?_range hi, Option.map_some, Option.getD_some, List.length_map, List.length_range, h0len]
  omega
/-! ### Parity tapes of one row -/
def gOut (t : ATape) (s : ASeal) (r : List UInt8) : ATape := ⟨t.label, t.cap, [fMade ⟨1, t.label, 0, [80]⟩, fMade ⟨6, t.label, 1, r⟩, fMade ⟨5, t.label, 2, sBytes s⟩], false⟩
theorem sBytes_64 {s : ASeal} (h : sRight s = true) : (sBytes s).length ≤ 64 := by
  have := sRight_P h
  unfold sRightP at this
  rw [sBytes_len]; omega
theorem uCheck_yes {u : AUnit} (h1 : 1 ≤ u.label ∧ u.label ≤ 2147483647) (h2 : 0 ≤ u.number ∧ u.number ≤ 2147483647) (h3 : 1 ≤ u.kind ∧ u.kind ≤ 6) (h4 : u.load.length ≤ roomOf u.kind) : uCheck u = 0 := by
  rw [uCheck, if_neg (by omega), if_pos h3, if_neg (by omega)]
theorem gOut_chk {t : ATape} {s : ASeal} {r : List UInt8} (hl : 1 ≤ t.label ∧ t.label ≤ 2147483647) (hs : sRight s = true) (hr : r.length ≤ 79) :
    uCheck ⟨1, t.label, 0, [80]⟩ = 0 ∧ uCheck ⟨6, t.label, 1, r⟩ = 0 ∧ uCheck ⟨5, t.label, 2, sBytes s⟩ = 0 :=
  ⟨uCheck_yes hl (by dsimp only; omega) (by dsimp only; omega) (by simp [roomOf]), uCheck_yes hl (by dsimp only; omega) (by dsimp only; omega) (by simpa [roomOf] using hr), uCheck_yes hl (by dsimp only; omega) (by dsimp only; omega) (by simpa [roomOf] using sBytes_64 hs)⟩
theorem gTape_one {t : ATape} {s : ASeal} {r : List UInt8} (hl : 1 ≤ t.label ∧ t.label ≤ 2147483647) (hs : sRight s = true) (hr : r.length ≤ 79) : gTape t s [r] = (gOut t s r, 0) := by
  obtain ⟨c1, c2, c3⟩ := gOut_chk (t := t) (s := s) (r := r) hl hs hr
  have hp : gPut t s [r] = ([fMade ⟨1, t.label, 0, [80]⟩, fMade ⟨6, t.label, 1, r⟩, fMade ⟨5, t.label, 2, sBytes s⟩], 0) := by
    simp only [gPut, gUnits, hs, if_true, List.map_cons, List.map_nil, List.cons_append, List.nil_append, putL, atU, Int.natCast_zero, Nat.zero_add, Int.natCast_one, c1, c2, show (((1 + 1 : Nat)) : Int) = 2 from rfl, c3]
  rw [gTape, hp]; rfl
def sAt (s : ASeal) (i : Int) : ASeal := ⟨s.number, i, s.data, s.parity, s.labels⟩
def gOuts (d : Int) (s : ASeal) (f : Nat → List UInt8) : Nat → List ATape → List ATape
  | _, [] => []
  | k, t :: r => gOut t (sAt s (d + (k : Int))) (f k) :: gOuts d s f (k + 1) r
theorem gTapes_one {d : Int} {s : ASeal} {p : List (List (List UInt8))} {f : Nat → List UInt8} : ∀ (l : List ATape) (k : Nat) (out : List ATape), (∀ t ∈ l, 1 ≤ t.label ∧ t.label ≤ 2147483647) →
    (∀ j, j < l.length → p.getD (k + j) [] = [f (k + j)] ∧ (f (k + j)).length ≤ 79 ∧ sRight (sAt s (d + ((k + j : Nat) : Int))) = true) → gTapes d s p k l out = (out ++ gOuts d s f k l, 0)
  | [], k, out, _, _ => by simp [gTapes, gOuts]
  | t :: r, k, out, hl, h => by
    have h0 := h 0 (by simp)
    rw [Nat.add_zero] at h0
    have e : gTape t ⟨s.number, d + (k : Int), s.data, s.parity, s.labels⟩ (p.getD k []) = (gOut t (sAt s (d + (k : Int))) (f k), 0) := by
      rw [h0.1]; exact gTape_one (hl t (by simp)) h0.2.2 h0.2.1
    rw [gTapes, e]
    simp only [if_true]
    rw [gTapes_one r (k + 1) _ (fun t ht => hl t (by simp [ht])) (fun j hj => by
      have := h (j + 1) (by simp; omega)
      rwa [show k + (j + 1) = k + 1 + j by omega] at this), gOuts]
    simp
theorem sAt_right {s : ASeal} {i : Int} (h : sRight s = true) (h0 : 0 ≤ i) (h1 : i ≤ s.data + s.parity - 1) : sRight (sAt s i) = true := by
  have hP := sRight_P h
  have hl := h
  rw [sRight_yes hP] at hl
  have hP2 : sRightP (sAt s i) := by unfold sRightP at hP ⊢; simp only [sAt]; omega
  rw [sRight_yes hP2]; exact hl
theorem gMake_one {t : ATape} {u : AUnit} {b : List ATape} {n : Int} (h : OneData t u) (hs : sRight (gSeal [t] b n) = true) (hb : ∀ x ∈ b, x.lost = false ∧ x.blocks = [] ∧ 3 ≤ x.cap ∧ 1 ≤ x.label ∧ x.label ≤ 2147483647) :
    gMake [t] b n = (gOuts 1 (gSeal [t] b n) (fun i => parCell [t] (b.length : Int) i 0) 0 b, 0) := by
  have hP := sRight_P hs
  unfold sRightP at hP
  simp only [gSeal, List.length_singleton] at hP
  have hc : gCheck [t] b (gSeal [t] b n) = 0 := by
    rw [gCheck, if_neg ?_, if_neg ?_, if_neg ?_]
    · simp only [List.any_eq_true, decide_eq_true_eq]
      rintro ⟨x, hx, h2⟩
      have := hb x hx
      rw [h.tlen] at h2; omega
    · simp only [List.any_eq_true, decide_eq_true_eq]
      rintro ⟨x, hx, h2⟩
      have := hb x hx
      rw [this.2.1] at h2; simp at h2
    · rintro ((((h2 | h2) | h2) | h2) | h2)
      · rw [hs] at h2; cases h2
      · simp [h.lost] at h2
      · simp only [List.any_eq_true] at h2
        obtain ⟨x, hx, h3⟩ := h2
        rw [(hb x hx).1] at h3; cases h3
      · rw [h.tlen] at h2; cases h2
      · simp [h.goodAll] at h2
  have hp := h.par (m := (b.length : Int)) (by omega) (by omega)
  rw [gMake, if_neg (fun hh => hh hc), hp, if_neg (fun hh => hh rfl)]
  refine (gTapes_one (f := fun i => parCell [t] (b.length : Int) i 0) b 0 [] (fun x hx => (hb x hx).2.2.2) (fun j hj => ?_)).trans (by simp)
  rw [Nat.zero_add]
  refine ⟨?_, ?_, ?_⟩
  · simp only [sPar, List.getD_eq_getElem?_getD, List.getElem?_map]
    rw [List.getElem?_range (by simpa using hj)]; rfl
  · rw [h.parLen (m := (b.length : Int)) (by omega) (by omega) (by simpa using hj)]; exact Nat.le_refl _
  · exact sAt_right hs (by omega) (by simp only [gSeal, List.length_singleton]; omega)
theorem vSealed_out {t : ATape} {s : ASeal} {r : List UInt8} (hl : 1 ≤ t.label ∧ t.label ≤ 2147483647) (hs : sRight s = true) : vSealed (gOut t s r) = (s, true) := by
  have c3 := (gOut_chk (t := t) (s := s) (r := []) hl hs (by simp)).2.2
  have hg : vGood (gOut t s r) (((gOut t s r).blocks.length : Int) - 1) = (⟨5, t.label, 2, sBytes s⟩, true) := vGood_made (n := 2) rfl rfl c3 rfl rfl
  rw [vSealed_yes (by rw [hg]; exact ⟨rfl, rfl⟩), hg, sRead_bytes hs]; rfl
theorem OneData.noSeal {t : ATape} {u : AUnit} (h : OneData t u) (hk : ¬ u.kind = 5) : vSealed t = (sZero, false) := by
  have hg : vGood t ((t.blocks.length : Int) - 1) = (u, true) := by
    have := h.good
    rw [h.blocks]; exact this
  exact vSealed_no (.inr (by rw [hg]; exact hk))
theorem fMade_1m {u : AUnit} (h : uCheck u = 0) : (fMade u).length ≤ 1000000 := by
  have := roomOf_le u.kind
  rw [fMade_len u (uCheck_le h)]; omega
theorem gOut_blocks {t : ATape} {s : ASeal} {r : List UInt8} (hl : 1 ≤ t.label ∧ t.label ≤ 2147483647) (hs : sRight s = true) (hr : r.length ≤ 79) : ∀ x ∈ (gOut t s r).blocks, x.length ≤ 1000000 := by
  obtain ⟨c1, c2, c3⟩ := gOut_chk (t := t) (s := s) (r := r) hl hs hr
  intro x hx
  simp only [gOut, List.mem_cons, List.not_mem_nil, or_false] at hx
  rcases hx with rfl | rfl | rfl
  · exact fMade_1m c1
  · exact fMade_1m c2
  · exact fMade_1m c3
/-! ### GroupNumbers -/
def gnNum (l : List Int) (i : Nat) : Int := 1 + (l.getD i 0) % 2 ^ 3
def dUnit (i : Nat) : AUnit := ⟨1, 2 * (i : Int) + 1, 0, [68]⟩
def fput (u : AUnit) : List UInt8 := if uCheck u = 0 then fMade u else []
def gnD (i : Nat) : ATape := ⟨2 * (i : Int) + 1, 5, [fput (dUnit i)], false⟩
def gnB (i : Nat) : ATape := ⟨2 * (i : Int) + 2, 5, [], false⟩
def gnS (l : List Int) (i : Nat) : ASeal := ⟨gnNum l i, 1, 1, 1, [2 * (i : Int) + 1, 2 * (i : Int) + 2]⟩
theorem gnNum_bd (l : List Int) (i : Nat) : 1 ≤ gnNum l i ∧ gnNum l i ≤ 8 := by unfold gnNum; omega
theorem dUnit_chk {i : Nat} (hi : i < 1000) : uCheck (dUnit i) = 0 := uCheck_yes (by simp only [dUnit]; omega) (by simp only [dUnit]; omega) (by simp only [dUnit]; omega) (by simp [dUnit, roomOf])
theorem gnD_one {i : Nat} (hi : i < 1000) : OneData (gnD i) (dUnit i) :=
  ⟨rfl, by rw [gnD, fput, if_pos (dUnit_chk hi)], dUnit_chk hi, rfl, rfl, rfl⟩
theorem gnS_right (l : List Int) {i : Nat} (hi : i < 1000) (j : Int) (hj : j = 0 ∨ j = 1) : sRight (sAt (gnS l i) j) = true := by
  have hb := gnNum_bd l i
  have hP : sRightP (sAt (gnS l i) j) := by unfold sRightP; simp only [sAt, gnS, List.length_cons, List.length_nil]; omega
  rw [sRight_yes hP]
  simp only [sAt, gnS, lblsL, List.nil_append, List.contains_nil, List.contains_cons, Bool.not_false, Bool.and_true, Bool.or_false, Bool.and_eq_true, decide_eq_true_eq, Bool.not_eq_true', beq_eq_false_iff_ne]
  omega
theorem gn_make (l : List Int) {i : Nat} (hi : i < 1000) : ∃ r, r.length ≤ 79 ∧ gMake [gnD i] [gnB i] (gnNum l i) = ([gOut (gnB i) (gnS l i) r], 0) := by
  have hs : sRight (gSeal [gnD i] [gnB i] (gnNum l i)) = true := gnS_right l hi 0 (.inl rfl)
  refine ⟨parCell [gnD i] 1 0 0, by rw [(gnD_one hi).parLen (by omega) (by omega) (by decide)]; exact Nat.le_refl _, ?_⟩
  rw [gMake_one (gnD_one hi) hs (fun x hx => by
    obtain rfl : x = gnB i := by simpa using hx
    exact ⟨rfl, rfl, by show (3 : Int) ≤ 5; decide, by show 1 ≤ 2 * (i : Int) + 2; omega, by show 2 * (i : Int) + 2 ≤ 2147483647; omega⟩)]
  rfl
theorem gn_pair (l : List Int) {i : Nat} (hi : i < 1000) (r : List UInt8) (out : List ASeal) :
    gFind1 (gFind1 out (gnD i)) (gOut (gnB i) (gnS l i) r) = if out.any (fun x => decide (x.number = gnNum l i)) = true then out else out ++ [gnS l i] := by
  have h1 : gFind1 out (gnD i) = out := by
    rw [gFind1, gSkip, (gnD_one hi).noSeal (by show ¬ (1 : Int) = 5; decide)]; rfl
  have h2 : vSealed (gOut (gnB i) (gnS l i) r) = (gnS l i, true) := vSealed_out (by show 1 ≤ 2 * (i : Int) + 2 ∧ 2 * (i : Int) + 2 ≤ 2147483647; omega) (gnS_right l hi 1 (.inr rfl))
  have h3 : labIx (gnS l i) = (gOut (gnB i) (gnS l i) r).label := rfl
  rw [h1, gFind1, gSkip, h2]
  simp only [h3, ne_eq, not_true_eq_false, decide_false, Bool.not_true, Bool.false_or]
  rfl
def firstB (l : List Int) (i k : Nat) : Bool := (List.range k).all fun j => decide (gnNum l j ≠ gnNum l i)
theorem firstB_succ (l : List Int) (i k : Nat) : firstB l i (k + 1) = (firstB l i k && decide (gnNum l k ≠ gnNum l i)) := by simp [firstB, List.range_succ]
theorem firstB_iff {l : List Int} {i k : Nat} : firstB l i k = true ↔ ∀ j < k, gnNum l j ≠ gnNum l i := by simp [firstB]
theorem gn_ne {l : List Int} {i j : Nat} {x y : Int} (hx : l[i]? = some x) (hy : l[j]? = some y) : decide (gnNum l i ≠ gnNum l j) = decide (x % 2 ^ 3 ≠ y % 2 ^ 3) := by
  have e1 : gnNum l i = 1 + x % 2 ^ 3 := by rw [gnNum, List.getD_eq_getElem?_getD, hx]; rfl
  have e2 : gnNum l j = 1 + y % 2 ^ 3 := by rw [gnNum, List.getD_eq_getElem?_getD, hy]; rfl
  rw [e1, e2]
  by_cases h : x % 2 ^ 3 = y % 2 ^ 3
  · rw [h]; simp
  · rw [decide_eq_true (show x % 2 ^ 3 ≠ y % 2 ^ 3 from h), decide_eq_true (by omega)]
theorem gnD_blocks (i : Nat) : ∀ t ∈ [gnD i], ∀ x ∈ t.blocks, x.length ≤ 1000000 := by
  intro t ht x hx
  obtain rfl : t = gnD i := by simpa using ht
  obtain rfl : x = fput (dUnit i) := by simpa [gnD] using hx
  have : (fput (dUnit i)).length ≤ 94 := fput_len _
  omega
theorem gnD_tlen (i : Nat) : tLenL [gnD i] ≤ 1000000 := by show (max 0 (1 : Int)) ≤ _; decide
def h0blk (l : List ATape) : Int := match l with | [] => 0 | t :: _ => (t.blocks.length : Int)
theorem h0blk_of {l : List ATape} {t : ATape} (h : l[0]? = some t) : h0blk l = (t.blocks.length : Int) := by
  cases l with
  | nil => cases h
  | cons a l => injection h with h; subst h; rfl
/-- The tapes of the law, and the seals that are found of them. -/
inductive GnL (l : List Int) : Nat → List ATape → Prop
  | nil : GnL l 0 []
  | snoc {k : Nat} {T : List ATape} (h : GnL l k T) (r : List UInt8) (hr : r.length ≤ 79) : GnL l (k + 1) (T ++ [gnD k, gOut (gnB k) (gnS l k) r])
theorem first_min {l : List Int} {x : Int} : ∀ k, (∃ j < k, gnNum l j = x) → ∃ j < k, gnNum l j = x ∧ firstB l j j = true
  | 0, ⟨j, hj, _⟩ => by omega
  | k + 1, ⟨j, hj, hx⟩ => by
    by_cases h : ∃ j < k, gnNum l j = x
    · obtain ⟨q, h1, h2⟩ := first_min k h
      exact ⟨q, by omega, h2⟩
    · obtain rfl : j = k := by
        rcases Nat.lt_or_ge j k with h2 | h2
        · exact absurd ⟨j, h2, hx⟩ h
        · omega
      exact ⟨j, by omega, hx, firstB_iff.2 fun q hq e => h ⟨q, hq, by rw [e, hx]⟩⟩
theorem gn_found {l : List Int} {k : Nat} {T : List ATape} (h : GnL l k T) (hk : k ≤ 8) : ∀ s, s ∈ gFindU T ↔ ∃ i < k, firstB l i i = true ∧ s = gnS l i := by
  induction h with
  | nil => intro s; simp [gFindU]
  | snoc h r hr ih =>
    rename_i k T
    have ih := ih (by omega)
    intro s
    have e : gFindU (T ++ [gnD k, gOut (gnB k) (gnS l k) r]) = if (gFindU T).any (fun x => decide (x.number = gnNum l k)) = true then gFindU T else gFindU T ++ [gnS l k] := by
      rw [← gn_pair l (by omega) r, show T ++ [gnD k, gOut (gnB k) (gnS l k) r] = (T ++ [gnD k]) ++ [gOut (gnB k) (gnS l k) r] by simp, gFindU_snoc, gFindU_snoc]
    have hany : (gFindU T).any (fun x => decide (x.number = gnNum l k)) = !firstB l k k := by
      cases hf : firstB l k k
      · have hn : ∃ j < k, gnNum l j = gnNum l k := Decidable.byContradiction fun hno => by
          have : firstB l k k = true := firstB_iff.2 fun j hj e => hno ⟨j, hj, e⟩
          rw [this] at hf; cases hf
        obtain ⟨j, hj, hx, hfj⟩ := first_min k hn
        exact List.any_eq_true.2 ⟨gnS l j, (ih _).2 ⟨j, hj, hfj, rfl⟩, decide_eq_true hx⟩
      · refine List.any_eq_false.2 fun x hx => ?_
        obtain ⟨j, hj, _, rfl⟩ := (ih x).1 hx
        simp only [Bool.not_eq_true, decide_eq_false_iff_not]
        exact firstB_iff.1 hf j hj
    rw [e, hany]
    cases hf : firstB l k k
    · simp only [Bool.not_false, if_true]
      rw [ih]
      constructor
      · rintro ⟨i, h1, h2⟩; exact ⟨i, by omega, h2⟩
      · rintro ⟨i, h1, h2, h3⟩
        refine ⟨i, ?_, h2, h3⟩
        rcases Nat.lt_or_ge i k with h4 | h4
        · exact h4
        · obtain rfl : i = k := by omega
          rw [hf] at h2; cases h2
    · simp only [Bool.not_true, Bool.false_eq_true, if_false]
      rw [List.mem_append, ih, List.mem_singleton]
      constructor
      · rintro (⟨i, h1, h2⟩ | rfl)
        · exact ⟨i, by omega, h2⟩
        · exact ⟨k, by omega, hf, rfl⟩
      · rintro ⟨i, h1, h2, h3⟩
        rcases Nat.lt_or_ge i k with h4 | h4
        · exact .inl ⟨i, h4, h2, h3⟩
        · obtain rfl : i = k := by omega
          exact .inr h3
theorem gn_of {l : List Int} {k : Nat} {T : List ATape} (h : GnL l k T) (hk : k ≤ 8) {i : Nat} (hi : i < k) {lab : Int} (hlab : lab = 2 * (i : Int) + 1 ∨ lab = 2 * (i : Int) + 2) :
    gOf (gFind T) lab = if firstB l i i = true then (gnS l i, true) else (sZero, false) := by
  have hm : ∀ s, s ∈ gFind T ↔ ∃ i < k, firstB l i i = true ∧ s = gnS l i := fun s => ((gFind_perm T).mem_iff).trans (gn_found h hk s)
  have hc : ∀ j, (gnS l j).labels.contains lab = true → j = i := fun j hj => by
    simp only [gnS, List.contains_cons, List.contains_nil, Bool.or_false, Bool.or_eq_true, beq_iff_eq] at hj
    omega
  have hc2 : (gnS l i).labels.contains lab = true := by
    simp only [gnS, List.contains_cons, List.contains_nil, Bool.or_false, Bool.or_eq_true, beq_iff_eq]
    omega
  split
  · rename_i hf
    cases hfd : (gFind T).find? (fun s => s.labels.contains lab) with
    | none => exact absurd hc2 (by have := List.find?_eq_none.1 hfd (gnS l i) ((hm _).2 ⟨i, hi, hf, rfl⟩); simpa using this)
    | some s =>
      have h1 := List.find?_some hfd
      obtain ⟨j, hj, _, rfl⟩ := (hm s).1 (List.mem_of_find?_eq_some hfd)
      obtain rfl := hc j h1
      rw [gOf, hfd]
  · rename_i hf
    refine gOf_none fun s hs => ?_
    obtain ⟨j, hj, hfj, rfl⟩ := (hm s).1 hs
    cases hcc : (gnS l j).labels.contains lab
    · rfl
    · obtain rfl := hc j hcc
      exact absurd hfj hf
theorem gn_lbls {l : List Int} {k : Nat} {T : List ATape} (h : GnL l k T) (hk : k ≤ 8) : ∀ s ∈ gFind T, s.labels.length ≤ 1000000 := fun s hs => by
  obtain ⟨i, _, _, rfl⟩ := (gn_found h hk s).1 ((gFind_perm T).mem_iff.1 hs)
  show 2 ≤ 1000000
  decide
theorem gn_steps {T : List ATape} {i : Nat} {a b : ASeal} (ha : (gFind T)[i]? = some a) (hb : (gFind T)[i + 1]? = some b) : a.number < b.number := by
  have h := List.pairwise_iff_getElem.1 (gFind_sorted T) i (i + 1) (List.getElem?_eq_some_iff.1 ha).1 (List.getElem?_eq_some_iff.1 hb).1 (by omega)
  rw [(List.getElem?_eq_some_iff.1 ha).2, (List.getElem?_eq_some_iff.1 hb).2] at h
  exact h
theorem GnL.len {l : List Int} {k : Nat} {T : List ATape} (h : GnL l k T) : T.length = 2 * k := by
  induction h with
  | nil => rfl
  | snoc h r hr ih => simp [ih]; omega
theorem GnL.blocks {l : List Int} {k : Nat} {T : List ATape} (h : GnL l k T) (hk : k ≤ 8) : ∀ t ∈ T, ∀ x ∈ t.blocks, x.length ≤ 1000000 := by
  induction h with
  | nil => intro t ht; cases ht
  | snoc h r hr ih =>
    rename_i k T
    intro t ht x hx
    rcases List.mem_append.1 ht with ht | ht
    · exact ih (by omega) t ht x hx
    · have h94 : x.length ≤ 94 ∨ x ∈ (gOut (gnB k) (gnS l k) r).blocks := by
        rcases List.mem_cons.1 ht with rfl | ht
        · obtain rfl : x = _ := by simpa [gnD] using hx
          exact .inl (fput_len _)
        · obtain rfl : t = _ := by simpa using ht
          exact .inr hx
      rcases h94 with h94 | h94
      · omega
      · exact gOut_blocks (by show 1 ≤ 2 * (k : Int) + 2 ∧ 2 * (k : Int) + 2 ≤ 2147483647; omega) (gnS_right l (by omega) 1 (.inr rfl)) hr x h94
end Go.Proofs.YtmelbclhkkbmiaaGreat.K
