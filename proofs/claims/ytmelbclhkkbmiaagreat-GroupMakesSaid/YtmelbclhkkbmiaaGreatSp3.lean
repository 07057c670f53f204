/- What parity of tapes, groups and their search answer, in plain Lean. No condition beyond those that each theorem names. -/
import Derived.Test.YtmelbclhkkbmiaaGreatSp2
import Derived.Lib.Small
set_option linter.unusedVariables false
set_option linter.unusedSimpArgs false
namespace Go.Proofs.YtmelbclhkkbmiaaGreat.K
open Go Go.RowKit

/-! ### Parity of tapes -/
def rowBad (l : List ATape) (k : Nat) : Bool := (tRow l (k : Int)).any fun b => decide (b.length = 0)
def parCell (l : List ATape) (p : Int) (i k : Nat) : List UInt8 := (eEnc (tRow l (k : Int)) p).1.getD i []
def sPar (l : List ATape) (p : Int) (n : Nat) : List (List (List UInt8)) := (List.range p.toNat).map fun i => (List.range n).map fun k => parCell l p i k
def sParity (l : List ATape) (p : Int) : List (List (List UInt8)) × Int :=
  if ¬ (eEnc (tRow l (-1)) p).2 = 0 then ([], (eEnc (tRow l (-1)) p).2) else
  if (List.range (tLenL l).toNat).any (rowBad l) = true then ([], 1) else (sPar l p (tLenL l).toNat, 0)
theorem sParity_no {l : List ATape} {p : Int} (h : ¬ (eEnc (tRow l (-1)) p).2 = 0) : sParity l p = ([], (eEnc (tRow l (-1)) p).2) := by rw [sParity, if_pos h]
theorem sParity_bad {l : List ATape} {p : Int} {k : Nat} (h : (eEnc (tRow l (-1)) p).2 = 0) (hk : (k : Int) < tLenL l) (hb : (tRow l (k : Int)).any (fun b => decide (b.length = 0)) = true) : sParity l p = ([], 1) := by
  rw [sParity, if_neg (fun hh => hh h), if_pos (List.any_eq_true.2 ⟨k, List.mem_range.2 (by omega), hb⟩)]
theorem sParity_yes {l : List ATape} {p : Int} {k : Nat} (h : (eEnc (tRow l (-1)) p).2 = 0) (hk : k = (tLenL l).toNat) (hb : ∀ a < k, rowBad l a = false) : sParity l p = (sPar l p k, 0) := by
  subst hk
  rw [sParity, if_neg (fun hh => hh h), if_neg (by rw [Bool.not_eq_true, List.any_eq_false]; intro a ha; simp [hb a (List.mem_range.1 ha)])]
theorem tLenL_nonneg (l : List ATape) : 0 ≤ tLenL l := by
  have : ∀ (l : List ATape) (n : Int), 0 ≤ n → 0 ≤ l.foldl (fun n t => if t.lost = true then n else max n (t.blocks.length : Int)) n := by
    intro l
    induction l with
    | nil => intro n h; exact h
    | cons t l ih => intro n h; rw [List.foldl_cons]; refine ih _ ?_; split <;> omega
  exact this l 0 (Int.le_refl _)
theorem eEnc_zero {l : List (List UInt8)} {p : Int} (h : (eEnc l p).2 = 0) : (1 ≤ l.length ∧ l.length ≤ 255) ∧ 0 ≤ p ∧ p ≤ 255 - (l.length : Int) := by
  by_cases h1 : ((((l.length : Int) < 1 ∨ 255 < (l.length : Int)) ∨ p < 0) ∨ 255 - (l.length : Int) < p) ∨ lAlike l = false
  · rw [eEnc_no h1] at h; cases h
  · omega
theorem tRow_len (l : List ATape) (n : Int) : (tRow l n).length = l.length := by simp [tRow]
theorem tCell_79 {t : ATape} {n : Int} (h : ¬ (tCell t n).length = 0) : (tCell t n).length = 79 := by
  rw [tCell] at h ⊢
  split
  · simp
  · rename_i h0
    rw [if_neg h0] at h
    split
    · rename_i hb; rw [hb] at h; exact absurd rfl h
    · rename_i b hb
      rw [hb] at h
      simp only at h
      split
      · omega
      · rename_i h2; rw [if_neg h2] at h; exact absurd rfl h
theorem row_alike {l : List ATape} {n : Int} (h : (tRow l n).any (fun b => decide (b.length = 0)) = false) : lAlike (tRow l n) = true := by
  rw [List.any_eq_false] at h
  have h79 : ∀ r ∈ tRow l n, (r.length : Int) = 79 := fun r hr => by
    have h1 := h r hr
    simp only [tRow, List.mem_map] at hr
    obtain ⟨t, _, rfl⟩ := hr
    have := tCell_79 (t := t) (n := n) (by simpa using h1)
    omega
  rw [lAlike, Bool.not_eq_true', List.any_eq_false]
  intro r hr
  have h2 : h0len (tRow l n) = 79 := by
    cases hl : tRow l n with
    | nil => rw [hl] at hr; cases hr
    | cons a m => exact h79 a (by rw [hl]; simp)
  rw [h79 r hr, h2]; simp
theorem row_enc {l : List ATape} {n p : Int} (h : ((1 ≤ l.length ∧ l.length ≤ 255) ∧ 0 ≤ p) ∧ p ≤ 255 - (l.length : Int)) (hr : (tRow l n).any (fun b => decide (b.length = 0)) = false) :
    (eEnc (tRow l n) p).2 = 0 ∧ (eEnc (tRow l n) p).1.length = p.toNat := by
  rw [eEnc_at (by rw [tRow_len]; exact ⟨by omega, row_alike hr⟩)]
  split
  · rename_i h0; subst h0; exact ⟨rfl, rfl⟩
  · refine ⟨rfl, ?_⟩
    simp [mReckon, mCauchy_len]
theorem h0len_tRow (l : List ATape) (n : Int) : h0len (tRow l n) ≤ 1000000 := by
  cases l with
  | nil => simp [tRow, h0len]
  | cons t l => show ((tCell t n).length : Int) ≤ _; have := tCell_len t n; omega
theorem nest_stepG {β : Type} {X : List (List β)} {n q k : Nat} {F : Nat → Nat → β} {x : β} (h : ∀ i < n, X[i]? = some (if i < q then (List.range (k + 1)).map (fun a => F i a) else (List.range k).map fun a => F i a)) (hq : q < n) (hx : x = F q k) :
    ∀ i < n, (X.set q ((List.range k).map (fun a => F q a) ++ [x]))[i]? = some (if i < q + 1 then (List.range (k + 1)).map (fun a => F i a) else (List.range k).map fun a => F i a) := by
  intro i hi
  have hl : q < X.length := (List.getElem?_eq_some_iff.1 (h q hq)).1
  by_cases e : q = i
  · subst e
    rw [List.getElem?_set_self hl, if_pos (by omega), List.range_succ, List.map_append, hx]; rfl
  · rw [List.getElem?_set_ne e, h i hi]
    by_cases h1 : i < q
    · rw [if_pos h1, if_pos (by omega)]
    · rw [if_neg h1, if_neg (by omega)]
theorem flat_take {α : Type} (ss : List (List α)) (k : Nat) : (ss.take k).flatten.length ≤ ss.flatten.length := by
  conv => rhs; rw [← List.take_append_drop k ss]
  rw [List.flatten_append, List.length_append]; omega
theorem flat_at {α : Type} {ss : List (List α)} {k : Nat} {x : List α} (h : ss[k]? = some x) : (ss.take (k + 1)).flatten = (ss.take k).flatten ++ x := by
  rw [take_snoc' h, List.flatten_append]; simp
theorem flat_step {α : Type} {ss : List (List α)} {k : Nat} {x : List α} (h : ss[k]? = some x) : (ss.take k).flatten.length + x.length ≤ ss.flatten.length := by
  have h1 := flat_take ss (k + 1)
  rw [flat_at h, List.length_append] at h1; exact h1
/-! ### Groups -/
def gLabels (l : List ATape) : List Int := l.map fun t => t.label
def goodAll (t : ATape) : Bool := (List.range t.blocks.length).all fun n => (vGood t (n : Int)).2
theorem goodAll_no {t : ATape} {k : Nat} (hk : k < t.blocks.length) (h : (vGood t (k : Int)).2 = false) : goodAll t = false := by
  rw [goodAll, List.all_eq_false]; exact ⟨k, List.mem_range.2 hk, by rw [h]; simp⟩
theorem goodAll_yes {t : ATape} {k : Nat} (hk : t.blocks.length ≤ k) (h : ∀ a < k, (vGood t (a : Int)).2 = true) : goodAll t = true := by
  rw [goodAll, List.all_eq_true]; intro a ha; exact h a (by have := List.mem_range.1 ha; omega)
def gCheck (d b : List ATape) (s : ASeal) : Int :=
  if (((sRight s = false ∨ d.any (fun t => t.lost) = true) ∨ b.any (fun t => t.lost) = true) ∨ tLenL d = 0) ∨ d.all goodAll = false then 1
  else if b.any (fun t => decide (t.blocks.length > 0)) = true then 11
  else if b.any (fun t => decide (tLenL d + 2 > t.cap)) = true then 6 else 0
def tZero : ATape := ⟨0, 0, [], false⟩
def gUnits (s : ASeal) (rows : List (List UInt8)) : List AUnit := [(⟨1, 0, 0, [80]⟩ : AUnit)] ++ rows.map (fun b => (⟨6, 0, 0, b⟩ : AUnit)) ++ [(⟨5, 0, 0, if sRight s = true then sBytes s else []⟩ : AUnit)]
def atU (lbl : Int) (k : Nat) (u : AUnit) : AUnit := ⟨u.kind, lbl, (k : Int), u.load⟩
def putL (lbl : Int) : Nat → List AUnit → List (List UInt8) → List (List UInt8) × Int
  | _, [], out => (out, 0)
  | k, u :: r, out => if uCheck (atU lbl k u) = 0 then putL lbl (k + 1) r (out ++ [fMade (atU lbl k u)]) else ([], uCheck (atU lbl k u))
theorem putL_at {lbl : Int} {U : List AUnit} {k : Nat} {u : AUnit} {out : List (List UInt8)} (h : U[k]? = some u) :
    putL lbl k (U.drop k) out = if uCheck (atU lbl k u) = 0 then putL lbl (k + 1) (U.drop (k + 1)) (out ++ [fMade (atU lbl k u)]) else ([], uCheck (atU lbl k u)) := by
  have hk := (List.getElem?_eq_some_iff.1 h).1
  rw [List.drop_eq_getElem_cons hk, (List.getElem?_eq_some_iff.1 h).2, putL]
def gPut (t : ATape) (s : ASeal) (rows : List (List UInt8)) : List (List UInt8) × Int := putL t.label 0 (gUnits s rows) []
def gTape (t : ATape) (s : ASeal) (rows : List (List UInt8)) : ATape × Int := if (gPut t s rows).2 = 0 then (⟨t.label, t.cap, (gPut t s rows).1, false⟩, 0) else (tZero, (gPut t s rows).2)
def gTapes (d : Int) (s : ASeal) (p : List (List (List UInt8))) : Nat → List ATape → List ATape → List ATape × Int
  | _, [], out => (out, 0)
  | k, t :: r, out => if (gTape t ⟨s.number, d + (k : Int), s.data, s.parity, s.labels⟩ (p.getD k [])).2 = 0 then gTapes d s p (k + 1) r (out ++ [(gTape t ⟨s.number, d + (k : Int), s.data, s.parity, s.labels⟩ (p.getD k [])).1])
    else ([], (gTape t ⟨s.number, d + (k : Int), s.data, s.parity, s.labels⟩ (p.getD k [])).2)
theorem sParity_len {l : List ATape} {p : Int} (h : (sParity l p).2 = 0) : (sParity l p).1.length = p.toNat := by
  unfold sParity at h ⊢
  split
  · rename_i h1; rw [if_pos h1] at h; exact absurd h h1
  · rename_i h1
    rw [if_neg h1] at h
    split
    · rename_i h2; rw [if_pos h2] at h; cases h
    · simp [sPar]
theorem sParity_row {l : List ATape} {p : Int} {r : List (List UInt8)} (h : r ∈ (sParity l p).1) : r.length = (tLenL l).toNat := by
  unfold sParity at h
  split at h
  · cases h
  · split at h
    · cases h
    · simp only [sPar, List.mem_map] at h
      obtain ⟨i, _, rfl⟩ := h
      simp
theorem gTapes_at {d : Int} {s q : ASeal} {p : List (List (List UInt8))} {l out : List ATape} {k : Nat} {t : ATape} {rows : List (List UInt8)} (h : l[k]? = some t) (hp : p[k]? = some rows) (hq : q = ⟨s.number, d + (k : Int), s.data, s.parity, s.labels⟩) :
    gTapes d s p k (l.drop k) out = if (gTape t q rows).2 = 0 then gTapes d s p (k + 1) (l.drop (k + 1)) (out ++ [(gTape t q rows).1]) else ([], (gTape t q rows).2) := by
  have hk := (List.getElem?_eq_some_iff.1 h).1
  subst hq
  rw [List.drop_eq_getElem_cons hk, (List.getElem?_eq_some_iff.1 h).2, gTapes]
  simp only [List.getD_eq_getElem?_getD, hp, Option.getD_some]
def gSeal (d b : List ATape) (n : Int) : ASeal := ⟨n, 0, (d.length : Int), (b.length : Int), gLabels [d, b].flatten⟩
def gMake (d b : List ATape) (n : Int) : List ATape × Int :=
  if ¬ gCheck d b (gSeal d b n) = 0 then ([], gCheck d b (gSeal d b n)) else
  if ¬ (sParity d (b.length : Int)).2 = 0 then ([], (sParity d (b.length : Int)).2) else
  gTapes (d.length : Int) (gSeal d b n) (sParity d (b.length : Int)).1 0 b []
/-! ### Groups that are found -/
def labIx (s : ASeal) : Int := s.labels.getD s.index.toNat 0
def gSkip (out : List ASeal) (t : ATape) : Bool := ((!(vSealed t).2) || decide (labIx (vSealed t).1 ≠ t.label)) || out.any (fun x => decide (x.number = (vSealed t).1.number))
def gFind1 (out : List ASeal) (t : ATape) : List ASeal := if gSkip out t = true then out else out ++ [(vSealed t).1]
def gFindU (l : List ATape) : List ASeal := l.foldl gFind1 []
theorem gFindU_snoc (l : List ATape) (t : ATape) : gFindU (l ++ [t]) = gFind1 (gFindU l) t := by simp [gFindU]
def insS (s : ASeal) : List ASeal → List ASeal
  | [] => [s]
  | x :: r => if x.number < s.number then x :: insS s r else s :: x :: r
def gFind (l : List ATape) : List ASeal := (gFindU l).foldl (fun o s => insS s o) []
def gOf (l : List ASeal) (label : Int) : ASeal × Bool := match l.find? (fun s => s.labels.contains label) with | some s => (s, true) | none => (sZero, false)
theorem gOf_none {l : List ASeal} {label : Int} (h : ∀ s ∈ l, s.labels.contains label = false) : gOf l label = (sZero, false) := by
  rw [gOf, List.find?_eq_none.2 (by intro s hs; rw [h s hs]; simp)]
theorem gOf_at {l : List ASeal} {label : Int} {k : Nat} {s : ASeal} (hk : l[k]? = some s) (hs : s.labels.contains label = true) (h : ∀ s ∈ l.take k, s.labels.contains label = false) : gOf l label = (s, true) := by
  have hlt := (List.getElem?_eq_some_iff.1 hk).1
  have : l.find? (fun s => s.labels.contains label) = some s := by
    rw [List.find?_eq_some_iff_append]
    refine ⟨hs, l.take k, l.drop (k + 1), ?_, fun a ha => by rw [h a ha]; rfl⟩
    conv => lhs; rw [← List.take_append_drop k l]
    rw [List.drop_eq_getElem_cons hlt, (List.getElem?_eq_some_iff.1 hk).2]
  rw [gOf, this]
theorem sRead_right {b : List UInt8} (h : (sRead b).2 = 0) : sRight (sRead b).1 = true := by
  unfold sRead at h ⊢
  split
  · rename_i h1; rw [if_pos h1] at h; cases h
  · rename_i h1; cases hr : sRight (sRd b)
    · exact absurd (.inr hr) h1
    · rfl
theorem vSealed_right {t : ATape} (h : (vSealed t).2 = true) : sRight (vSealed t).1 = true := by
  unfold vSealed at h ⊢
  split
  · rename_i h1; rw [if_pos h1] at h; cases h
  · rename_i h1; rw [if_neg h1] at h; exact sRead_right (by simpa using h)
theorem vSealed_ix {t : ATape} (h : (vSealed t).2 = true) : 0 ≤ (vSealed t).1.index ∧ (vSealed t).1.index < ((vSealed t).1.labels.length : Int) := by
  have := sRight_P (vSealed_right h)
  unfold sRightP at this; omega
/-! Sorted lists of seals with distinct numbers are one. -/
theorem insS_mem {s x : ASeal} : ∀ {l : List ASeal}, x ∈ insS s l ↔ x = s ∨ x ∈ l
  | [] => by simp [insS]
  | y :: r => by
    rw [insS]
    split
    · rw [List.mem_cons, insS_mem, List.mem_cons]; constructor <;> (intro h; rcases h with h | h | h <;> simp [h])
    · simp
theorem insS_perm (s : ASeal) : ∀ l : List ASeal, (insS s l).Perm (s :: l)
  | [] => by simp [insS]
  | y :: r => by
    rw [insS]
    split
    · exact (List.Perm.cons y (insS_perm s r)).trans (List.Perm.swap _ _ _)
    · exact List.Perm.refl _
theorem insS_sorted {s : ASeal} : ∀ {l : List ASeal}, l.Pairwise (fun a b => a.number < b.number) → (∀ x ∈ l, x.number ≠ s.number) → (insS s l).Pairwise (fun a b => a.number < b.number)
  | [], _, _ => by simp [insS]
  | y :: r, h, hne => by
    rw [insS]
    rw [List.pairwise_cons] at h
    split
    · rename_i hlt
      rw [List.pairwise_cons]
      refine ⟨fun x hx => ?_, insS_sorted h.2 (fun x hx => hne x (by simp [hx]))⟩
      rcases insS_mem.1 hx with rfl | hx
      · exact hlt
      · exact h.1 x hx
    · rename_i hge
      have h0 := hne y (by simp)
      rw [List.pairwise_cons, List.pairwise_cons]
      refine ⟨fun x hx => ?_, h⟩
      rcases List.mem_cons.1 hx with rfl | hx
      · omega
      · have := h.1 x hx; omega
theorem ins_fold : ∀ (u o : List ASeal), o.Pairwise (fun a b => a.number < b.number) → (o ++ u).Pairwise (fun a b => a.number ≠ b.number) →
    (u.foldl (fun o s => insS s o) o).Pairwise (fun a b => a.number < b.number) ∧ (u.foldl (fun o s => insS s o) o).Perm (o ++ u)
  | [], o, h, _ => by simpa using h
  | s :: u, o, h, hd => by
    rw [List.foldl_cons]
    have hp : (insS s o ++ u).Perm (o ++ s :: u) := ((insS_perm s o).append_right u).trans (by simpa using (List.perm_middle (l₁ := o) (a := s) (l₂ := u)).symm)
    have hd2 : (insS s o ++ u).Pairwise (fun a b => a.number ≠ b.number) := (hp.pairwise_iff (fun h e => h e.symm)).2 hd
    have hne : ∀ x ∈ o, x.number ≠ s.number := fun x hx => by
      have := (List.pairwise_append.1 hd).2.2 x hx s (by simp)
      exact this
    have ih := ins_fold u (insS s o) (insS_sorted h hne) hd2
    exact ⟨ih.1, ih.2.trans hp⟩
theorem sorted_eq : ∀ {l m : List ASeal}, l.Perm m → l.Pairwise (fun a b => a.number < b.number) → m.Pairwise (fun a b => a.number < b.number) → l = m
  | [], m, hp, _, _ => by have := hp.length_eq; cases m with | nil => rfl | cons a m => simp at this
  | a :: l, [], hp, _, _ => by have := hp.length_eq; simp at this
  | a :: l, b :: m, hp, hl, hm => by
    rw [List.pairwise_cons] at hl hm
    have ha : a ∈ b :: m := hp.subset (by simp)
    have hb : b ∈ a :: l := hp.symm.subset (by simp)
    have hab : a = b := by
      rcases List.mem_cons.1 ha with h | h
      · exact h
      · rcases List.mem_cons.1 hb with h2 | h2
        · exact h2.symm
        · have h3 := hm.1 a h
          have h4 := hl.1 b h2
          omega
    subst hab
    rw [sorted_eq (List.perm_cons a |>.1 hp) hl.2 hm.2]
theorem gFindU_distinct (l : List ATape) : (gFindU l).Pairwise (fun a b => a.number ≠ b.number) := by
  have : ∀ (l : List ATape) (o : List ASeal), o.Pairwise (fun a b => a.number ≠ b.number) → (l.foldl gFind1 o).Pairwise (fun a b => a.number ≠ b.number) := by
    intro l
    induction l with
    | nil => intro o h; exact h
    | cons t l ih =>
      intro o h
      rw [List.foldl_cons]
      refine ih _ ?_
      rw [gFind1]
      split
      · exact h
      · rename_i h1
        rw [Bool.not_eq_true, gSkip, Bool.or_eq_false_iff] at h1
        rw [List.pairwise_append]
        refine ⟨h, by simp, fun a ha b hb => ?_⟩
        obtain rfl : b = _ := by simpa using hb
        have := List.any_eq_false.1 h1.2 a ha
        simpa using this
  exact this l [] List.Pairwise.nil
theorem gFind_of {l : List ATape} {s : List ASeal} (hp : s.Perm (gFindU l)) (hs : s.Pairwise (fun a b => ¬ Lib.compareInt b.number a.number < 0)) : s = gFind l := by
  have h1 := ins_fold (gFindU l) [] List.Pairwise.nil (by simpa using gFindU_distinct l)
  refine sorted_eq (hp.trans (by have h5 := h1.2.symm; rw [List.nil_append] at h5; exact h5)) ?_ h1.1
  have hd : s.Pairwise (fun a b => a.number ≠ b.number) := (hp.pairwise_iff (fun h e => h e.symm)).2 (gFindU_distinct l)
  refine (hs.and hd).imp (fun {a b} ⟨h2, h3⟩ => ?_)
  unfold Lib.compareInt at h2
  by_cases h4 : b.number < a.number
  · rw [if_pos h4] at h2; omega
  · omega
end Go.Proofs.YtmelbclhkkbmiaaGreat.K
