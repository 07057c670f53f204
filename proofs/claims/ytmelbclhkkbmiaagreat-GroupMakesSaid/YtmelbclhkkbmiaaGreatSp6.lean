/- The reference's readers, and that they read what the program reads. No condition beyond those that each theorem names. -/
import Derived.Test.YtmelbclhkkbmiaaGreatSp4
set_option linter.unusedVariables false
set_option linter.unusedSimpArgs false
namespace Go.Proofs.YtmelbclhkkbmiaaGreat.K
open Go Go.RowKit

/-! ### The reference's reader -/
def rrV (n : Nat) (s : List UInt8 × Bool) : List UInt8 := if s.2 = true ∨ s.1.length < n then [] else s.1.take n
def rrB (n : Nat) (s : List UInt8 × Bool) : List UInt8 × Bool := if s.2 = true ∨ s.1.length < n then (s.1, true) else (s.1.drop n, s.2)
theorem rrV_len (n : Nat) (s : List UInt8 × Bool) : (rrV n s).length ≤ s.1.length := by unfold rrV; split <;> simp; omega
theorem rrV_le (n : Nat) (s : List UInt8 × Bool) : (rrV n s).length ≤ n := by unfold rrV; split <;> simp; omega
theorem rrB_len (n : Nat) (s : List UInt8 × Bool) : (rrB n s).1.length ≤ s.1.length := by unfold rrB; split <;> simp
def rdN (l : List UInt8) : Nat := l.foldl (fun n c => n * 256 + c.toNat) 0
theorem rdN_snoc (l : List UInt8) (c : UInt8) : rdN (l ++ [c]) = rdN l * 256 + c.toNat := by simp [rdN]
theorem rdN_lt (l : List UInt8) : rdN l < 256 ^ l.length := by
  have : ∀ (l : List UInt8) (n k : Nat), n < 256 ^ k → l.foldl (fun n c => n * 256 + c.toNat) n < 256 ^ (k + l.length) := by
    intro l
    induction l with
    | nil => intro n k h; exact h
    | cons c l ih =>
      intro n k h
      rw [List.foldl_cons, List.length_cons, show k + (l.length + 1) = (k + 1) + l.length by omega]
      refine ih _ _ ?_
      have := c.toNat_lt
      rw [Nat.pow_succ]; omega
  have h := this l 0 0 (by decide)
  rwa [Nat.zero_add] at h
theorem rdN_small {l : List UInt8} (h : l.length ≤ 4) : rdN l < 1099511627776 := by
  have h1 := rdN_lt l
  have h2 : 256 ^ l.length ≤ 256 ^ 4 := Nat.pow_le_pow_right (by decide) h
  exact Nat.lt_of_lt_of_le h1 (Nat.le_trans h2 (by decide))
theorem rdN4 {l : List UInt8} (h : l.length = 4) : ((rdN l : Nat) : Int) = ((rd4 l).toNat : Int) := by
  match l, h with
  | [a, b, c, d], _ =>
    rw [rd4_nat]
    simp only [rdN, List.foldl_cons, List.foldl_nil]
    omega
def rrLeft (s : List UInt8 × Bool) : Int := if s.2 = true then 0 else (s.1.length : Int)
theorem rr_ok {n : Nat} {s : List UInt8 × Bool} (h : (rrB n s).2 = false) : s.2 = false ∧ n ≤ s.1.length ∧ rrB n s = rdB n s ∧ rrV n s = rdV n s := by
  unfold rrB at h
  split at h
  · cases h
  · rename_i h1
    have h2 : s.2 = false := by cases hs : s.2; rfl; exact absurd (.inl hs) h1
    have h3 : n ≤ s.1.length := by rcases Nat.lt_or_ge s.1.length n with h4 | h4; exact absurd (.inr h4) h1; exact h4
    refine ⟨h2, h3, ?_, ?_⟩
    · rw [rrB, if_neg h1, rdB, tkB, tkF, h2]
      simp [Nat.not_lt.2 h3]
    · rw [rrV, if_neg h1, rdV, tkV, h2]
      simp
      intro h4; omega
theorem rd_ok {n : Nat} {s : List UInt8 × Bool} (h : (rdB n s).2 = false) : s.2 = false ∧ n ≤ s.1.length ∧ rrB n s = rdB n s ∧ rrV n s = rdV n s := by
  have h1 : s.2 = false ∧ n ≤ s.1.length := by
    simp only [rdB, tkF, Bool.or_eq_false_iff, decide_eq_false_iff_not, Nat.not_lt] at h
    exact h
  have h2 : (rrB n s).2 = false := by
    rw [rrB, if_neg (by rintro (h3 | h3); rw [h1.1] at h3; cases h3; omega)]; exact h1.1
  exact rr_ok h2
theorem rdV_n {n : Nat} {s : List UInt8 × Bool} (h : s.2 = false) (hn : n ≤ s.1.length) : (rdV n s).length = n := by
  rw [rdV, tkV, h]
  simp only [Bool.false_eq_true, if_false]
  rw [if_neg (by omega), List.length_take]; omega
/-! ### The reference's frame, read -/
structure RF where
  s1 : List UInt8 × Bool
  s2 : List UInt8 × Bool
  s3 : List UInt8 × Bool
  s4 : List UInt8 × Bool
  s5 : List UInt8 × Bool
def rfS (b : List UInt8) : List UInt8 × Bool := rrB 1 (rrB 1 (rrB 4 (rrB 4 (rrB 1 (b, false)))))
def rfN (b : List UInt8) : Nat := 256 * (u8at (rrV 1 (rrB 4 (rrB 4 (rrB 1 (b, false)))))).toNat + (u8at (rrV 1 (rrB 1 (rrB 4 (rrB 4 (rrB 1 (b, false))))))).toNat
def rfU (b : List UInt8) : AUnit := ⟨((u8at (rrV 1 (b, false))).toNat : Int), ((rdN (rrV 4 (rrB 1 (b, false))) : Nat) : Int), ((rdN (rrV 4 (rrB 4 (rrB 1 (b, false)))) : Nat) : Int), rrV (rfN b) (rfS b)⟩
theorem rf_agree {b : List UInt8} (h : (rfS b).2 = false) : rfS b = rdB 1 (rdB 1 (rdB 4 (rdB 4 (rdB 1 (b, false))))) ∧
    rfN b = (u8at (rdV 1 (rdB 4 (rdB 4 (rdB 1 (b, false)))))).toNat * 256 + (u8at (rdV 1 (rdB 1 (rdB 4 (rdB 4 (rdB 1 (b, false))))))).toNat ∧
    ((u8at (rrV 1 (b, false))).toNat : Int) = ((u8at (rdV 1 (b, false))).toNat : Int) ∧ ((rdN (rrV 4 (rrB 1 (b, false))) : Nat) : Int) = ((rd4 (rdV 4 (rdB 1 (b, false)))).toNat : Int) ∧ ((rdN (rrV 4 (rrB 4 (rrB 1 (b, false)))) : Nat) : Int) = ((rd4 (rdV 4 (rdB 4 (rdB 1 (b, false))))).toNat : Int) := by
  have k5 := rr_ok (n := 1) h
  have k4 := rr_ok (n := 1) k5.1
  have k3 := rr_ok (n := 4) k4.1
  have k2 := rr_ok (n := 4) k3.1
  have k1 := rr_ok (n := 1) k2.1
  have e1 := k1.2.2.1
  have e2 : rrB 4 (rrB 1 (b, false)) = rdB 4 (rdB 1 (b, false)) := by rw [k2.2.2.1, e1]
  have e3 : rrB 4 (rrB 4 (rrB 1 (b, false))) = rdB 4 (rdB 4 (rdB 1 (b, false))) := by rw [k3.2.2.1, e2]
  have e4 : rrB 1 (rrB 4 (rrB 4 (rrB 1 (b, false)))) = rdB 1 (rdB 4 (rdB 4 (rdB 1 (b, false)))) := by rw [k4.2.2.1, e3]
  have v2 := rdV_n k2.1 k2.2.1
  have v3 := rdV_n k3.1 k3.2.1
  refine ⟨by rw [rfS, k5.2.2.1, e4], ?_, by rw [k1.2.2.2], ?_, ?_⟩
  · rw [rfN, k4.2.2.2, k5.2.2.2, e4, e3]; omega
  · rw [rdN4 (by rw [k2.2.2.2]; exact v2), k2.2.2.2, e1]
  · rw [rdN4 (by rw [k3.2.2.2]; exact v3), k3.2.2.2, e2]
theorem rf_ok {b : List UInt8} (h1 : (rfS b).2 = false) (h2 : (rfN b : Int) ≤ rrLeft (rfS b)) : fRead b = (rfU b, false) := by
  obtain ⟨a1, a2, a3, a4, a5⟩ := rf_agree h1
  have hl : rfN b ≤ (rfS b).1.length := by
    rw [rrLeft, h1] at h2; simpa using h2
  have k : (rrB (rfN b) (rfS b)).2 = false := by
    rw [rrB, if_neg (by rintro (h3 | h3); rw [h1] at h3; cases h3; omega)]; exact h1
  have kk := rr_ok k
  unfold fRead
  simp only []
  rw [← a2, ← a1]
  refine Prod.ext ?_ ?_
  · simp only [rfU, a3, a4, a5, kk.2.2.2]
  · simp only [← kk.2.2.1, k]
theorem rf_bad {b : List UInt8} (h : (rfS b).2 = true ∨ rrLeft (rfS b) < (rfN b : Int)) : (fRead b).2 = true := by
  cases hf : (fRead b).2
  · exfalso
    have h0 : (rdB ((u8at (rdV 1 (rdB 4 (rdB 4 (rdB 1 (b, false)))))).toNat * 256 + (u8at (rdV 1 (rdB 1 (rdB 4 (rdB 4 (rdB 1 (b, false))))))).toNat) (rdB 1 (rdB 1 (rdB 4 (rdB 4 (rdB 1 (b, false))))))).2 = false := hf
    have k6 := rd_ok h0
    have k5 := rd_ok (n := 1) k6.1
    have k4 := rd_ok (n := 1) k5.1
    have k3 := rd_ok (n := 4) k4.1
    have k2 := rd_ok (n := 4) k3.1
    have k1 := rd_ok (n := 1) k2.1
    have e5 : rfS b = rdB 1 (rdB 1 (rdB 4 (rdB 4 (rdB 1 (b, false))))) := by rw [rfS, k1.2.2.1, k2.2.2.1, k3.2.2.1, k4.2.2.1, k5.2.2.1]
    have hs : (rfS b).2 = false := by rw [e5]; exact k6.1
    have a2 := (rf_agree hs).2.1
    rcases h with h | h
    · rw [hs] at h; cases h
    · rw [rrLeft, hs, a2, e5] at h
      have := k6.2.1
      simp only [Bool.false_eq_true, if_false] at h
      omega
  · rfl
theorem rf_get1 {b : List UInt8} (h : (rfS b).2 = true ∨ rrLeft (rfS b) < (rfN b : Int)) : fGet b = (uZero, 2) := fGet_bad (.inl (.inl (rf_bad h)))
theorem rf_get2 {b : List UInt8} (h1 : (rfS b).2 = false ∧ (rfN b : Int) ≤ rrLeft (rfS b)) (h : ¬ uCheck (rfU b) = 0 ∨ ¬ (if uCheck (rfU b) = 0 then fMade (rfU b) else []) = b) : fGet b = (uZero, 2) := by
  have e := rf_ok h1.1 h1.2
  by_cases hu : uCheck (rfU b) = 0
  · rw [if_pos hu] at h
    rcases h with h | h
    · exact absurd hu h
    · exact fGet_bad (.inr (by rw [e]; exact fun hh => h hh.symm))
  · exact fGet_bad (.inl (.inr (by rw [e]; exact hu)))
theorem rf_get3 {b : List UInt8} (h1 : (rfS b).2 = false ∧ (rfN b : Int) ≤ rrLeft (rfS b)) (h : uCheck (rfU b) = 0 ∧ (if uCheck (rfU b) = 0 then fMade (rfU b) else []) = b) : fGet b = (rfU b, 0) := by
  have e := rf_ok h1.1 h1.2
  rw [if_pos h.1] at h
  rw [fGet_ok (by rw [e]; exact ⟨⟨rfl, h.1⟩, h.2.symm⟩), e]
/-! ### The reference's seal, read -/
def rLbl : Nat → List UInt8 × Bool → List Int → List Int
  | 0, _, out => out
  | k + 1, s, out => if 4 ≤ rrLeft s then rLbl k (rrB 4 s) (out ++ [((rdN (rrV 4 s) : Nat) : Int)]) else out
def rsS (b : List UInt8) : List UInt8 × Bool := rrB 1 (rrB 1 (rrB 1 (rrB 4 (b, false))))
def rsSeal (b : List UInt8) : ASeal := ⟨((rdN (rrV 4 (b, false)) : Nat) : Int), ((u8at (rrV 1 (rrB 4 (b, false)))).toNat : Int), ((u8at (rrV 1 (rrB 1 (rrB 4 (b, false))))).toNat : Int), ((u8at (rrV 1 (rrB 1 (rrB 1 (rrB 4 (b, false)))))).toNat : Int), rLbl 14 (rsS b) []⟩
theorem rrV_app {a r : List UInt8} {n : Nat} (h : a.length = n) : rrV n (a ++ r, false) = a := by
  subst h
  simp [rrV]
  intro hh; omega
theorem rrB_app {a r : List UInt8} {n : Nat} (h : a.length = n) : rrB n (a ++ r, false) = (r, false) := by
  subst h
  simp [rrB]
  try (intro hh; omega)
theorem rrB_one {a : UInt8} {r : List UInt8} : rrB 1 ([a] ++ r, false) = (r, false) := rrB_app rfl
theorem rrV_one {a : UInt8} {r : List UInt8} : rrV 1 ([a] ++ r, false) = [a] := rrV_app rfl
theorem rLbl_all : ∀ (l : List Int) (k : Nat) (out : List Int), (∀ x ∈ l, 1 ≤ x ∧ x ≤ 2147483647) → l.length ≤ k → rLbl k (l.flatMap (fun x => be4 (b32 x)), false) out = out ++ l
  | [], k, out, _, _ => by cases k <;> simp [rLbl, rrLeft]
  | x :: l, k, out, h, hk => by
    obtain ⟨k, rfl⟩ : ∃ j, k = j + 1 := ⟨k - 1, by simp at hk; omega⟩
    have hx := h x (by simp)
    rw [rLbl, if_pos (by simp only [rrLeft, List.flatMap_cons, List.length_append, be4_len, Bool.false_eq_true, if_false]; omega), List.flatMap_cons, rrB_app (be4_len _), rrV_app (be4_len _), rdN4 (be4_len _), rd4_be4, b32_of (by omega) (by omega), rLbl_all l k _ (fun y hy => h y (by simp [hy])) (by simp at hk; omega)]
    simp
theorem rsSeal_bytes {s : ASeal} (h : sRight s = true) : rsSeal (sBytes s) = s := by
  have hP := sRight_P h
  unfold sRightP at hP
  have e : sBytes s = be4 (b32 s.number) ++ ([b8 s.index] ++ ([b8 s.data] ++ ([b8 s.parity] ++ s.labels.flatMap (fun x => be4 (b32 x))))) := by simp [sBytes, sHead]
  have r1 : rrB 4 (sBytes s, false) = ([b8 s.index] ++ ([b8 s.data] ++ ([b8 s.parity] ++ s.labels.flatMap (fun x => be4 (b32 x)))), false) := by rw [e, rrB_app (be4_len _)]
  have r2 : rrB 1 (rrB 4 (sBytes s, false)) = ([b8 s.data] ++ ([b8 s.parity] ++ s.labels.flatMap (fun x => be4 (b32 x))), false) := by rw [r1, rrB_one]
  have r3 : rrB 1 (rrB 1 (rrB 4 (sBytes s, false))) = ([b8 s.parity] ++ s.labels.flatMap (fun x => be4 (b32 x)), false) := by rw [r2, rrB_one]
  have r4 : rsS (sBytes s) = (s.labels.flatMap (fun x => be4 (b32 x)), false) := by rw [rsS, r3, rrB_one]
  have v0 : rrV 4 (sBytes s, false) = be4 (b32 s.number) := by rw [e, rrV_app (be4_len _)]
  rw [rsSeal, r4, rLbl_all s.labels 14 [] (sRight_lbls h) (by omega), r3, r2, r1, v0, rdN4 (be4_len _), rd4_be4, rrV_one, rrV_one, rrV_one]
  simp only [u8at, List.headD_cons, List.nil_append]
  rw [b32_of (by omega) (by omega), b8_of (by omega) (by omega), b8_of (by omega) (by omega), b8_of (by omega) (by omega)]
/-! What the program reads without fault, it writes again. -/
theorem be4_rd4 {l : List UInt8} (h : l.length = 4) : be4 (b32 ((rd4 l).toNat : Int)) = l := by
  match l, h with
  | [a, b, c, d], _ =>
    have ha := a.toNat_lt
    have hb := b.toNat_lt
    have hc := c.toNat_lt
    have hd := d.toNat_lt
    have e := rd4_nat a b c d
    have e0 : (b32 ((rd4 [a, b, c, d]).toNat : Int)) = rd4 [a, b, c, d] := UInt32.toNat_inj.1 (by have h1 := b32_toNat ((rd4 [a, b, c, d]).toNat : Int); have := (rd4 [a, b, c, d]).toNat_lt; omega)
    rw [e0, be4]
    have f : ∀ x y : UInt8, x.toNat = y.toNat → x = y := fun x y h => UInt8.toNat_inj.1 h
    have g0 : (rd4 [a, b, c, d] >>> 24).toUInt8 = a := f _ _ (by simp only [UInt32.toNat_toUInt8, UInt32.toNat_shiftRight, UInt32.reduceToNat, Nat.reduceMod, Nat.shiftRight_eq_div_pow, Nat.reducePow, e]; omega)
    have g1 : (rd4 [a, b, c, d] >>> 16).toUInt8 = b := f _ _ (by simp only [UInt32.toNat_toUInt8, UInt32.toNat_shiftRight, UInt32.reduceToNat, Nat.reduceMod, Nat.shiftRight_eq_div_pow, Nat.reducePow, e]; omega)
    have g2 : (rd4 [a, b, c, d] >>> 8).toUInt8 = c := f _ _ (by simp only [UInt32.toNat_toUInt8, UInt32.toNat_shiftRight, UInt32.reduceToNat, Nat.reduceMod, Nat.shiftRight_eq_div_pow, Nat.reducePow, e]; omega)
    have g3 : (rd4 [a, b, c, d]).toUInt8 = d := f _ _ (by simp only [UInt32.toNat_toUInt8, Nat.reducePow, e]; omega)
    rw [g0, g1, g2, g3]
theorem b8_u8 {l : List UInt8} (h : l.length = 1) : [b8 ((u8at l).toNat : Int)] = l := by
  match l, h with
  | [a], _ =>
    have : b8 ((a.toNat : Nat) : Int) = a := UInt8.toNat_inj.1 (by have h1 := b8_toNat (a.toNat : Int); have := a.toNat_lt; omega)
    simp only [u8at, List.headD_cons, this]
theorem rd_split {n : Nat} {s : List UInt8 × Bool} (h : (rdB n s).2 = false) : s.1 = rdV n s ++ (rdB n s).1 := by
  have h1 := rd_ok h
  rw [rdV, tkV, rdB, tkB, h1.1]
  simp only [Bool.false_eq_true, if_false]
  rw [if_neg (by omega), if_neg (by omega), List.take_append_drop]
theorem lblRd_sticky : ∀ (k : Nat) (s : List UInt8 × Bool) (l : List Int), (lblRd k s l).2 = false → s.2 = false
  | 0, s, l, h => h
  | k + 1, s, l, h => by
    rw [lblRd] at h
    split at h
    · exact h
    · exact (rd_ok (lblRd_sticky k _ _ h)).1
theorem lblRd_back : ∀ (k : Nat) (s : List UInt8 × Bool) (l : List Int), s.1.length ≤ k → (lblRd k s l).2 = false → ∃ L, (lblRd k s l).1 = l ++ L ∧ s.1 = L.flatMap (fun x => be4 (b32 x))
  | 0, s, l, hk, h => ⟨[], by simp [lblRd], by have : s.1 = [] := List.eq_nil_of_length_eq_zero (by omega); simp [this]⟩
  | k + 1, s, l, hk, h => by
    rw [lblRd] at h ⊢
    split
    · rename_i h0
      exact ⟨[], by simp, by have : s.1 = [] := List.eq_nil_of_length_eq_zero h0; simp [this]⟩
    · rename_i h0
      rw [if_neg h0] at h
      have h2 := lblRd_sticky k _ _ h
      have h3 := rd_ok h2
      have hsp := rd_split h2
      have hv := rdV_n h3.1 h3.2.1
      have hlen : (rdB 4 s).1.length ≤ k := by
        have := congrArg List.length hsp
        rw [List.length_append, hv] at this; omega
      obtain ⟨L, e1, e2⟩ := lblRd_back k (rdB 4 s) _ hlen h
      refine ⟨((rd4 (rdV 4 s)).toNat : Int) :: L, by rw [e1]; simp, ?_⟩
      rw [List.flatMap_cons, be4_rd4 hv, ← e2]; exact hsp
theorem sRd_back {b : List UInt8} (h : (sLbl b).2 = false) : sBytes (sRd b) = b := by
  have hs := lblRd_sticky _ _ _ h
  have k4 := rd_ok (n := 1) hs
  have k3 := rd_ok (n := 1) k4.1
  have k2 := rd_ok (n := 1) k3.1
  have k1 := rd_ok (n := 4) k2.1
  obtain ⟨L, e1, e2⟩ := lblRd_back _ (sRest b) [] (Nat.le_refl _) h
  have hL : (sLbl b).1 = L := by rw [sLbl, e1]; rfl
  have p1 := rd_split (n := 4) k2.1
  have p2 := rd_split (n := 1) k3.1
  have p3 := rd_split (n := 1) k4.1
  have p4 := rd_split (n := 1) hs
  rw [sBytes, sHead, sRd, hL]
  simp only []
  rw [be4_rd4 (rdV_n k1.1 k1.2.1)]
  have q2 := b8_u8 (rdV_n k2.1 k2.2.1)
  have q3 := b8_u8 (rdV_n k3.1 k3.2.1)
  have q4 := b8_u8 (rdV_n k4.1 k4.2.1)
  have e : ∀ x y z : UInt8, [x, y, z] = [x] ++ ([y] ++ [z]) := fun _ _ _ => rfl
  rw [e, q2, q3, q4, ← e2]
  rw [show sRest b = rdB 1 (rdB 1 (rdB 1 (rdB 4 (b, false)))) from rfl, List.append_assoc, List.append_assoc, List.append_assoc, ← p4, ← p3, ← p2]
  exact p1.symm
theorem rs_no {b : List UInt8} (h : (if sRight (rsSeal b) = true then sBytes (rsSeal b) else []).length = 0 ∨ ¬ (if sRight (rsSeal b) = true then sBytes (rsSeal b) else []) = b) : sRead b = (sZero, 2) := by
  by_cases hok : (sLbl b).2 = false ∧ sRight (sRd b) = true
  · exfalso
    have hb := sRd_back hok.1
    have hr : rsSeal b = sRd b := by
      have h1 := rsSeal_bytes hok.2
      rwa [hb] at h1
    rw [hr, if_pos hok.2, hb] at h
    rcases h with h | h
    · have := sBytes_len (sRd b)
      rw [hb] at this; omega
    · exact h rfl
  · refine sRead_bad ?_
    cases h1 : (sLbl b).2
    · cases h2 : sRight (sRd b)
      · exact .inr rfl
      · exact absurd ⟨h1, h2⟩ hok
    · exact .inl rfl
theorem rs_yes {b : List UInt8} (h : ¬ (if sRight (rsSeal b) = true then sBytes (rsSeal b) else []).length = 0 ∧ (if sRight (rsSeal b) = true then sBytes (rsSeal b) else []) = b) : sRead b = (rsSeal b, 0) := by
  by_cases hs : sRight (rsSeal b) = true
  · rw [if_pos hs] at h
    have h1 := sRead_bytes hs
    rwa [h.2] at h1
  · rw [if_neg hs] at h; exact absurd rfl h.1
/-! ### The reference's search of groups -/
def rSkip (t : ATape) : Bool := (!(vSealed t).2) || decide (labIx (vSealed t).1 ≠ t.label)
def numAt (l : List ASeal) (q : Nat) : Int := match l[q]? with | some s => s.number | none => 0
theorem numAt_of {l : List ASeal} {q : Nat} {s : ASeal} (h : l[q]? = some s) : numAt l q = s.number := by simp [numAt, h]
/-- The place at which a seal comes in. -/
structure Pos (s : ASeal) (o : List ASeal) (q : Nat) : Prop where
  le : q ≤ o.length
  low : ∀ y ∈ o.take q, y.number < s.number
  high : q < o.length → ¬ numAt o q < s.number
theorem low_snoc {o : List ASeal} {q : Nat} {n : Int} (h : ∀ y ∈ o.take q, y.number < n) (hq : q < o.length) (hn : numAt o q < n) : ∀ y ∈ o.take (q + 1), y.number < n := by
  rw [take_snoc' (List.getElem?_eq_getElem hq)]
  intro y hy
  rcases List.mem_append.1 hy with hy | hy
  · exact h y hy
  · obtain rfl : y = _ := by simpa using hy
    rwa [numAt_of (List.getElem?_eq_getElem hq)] at hn
theorem insS_pos {s : ASeal} : ∀ {o : List ASeal} {q : Nat}, Pos s o q → insS s o = o.take q ++ [s] ++ o.drop q
  | [], q, h => by simp [insS]
  | x :: o, 0, h => by
    have := h.high (by simp)
    rw [numAt_of (s := x) rfl] at this
    rw [insS, if_neg this]; simp
  | x :: o, q + 1, h => by
    have h1 := h.low x (by simp)
    have ih : Pos s o q := ⟨by have := h.le; simp at this; omega, fun y hy => h.low y (by simp [hy]), fun hq => by
      have h2 := h.high (by simp; omega)
      simpa [numAt] using h2⟩
    rw [insS, if_pos h1, insS_pos ih]; simp
def gSort (u : List ASeal) : List ASeal := u.foldl (fun o s => insS s o) []
theorem gSort_snoc (u : List ASeal) (s : ASeal) : gSort (u ++ [s]) = insS s (gSort u) := by simp [gSort]
theorem gSort_spec (u : List ASeal) (h : u.Pairwise (fun a b => a.number ≠ b.number)) : (gSort u).Pairwise (fun a b => a.number < b.number) ∧ (gSort u).Perm u := by
  have := ins_fold u [] List.Pairwise.nil (by simpa using h)
  rwa [List.nil_append] at this
theorem gFind_sort (T : List ATape) : gFind T = gSort (gFindU T) := rfl
/-- At the place that was found lies the same number, just if there is one. -/
theorem Pos.any {s : ASeal} {o : List ASeal} {q : Nat} (h : Pos s o q) (ho : o.Pairwise (fun a b => a.number < b.number)) : o.any (fun x => decide (x.number = s.number)) = (decide (q < o.length) && decide (numAt o q = s.number)) := by
  rcases Nat.lt_or_ge q o.length with hq | hq
  · have hx : o[q]? = some o[q] := List.getElem?_eq_getElem hq
    have hhi := h.high hq
    rw [numAt_of hx] at hhi ⊢
    rw [decide_eq_true hq, Bool.true_and]
    by_cases he : o[q].number = s.number
    · rw [decide_eq_true he]
      exact List.any_eq_true.2 ⟨o[q], List.getElem_mem hq, decide_eq_true he⟩
    · rw [decide_eq_false he]
      refine List.any_eq_false.2 fun x hx => ?_
      obtain ⟨j, hj, rfl⟩ := List.getElem_of_mem hx
      simp only [decide_eq_true_eq]
      intro hc
      rcases Nat.lt_trichotomy j q with h1 | h1 | h1
      · have := h.low o[j] (List.mem_take_iff_getElem.2 ⟨j, by omega, rfl⟩); omega
      · subst h1; exact he hc
      · have := List.pairwise_iff_getElem.1 ho q j hq hj h1; omega
  · rw [decide_eq_false (by omega), Bool.false_and]
    refine List.any_eq_false.2 fun x hx => ?_
    have hx' : x ∈ o.take q := by rwa [List.take_of_length_le hq]
    have := h.low x hx'
    simp only [decide_eq_true_eq]; omega
theorem any_perm {l m : List ASeal} (h : l.Perm m) (p : ASeal → Bool) : l.any p = m.any p := by
  rw [Bool.eq_iff_iff, List.any_eq_true, List.any_eq_true]
  constructor
  · rintro ⟨x, h1, h2⟩; exact ⟨x, h.subset h1, h2⟩
  · rintro ⟨x, h1, h2⟩; exact ⟨x, h.symm.subset h1, h2⟩
/-- One tape more, in the reference. -/
theorem rFind_skip {T : List ATape} {t : ATape} (h : rSkip t = true) : gFind (T ++ [t]) = gFind T := by
  rw [gFind_sort, gFind_sort, gFindU_snoc, gFind1, gSkip, if_pos]
  rw [rSkip] at h
  rw [h]; rfl
theorem rFind_at {T : List ATape} {t : ATape} {q : Nat} (h : rSkip t = false) (hp : Pos (vSealed t).1 (gFind T) q) :
    gFind (T ++ [t]) = if (decide (q < (gFind T).length) && decide (numAt (gFind T) q = (vSealed t).1.number)) = true then gFind T else (gFind T).take q ++ [(vSealed t).1] ++ (gFind T).drop q := by
  have hs := gSort_spec (gFindU T) (gFindU_distinct T)
  rw [← hp.any (gFind_sorted T)]
  rw [gFind_sort T] at hp ⊢
  rw [any_perm hs.2]
  have hg : gSkip (gFindU T) t = (gFindU T).any (fun x => decide (x.number = (vSealed t).1.number)) := by
    rw [gSkip]; rw [rSkip] at h; rw [h]; rfl
  rw [gFind_sort, gFindU_snoc, gFind1, hg]
  split
  · rfl
  · rw [gSort_snoc, insS_pos hp]
theorem gFindU_lbls (T : List ATape) : ∀ s ∈ gFindU T, s.labels.length ≤ 14 := by
  have : ∀ (T : List ATape) (o : List ASeal), (∀ s ∈ o, s.labels.length ≤ 14) → ∀ s ∈ T.foldl gFind1 o, s.labels.length ≤ 14 := by
    intro T
    induction T with
    | nil => intro o h; exact h
    | cons t T ih =>
      intro o h
      rw [List.foldl_cons]
      refine ih _ ?_
      rw [gFind1]
      split
      · exact h
      · rename_i h1
        intro s hs
        rcases List.mem_append.1 hs with hs | hs
        · exact h s hs
        · obtain rfl : s = _ := by simpa using hs
          rw [Bool.not_eq_true, gSkip, Bool.or_eq_false_iff, Bool.or_eq_false_iff] at h1
          have h2 := sRight_P (vSealed_right (t := t) (by simpa using h1.1.1))
          unfold sRightP at h2; omega
  exact this T [] (fun s hs => by cases hs)
theorem gFind_lbls (T : List ATape) : ∀ s ∈ gFind T, s.labels.length ≤ 1000000 := fun s hs => by
  have := gFindU_lbls T s ((gFind_perm T).mem_iff.1 hs)
  omega
/-! ### Few tapes; seals that are one -/
def fewT (t : ATape) : Bool := (t.blocks.take 100).all (fun b => decide (b.length ≤ 300)) && decide (t.blocks.length ≤ 90)
theorem fewT_bd {t : ATape} (h : fewT t = true) : t.blocks.length ≤ 90 ∧ ∀ b ∈ t.blocks, b.length ≤ 300 := by
  rw [fewT, Bool.and_eq_true, decide_eq_true_eq, List.all_eq_true] at h
  refine ⟨h.2, fun b hb => ?_⟩
  have := h.1 b (by rwa [List.take_of_length_le (by omega)])
  simpa using this
def blkN (l : List ATape) : Nat := (l.map fun t => t.blocks.length).sum
def fewL (l : List ATape) : Bool := (l.take 20).all fewT && (decide (l.length ≤ 14) && decide (blkN (l.take 20) ≤ 300))
theorem fewL_bd {l : List ATape} (h : fewL l = true) : l.length ≤ 14 ∧ ∀ t ∈ l, t.blocks.length ≤ 90 ∧ ∀ b ∈ t.blocks, b.length ≤ 300 := by
  rw [fewL, Bool.and_eq_true, Bool.and_eq_true, decide_eq_true_eq, List.all_eq_true] at h
  exact ⟨h.2.1, fun t ht => fewT_bd (h.1 t (by rwa [List.take_of_length_le (by omega)]))⟩
def sSame (a b : ASeal) : Bool := decide (((a.number = b.number ∧ a.index = b.index) ∧ a.data = b.data) ∧ a.parity = b.parity) && decide (a.labels = b.labels)
theorem sSame_refl (a : ASeal) : sSame a a = true := by simp [sSame]
def labsAt (l : List ASeal) (k : Nat) : List Int := match l[k]? with | some s => s.labels | none => []
theorem labsAt_of {l : List ASeal} {k : Nat} {s : ASeal} (h : l[k]? = some s) : labsAt l k = s.labels := by simp [labsAt, h]
theorem no_snoc {l : List Int} {q : Nat} {x v : Int} (hx : l[q]? = some x) (h : (l.take q).contains v = false) (hne : ¬ x = v) : (l.take (q + 1)).contains v = false := by
  rw [take_snoc' hx, List.contains_eq_any_beq, List.any_append, ← List.contains_eq_any_beq, h]
  simp; omega
theorem has_at {l : List Int} {q : Nat} {x v : Int} (hx : l[q]? = some x) (he : x = v) : l.contains v = true := by
  rw [List.contains_iff_mem]; subst he; exact List.mem_of_getElem? hx
theorem no_all {l : List ASeal} {k q : Nat} {s : ASeal} {v : Int} (hk : l[k]? = some s) (hn : ∀ s ∈ l.take k, s.labels.contains v = false) (h : (s.labels.take q).contains v = false) (hq : s.labels.length ≤ q) : ∀ s ∈ l.take (k + 1), s.labels.contains v = false := by
  rw [List.take_of_length_le hq] at h
  rw [take_snoc' hk]
  intro y hy
  rcases List.mem_append.1 hy with hy | hy
  · exact hn y hy
  · obtain rfl : y = s := by simpa using hy
    exact h
theorem sSame_f1 {a b : ASeal} (h : (((¬ a.number = b.number ∨ ¬ a.index = b.index) ∨ ¬ a.data = b.data) ∨ ¬ a.parity = b.parity) ∨ ¬ (a.labels.length : Int) = (b.labels.length : Int)) : sSame a b = false := by
  rw [sSame, Bool.and_eq_false_iff, decide_eq_false_iff_not, decide_eq_false_iff_not]
  rcases h with h | h
  · left; omega
  · right; intro e; rw [e] at h; exact h rfl
theorem sSame_f2 {a b : ASeal} {k : Nat} {x y : Int} (hx : a.labels[k]? = some x) (hy : b.labels[k]? = some y) (h : ¬ x = y) : sSame a b = false := by
  rw [sSame, Bool.and_eq_false_iff, decide_eq_false_iff_not, decide_eq_false_iff_not]
  right
  intro e
  rw [e, hy] at hx
  exact h (Option.some.inj hx).symm
theorem sSame_t {a b : ASeal} {k : Nat} (h : (((a.number = b.number ∧ a.index = b.index) ∧ a.data = b.data) ∧ a.parity = b.parity) ∧ (a.labels.length : Int) = (b.labels.length : Int)) (hk : a.labels.length ≤ k) (he : a.labels.take k = b.labels.take k) : sSame a b = true := by
  rw [List.take_of_length_le hk, List.take_of_length_le (by omega)] at he
  rw [sSame, decide_eq_true h.1, decide_eq_true he]; rfl
theorem fewT_no {t : ATape} {k : Nat} {b : List UInt8} (hk : k < 100) (hb : t.blocks[k]? = some b) (h : 300 < (b.length : Int)) : fewT t = false := by
  rw [fewT, Bool.and_eq_false_iff]
  left
  rw [List.all_eq_false]
  refine ⟨b, ?_, by simp; omega⟩
  exact List.mem_take_iff_getElem.2 ⟨k, by have := (List.getElem?_eq_some_iff.1 hb).1; omega, (List.getElem?_eq_some_iff.1 hb).2⟩
theorem fewT_end {t : ATape} {k : Nat} (hk : t.blocks.length ≤ k ∨ 100 ≤ k) (hk1 : k ≤ t.blocks.length) (hk2 : k ≤ 100) (h : ∀ b ∈ t.blocks.take k, b.length ≤ 300) : decide ((t.blocks.length : Int) ≤ 90) = fewT t := by
  have e : t.blocks.take 100 = t.blocks.take k := by
    rcases hk with hk | hk
    · rw [List.take_of_length_le (show t.blocks.length ≤ 100 by omega), List.take_of_length_le hk]
    · rw [show k = 100 by omega]
  rw [fewT, e, List.all_eq_true.2 (fun b hb => by simpa using h b hb), Bool.true_and]
  by_cases h9 : t.blocks.length ≤ 90
  · rw [decide_eq_true h9, decide_eq_true (by omega)]
  · rw [decide_eq_false h9, decide_eq_false (by omega)]
theorem blkN_snoc {l : List ATape} {k : Nat} {t : ATape} (h : l[k]? = some t) : blkN (l.take (k + 1)) = blkN (l.take k) + t.blocks.length := by
  rw [take_snoc' h, blkN, blkN, List.map_append, List.sum_append]; simp
theorem fewL_no {l : List ATape} {k : Nat} {t : ATape} (hk : k < 20) (ht : l[k]? = some t) (h : fewT t = false) : fewL l = false := by
  rw [fewL, Bool.and_eq_false_iff]
  left
  rw [List.all_eq_false]
  exact ⟨t, List.mem_take_iff_getElem.2 ⟨k, by have := (List.getElem?_eq_some_iff.1 ht).1; omega, (List.getElem?_eq_some_iff.1 ht).2⟩, by rw [h]; simp⟩
theorem fewL_end {l : List ATape} {k : Nat} (hk : l.length ≤ k ∨ 20 ≤ k) (hk1 : k ≤ l.length) (hk2 : k ≤ 20) (h : ∀ t ∈ l.take k, fewT t = true) : (decide ((l.length : Int) ≤ 14) && decide (((blkN (l.take k) : Nat) : Int) ≤ 300)) = fewL l := by
  have e : l.take 20 = l.take k := by
    rcases hk with hk | hk
    · rw [List.take_of_length_le (show l.length ≤ 20 by omega), List.take_of_length_le hk]
    · rw [show k = 20 by omega]
  rw [fewL, e, List.all_eq_true.2 h, Bool.true_and]
  congr 1
  · by_cases h9 : l.length ≤ 14
    · rw [decide_eq_true h9, decide_eq_true (by omega)]
    · rw [decide_eq_false h9, decide_eq_false (by omega)]
  · by_cases h9 : blkN (l.take k) ≤ 300
    · rw [decide_eq_true h9, decide_eq_true (by omega)]
    · rw [decide_eq_false h9, decide_eq_false (by omega)]
theorem few_snoc {l : List ATape} {k : Nat} {t : ATape} (ht : l[k]? = some t) (hn : ∀ t ∈ l.take k, fewT t = true) (h : fewT t = true) : ∀ t ∈ l.take (k + 1), fewT t = true := by
  rw [take_snoc' ht]
  intro y hy
  rcases List.mem_append.1 hy with hy | hy
  · exact hn y hy
  · obtain rfl : y = t := by simpa using hy
    exact h
end Go.Proofs.YtmelbclhkkbmiaaGreat.K
