/- Frames and seals are read as they were written. No condition beyond those that each theorem names. -/
import Derived.Test.YtmelbclhkkbmiaaGreatSp3
set_option linter.unusedVariables false
set_option linter.unusedSimpArgs false
namespace Go.Proofs.YtmelbclhkkbmiaaGreat.K
open Go Go.RowKit

theorem rdV_app {a r : List UInt8} {n : Nat} (h : a.length = n) : rdV n (a ++ r, false) = a := by
  subst h
  simp [rdV, tkV]
  intro hh; omega
theorem rdB_app {a r : List UInt8} {n : Nat} (h : a.length = n) : rdB n (a ++ r, false) = (r, false) := by
  subst h
  simp [rdB, tkB, tkF]
  intro hh; omega
theorem rdB_one {a : UInt8} {r : List UInt8} : rdB 1 ([a] ++ r, false) = (r, false) := rdB_app rfl
theorem rdV_one {a : UInt8} {r : List UInt8} : rdV 1 ([a] ++ r, false) = [a] := rdV_app rfl
theorem rd4_nat (a b c d : UInt8) : (rd4 [a, b, c, d]).toNat = a.toNat * 16777216 + b.toNat * 65536 + c.toNat * 256 + d.toNat := by
  have ha := a.toNat_lt
  have hb := b.toNat_lt
  have hc := c.toNat_lt
  have hd := d.toNat_lt
  have or8 : ∀ x y : Nat, y < 256 → (x * 256) ||| y = x * 256 + y := fun x y hy => by
    have := Nat.two_pow_add_eq_or_of_lt (i := 8) (b := y) (by omega) x
    rw [Nat.mul_comm]; exact this.symm
  simp only [rd4, List.foldl_cons, List.foldl_nil, UInt32.toNat_or, UInt32.toNat_shiftLeft, UInt8.toNat_toUInt32, UInt32.toNat_zero, UInt32.reduceToNat, Nat.reduceMod, Nat.zero_shiftLeft, Nat.zero_mod, Nat.zero_or, Nat.shiftLeft_eq, Nat.reducePow]
  rw [show 0 * 256 % 4294967296 ||| a.toNat = a.toNat by simp, Nat.mod_eq_of_lt (show a.toNat * 256 < 4294967296 by omega), or8 _ _ hb, Nat.mod_eq_of_lt (show (a.toNat * 256 + b.toNat) * 256 < 4294967296 by omega), or8 _ _ hc, Nat.mod_eq_of_lt (show ((a.toNat * 256 + b.toNat) * 256 + c.toNat) * 256 < 4294967296 by omega), or8 _ _ hd]
  omega
theorem rd4_be4 (x : UInt32) : rd4 (be4 x) = x := by
  apply UInt32.toNat_inj.1
  have hx := x.toNat_lt
  rw [be4, rd4_nat]
  simp only [UInt32.toNat_toUInt8, UInt32.toNat_shiftRight, UInt32.reduceToNat, Nat.reduceMod, Nat.shiftRight_eq_div_pow, Nat.reducePow]
  omega
theorem b32_of {x : Int} (h0 : 0 ≤ x) (h1 : x < 4294967296) : ((b32 x).toNat : Int) = x := by rw [b32_toNat]; omega
theorem b8_of {x : Int} (h0 : 0 ≤ x) (h1 : x < 256) : ((b8 x).toNat : Int) = x := by rw [b8_toNat]; omega
theorem uCheck_ok {u : AUnit} (h : uCheck u = 0) : (1 ≤ u.label ∧ u.label ≤ 2147483647 ∧ 0 ≤ u.number ∧ u.number ≤ 2147483647) ∧ (1 ≤ u.kind ∧ u.kind ≤ 6) ∧ u.load.length ≤ roomOf u.kind := by
  have h2 := uCheck_le h
  unfold uCheck at h
  split at h
  · cases h
  · split at h
    · exact ⟨by omega, by omega, h2⟩
    · cases h
theorem fRead_made {u : AUnit} (h : uCheck u = 0) : fRead (fMade u) = (u, false) := by
  obtain ⟨h1, h2, h3⟩ := uCheck_ok h
  have hr := roomOf_le u.kind
  have e : fMade u = [b8 u.kind] ++ (be4 (b32 u.label) ++ (be4 (b32 u.number) ++ ([b8 ((u.load.length : Int) / 2 ^ 8)] ++ ([b8 (u.load.length : Int)] ++ (u.load ++ ((List.replicate (roomOf u.kind) (0 : UInt8)).drop u.load.length ++ be4 (b32 ((crc (fBody u)).toNat : Int)))))))) := by
    simp [fMade, fBody, fHead, List.append_assoc]
  have hn : (u8at [b8 ((u.load.length : Int) / 2 ^ 8)]).toNat * 256 + (u8at [b8 (u.load.length : Int)]).toNat = u.load.length := by
    have e1 : ((b8 ((u.load.length : Int) / 2 ^ 8)).toNat : Int) = ((u.load.length : Int) / 2 ^ 8) % 256 := b8_toNat _
    have e2 : ((b8 (u.load.length : Int)).toNat : Int) = (u.load.length : Int) % 256 := b8_toNat _
    simp only [u8at, List.headD_cons]
    omega
  unfold fRead
  simp only [e, rdB_app (show ([b8 u.kind] : List UInt8).length = 1 from rfl), rdV_app (show ([b8 u.kind] : List UInt8).length = 1 from rfl), rdB_app (be4_len _), rdV_app (be4_len _),
    rdB_app (show ([b8 ((u.load.length : Int) / 2 ^ 8)] : List UInt8).length = 1 from rfl), rdV_app (show ([b8 ((u.load.length : Int) / 2 ^ 8)] : List UInt8).length = 1 from rfl),
    rdB_app (show ([b8 (u.load.length : Int)] : List UInt8).length = 1 from rfl), rdV_app (show ([b8 (u.load.length : Int)] : List UInt8).length = 1 from rfl), hn, rdV_app (show u.load.length = u.load.length from rfl), rdB_app (show u.load.length = u.load.length from rfl), rd4_be4]
  rw [b32_of (by omega) (by omega), b32_of (by omega) (by omega)]
  simp only [u8at, List.headD_cons]
  rw [b8_of (by omega) (by omega)]
theorem fGet_made {u : AUnit} (h : uCheck u = 0) : fGet (fMade u) = (u, 0) := by
  have e := fRead_made h
  rw [fGet_ok (by rw [e]; exact ⟨⟨rfl, h⟩, rfl⟩), e]
/-! ### The reference's frame -/
theorem uRef_1 {u : AUnit} (h : ((((u.kind < 1 ∨ 6 < u.kind) ∨ u.label < 1) ∨ 2147483647 < u.label) ∨ u.number < 0) ∨ 2147483647 < u.number) : uCheck u = 1 := by
  unfold uCheck
  split
  · rfl
  · rw [if_neg (by omega)]
theorem uRef_4 {u : AUnit} (h : ((((1 ≤ u.kind ∧ u.kind ≤ 6) ∧ 1 ≤ u.label) ∧ u.label ≤ 2147483647) ∧ 0 ≤ u.number) ∧ u.number ≤ 2147483647) (hl : roomOf u.kind < u.load.length) : uCheck u = 4 := by
  unfold uCheck
  rw [if_neg (by omega), if_pos (by omega), if_pos (by omega)]
theorem uRef_0 {u : AUnit} (h : ((((1 ≤ u.kind ∧ u.kind ≤ 6) ∧ 1 ≤ u.label) ∧ u.label ≤ 2147483647) ∧ 0 ≤ u.number) ∧ u.number ≤ 2147483647) (hl : u.load.length ≤ roomOf u.kind) : uCheck u = 0 := by
  unfold uCheck
  rw [if_neg (by omega), if_pos (by omega), if_neg (by omega)]
theorem b8_mod (x : Int) : b8 (x % 2 ^ 8) = b8 x := by
  unfold b8
  rw [show x % 2 ^ 8 % 256 = x % 256 by omega]
theorem uRef_body {u : AUnit} {m z : Nat} (hm : m = roomOf u.kind) (hz : z = m - u.load.length) :
    [] ++ [b8 u.kind] ++ be4 (b32 u.label) ++ be4 (b32 u.number) ++ [b8 ((u.load.length : Int) / 2 ^ 8), b8 ((u.load.length : Int) % 2 ^ 8)] ++ u.load ++ List.replicate z (0 : UInt8) = fBody u := by
  subst hm; subst hz
  rw [b8_mod]
  simp [fBody, fHead, List.append_assoc]
theorem uRef_made {u : AUnit} {m z : Nat} (hm : m = roomOf u.kind) (hz : z = m - u.load.length) :
    ([] ++ [b8 u.kind] ++ be4 (b32 u.label) ++ be4 (b32 u.number) ++ [b8 ((u.load.length : Int) / 2 ^ 8), b8 ((u.load.length : Int) % 2 ^ 8)] ++ u.load ++ List.replicate z (0 : UInt8)) ++
      be4 (b32 ((crc ([] ++ [b8 u.kind] ++ be4 (b32 u.label) ++ be4 (b32 u.number) ++ [b8 ((u.load.length : Int) / 2 ^ 8), b8 ((u.load.length : Int) % 2 ^ 8)] ++ u.load ++ List.replicate z (0 : UInt8))).toNat : Int)) = fMade u := by
  rw [uRef_body hm hz]; rfl
/-! ### Seals -/
theorem lblsL_mem : ∀ {p l : List Int}, lblsL p l = true → ∀ x ∈ l, 1 ≤ x ∧ x ≤ 2147483647
  | p, [], _, x, hx => by cases hx
  | p, y :: r, h, x, hx => by
    rw [lblsL, Bool.and_eq_true, Bool.and_eq_true, decide_eq_true_eq] at h
    rcases List.mem_cons.1 hx with rfl | hx
    · exact h.1.1
    · exact lblsL_mem h.2 x hx
theorem lblRd_all : ∀ (l : List Int) (k : Nat) (out : List Int), (∀ x ∈ l, 1 ≤ x ∧ x ≤ 2147483647) → 4 * l.length ≤ k → lblRd k (l.flatMap (fun x => be4 (b32 x)), false) out = (out ++ l, false)
  | [], k, out, _, _ => by rw [lblRd_nil (by simp)]; simp
  | x :: l, k, out, h, hk => by
    obtain ⟨k, rfl⟩ : ∃ j, k = j + 1 := ⟨k - 1, by simp at hk; omega⟩
    have hx := h x (by simp)
    rw [lblRd, if_neg (by simp), List.flatMap_cons, rdB_app (be4_len _), rdV_app (be4_len _), rd4_be4, b32_of (by omega) (by omega), lblRd_all l k _ (fun y hy => h y (by simp [hy])) (by simp at hk; omega)]
    simp
theorem sRight_lbls {s : ASeal} (h : sRight s = true) : ∀ x ∈ s.labels, 1 ≤ x ∧ x ≤ 2147483647 := by
  rw [sRight_yes (sRight_P h)] at h
  exact lblsL_mem h
theorem sRd_bytes {s : ASeal} (h : sRight s = true) : sRd (sBytes s) = s ∧ (sLbl (sBytes s)).2 = false := by
  have hP := sRight_P h
  unfold sRightP at hP
  have e : sBytes s = be4 (b32 s.number) ++ ([b8 s.index] ++ ([b8 s.data] ++ ([b8 s.parity] ++ s.labels.flatMap (fun x => be4 (b32 x))))) := by simp [sBytes, sHead]
  have r1 : rdB 4 (sBytes s, false) = ([b8 s.index] ++ ([b8 s.data] ++ ([b8 s.parity] ++ s.labels.flatMap (fun x => be4 (b32 x)))), false) := by rw [e, rdB_app (be4_len _)]
  have r2 : rdB 1 (rdB 4 (sBytes s, false)) = ([b8 s.data] ++ ([b8 s.parity] ++ s.labels.flatMap (fun x => be4 (b32 x))), false) := by rw [r1, rdB_one]
  have r3 : rdB 1 (rdB 1 (rdB 4 (sBytes s, false))) = ([b8 s.parity] ++ s.labels.flatMap (fun x => be4 (b32 x)), false) := by rw [r2, rdB_one]
  have r4 : sRest (sBytes s) = (s.labels.flatMap (fun x => be4 (b32 x)), false) := by rw [sRest, r3, rdB_one]
  have hl : sLbl (sBytes s) = (s.labels, false) := by
    rw [sLbl, r4, lblRd_all s.labels _ [] (sRight_lbls h) (by simp only [be4s_len]; omega)]; rfl
  refine ⟨?_, by rw [hl]⟩
  have v0 : rdV 4 (sBytes s, false) = be4 (b32 s.number) := by rw [e, rdV_app (be4_len _)]
  rw [sRd, hl, r3, r2, r1, v0, rd4_be4, rdV_one, rdV_one, rdV_one]
  simp only [u8at, List.headD_cons]
  rw [b32_of (by omega) (by omega), b8_of (by omega) (by omega), b8_of (by omega) (by omega), b8_of (by omega) (by omega)]
theorem sRead_bytes {s : ASeal} (h : sRight s = true) : sRead (sBytes s) = (s, 0) := by
  have h1 := sRd_bytes h
  rw [sRead_ok ⟨h1.2, by rw [h1.1]; exact h⟩, h1.1]
theorem sBytes_len (s : ASeal) : (sBytes s).length = 7 + 4 * s.labels.length := by rw [sBytes, List.length_append, sHead_len, be4s_len]
theorem gFind_perm (T : List ATape) : (gFind T).Perm (gFindU T) := by
  have h1 := ins_fold (gFindU T) [] List.Pairwise.nil (by simpa using gFindU_distinct T)
  have h2 := h1.2
  rw [List.nil_append] at h2
  exact h2
theorem gFind_sorted (T : List ATape) : (gFind T).Pairwise (fun a b => a.number < b.number) := (ins_fold (gFindU T) [] List.Pairwise.nil (by simpa using gFindU_distinct T)).1
/-! ### What is laid, is found -/
theorem vGood_made {t : ATape} {n : Nat} {u : AUnit} (hl : t.lost = false) (hb : t.blocks[n]? = some (fMade u)) (hu : uCheck u = 0) (hlab : u.label = t.label) (hnum : u.number = (n : Int)) : vGood t (n : Int) = (u, true) := by
  have e := fGet_made hu
  have hlt := (List.getElem?_eq_some_iff.1 hb).1
  rw [vGood_yes (b := fMade u) ⟨⟨hl, by omega⟩, by omega⟩ (by simpa using hb) (by rw [e]; exact ⟨⟨rfl, hlab⟩, hnum⟩), e]
theorem fput_len (u : AUnit) : (if uCheck u = 0 then fMade u else []).length ≤ 94 := by
  split
  · rename_i h
    have := roomOf_le u.kind
    rw [fMade_len u (uCheck_le h)]; omega
  · simp
theorem putL_len {lbl : Int} : ∀ (U : List AUnit) (k : Nat) (out : List (List UInt8)), (∀ x ∈ out, x.length ≤ 94) → ∀ x ∈ (putL lbl k U out).1, x.length ≤ 94
  | [], k, out, h => h
  | u :: r, k, out, h => by
    rw [putL]
    split
    · rename_i hu
      refine putL_len r _ _ (fun x hx => ?_)
      rcases List.mem_append.1 hx with hx | hx
      · exact h x hx
      · obtain rfl : x = _ := by simpa using hx
        have := fput_len (atU lbl k u)
        rwa [if_pos hu] at this
    · intro x hx; cases hx
theorem gTape_len (t : ATape) (s : ASeal) (rows : List (List UInt8)) : ∀ x ∈ (gTape t s rows).1.blocks, x.length ≤ 94 := by
  unfold gTape
  split
  · exact putL_len _ _ _ (fun x hx => by cases hx)
  · intro x hx; cases hx
theorem gTapes_blocks {d : Int} {s : ASeal} {p : List (List (List UInt8))} : ∀ (l : List ATape) (k : Nat) (out : List ATape), (∀ t ∈ out, ∀ x ∈ t.blocks, x.length ≤ 94) → ∀ t ∈ (gTapes d s p k l out).1, ∀ x ∈ t.blocks, x.length ≤ 94
  | [], k, out, h => h
  | b :: r, k, out, h => by
    rw [gTapes]
    split
    · refine gTapes_blocks r _ _ (fun t ht => ?_)
      rcases List.mem_append.1 ht with ht | ht
      · exact h t ht
      · obtain rfl : t = _ := by simpa using ht
        exact gTape_len _ _ _
    · intro t ht; cases ht
theorem gMake_blocks (d b : List ATape) (n : Int) : ∀ t ∈ (gMake d b n).1, ∀ x ∈ t.blocks, x.length ≤ 94 := by
  unfold gMake
  split
  · intro t ht; cases ht
  · split
    · intro t ht; cases ht
    · exact gTapes_blocks _ _ _ (fun t ht => by cases ht)
theorem gTapes_len {d : Int} {s : ASeal} {p : List (List (List UInt8))} : ∀ (l : List ATape) (k : Nat) (out : List ATape), (gTapes d s p k l out).1.length ≤ out.length + l.length
  | [], k, out => by simp [gTapes]
  | b :: r, k, out => by
    rw [gTapes]
    split
    · refine Nat.le_trans (gTapes_len r _ _) ?_
      simp; omega
    · simp
theorem gMake_len (d b : List ATape) (n : Int) : (gMake d b n).1.length ≤ b.length := by
  unfold gMake
  split
  · simp
  · split
    · simp
    · exact Nat.le_trans (gTapes_len _ _ _) (by simp)
end Go.Proofs.YtmelbclhkkbmiaaGreat.K
