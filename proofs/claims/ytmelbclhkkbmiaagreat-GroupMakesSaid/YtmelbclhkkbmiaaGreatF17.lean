/- Contracts of functions of the program, each proved by a walk through its operations, for all memory and all arguments that the theorem names. Printed by a program of mine. -/
import Derived.Test.YtmelbclhkkbmiaaGreatF15
import Derived.Test.YtmelbclhkkbmiaaGreatF16
set_option linter.unusedVariables false
set_option linter.unusedSimpArgs false
set_option maxRecDepth 100000
namespace Go.Proofs.YtmelbclhkkbmiaaGreat.K
open Go Go.RowKit

theorem c_cartridgeref10_Parity (I : Imm) {Al : Option Addr} {cl : Nat} (l : List ATape) (hl : Sl tTape I Al cl l) (p : Int) (h1 : 1 ≤ l.length) (h2 : 1 ≤ p) (h3 : (l.length : Int) + p ≤ 14) (hln : tLenL l ≤ 1000000) : Con Tryz.prog 34 [.slice Al l.length cl, .int .i64 p].toArray I [] (Ret2 ((tSl (tSl (tSl tU8))).o) (tInt.o) ((sParity l p).1) ((sParity l p).2)) := by
 have hsml := hl.small
 have hnn := tLenL_nonneg l
 have hpo := par_ok h1 h2 h3
 refine Con.enter (n := 89) (L := [(0, .slice Al l.length cl), (1, .int .i64 p)]) Tryz.func34 rfl rfl (Nat.le_of_ble_eq_true rfl) rfl (fun E => ?_)
 refine RunC.sr ?_
 refine Run.as ?_
 refine Run.as ?_
 refine Run.nx ?_
 refine RunC.seq ?_
 refine RunC.sr ?_
 refine Run.mv ?_
 refine Run.m (y_len rfl Tryz.runUnderlying22 rfl) ?_
 refine Run.m (v := .bool (decide ((l.length : Int) < 1))) (y_bin rfl rfl rfl bn_lss) ?_
 refine Run.mv ?_
 refine Run.split 3 rfl (b := decide ((l.length : Int) < 1)) (d := 20) (v := .bool ((decide ((l.length : Int) < 1)) || (decide (p < 0)))) (fun hb17 K17 => ?_) (fun hb17 K17 => ?_) ?_
 ·
  have hc1017 := hb17; try simp only [z1, z2, z3, z4, z5, z6, z7, z8, z9, z10, z11, z12, z13, z14, z15, z16] at hc1017
  refine Run.no rfl rfl rfl rfl (hb17) rfl (by decide) ?_
  refine Run.no rfl rfl rfl rfl (hb17) rfl (by decide) ?_
  refine Run.y (y_pickB rfl rfl (hb17) rfl) rfl rfl (by decide) ?_
  exact K17 _ _ _ (Imm.le.refl _) (by rw [hb17]; simp) (Sub.tl 2 rfl rfl)
 ·
  have hc1017 := hb17; try simp only [z1, z2, z3, z4, z5, z6, z7, z8, z9, z10, z11, z12, z13, z14, z15, z16] at hc1017
  refine Run.yes (v := .int .i64 p) (y_move rfl rfl) rfl rfl rfl rfl (hb17) rfl (by decide) ?_
  refine Run.yes (v := .bool (decide (p < 0))) (y_bin rfl rfl rfl bn_lss) rfl rfl rfl rfl (hb17) rfl (by decide) ?_
  refine Run.y (y_pickB rfl rfl (hb17) rfl) rfl rfl (by decide) ?_
  exact K17 _ _ _ (Imm.le.refl _) (by rw [hb17]; simp) (Sub.tl 2 rfl rfl)
 refine Run.mv ?_
 refine Run.split 3 rfl (b := ((decide ((l.length : Int) < 1)) || (decide (p < 0)))) (d := 24) (v := .bool (((decide ((l.length : Int) < 1)) || (decide (p < 0))) || (decide (p > 255)))) (fun hb21 K21 => ?_) (fun hb21 K21 => ?_) ?_
 ·
  have hc1021 := hb21; try simp only [z1, z2, z3, z4, z5, z6, z7, z8, z9, z10, z11, z12, z13, z14, z15, z16] at hc1021
  refine Run.no rfl rfl rfl rfl (hb21) rfl (by decide) ?_
  refine Run.no rfl rfl rfl rfl (hb21) rfl (by decide) ?_
  refine Run.y (y_pickB rfl rfl (hb21) rfl) rfl rfl (by decide) ?_
  exact K21 _ _ _ (Imm.le.refl _) (by rw [hb21]; simp) (Sub.tl 2 rfl rfl)
 ·
  have hc1021 := hb21; try simp only [z1, z2, z3, z4, z5, z6, z7, z8, z9, z10, z11, z12, z13, z14, z15, z16] at hc1021
  refine Run.yes (v := .int .i64 p) (y_move rfl rfl) rfl rfl rfl rfl (hb21) rfl (by decide) ?_
  refine Run.yes (v := .bool (decide (p > 255))) (y_bin rfl rfl rfl bn_gtr) rfl rfl rfl rfl (hb21) rfl (by decide) ?_
  refine Run.y (y_pickB rfl rfl (hb21) rfl) rfl rfl (by decide) ?_
  exact K21 _ _ _ (Imm.le.refl _) (by rw [hb21]; simp) (Sub.tl 2 rfl rfl)
 refine Run.mv ?_
 refine Run.split 6 rfl (b := (((decide ((l.length : Int) < 1)) || (decide (p < 0))) || (decide (p > 255)))) (d := 31) (v := .bool ((((decide ((l.length : Int) < 1)) || (decide (p < 0))) || (decide (p > 255))) || (decide ((l.length : Int) + p > 255)))) (fun hb25 K25 => ?_) (fun hb25 K25 => ?_) ?_
 ·
  have hc1025 := hb25; try simp only [z1, z2, z3, z4, z5, z6, z7, z8, z9, z10, z11, z12, z13, z14, z15, z16] at hc1025
  refine Run.no rfl rfl rfl rfl (hb25) rfl (by decide) ?_
  refine Run.no rfl rfl rfl rfl (hb25) rfl (by decide) ?_
  refine Run.no rfl rfl rfl rfl (hb25) rfl (by decide) ?_
  refine Run.no rfl rfl rfl rfl (hb25) rfl (by decide) ?_
  refine Run.no rfl rfl rfl rfl (hb25) rfl (by decide) ?_
  refine Run.y (y_pickB rfl rfl (hb25) rfl) rfl rfl (by decide) ?_
  exact K25 _ _ _ (Imm.le.refl _) (by rw [hb25]; simp) (Sub.tl 5 rfl rfl)
 ·
  have hc1025 := hb25; try simp only [z1, z2, z3, z4, z5, z6, z7, z8, z9, z10, z11, z12, z13, z14, z15, z16] at hc1025
  refine Run.yes (v := .slice Al l.length cl) (y_move rfl rfl) rfl rfl rfl rfl (hb25) rfl (by decide) ?_
  refine Run.yes (v := .int .i64 (l.length : Int)) (y_len rfl Tryz.runUnderlying22 rfl) rfl rfl rfl rfl (hb25) rfl (by decide) ?_
  refine Run.yes (v := .int .i64 p) (y_move rfl rfl) rfl rfl rfl rfl (hb25) rfl (by decide) ?_
  refine Run.yes (v := .int .i64 ((l.length : Int) + p)) (y_bin rfl rfl rfl (bn_add (by omega) (by omega))) rfl rfl rfl rfl (hb25) rfl (by decide) ?_
  refine Run.yes (v := .bool (decide ((l.length : Int) + p > 255))) (y_bin rfl rfl rfl bn_gtr) rfl rfl rfl rfl (hb25) rfl (by decide) ?_
  refine Run.y (y_pickB rfl rfl (hb25) rfl) rfl rfl (by decide) ?_
  exact K25 _ _ _ (Imm.le.refl _) (by rw [hb25]; simp) (Sub.tl 5 rfl rfl)
 refine Run.nx ?_
 refine RunC.cond rfl (fun hc0 => ?_) (fun hc0 => ?_)
 ·
  try simp only [z1, z2, z3, z4, z5, z6, z7, z8, z9, z10, z11, z12, z13, z14, z15, z16] at hc0
  exfalso
  omega
 ·
  skip
  try simp only [z1, z2, z3, z4, z5, z6, z7, z8, z9, z10, z11, z12, z13, z14, z15, z16] at hc0
  refine RunC.skip ?_
  refine RunQ.next ?_
  refine RunC.sr ?_
  refine Run.as ?_
  refine Run.nx ?_
  refine RunC.seq ?_
  refine RunC.sr ?_
  refine Run.as ?_
  refine Run.nx ?_
  refine RunC.block ?_
  refine RunC.nilrow none 43 1 ?_
  obtain ⟨Inv0, hInv0⟩ : ∃ Inv : Nat → Act → World → Prop, ∀ mm aa ww, Inv mm aa ww ↔ (∃ (k : Nat) (o : List (List (List UInt8))) (Ao : Option Addr) (co : Nat) (clo : List Value) (Jo : Imm), (I.le Jo) ∧ ((tSl (tSl tU8)).all Jo clo o) ∧ ((k : Int) ≤ p) ∧ (o.length = k) ∧ (clo = List.replicate k (.slice none 0 0)) ∧ (mm = (p.toNat - k)) ∧ Frm aa 89 [(0, .slice Al l.length cl), (1, .int .i64 p), (4, .slice none 0 0), (5, .int .i64 0), (7, .int .i64 (k : Int)), (6, .slice Ao o.length co)] ∧ S E ww Jo [row (.slice Ao o.length co) 43 1 clo]) := ⟨_, fun _ _ _ => Iff.rfl⟩
  refine RunC.loopX Inv0 (fun aa ww hF hS => ⟨_, (hInv0 _ _ _).2 ⟨0, ([] : List (List (List UInt8))), none, 0, [], I, (Imm.le.refl _), all_nil, (by omega), rfl, rfl, rfl, hF.sub (Sub.of rfl), hS.sub (perm_self _)⟩⟩) ?_
  intro mm0 aa ww hv
  obtain ⟨k, o, Ao, co, clo, Jo, hJo_le, ho, hk, hol, hcl, hmm_, hF, hS⟩ := (hInv0 _ _ _).1 hv
  clear hv
  refine RunC.go ?_ hF hS
  clear hF hS aa ww
  refine RunC.seq ?_
  refine RunC.sr ?_
  refine Run.mv ?_
  refine Run.mv ?_
  refine Run.m (v := .bool (decide ((k : Int) < p))) (y_bin rfl rfl rfl bn_lss) ?_
  refine Run.nx ?_
  refine RunC.cond rfl (fun hc1 => ?_) (fun hc1 => ?_)
  ·
   try simp only [z1, z2, z3, z4, z5, z6, z7, z8, z9, z10, z11, z12, z13, z14, z15, z16] at hc1
   refine RunC.skip ?_
   refine RunQ.next ?_
   refine RunC.seq ?_
   refine RunC.block ?_
   refine RunC.region ?_
   refine Run.mv ?_
   refine Run.lit (vs := [(0, .slice none 0 0)]) (cs := [.slice none 0 0]) (el := 43) (sz := 1) rfl rfl (fun w => by simp [Instr.buildSlice, Tryz.runUnderlying75, Tryz.sizeOf43, Tryz.zeroValue43, Instr.fill, Value.cells, newRow, (show Array.range 1 = #[0] from rfl)]) rfl (by simp [maxLen]) rfl rfl (by decide) (fun g38 => ?_)
   have hlit1 : (tSl (tSl tU8)).all Jo [.slice none 0 0] [([] : List (List UInt8))] := (all_snoc (T := (tSl (tSl tU8))) all_nil ⟨_, _, rfl, sl_nil0⟩)
   have hall2 : (tSl (tSl tU8)).all Jo (clo ++ ([.slice none 0 0])) (o ++ ([([] : List (List UInt8))])) := all_append ho hlit1
   refine Run.append (by_ := 24) (ys := [.slice none 0 0]) (k := 1) (own' := [row (.slice (some ⟨g38, 0, none⟩) 1 1) 43 1 ([.slice none 0 0])]) 1 rfl rfl rfl Tryz.runUnderlying75 (.inl Tryz.runUnderlying75) Tryz.sizeOf43 Tryz.typeInfo43 rfl Tryz.zeroValue43 rfl rfl rfl (fun w hS => src_own hS (i := 0) rfl) (row_len hlit1 (by first | rfl | (simp; done) | (simp; omega)) rfl) (all_one hlit1) ((o ++ ([([] : List (List UInt8))])).length) (by first | (simp; done) | (simp; omega)) (by first | (simp; omega) | (rw [hol]; simp; omega)) (by first | (simp [maxLen]; omega)) rfl rfl (by decide) (fun A39_2 c39_2 => ?_)
   refine Run.weak Sub.refl (perm_take (i := 0) rfl (perm_nil _)) ?_
   refine Run.as ?_
   refine Run.nil ?_
   refine RunQ.inB ?_
   refine RunQ.next ?_
   refine RunC.region ?_
   refine Run.mv ?_
   refine Run.m (v := .int .i64 ((k : Int) + 1)) (y_bin rfl rfl rfl (bn_add (by omega) (by omega))) ?_
   refine Run.as ?_
   refine Run.nil ?_
   exact RunQ.thenI (fun aa ww hF hS => ⟨_, (by omega), (hInv0 _ _ _).2 ⟨(k + 1), (o ++ ([([] : List (List UInt8))])), A39_2, c39_2, clo ++ ([.slice none 0 0]), Jo, hJo_le, hall2, (by omega), (by simp; omega), (by rw [hcl, List.replicate_succ']), rfl, hF.sub (Sub.of rfl), hS.sub (perm_self _)⟩⟩)
  ·
   try simp only [z1, z2, z3, z4, z5, z6, z7, z8, z9, z10, z11, z12, z13, z14, z15, z16] at hc1
   refine RunC.exit ?_
   refine RunQ.pass (fun h => by cases h) ?_
   refine RunQ.pass (fun h => by cases h) ?_
   refine RunQ.out ?_
   refine RunQ.next ?_
   refine RunC.seq ?_
   refine RunC.sr ?_
   refine Run.as ?_
   refine Run.nx ?_
   refine RunC.block ?_
   refine RunC.toNest (α := (List UInt8)) (v' := .slice Ao p.toNat co) (t := 42) (sz := 1) (m := p.toNat) (by rw [hol, show k = p.toNat from by omega]) (by rw [hcl, show k = p.toNat from by omega]) ?_
   refine RunC.cast (s := 6) (v' := .slice Ao p.toNat co) rfl (by rw [hol, show k = p.toNat from by omega]) ?_
   obtain ⟨Inv1, hInv1⟩ : ∃ Inv : Nat → Act → World → Prop, ∀ mm aa ww, Inv mm aa ww ↔ (∃ (n : Nat) (M : List (NR (List UInt8))) (Ja : Imm), (Jo.le Ja) ∧ (∀ e ∈ M, (tSl tU8).all Ja e.cl e.x) ∧ (M.length = p.toNat) ∧ ((n : Int) ≤ tLenL l) ∧ (∀ i < p.toNat, (M.map NR.x)[i]? = some ((List.range n).map fun a => parCell l p i a)) ∧ (∀ a < n, rowBad l a = false) ∧ (mm = ((tLenL l).toNat - n)) ∧ Frm aa 89 [(0, .slice Al l.length cl), (1, .int .i64 p), (6, .slice Ao p.toNat co), (8, .int .i64 (n : Int))] ∧ S E ww Ja [row (.slice Ao p.toNat co) 43 1 (nCells M), allR (nRes 42 1 M)]) := ⟨_, fun _ _ _ => Iff.rfl⟩
   refine RunC.loopX Inv1 (fun aa ww hF hS => ⟨_, (hInv1 _ _ _).2 ⟨0, (List.replicate p.toNat (nNil (List UInt8))), Jo, (Imm.le.refl _), (nest_nil (T := (tSl tU8))), (by simp), (tLenL_nonneg l), (by intro i hi; simp [hi, nNil]), (by intro a ha; omega), rfl, hF.sub (Sub.of rfl), hS.sub (perm_self _)⟩⟩) ?_
   intro mm1 aa ww hv
   obtain ⟨n, M, Ja, hJa_le, hM, hMl, hn, hMx, hno, hmm_, hF, hS⟩ := (hInv1 _ _ _).1 hv
   clear hv
   refine RunC.go ?_ hF hS
   clear hF hS aa ww
   refine RunC.seq ?_
   refine RunC.sr ?_
   refine Run.mv ?_
   refine Run.mv ?_
   refine Run.callV (en_func rfl Tryz.call31 rfl) (conv_int (c_cartridgeref10_StripeLen _ l (hl.mono (hJo_le.trans hJa_le)))) rfl rfl (by decide) (fun hI3 => ?_)
   refine Run.m (v := .bool (decide ((n : Int) < (tLenL l)))) (y_bin rfl rfl rfl bn_lss) ?_
   refine Run.nx ?_
   refine RunC.cond rfl (fun hc2 => ?_) (fun hc2 => ?_)
   ·
    try simp only [z1, z2, z3, z4, z5, z6, z7, z8, z9, z10, z11, z12, z13, z14, z15, z16] at hc2
    refine RunC.skip ?_
    refine RunQ.next ?_
    refine RunC.seq ?_
    refine RunC.block ?_
    refine RunC.sr ?_
    refine Run.mv ?_
    refine Run.mv ?_
    refine Run.call0 (en_func rfl Tryz.call83 rfl) (c_cartridgeref10_Row _ l (hl.mono (hJo_le.trans hJa_le)) (n : Int) (by omega) (by omega)) rfl rfl (by decide) (fun J4 o4 v4 hleJ4 hq4 => ?_)
    obtain ⟨rfl, cs4a, rfl, h4a⟩ := hq4
    replace h4a : (tSl (tSl tU8)).rd J4 cs4a (tRow l (n : Int)) := h4a
    obtain ⟨A4a_0, c4a_0, rfl, f4a_0⟩ := h4a
    have hsm4a_0 := f4a_0.small
    have hrl := tRow_len l (n : Int)
    refine Run.as ?_
    refine Run.nx ?_
    refine RunC.seq ?_
    refine RunC.sr ?_
    refine Run.as ?_
    refine Run.nx ?_
    refine RunC.block ?_
    obtain ⟨Inv2, hInv2⟩ : ∃ Inv : Nat → Act → World → Prop, ∀ mm aa ww, Inv mm aa ww ↔ (∃ (i : Nat), (i ≤ l.length) ∧ (∀ r ∈ (tRow l (n : Int)).take i, ¬ r.length = 0) ∧ (mm = (l.length - i)) ∧ Frm aa 89 [(0, .slice Al l.length cl), (1, .int .i64 p), (6, .slice Ao p.toNat co), (8, .int .i64 (n : Int)), (40, .int .i64 (n : Int)), (41, .slice Al l.length cl), (42, .int .i64 (tLenL l)), (43, .bool (decide ((n : Int) < (tLenL l)))), (46, .slice Al l.length cl), (47, .int .i64 (n : Int)), (48, .slice A4a_0 ((tRow l (n : Int)).length) c4a_0), (9, .slice A4a_0 ((tRow l (n : Int)).length) c4a_0), (10, .int .i64 (i : Int))] ∧ S E ww J4 [row (.slice Ao p.toNat co) 43 1 (nCells M), allR (nRes 42 1 M)]) := ⟨_, fun _ _ _ => Iff.rfl⟩
    refine RunC.loopX Inv2 (fun aa ww hF hS => ⟨_, (hInv2 _ _ _).2 ⟨0, (by omega), (by simp), rfl, hF.sub (Sub.of rfl), hS.sub (perm_self _)⟩⟩) ?_
    intro mm2 aa ww hv
    obtain ⟨i, hi, hne, hmm_, hF, hS⟩ := (hInv2 _ _ _).1 hv
    clear hv
    refine RunC.go ?_ hF hS
    clear hF hS aa ww
    refine RunC.seq ?_
    refine RunC.sr ?_
    refine Run.mv ?_
    refine Run.mv ?_
    refine Run.m (y_len rfl Tryz.runUnderlying43 rfl) ?_
    refine Run.m (v := .bool (decide ((i : Int) < ((tRow l (n : Int)).length : Int)))) (y_bin rfl rfl rfl bn_lss) ?_
    refine Run.nx ?_
    refine RunC.cond rfl (fun hc3 => ?_) (fun hc3 => ?_)
    ·
     try simp only [z1, z2, z3, z4, z5, z6, z7, z8, z9, z10, z11, z12, z13, z14, z15, z16] at hc3
     refine RunC.skip ?_
     refine RunQ.next ?_
     refine RunC.seq ?_
     refine RunC.block ?_
     refine RunC.sr ?_
     refine Run.mv ?_
     refine Run.mv ?_
     obtain ⟨x57, p57_5, cs57_5, hx57, hp57_5, hcs57_5, hrc57_5⟩ := Sl.at_ (P := Tryz.prog) (T := (tSl tU8)) Tryz.runUnderlying43 Tryz.sizeOf42 f4a_0 (k := .i64) (i := (i : Int)) (by omega) (by omega)
     replace hx57 : (tRow l (n : Int))[i]? = some x57 := hx57
     obtain ⟨A57_5_0, c57_5_0, rfl, f57_5_0⟩ := hcs57_5
     have hsm57_5_0 := f57_5_0.small
     refine Run.m (v := .pointer (some p57_5)) (y_index rfl rfl rfl hp57_5) ?_
     refine Run.m (v := .slice A57_5_0 x57.length c57_5_0) (y_load1 rfl Tryz.isAgg42 rfl (RCells.hd hrc57_5)) ?_
     refine Run.m (y_len rfl Tryz.runUnderlying42 rfl) ?_
     refine Run.m (v := .bool (decide ((x57.length : Int) = 0))) (y_bin rfl rfl rfl bn_eql) ?_
     refine Run.nx ?_
     refine RunC.cond rfl (fun hc4 => ?_) (fun hc4 => ?_)
     ·
      try simp only [z1, z2, z3, z4, z5, z6, z7, z8, z9, z10, z11, z12, z13, z14, z15, z16] at hc4
      refine RunC.sr ?_
      refine Run.as ?_
      refine Run.as ?_
      refine Run.nx ?_
      refine RunC.ret ?_
      refine RunQ.inR ?_
      refine RunQ.pass (fun h => by cases h) ?_
      refine RunQ.pass (fun h => by cases h) ?_
      refine RunQ.inR ?_
      refine RunQ.pass (fun h => by cases h) ?_
      refine RunQ.inR ?_
      refine RunQ.pass (fun h => by cases h) ?_
      refine RunQ.pass (fun h => by cases h) ?_
      refine RunQ.inR ?_
      refine RunQ.pass (fun h => by cases h) ?_
      refine RunQ.weak Sub.refl (perm_nil _) ?_
      refine RunQ.fin2 (.inl rfl) Tryz.results34 (rv_tmp rfl) (rv_tmp rfl) ?_
      exact ⟨rfl, _, _, rfl, (rd_eq (T := (tSl (tSl (tSl tU8)))) (x := ([] : List (List (List UInt8)))) ⟨_, _, rfl, sl_nil0⟩ (by first | (rw [sParity_bad hpo hc2 (rowBad_yes hx57 (by omega))] <;> rfl) | (rw [sParity_yes hpo (k := n) (by omega) hno]; done) | (rw [sParity_yes hpo (k := n) (by omega) hno]; exact range_ext hMx (by simpa using hMl)))), (rd_eq (T := tInt) (x := 1) ⟨rfl, (by first | omega | (dsimp only; omega))⟩ (by first | (rw [sParity_bad hpo hc2 (rowBad_yes hx57 (by omega))] <;> rfl) | (rw [sParity_yes hpo (k := n) (by omega) hno]; done) | (rw [sParity_yes hpo (k := n) (by omega) hno]; exact range_ext hMx (by simpa using hMl))))⟩
     ·
      try simp only [z1, z2, z3, z4, z5, z6, z7, z8, z9, z10, z11, z12, z13, z14, z15, z16] at hc4
      refine RunC.skip ?_
      refine RunQ.inB ?_
      refine RunQ.next ?_
      refine RunC.region ?_
      refine Run.mv ?_
      refine Run.m (v := .int .i64 ((i : Int) + 1)) (y_bin rfl rfl rfl (bn_add (by omega) (by omega))) ?_
      refine Run.as ?_
      refine Run.nil ?_
      exact RunQ.thenI (fun aa ww hF hS => ⟨_, (by omega), (hInv2 _ _ _).2 ⟨(i + 1), (by omega), (by rw [take_snoc' hx57]; intro y hy; rcases List.mem_append.1 hy with hy | hy; exact hne y hy; simp at hy; subst hy; omega), rfl, hF.sub (Sub.of rfl), hS.sub (perm_self _)⟩⟩)
    ·
     try simp only [z1, z2, z3, z4, z5, z6, z7, z8, z9, z10, z11, z12, z13, z14, z15, z16] at hc3
     have hne2 : ∀ r ∈ tRow l (n : Int), ¬ r.length = 0 := by rw [List.take_of_length_le (by omega)] at hne; exact hne
     refine RunC.exit ?_
     refine RunQ.pass (fun h => by cases h) ?_
     refine RunQ.pass (fun h => by cases h) ?_
     refine RunQ.out ?_
     refine RunQ.next ?_
     refine RunC.sr ?_
     refine Run.mv ?_
     refine Run.mv ?_
     refine Run.call0 (en_func rfl Tryz.call84 rfl) (c_cartridgeref1_Encode _ (tRow l (n : Int)) f4a_0 p (by omega) (by omega) (by omega) (row79 hne2)) rfl rfl (by decide) (fun J6 o6 v6 hleJ6 hq6 => ?_)
     obtain ⟨rfl, cs6a, cs6b, rfl, h6a, h6b⟩ := hq6
     replace h6a : (tSl (tSl tU8)).rd J6 cs6a (eOut (tRow l (n : Int)) p) := h6a
     obtain ⟨A6a_0, c6a_0, rfl, f6a_0⟩ := h6a
     have hsm6a_0 := f6a_0.small
     replace h6b : tInt.rd J6 cs6b 0 := h6b
     obtain ⟨rfl, f6b_0⟩ := h6b
     have heo := eOut_len (tRow l (n : Int)) p
     refine Run.mv ?_
     refine Run.m (y_extract rfl rfl rfl) ?_
     refine Run.m (y_extract rfl rfl rfl) ?_
     refine Run.as ?_
     refine Run.as ?_
     refine Run.nx ?_
     refine RunC.seq ?_
     refine RunC.sr ?_
     refine Run.mv ?_
     refine Run.m (v := .bool (decide (0 ≠ 0))) (y_bin rfl rfl rfl bn_neq) ?_
     refine Run.nx ?_
     refine RunC.cond rfl (fun hc5 => ?_) (fun hc5 => ?_)
     ·
      try simp only [z1, z2, z3, z4, z5, z6, z7, z8, z9, z10, z11, z12, z13, z14, z15, z16] at hc5
      exfalso
      exact hc5 trivial
     ·
      skip
      try simp only [z1, z2, z3, z4, z5, z6, z7, z8, z9, z10, z11, z12, z13, z14, z15, z16] at hc5
      refine RunC.skip ?_
      refine RunQ.next ?_
      refine RunC.sr ?_
      refine Run.as ?_
      refine Run.nx ?_
      refine RunC.block ?_
      obtain ⟨Inv3, hInv3⟩ : ∃ Inv : Nat → Act → World → Prop, ∀ mm aa ww, Inv mm aa ww ↔ (∃ (q : Nat) (N : List (NR (List UInt8))) (Jb : Imm), (J6.le Jb) ∧ (∀ e ∈ N, (tSl tU8).all Jb e.cl e.x) ∧ (N.length = p.toNat) ∧ (q ≤ p.toNat) ∧ (∀ i < p.toNat, (N.map NR.x)[i]? = some (if i < q then (List.range (n + 1)).map (fun a => parCell l p i a) else (List.range n).map fun a => parCell l p i a)) ∧ (mm = (p.toNat - q)) ∧ Frm aa 89 [(0, .slice Al l.length cl), (1, .int .i64 p), (6, .slice Ao p.toNat co), (8, .int .i64 (n : Int)), (40, .int .i64 (n : Int)), (41, .slice Al l.length cl), (42, .int .i64 (tLenL l)), (43, .bool (decide ((n : Int) < (tLenL l)))), (46, .slice Al l.length cl), (47, .int .i64 (n : Int)), (48, .slice A4a_0 ((tRow l (n : Int)).length) c4a_0), (9, .slice A4a_0 ((tRow l (n : Int)).length) c4a_0), (10, .int .i64 (i : Int)), (49, .int .i64 (i : Int)), (50, .slice A4a_0 ((tRow l (n : Int)).length) c4a_0), (51, .int .i64 ((tRow l (n : Int)).length : Int)), (52, .bool (decide ((i : Int) < ((tRow l (n : Int)).length : Int)))), (62, .slice A4a_0 ((tRow l (n : Int)).length) c4a_0), (63, .int .i64 p), (64, .tuple #[.slice A6a_0 ((eOut (tRow l (n : Int)) p).length) c6a_0, .int .i64 0]), (61, .tuple #[.slice A6a_0 ((eOut (tRow l (n : Int)) p).length) c6a_0, .int .i64 0]), (65, .slice A6a_0 ((eOut (tRow l (n : Int)) p).length) c6a_0), (66, .int .i64 0), (11, .slice A6a_0 ((eOut (tRow l (n : Int)) p).length) c6a_0), (12, .int .i64 0), (67, .int .i64 0), (68, .bool (decide (0 ≠ 0))), (13, .int .i64 (q : Int))] ∧ S E ww Jb [row (.slice Ao p.toNat co) 43 1 (nCells N), allR (nRes 42 1 N)]) := ⟨_, fun _ _ _ => Iff.rfl⟩
      refine RunC.loopX Inv3 (fun aa ww hF hS => ⟨_, (hInv3 _ _ _).2 ⟨0, M, J6, (Imm.le.refl _), (nest_mono hM (hleJ4.trans hleJ6)), hMl, (by omega), (by intro i hi; rw [hMx i hi]; simp), rfl, hF.sub (Sub.of rfl), hS.sub (perm_self _)⟩⟩) ?_
      intro mm3 aa ww hv
      obtain ⟨q, N, Jb, hJb_le, hN, hNl, hq, hNx, hmm_, hF, hS⟩ := (hInv3 _ _ _).1 hv
      clear hv
      refine RunC.go ?_ hF hS
      clear hF hS aa ww
      refine RunC.seq ?_
      refine RunC.sr ?_
      refine Run.mv ?_
      refine Run.mv ?_
      refine Run.m (v := .bool (decide ((q : Int) < p))) (y_bin rfl rfl rfl bn_lss) ?_
      refine Run.nx ?_
      refine RunC.cond rfl (fun hc6 => ?_) (fun hc6 => ?_)
      ·
       try simp only [z1, z2, z3, z4, z5, z6, z7, z8, z9, z10, z11, z12, z13, z14, z15, z16] at hc6
       refine RunC.skip ?_
       refine RunQ.next ?_
       refine RunC.seq ?_
       refine RunC.block ?_
       refine RunC.regionT [13] [row (.slice Ao p.toNat co) 43 1 (nCells N)] (by kernel_rfl) rfl ?_
       refine RunT.p (v := .slice Ao p.toNat co) (listed' := #[true, false, false, false, false, false, false, false, false, false, false, false, false, false]) 0 rfl (by kernel_rfl) (by kernel_rfl) (by kernel_rfl) rfl (fun _ => ⟨(Imm.le.refl _), (perm_take (i := 0) rfl (perm_nil _))⟩) (y_move rfl rfl) (.plain rfl) rfl (by decide) rfl ?_
       refine RunT.p (v := .int .i64 (q : Int)) (listed' := #[true, true, false, false, false, false, false, false, false, false, false, false, false, false]) 1 rfl (by kernel_rfl) (by kernel_rfl) (by kernel_rfl) rfl (fun _ => ⟨(Imm.le.refl _), (perm_take (i := 0) rfl (perm_nil _))⟩) (y_move rfl rfl) (.plain rfl) rfl (by decide) rfl ?_
       refine RunT.p (v := .slice Ao p.toNat co) (listed' := #[true, true, true, false, false, false, false, false, false, false, false, false, false, false]) 2 rfl (by kernel_rfl) (by kernel_rfl) (by kernel_rfl) rfl (fun _ => ⟨(Imm.le.refl _), (perm_take (i := 0) rfl (perm_nil _))⟩) (y_move rfl rfl) (.plain rfl) rfl (by decide) rfl ?_
       refine RunT.p (v := .int .i64 (q : Int)) (listed' := #[true, true, true, true, false, false, false, false, false, false, false, false, false, false]) 3 rfl (by kernel_rfl) (by kernel_rfl) (by kernel_rfl) rfl (fun _ => ⟨(Imm.le.refl _), (perm_take (i := 0) rfl (perm_nil _))⟩) (y_move rfl rfl) (.plain rfl) rfl (by decide) rfl ?_
       obtain ⟨e79, he79⟩ : ∃ en, N[q]? = some en := ⟨_, List.getElem?_eq_getElem (by first | exact (by omega) | omega | (simp; omega))⟩
       have hex : e79.x = (List.range n).map fun a => parCell l p q a := by have hz2 := hNx q (by omega); rw [List.getElem?_map, he79, if_neg (by omega)] at hz2; exact Option.some.inj hz2
       have hexl : e79.x.length = n := by rw [hex]; simp
       refine RunT.y (v := .pointer (some (pt Ao (q * 1)))) (listed' := #[true, true, true, true, true, false, false, false, false, false, false, false, false, false]) 4 rfl (by kernel_rfl) (by kernel_rfl) (by kernel_rfl) (by kernel_rfl) rfl (Imm.le.refl _) (perm_take (i := 0) rfl (perm_nil _)) (y_indexR (q := (q : Int)) 0 rfl rfl rfl Tryz.runUnderlying75 Tryz.sizeOf43 rfl (by omega) (by omega)) (.plain rfl) rfl (by decide) rfl ?_
       refine RunT.y (v := .slice e79.A e79.x.length e79.c) (listed' := #[true, true, true, true, true, true, false, false, false, false, false, false, false, false]) 5 rfl (by kernel_rfl) (by kernel_rfl) (by kernel_rfl) (by kernel_rfl) rfl (Imm.le.refl _) (perm_take (i := 0) rfl (perm_nil _)) (y_loadR1 0 rfl Tryz.isAgg43 rfl rfl (nCells_at he79)) (.plain rfl) rfl (by decide) rfl ?_
       refine RunT.p (v := .slice A6a_0 ((eOut (tRow l (n : Int)) p).length) c6a_0) (listed' := #[true, true, true, true, true, true, true, false, false, false, false, false, false, false]) 6 rfl (by kernel_rfl) (by kernel_rfl) (by kernel_rfl) rfl (fun _ => ⟨(Imm.le.refl _), (perm_take (i := 0) rfl (perm_nil _))⟩) (y_move rfl rfl) (.plain rfl) rfl (by decide) rfl ?_
       refine RunT.p (v := .int .i64 (q : Int)) (listed' := #[true, true, true, true, true, true, true, true, false, false, false, false, false, false]) 7 rfl (by kernel_rfl) (by kernel_rfl) (by kernel_rfl) rfl (fun _ => ⟨(Imm.le.refl _), (perm_take (i := 0) rfl (perm_nil _))⟩) (y_move rfl rfl) (.plain rfl) rfl (by decide) rfl ?_
       obtain ⟨x83, p83_7, cs83_7, hx83, hp83_7, hcs83_7, hrc83_7⟩ := Sl.at_ (P := Tryz.prog) (T := (tSl tU8)) Tryz.runUnderlying43 Tryz.sizeOf42 (f6a_0.mono hJb_le) (k := .i64) (i := (q : Int)) (by omega) (by omega)
       replace hx83 : (eOut (tRow l (n : Int)) p)[q]? = some x83 := hx83
       obtain ⟨A83_7_0, c83_7_0, rfl, f83_7_0⟩ := hcs83_7
       have hsm83_7_0 := f83_7_0.small
       have hxc : x83 = parCell l p q n := par_cell h1 h2 h3 hne2 hx83
       refine RunT.p (v := .pointer (some p83_7)) (listed' := #[true, true, true, true, true, true, true, true, true, false, false, false, false, false]) 8 rfl (by kernel_rfl) (by kernel_rfl) (by kernel_rfl) rfl (fun _ => ⟨(Imm.le.refl _), (perm_take (i := 0) rfl (perm_nil _))⟩) (y_index rfl rfl rfl hp83_7) (.plain rfl) rfl (by decide) rfl ?_
       refine RunT.y (v := .slice A83_7_0 x83.length c83_7_0) (listed' := #[true, true, true, true, true, true, true, true, true, true, false, false, false, false]) 9 rfl (by kernel_rfl) (by kernel_rfl) (by kernel_rfl) (by kernel_rfl) rfl (Imm.le.refl _) (perm_take (i := 0) rfl (perm_nil _)) (y_load1 rfl Tryz.isAgg42 rfl (RCells.hd hrc83_7)) (.plain rfl) rfl (by decide) rfl ?_
       refine RunT.step (listed' := #[true, true, true, true, true, true, true, true, true, true, true, false, false, false]) 10 rfl (by kernel_rfl) rfl ?_
       refine Run.lit (vs := [(0, .slice A83_7_0 x83.length c83_7_0)]) (cs := [.slice A83_7_0 x83.length c83_7_0]) (el := 42) (sz := 1) rfl rfl (fun w => by simp [Instr.buildSlice, Tryz.runUnderlying43, Tryz.sizeOf42, Tryz.zeroValue42, Instr.fill, Value.cells, newRow, (show Array.range 1 = #[0] from rfl)]) rfl (by simp [maxLen]) rfl rfl (by decide) (fun g85 => ?_)
       refine Run.nil ?_
       refine RunQ.stepEnd (fun _ => ⟨(Imm.le.refl _), (perm_take (i := 1) rfl (perm_nil _))⟩) ?_
       refine RunT.step (listed' := #[true, true, true, true, true, true, true, true, true, true, true, true, false, false]) 11 rfl (by kernel_rfl) rfl ?_
       refine Run.outN (own' := [row (.slice (some ⟨g85, 0, none⟩) 1 1) 42 1 ([.slice A83_7_0 x83.length c83_7_0]), row (.slice Ao p.toNat co) 43 1 (nCells N)]) 2 rfl rfl he79 ?_
       have hlit8 : (tSl tU8).all Jb [.slice A83_7_0 x83.length c83_7_0] [x83] := (all_snoc (T := (tSl tU8)) all_nil ⟨_, _, rfl, f83_7_0⟩)
       have hall9 : (tSl tU8).all Jb (e79.cl ++ ([.slice A83_7_0 x83.length c83_7_0])) (e79.x ++ ([x83])) := all_append (hN _ (List.mem_of_getElem? he79)) hlit8
       refine Run.append (by_ := 24) (ys := [.slice A83_7_0 x83.length c83_7_0]) (k := 1) (own' := [allR (nRes 42 1 (N.eraseIdx q)), row (.slice (some ⟨g85, 0, none⟩) 1 1) 42 1 ([.slice A83_7_0 x83.length c83_7_0]), row (.slice Ao p.toNat co) 43 1 (nCells N)]) 0 rfl rfl rfl Tryz.runUnderlying43 (.inl Tryz.runUnderlying43) Tryz.sizeOf42 Tryz.typeInfo42 rfl Tryz.zeroValue42 rfl rfl rfl (fun w hS => src_own hS (i := 2) rfl) (row_len hlit8 (by first | rfl | (simp; done) | (simp; omega)) rfl) (all_one hlit8) ((e79.x ++ ([x83])).length) (by first | (simp; done) | (simp; omega)) (by first | (simp; omega) | (rw [hol]; simp; omega)) (by first | (simp [maxLen]; omega)) rfl rfl (by decide) (fun A86_9 c86_9 => ?_)
       refine Run.weak Sub.refl (perm_take (i := 0) rfl (perm_take (i := 0) rfl (perm_take (i := 1) rfl (perm_nil _)))) ?_
       refine Run.nil ?_
       refine RunQ.stepEnd (fun _ => ⟨(Imm.le.refl _), (perm_take (i := 2) rfl (perm_nil _))⟩) ?_
       obtain ⟨e87, he87⟩ : ∃ en, N[q]? = some en := ⟨_, List.getElem?_eq_getElem (by first | exact (by omega) | omega | (simp; omega))⟩
       refine RunT.y (v := .pointer (some (pt Ao (q * 1)))) (listed' := #[true, true, true, true, true, true, true, true, true, true, true, true, true, false]) 12 rfl (by kernel_rfl) (by kernel_rfl) (by kernel_rfl) (by kernel_rfl) rfl (Imm.le.refl _) (perm_take (i := 2) rfl (perm_nil _)) (y_indexR (q := (q : Int)) 0 rfl rfl rfl Tryz.runUnderlying75 Tryz.sizeOf43 rfl (by omega) (by omega)) (.plain rfl) rfl (by decide) rfl ?_
       refine RunT.step (listed' := #[true, true, true, true, true, true, true, true, true, true, true, true, true, true]) 13 rfl (by kernel_rfl) rfl ?_
       refine Run.storeR (vs := [.slice A86_9 ((e79.x ++ ([x83])).length) c86_9]) (xs' := (nCells (N.set q (⟨A86_9, c86_9, e79.cl ++ ([.slice A83_7_0 x83.length c83_7_0]), (e79.x ++ ([x83]))⟩ : NR (List UInt8))))) (own' := [row (.slice A86_9 ((e79.x ++ ([x83])).length) c86_9) 42 1 (e79.cl ++ ([.slice A83_7_0 x83.length c83_7_0])), allR (nRes 42 1 (N.eraseIdx q))]) 2 rfl rfl rfl Tryz.sizeOf43 rfl rfl (by decide) rfl rfl rfl (nCells_room (List.getElem?_eq_some_iff.1 he87).1) (nCells_set (⟨A86_9, c86_9, e79.cl ++ ([.slice A83_7_0 x83.length c83_7_0]), (e79.x ++ ([x83]))⟩ : NR (List UInt8)) (List.getElem?_eq_some_iff.1 he87).1) rfl rfl ?_
       have hnst10 : ∀ e ∈ (N.set q (⟨A86_9, c86_9, e79.cl ++ ([.slice A83_7_0 x83.length c83_7_0]), (e79.x ++ ([x83]))⟩ : NR (List UInt8))), (tSl tU8).all Jb e.cl e.x := nest_set (en := (⟨A86_9, c86_9, e79.cl ++ ([.slice A83_7_0 x83.length c83_7_0]), (e79.x ++ ([x83]))⟩ : NR (List UInt8))) hN (Imm.le.refl _) hall9
       refine Run.inN (own' := [row (.slice Ao p.toNat co) 43 1 (nCells (N.set q (⟨A86_9, c86_9, e79.cl ++ ([.slice A83_7_0 x83.length c83_7_0]), (e79.x ++ ([x83]))⟩ : NR (List UInt8))))]) (e79.x ++ ([x83])) rfl (List.getElem?_eq_some_iff.1 he87).1 (permC (i := 1) rfl rfl (permC (i := 1) rfl rfl (List.Perm.refl _))) ?_
       refine Run.nil ?_
       refine RunQ.stepEnd (fun h => absurd (show false = true from h) Bool.false_ne_true) ?_
       refine RunT.done (by kernel_rfl) ?_
       refine RunQ.inB ?_
       refine RunQ.next ?_
       refine RunC.region ?_
       refine Run.mv ?_
       refine Run.m (v := .int .i64 ((q : Int) + 1)) (y_bin rfl rfl rfl (bn_add (by omega) (by omega))) ?_
       refine Run.as ?_
       refine Run.nil ?_
       exact RunQ.thenI (fun aa ww hF hS => ⟨_, (by omega), (hInv3 _ _ _).2 ⟨(q + 1), (N.set q (⟨A86_9, c86_9, e79.cl ++ ([.slice A83_7_0 x83.length c83_7_0]), (e79.x ++ ([x83]))⟩ : NR (List UInt8))), Jb, hJb_le, hnst10, (by simp; omega), (by omega), (by rw [List.map_set]; have hz := nest_stepG hNx (by omega) hxc; rw [← hex] at hz; exact hz), rfl, hF.sub (Sub.of rfl), hS.sub (perm_take (i := 1) rfl (perm_take (i := 0) rfl (perm_nil _)))⟩⟩)
      ·
       try simp only [z1, z2, z3, z4, z5, z6, z7, z8, z9, z10, z11, z12, z13, z14, z15, z16] at hc6
       refine RunC.exit ?_
       refine RunQ.pass (fun h => by cases h) ?_
       refine RunQ.pass (fun h => by cases h) ?_
       refine RunQ.out ?_
       refine RunQ.inB ?_
       refine RunQ.next ?_
       refine RunC.region ?_
       refine Run.mv ?_
       refine Run.m (v := .int .i64 ((n : Int) + 1)) (y_bin rfl rfl rfl (bn_add (by omega) (by omega))) ?_
       refine Run.as ?_
       refine Run.nil ?_
       exact RunQ.thenI (fun aa ww hF hS => ⟨_, (by omega), (hInv1 _ _ _).2 ⟨(n + 1), N, Jb, (((hJa_le.trans hleJ4).trans hleJ6).trans hJb_le), hN, hNl, (by omega), (by intro i hi; rw [hNx i hi, if_pos (by omega)]), (by intro a ha; rcases Nat.lt_succ_iff_lt_or_eq.1 ha with h | h; exact hno a h; subst h; exact rowBad_no hne2), rfl, hF.sub (Sub.of rfl), hS.sub (perm_self _)⟩⟩)
   ·
    try simp only [z1, z2, z3, z4, z5, z6, z7, z8, z9, z10, z11, z12, z13, z14, z15, z16] at hc2
    refine RunC.exit ?_
    refine RunQ.pass (fun h => by cases h) ?_
    refine RunQ.pass (fun h => by cases h) ?_
    refine RunQ.out ?_
    refine RunQ.next ?_
    refine RunC.sr ?_
    refine Run.mv ?_
    refine Run.as ?_
    refine Run.as ?_
    refine Run.nx ?_
    refine RunC.ret ?_
    refine RunQ.freezeN (own' := []) rfl hMl hM (permC (i := 0) rfl rfl (permC (i := 0) rfl rfl (List.Perm.refl _))) (fun J11 hleJ11 hslJ11 => ?_)
    refine RunQ.cast (s := 6) (v' := .slice Ao ((M.map NR.x).length) co) rfl (by rw [List.length_map, show M.length = p.toNat from hMl]) ?_
    refine RunQ.cast (s := 88) (v' := .slice Ao ((M.map NR.x).length) co) rfl (by rw [List.length_map, show M.length = p.toNat from hMl]) ?_
    refine RunQ.cast (s := 4) (v' := .slice Ao ((M.map NR.x).length) co) rfl (by rw [List.length_map, show M.length = p.toNat from hMl]) ?_
    refine RunQ.weak Sub.refl (perm_nil _) ?_
    refine RunQ.fin2 (.inl rfl) Tryz.results34 (rv_tmp rfl) (rv_tmp rfl) ?_
    exact ⟨rfl, _, _, rfl, (rd_eq (T := (tSl (tSl (tSl tU8)))) (x := (M.map NR.x)) ⟨_, _, rfl, hslJ11⟩ (by first | (rw [sParity_bad hpo hc2 (rowBad_yes hx57 (by omega))] <;> rfl) | (rw [sParity_yes hpo (k := n) (by omega) hno]; done) | (rw [sParity_yes hpo (k := n) (by omega) hno]; exact range_ext hMx (by simpa using hMl)))), (rd_eq (T := tInt) (x := 0) ⟨rfl, (by first | omega | (dsimp only; omega))⟩ (by first | (rw [sParity_bad hpo hc2 (rowBad_yes hx57 (by omega))] <;> rfl) | (rw [sParity_yes hpo (k := n) (by omega) hno]; done) | (rw [sParity_yes hpo (k := n) (by omega) hno]; exact range_ext hMx (by simpa using hMl))))⟩
end Go.Proofs.YtmelbclhkkbmiaaGreat.K
