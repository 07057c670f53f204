/- Contracts of functions of the program, each proved by a walk through its operations, for all memory and all arguments that the theorem names. Printed by a program of mine. -/
import Derived.Test.YtmelbclhkkbmiaaGreatF5
import Derived.Test.YtmelbclhkkbmiaaGreatK13
import Derived.Test.YtmelbclhkkbmiaaGreatSp3
set_option linter.unusedVariables false
set_option linter.unusedSimpArgs false
set_option maxRecDepth 100000
namespace Go.Proofs.YtmelbclhkkbmiaaGreat.K
open Go Go.RowKit

theorem c_stripe_Parity (I : Imm) {Al : Option Addr} {cl : Nat} (l : List ATape) (hl : Sl tTape I Al cl l) (p : Int) (hp : I64 p) (hsz : l.length ≤ 1000000) (hln : tLenL l ≤ 1000000) : Con Tryz.prog 29 [.slice Al l.length cl, .int .i64 p].toArray I [] (Ret2 ((tSl (tSl (tSl tU8))).o) (tInt.o) ((sParity l p).1) ((sParity l p).2)) := by
 have hsml := hl.small
 have hnn := tLenL_nonneg l
 refine Con.enter (n := 66) (L := [(0, .slice Al l.length cl), (1, .int .i64 p)]) Tryz.func29 rfl rfl (Nat.le_of_ble_eq_true rfl) rfl (fun E => ?_)
 refine RunC.sr ?_
 refine Run.as ?_
 refine Run.as ?_
 refine Run.nx ?_
 refine RunC.seq ?_
 refine RunC.sr ?_
 refine Run.mv ?_
 refine Run.call0 (en_func rfl Tryz.call78 rfl) (c_stripe_Row _ l hl (-1) (by omega) (by omega)) rfl rfl (by decide) (fun J1 o1 v1 hleJ1 hq1 => ?_)
 obtain ⟨rfl, cs1a, rfl, h1a⟩ := hq1
 replace h1a : (tSl (tSl tU8)).rd J1 cs1a (tRow l ((-1) : Int)) := h1a
 obtain ⟨A1a_0, c1a_0, rfl, f1a_0⟩ := h1a
 have hsm1a_0 := f1a_0.small
 refine Run.mv ?_
 refine Run.call0 (en_func rfl Tryz.call77 rfl) (c_erasure_Encode _ (tRow l ((-1) : Int)) f1a_0 p hp (h0len_tRow _ _)) rfl rfl (by decide) (fun J2 o2 v2 hleJ2 hq2 => ?_)
 obtain ⟨rfl, cs2a, cs2b, rfl, h2a, h2b⟩ := hq2
 replace h2a : (tSl (tSl tU8)).rd J2 cs2a ((eEnc (tRow l ((-1) : Int)) p).1) := h2a
 obtain ⟨A2a_0, c2a_0, rfl, f2a_0⟩ := h2a
 have hsm2a_0 := f2a_0.small
 replace h2b : tInt.rd J2 cs2b ((eEnc (tRow l ((-1) : Int)) p).2) := h2b
 obtain ⟨rfl, f2b_0⟩ := h2b
 refine Run.mv ?_
 refine Run.m (y_extract rfl rfl rfl) ?_
 refine Run.m (y_extract rfl rfl rfl) ?_
 refine Run.as ?_
 refine Run.as ?_
 refine Run.nx ?_
 refine RunC.sr ?_
 refine Run.mv ?_
 refine Run.m (v := .bool (decide ((eEnc (tRow l ((-1) : Int)) p).2 ≠ 0))) (y_bin rfl rfl rfl bn_neq) ?_
 refine Run.nx ?_
 refine RunC.cond rfl (fun hc0 => ?_) (fun hc0 => ?_)
 ·
  try simp only [z1, z2, z3, z4, z5, z6, z7, z8, z9, z10, z11, z12, z13, z14, z15, z16] at hc0
  refine RunC.sr ?_
  refine Run.mv ?_
  refine Run.as ?_
  refine Run.as ?_
  refine Run.nx ?_
  refine RunC.ret ?_
  refine RunQ.pass (fun h => by cases h) ?_
  refine RunQ.weak Sub.refl (perm_nil _) ?_
  refine RunQ.fin2 (.inl rfl) Tryz.results29 (rv_tmp rfl) (rv_tmp rfl) ?_
  exact ⟨rfl, _, _, rfl, (rd_eq (T := (tSl (tSl (tSl tU8)))) (x := ([] : List (List (List UInt8)))) ⟨_, _, rfl, sl_nil0⟩ (by first | (rw [sParity_no hc0] <;> rfl) | (rw [sParity_bad hc0 hc1 hc2] <;> rfl) | (rw [sParity_yes hc0 (k := k) (by omega) hno]; done) | (rw [sParity_yes hc0 (k := k) (by omega) hno]; exact range_ext hMx (by simpa using hMl)))), (rd_eq (T := tInt) (x := (eEnc (tRow l ((-1) : Int)) p).2) ⟨rfl, f2b_0⟩ (by first | (rw [sParity_no hc0] <;> rfl) | (rw [sParity_bad hc0 hc1 hc2] <;> rfl) | (rw [sParity_yes hc0 (k := k) (by omega) hno]; done) | (rw [sParity_yes hc0 (k := k) (by omega) hno]; exact range_ext hMx (by simpa using hMl))))⟩
 ·
  try simp only [z1, z2, z3, z4, z5, z6, z7, z8, z9, z10, z11, z12, z13, z14, z15, z16] at hc0
  have hz := eEnc_zero hc0; rw [tRow_len] at hz
  refine RunC.skip ?_
  refine RunQ.next ?_
  refine RunC.sr ?_
  refine Run.mv ?_
  refine Run.cast (s := 25) (v' := .int .i64 (p.toNat : Int)) rfl (by rw [Int.toNat_of_nonneg (by omega)]) ?_
  refine Run.make (m := p.toNat) (k := .i64) rfl rfl rfl (mk_run Tryz.runUnderlying75 Tryz.typeInfo43 (by_ := 24) rfl Tryz.sizeOf43 Tryz.zeroValue43 rfl (by omega) (by omega)) (by simp only [maxLen]; omega) rfl rfl (by decide) (fun g26 => ?_)
  refine Run.rowEq (nCells_nil (List UInt8) p.toNat).symm ?_
  refine Run.nilN (List UInt8) 42 1 p.toNat ?_
  refine Run.as ?_
  refine Run.nx ?_
  refine RunC.seq ?_
  refine RunC.sr ?_
  refine Run.mv ?_
  refine Run.callV (en_func rfl Tryz.call72 rfl) (conv_int (c_stripe_Len _ l (hl.mono (hleJ1.trans hleJ2)))) rfl rfl (by decide) (fun hI3 => ?_)
  refine Run.mv ?_
  refine Run.nx ?_
  refine RunC.block ?_
  obtain ⟨Inv0, hInv0⟩ : ∃ Inv : Nat → Act → World → Prop, ∀ mm aa ww, Inv mm aa ww ↔ (∃ (k : Nat) (M : List (NR (List UInt8))) (J : Imm), (J2.le J) ∧ (∀ e ∈ M, (tSl tU8).all J e.cl e.x) ∧ (M.length = p.toNat) ∧ ((k : Int) ≤ tLenL l) ∧ (∀ i < p.toNat, (M.map NR.x)[i]? = some ((List.range k).map fun a => parCell l p i a)) ∧ (∀ a < k, rowBad l a = false) ∧ (mm = ((tLenL l).toNat - k)) ∧ Frm aa 66 [(0, .slice Al l.length cl), (1, .int .i64 p), (8, .slice (some ⟨g26, 0, none⟩) p.toNat p.toNat), (28, .int .i64 (tLenL l)), (29, .int .i64 (k : Int))] ∧ S E ww J [row (.slice (some ⟨g26, 0, none⟩) p.toNat p.toNat) 43 1 (nCells M), allR (nRes 42 1 M)]) := ⟨_, fun _ _ _ => Iff.rfl⟩
  refine RunC.loopX Inv0 (fun aa ww hF hS => ⟨_, (hInv0 _ _ _).2 ⟨0, (List.replicate p.toNat (nNil (List UInt8))), J2, (Imm.le.refl _), (nest_nil (T := (tSl tU8))), (by simp), (tLenL_nonneg l), (by intro i hi; simp [hi, nNil]), (by intro a ha; omega), rfl, hF.sub (Sub.of rfl), hS.sub (perm_take (i := 1) rfl (perm_take (i := 0) rfl (perm_nil _)))⟩⟩) ?_
  intro mm0 aa ww hv
  obtain ⟨k, M, J, hJ_le, hM, hMl, hk, hMx, hno, hmm_, hF, hS⟩ := (hInv0 _ _ _).1 hv
  clear hv
  refine RunC.go ?_ hF hS
  clear hF hS aa ww
  refine RunC.sr ?_
  refine Run.m (v := .bool (decide ((k : Int) < (tLenL l)))) (y_bin rfl rfl rfl bn_lss) ?_
  refine Run.nx ?_
  refine RunC.seq ?_
  refine RunC.cond rfl (fun hc1 => ?_) (fun hc1 => ?_)
  ·
   try simp only [z1, z2, z3, z4, z5, z6, z7, z8, z9, z10, z11, z12, z13, z14, z15, z16] at hc1
   refine RunC.skip ?_
   refine RunQ.next ?_
   refine RunC.seq ?_
   refine RunC.block ?_
   refine RunC.sr ?_
   refine Run.mv ?_
   refine Run.as ?_
   refine Run.nx ?_
   refine RunC.sr ?_
   refine Run.mv ?_
   refine Run.mv ?_
   refine Run.call0 (en_func rfl Tryz.call78 rfl) (c_stripe_Row _ l (hl.mono ((hleJ1.trans hleJ2).trans hJ_le)) (k : Int) (by omega) (by omega)) rfl rfl (by decide) (fun J4 o4 v4 hleJ4 hq4 => ?_)
   obtain ⟨rfl, cs4a, rfl, h4a⟩ := hq4
   replace h4a : (tSl (tSl tU8)).rd J4 cs4a (tRow l (k : Int)) := h4a
   obtain ⟨A4a_0, c4a_0, rfl, f4a_0⟩ := h4a
   have hsm4a_0 := f4a_0.small
   refine Run.as ?_
   refine Run.nx ?_
   refine RunC.seq ?_
   refine RunC.sr ?_
   refine Run.mv ?_
   refine Run.callV (en_func rfl Tryz.call79 rfl) (conv_bool (c_ContainsFunc_Lbyte _ (tRow l (k : Int)) f4a_0 80 [] (fun x => (decide (x.length = 0))) Tryz.call80 (fun J cs x hle hx hm => by obtain ⟨A9, c9, rfl, hx9⟩ := hx; exact c_stripe_Parity_1 J x hx9 ))) rfl rfl (by decide) (fun hI6 => ?_)
   refine Run.nx ?_
   refine RunC.cond rfl (fun hc2 => ?_) (fun hc2 => ?_)
   ·
    try simp only [z1, z2, z3, z4, z5, z6, z7, z8, z9, z10, z11, z12, z13, z14, z15, z16] at hc2
    refine RunC.sr ?_
    refine Run.as ?_
    refine Run.as ?_
    refine Run.nx ?_
    refine RunC.ret ?_
    refine RunQ.pass (fun h => by cases h) ?_
    refine RunQ.inR ?_
    refine RunQ.pass (fun h => by cases h) ?_
    refine RunQ.pass (fun h => by cases h) ?_
    refine RunQ.inR ?_
    refine RunQ.pass (fun h => by cases h) ?_
    refine RunQ.weak Sub.refl (perm_nil _) ?_
    refine RunQ.fin2 (.inl rfl) Tryz.results29 (rv_tmp rfl) (rv_tmp rfl) ?_
    exact ⟨rfl, _, _, rfl, (rd_eq (T := (tSl (tSl (tSl tU8)))) (x := ([] : List (List (List UInt8)))) ⟨_, _, rfl, sl_nil0⟩ (by first | (rw [sParity_no hc0] <;> rfl) | (rw [sParity_bad hc0 hc1 hc2] <;> rfl) | (rw [sParity_yes hc0 (k := k) (by omega) hno]; done) | (rw [sParity_yes hc0 (k := k) (by omega) hno]; exact range_ext hMx (by simpa using hMl)))), (rd_eq (T := tInt) (x := 1) ⟨rfl, (by first | omega | (dsimp only; omega))⟩ (by first | (rw [sParity_no hc0] <;> rfl) | (rw [sParity_bad hc0 hc1 hc2] <;> rfl) | (rw [sParity_yes hc0 (k := k) (by omega) hno]; done) | (rw [sParity_yes hc0 (k := k) (by omega) hno]; exact range_ext hMx (by simpa using hMl))))⟩
   ·
    try simp only [z1, z2, z3, z4, z5, z6, z7, z8, z9, z10, z11, z12, z13, z14, z15, z16] at hc2
    have hre := row_enc (l := l) (n := (k : Int)) (p := p) (by omega) hc2
    have hre2 := hre.2
    refine RunC.skip ?_
    refine RunQ.next ?_
    refine RunC.sr ?_
    refine Run.mv ?_
    refine Run.mv ?_
    refine Run.call0 (en_func rfl Tryz.call77 rfl) (c_erasure_Encode _ (tRow l (k : Int)) f4a_0 p hp (h0len_tRow _ _)) rfl rfl (by decide) (fun J7 o7 v7 hleJ7 hq7 => ?_)
    obtain ⟨rfl, cs7a, cs7b, rfl, h7a, h7b⟩ := hq7
    replace h7a : (tSl (tSl tU8)).rd J7 cs7a ((eEnc (tRow l (k : Int)) p).1) := h7a
    obtain ⟨A7a_0, c7a_0, rfl, f7a_0⟩ := h7a
    have hsm7a_0 := f7a_0.small
    replace h7b : tInt.rd J7 cs7b ((eEnc (tRow l (k : Int)) p).2) := h7b
    obtain ⟨rfl, f7b_0⟩ := h7b
    refine Run.mv ?_
    refine Run.m (y_extract rfl rfl rfl) ?_
    refine Run.m (y_extract rfl rfl rfl) ?_
    refine Run.as ?_
    refine Run.as ?_
    refine Run.nx ?_
    refine RunC.seq ?_
    refine RunC.sr ?_
    refine Run.mv ?_
    refine Run.m (v := .bool (decide ((eEnc (tRow l (k : Int)) p).2 ≠ 0))) (y_bin rfl rfl rfl bn_neq) ?_
    refine Run.nx ?_
    refine RunC.cond rfl (fun hc3 => ?_) (fun hc3 => ?_)
    ·
     try simp only [z1, z2, z3, z4, z5, z6, z7, z8, z9, z10, z11, z12, z13, z14, z15, z16] at hc3
     exfalso
     exact hc3 hre.1
    ·
     skip
     try simp only [z1, z2, z3, z4, z5, z6, z7, z8, z9, z10, z11, z12, z13, z14, z15, z16] at hc3
     refine RunC.skip ?_
     refine RunQ.next ?_
     refine RunC.sr ?_
     refine Run.mv ?_
     refine Run.m (y_len rfl Tryz.runUnderlying43 rfl) ?_
     refine Run.mv ?_
     refine Run.nx ?_
     refine RunC.block ?_
     obtain ⟨Inv1, hInv1⟩ : ∃ Inv : Nat → Act → World → Prop, ∀ mm aa ww, Inv mm aa ww ↔ (∃ (q : Nat) (N : List (NR (List UInt8))) (J3 : Imm), (J7.le J3) ∧ (∀ e ∈ N, (tSl tU8).all J3 e.cl e.x) ∧ (N.length = p.toNat) ∧ (q ≤ p.toNat) ∧ (∀ i < p.toNat, (N.map NR.x)[i]? = some (if i < q then (List.range (k + 1)).map (fun a => parCell l p i a) else (List.range k).map fun a => parCell l p i a)) ∧ (mm = (p.toNat - q)) ∧ Frm aa 66 [(0, .slice Al l.length cl), (1, .int .i64 p), (8, .slice (some ⟨g26, 0, none⟩) p.toNat p.toNat), (28, .int .i64 (tLenL l)), (29, .int .i64 (k : Int)), (30, .bool (decide ((k : Int) < (tLenL l)))), (31, .int .i64 (k : Int)), (9, .int .i64 (k : Int)), (32, .slice Al l.length cl), (33, .int .i64 (k : Int)), (34, .slice A4a_0 ((tRow l (k : Int)).length) c4a_0), (10, .slice A4a_0 ((tRow l (k : Int)).length) c4a_0), (35, .slice A4a_0 ((tRow l (k : Int)).length) c4a_0), (36, .bool ((tRow l (k : Int)).any (fun x => (decide (x.length = 0))))), (38, .slice A4a_0 ((tRow l (k : Int)).length) c4a_0), (39, .int .i64 p), (40, .tuple #[.slice A7a_0 (((eEnc (tRow l (k : Int)) p).1).length) c7a_0, .int .i64 ((eEnc (tRow l (k : Int)) p).2)]), (37, .tuple #[.slice A7a_0 (((eEnc (tRow l (k : Int)) p).1).length) c7a_0, .int .i64 ((eEnc (tRow l (k : Int)) p).2)]), (41, .slice A7a_0 (((eEnc (tRow l (k : Int)) p).1).length) c7a_0), (42, .int .i64 ((eEnc (tRow l (k : Int)) p).2)), (11, .slice A7a_0 (((eEnc (tRow l (k : Int)) p).1).length) c7a_0), (12, .int .i64 ((eEnc (tRow l (k : Int)) p).2)), (43, .int .i64 ((eEnc (tRow l (k : Int)) p).2)), (44, .bool (decide ((eEnc (tRow l (k : Int)) p).2 ≠ 0))), (46, .slice A7a_0 (((eEnc (tRow l (k : Int)) p).1).length) c7a_0), (47, .int .i64 (((eEnc (tRow l (k : Int)) p).1).length : Int)), (48, .int .i64 (q : Int))] ∧ S E ww J3 [row (.slice (some ⟨g26, 0, none⟩) p.toNat p.toNat) 43 1 (nCells N), allR (nRes 42 1 N)]) := ⟨_, fun _ _ _ => Iff.rfl⟩
     refine RunC.loopX Inv1 (fun aa ww hF hS => ⟨_, (hInv1 _ _ _).2 ⟨0, M, J7, (Imm.le.refl _), (nest_mono hM (hleJ4.trans hleJ7)), hMl, (by omega), (by intro i hi; rw [hMx i hi]; simp), rfl, hF.sub (Sub.of rfl), hS.sub (perm_self _)⟩⟩) ?_
     intro mm1 aa ww hv
     obtain ⟨q, N, J3, hJ3_le, hN, hNl, hq, hNx, hmm_, hF, hS⟩ := (hInv1 _ _ _).1 hv
     clear hv
     refine RunC.go ?_ hF hS
     clear hF hS aa ww
     refine RunC.sr ?_
     refine Run.m (v := .bool (decide ((q : Int) < (((eEnc (tRow l (k : Int)) p).1).length : Int)))) (y_bin rfl rfl rfl bn_lss) ?_
     refine Run.nx ?_
     refine RunC.seq ?_
     refine RunC.cond rfl (fun hc4 => ?_) (fun hc4 => ?_)
     ·
      try simp only [z1, z2, z3, z4, z5, z6, z7, z8, z9, z10, z11, z12, z13, z14, z15, z16] at hc4
      refine RunC.skip ?_
      refine RunQ.next ?_
      refine RunC.seq ?_
      refine RunC.block ?_
      refine RunC.sr ?_
      refine Run.mv ?_
      obtain ⟨x51, p51_8, cs51_8, hx51, hp51_8, hcs51_8, hrc51_8⟩ := Sl.at_ (P := Tryz.prog) (T := (tSl tU8)) Tryz.runUnderlying43 Tryz.sizeOf42 (f7a_0.mono hJ3_le) (k := .i64) (i := (q : Int)) (by omega) (by omega)
      replace hx51 : ((eEnc (tRow l (k : Int)) p).1)[q]? = some x51 := hx51
      obtain ⟨A51_8_0, c51_8_0, rfl, f51_8_0⟩ := hcs51_8
      have hsm51_8_0 := f51_8_0.small
      refine Run.m (v := .pointer (some p51_8)) (y_index rfl rfl rfl hp51_8) ?_
      refine Run.m (v := .slice A51_8_0 x51.length c51_8_0) (y_load1 rfl Tryz.isAgg42 rfl (RCells.hd hrc51_8)) ?_
      refine Run.as ?_
      refine Run.as ?_
      refine Run.nx ?_
      refine RunC.region ?_
      refine Run.mv ?_
      refine Run.mv ?_
      refine Run.mv ?_
      refine Run.mv ?_
      obtain ⟨e57, he57⟩ : ∃ en, N[q]? = some en := ⟨_, List.getElem?_eq_getElem (by first | exact (by omega) | omega | (simp; omega))⟩
      have hex : e57.x = (List.range k).map fun a => parCell l p q a := by have hz2 := hNx q (by omega); rw [List.getElem?_map, he57, if_neg (by omega)] at hz2; exact Option.some.inj hz2
      have hexl : e57.x.length = k := by rw [hex]; simp
      have hxc : x51 = parCell l p q k := by rw [parCell, List.getD_eq_getElem?_getD, hx51]; rfl
      refine Run.m (v := .pointer (some (pt (some ⟨g26, 0, none⟩) (q * 1)))) (y_indexR (q := (q : Int)) 0 rfl rfl rfl Tryz.runUnderlying75 Tryz.sizeOf43 rfl (by omega) (by omega)) ?_
      refine Run.m (v := .slice e57.A e57.x.length e57.c) (y_loadR1 0 rfl Tryz.isAgg43 rfl rfl (nCells_at he57)) ?_
      refine Run.outN (own' := [row (.slice (some ⟨g26, 0, none⟩) p.toNat p.toNat) 43 1 (nCells N)]) 1 rfl rfl he57 ?_
      refine Run.mv ?_
      refine Run.lit (vs := [(0, .slice A51_8_0 x51.length c51_8_0)]) (cs := [.slice A51_8_0 x51.length c51_8_0]) (el := 42) (sz := 1) rfl rfl (fun w => by simp [Instr.buildSlice, Tryz.runUnderlying43, Tryz.sizeOf42, Tryz.zeroValue42, Instr.fill, Value.cells, newRow, (show Array.range 1 = #[0] from rfl)]) rfl (by simp [maxLen]) rfl rfl (by decide) (fun g60 => ?_)
      have hlit9 : (tSl tU8).all J3 [.slice A51_8_0 x51.length c51_8_0] [x51] := (all_snoc (T := (tSl tU8)) all_nil ⟨_, _, rfl, f51_8_0⟩)
      have hall10 : (tSl tU8).all J3 (e57.cl ++ ([.slice A51_8_0 x51.length c51_8_0])) (e57.x ++ ([x51])) := all_append (hN _ (List.mem_of_getElem? he57)) hlit9
      refine Run.append (by_ := 24) (ys := [.slice A51_8_0 x51.length c51_8_0]) (k := 1) (own' := [row (.slice (some ⟨g60, 0, none⟩) 1 1) 42 1 ([.slice A51_8_0 x51.length c51_8_0]), allR (nRes 42 1 (N.eraseIdx q)), row (.slice (some ⟨g26, 0, none⟩) p.toNat p.toNat) 43 1 (nCells N)]) 1 rfl rfl rfl Tryz.runUnderlying43 (.inl Tryz.runUnderlying43) Tryz.sizeOf42 Tryz.typeInfo42 rfl Tryz.zeroValue42 rfl rfl rfl (fun w hS => src_own hS (i := 0) rfl) (row_len hlit9 (by first | rfl | (simp; done) | (simp; omega)) rfl) (all_one hlit9) ((e57.x ++ ([x51])).length) (by first | (simp; done) | (simp; omega)) (by simp; omega) (by simp [maxLen]; omega) rfl rfl (by decide) (fun A61_10 c61_10 => ?_)
      refine Run.weak Sub.refl (perm_take (i := 0) rfl (perm_take (i := 1) rfl (perm_take (i := 1) rfl (perm_nil _)))) ?_
      obtain ⟨e62, he62⟩ : ∃ en, N[q]? = some en := ⟨_, List.getElem?_eq_getElem (by first | exact (by omega) | omega | (simp; omega))⟩
      refine Run.m (v := .pointer (some (pt (some ⟨g26, 0, none⟩) (q * 1)))) (y_indexR (q := (q : Int)) 2 rfl rfl rfl Tryz.runUnderlying75 Tryz.sizeOf43 rfl (by omega) (by omega)) ?_
      refine Run.storeR (vs := [.slice A61_10 ((e57.x ++ ([x51])).length) c61_10]) (xs' := (nCells (N.set q (⟨A61_10, c61_10, e57.cl ++ ([.slice A51_8_0 x51.length c51_8_0]), (e57.x ++ ([x51]))⟩ : NR (List UInt8))))) (own' := [row (.slice A61_10 ((e57.x ++ ([x51])).length) c61_10) 42 1 (e57.cl ++ ([.slice A51_8_0 x51.length c51_8_0])), allR (nRes 42 1 (N.eraseIdx q))]) 2 rfl rfl rfl Tryz.sizeOf43 rfl rfl (by decide) rfl rfl rfl (nCells_room (List.getElem?_eq_some_iff.1 he62).1) (nCells_set (⟨A61_10, c61_10, e57.cl ++ ([.slice A51_8_0 x51.length c51_8_0]), (e57.x ++ ([x51]))⟩ : NR (List UInt8)) (List.getElem?_eq_some_iff.1 he62).1) rfl rfl ?_
      have hnst11 : ∀ e ∈ (N.set q (⟨A61_10, c61_10, e57.cl ++ ([.slice A51_8_0 x51.length c51_8_0]), (e57.x ++ ([x51]))⟩ : NR (List UInt8))), (tSl tU8).all J3 e.cl e.x := nest_set (en := (⟨A61_10, c61_10, e57.cl ++ ([.slice A51_8_0 x51.length c51_8_0]), (e57.x ++ ([x51]))⟩ : NR (List UInt8))) hN (Imm.le.refl _) hall10
      refine Run.inN (own' := [row (.slice (some ⟨g26, 0, none⟩) p.toNat p.toNat) 43 1 (nCells (N.set q (⟨A61_10, c61_10, e57.cl ++ ([.slice A51_8_0 x51.length c51_8_0]), (e57.x ++ ([x51]))⟩ : NR (List UInt8))))]) (e57.x ++ ([x51])) rfl (List.getElem?_eq_some_iff.1 he62).1 (permC (i := 1) rfl rfl (permC (i := 1) rfl rfl (List.Perm.refl _))) ?_
      refine Run.nil ?_
      refine RunQ.inB ?_
      refine RunQ.next ?_
      refine RunC.region ?_
      refine Run.m (v := .int .i64 ((q : Int) + 1)) (y_bin rfl rfl rfl (bn_add (by omega) (by omega))) ?_
      refine Run.mv ?_
      refine Run.nil ?_
      exact RunQ.thenI (fun aa ww hF hS => ⟨_, (by omega), (hInv1 _ _ _).2 ⟨(q + 1), (N.set q (⟨A61_10, c61_10, e57.cl ++ ([.slice A51_8_0 x51.length c51_8_0]), (e57.x ++ ([x51]))⟩ : NR (List UInt8))), J3, hJ3_le, hnst11, (by simp; omega), (by omega), (by rw [List.map_set]; have hz := nest_stepG hNx (by omega) hxc; rw [← hex] at hz; exact hz), rfl, hF.sub (Sub.of rfl), hS.sub (perm_take (i := 1) rfl (perm_take (i := 0) rfl (perm_nil _)))⟩⟩)
     ·
      try simp only [z1, z2, z3, z4, z5, z6, z7, z8, z9, z10, z11, z12, z13, z14, z15, z16] at hc4
      refine RunC.exit ?_
      refine RunQ.pass (fun h => by cases h) ?_
      refine RunQ.pass (fun h => by cases h) ?_
      refine RunQ.out ?_
      refine RunQ.inB ?_
      refine RunQ.next ?_
      refine RunC.region ?_
      refine Run.m (v := .int .i64 ((k : Int) + 1)) (y_bin rfl rfl rfl (bn_add (by omega) (by omega))) ?_
      refine Run.mv ?_
      refine Run.nil ?_
      exact RunQ.thenI (fun aa ww hF hS => ⟨_, (by omega), (hInv0 _ _ _).2 ⟨(k + 1), N, J3, (((hJ_le.trans hleJ4).trans hleJ7).trans hJ3_le), hN, hNl, (by omega), (by intro i hi; rw [hNx i hi, if_pos (by omega)]), (by intro a ha; rcases Nat.lt_succ_iff_lt_or_eq.1 ha with h | h; exact hno a h; subst h; exact hc2), rfl, hF.sub (Sub.of rfl), hS.sub (perm_self _)⟩⟩)
  ·
   try simp only [z1, z2, z3, z4, z5, z6, z7, z8, z9, z10, z11, z12, z13, z14, z15, z16] at hc1
   refine RunC.exit ?_
   refine RunQ.pass (fun h => by cases h) ?_
   refine RunQ.pass (fun h => by cases h) ?_
   refine RunQ.out ?_
   refine RunQ.next ?_
   refine RunC.sr ?_
   refine Run.mv ?_
   refine Run.as ?_
   refine Run.as ?_
   refine Run.nx ?_
   refine RunC.ret ?_
   refine RunQ.freezeN (own' := []) rfl hMl hM (permC (i := 0) rfl rfl (permC (i := 0) rfl rfl (List.Perm.refl _))) (fun J12 hleJ12 hslJ12 => ?_)
   refine RunQ.cast (s := 8) (v' := .slice (some ⟨g26, 0, none⟩) ((M.map NR.x).length) p.toNat) rfl (by rw [List.length_map, show M.length = p.toNat from hMl]) ?_
   refine RunQ.cast (s := 65) (v' := .slice (some ⟨g26, 0, none⟩) ((M.map NR.x).length) p.toNat) rfl (by rw [List.length_map, show M.length = p.toNat from hMl]) ?_
   refine RunQ.cast (s := 4) (v' := .slice (some ⟨g26, 0, none⟩) ((M.map NR.x).length) p.toNat) rfl (by rw [List.length_map, show M.length = p.toNat from hMl]) ?_
   refine RunQ.weak Sub.refl (perm_nil _) ?_
   refine RunQ.fin2 (.inl rfl) Tryz.results29 (rv_tmp rfl) (rv_tmp rfl) ?_
   exact ⟨rfl, _, _, rfl, (rd_eq (T := (tSl (tSl (tSl tU8)))) (x := (M.map NR.x)) ⟨_, _, rfl, hslJ12⟩ (by first | (rw [sParity_no hc0] <;> rfl) | (rw [sParity_bad hc0 hc1 hc2] <;> rfl) | (rw [sParity_yes hc0 (k := k) (by omega) hno]; done) | (rw [sParity_yes hc0 (k := k) (by omega) hno]; exact range_ext hMx (by simpa using hMl)))), (rd_eq (T := tInt) (x := 0) ⟨rfl, (by first | omega | (dsimp only; omega))⟩ (by first | (rw [sParity_no hc0] <;> rfl) | (rw [sParity_bad hc0 hc1 hc2] <;> rfl) | (rw [sParity_yes hc0 (k := k) (by omega) hno]; done) | (rw [sParity_yes hc0 (k := k) (by omega) hno]; exact range_ext hMx (by simpa using hMl))))⟩

theorem c_group_labels (I : Imm) {Al : Option Addr} {cl : Nat} (l : List ATape) (hl : Sl tTape I Al cl l) (hsz : l.length ≤ 1000000) : Con Tryz.prog 26 [.slice Al l.length cl].toArray I [] (Ret1 ((tSl tInt).o) (gLabels l)) := by
 have hsml := hl.small
 refine Con.enter (n := 19) (L := [(0, .slice Al l.length cl)]) Tryz.func26 rfl rfl (Nat.le_of_ble_eq_true rfl) rfl (fun E => ?_)
 refine RunC.sr ?_
 refine Run.as ?_
 refine Run.nx ?_
 refine RunC.sr ?_
 refine Run.as ?_
 refine Run.nx ?_
 refine RunC.seq ?_
 refine RunC.sr ?_
 refine Run.mv ?_
 refine Run.m (y_len rfl Tryz.runUnderlying22 rfl) ?_
 refine Run.mv ?_
 refine Run.nx ?_
 refine RunC.block ?_
 refine RunC.nilrow none 3 1 ?_
 obtain ⟨Inv0, hInv0⟩ : ∃ Inv : Nat → Act → World → Prop, ∀ mm aa ww, Inv mm aa ww ↔ (∃ (k : Nat) (o : List Int) (Ao : Option Addr) (co : Nat) (clo : List Value) (J : Imm), (I.le J) ∧ (tInt.all J clo o) ∧ (k ≤ l.length) ∧ (o = gLabels (l.take k)) ∧ (o.length = k) ∧ (mm = (l.length - k)) ∧ Frm aa 19 [(2, .slice none 0 0), (6, .slice Al l.length cl), (7, .int .i64 (l.length : Int)), (8, .int .i64 (k : Int)), (3, .slice Ao o.length co)] ∧ S E ww J [row (.slice Ao o.length co) 3 1 clo]) := ⟨_, fun _ _ _ => Iff.rfl⟩
 refine RunC.loopX Inv0 (fun aa ww hF hS => ⟨_, (hInv0 _ _ _).2 ⟨0, [], none, 0, [], I, (Imm.le.refl _), all_nil, (by omega), rfl, rfl, rfl, hF.sub (Sub.of rfl), hS.sub (perm_self _)⟩⟩) ?_
 intro mm0 aa ww hv
 obtain ⟨k, o, Ao, co, clo, J, hJ_le, ho, hk, ho_, hol, hmm_, hF, hS⟩ := (hInv0 _ _ _).1 hv
 clear hv
 refine RunC.go ?_ hF hS
 clear hF hS aa ww
 refine RunC.sr ?_
 refine Run.m (v := .bool (decide ((k : Int) < (l.length : Int)))) (y_bin rfl rfl rfl bn_lss) ?_
 refine Run.nx ?_
 refine RunC.seq ?_
 refine RunC.cond rfl (fun hc0 => ?_) (fun hc0 => ?_)
 ·
  try simp only [z1, z2, z3, z4, z5, z6, z7, z8, z9, z10, z11, z12, z13, z14, z15, z16] at hc0
  refine RunC.skip ?_
  refine RunQ.next ?_
  refine RunC.seq ?_
  refine RunC.block ?_
  refine RunC.sr ?_
  obtain ⟨x10, p10_1, cs10_1, hx10, hp10_1, hcs10_1, hrc10_1⟩ := Sl.at_ (P := Tryz.prog) (T := tTape) Tryz.runUnderlying22 Tryz.sizeOf45 (hl.mono hJ_le) (k := .i64) (i := (k : Int)) (by omega) (by omega)
  replace hx10 : l[k]? = some x10 := hx10
  obtain ⟨A10_1_2, c10_1_2, rfl, f10_1_0, f10_1_1, f10_1_2⟩ := hcs10_1
  have hsm10_1_2 := f10_1_2.small
  refine Run.m (v := .pointer (some p10_1)) (y_index rfl rfl rfl hp10_1) ?_
  refine Run.m (v := .agg [.int .i64 x10.label, .int .i64 x10.cap, .slice A10_1_2 x10.blocks.length c10_1_2, .bool x10.lost].toArray) (y_loadA (cs := [.int .i64 x10.label, .int .i64 x10.cap, .slice A10_1_2 x10.blocks.length c10_1_2, .bool x10.lost]) rfl Tryz.isAgg45 Tryz.sizeOf45 rfl hrc10_1 rfl) ?_
  refine Run.alloc (cs := [.int .i64 0, .int .i64 0, .slice none 0 0, .bool false]) rfl Tryz.zeroValue45 rfl rfl rfl (by decide) (fun g5_2 => ?_)
  refine Run.storeB (vs := [.int .i64 x10.label, .int .i64 x10.cap, .slice A10_1_2 x10.blocks.length c10_1_2, .bool x10.lost]) (cs' := [.int .i64 x10.label, .int .i64 x10.cap, .slice A10_1_2 x10.blocks.length c10_1_2, .bool x10.lost]) (own' := [row (.slice Ao o.length co) 3 1 clo]) 0 rfl rfl rfl Tryz.sizeOf45 rfl rfl rfl rfl rfl (Nat.le_of_ble_eq_true rfl) rfl rfl rfl ?_
  refine Run.nx ?_
  refine RunC.region ?_
  refine Run.mv ?_
  refine Run.m (v := .pointer (some ⟨g5_2, 0, none⟩)) (y_fieldAddr rfl rfl Tryz.runUnderlying45 rfl Tryz.sizeOf3 (by decide) rfl) ?_
  refine Run.m (v := .int .i64 x10.label) (y_loadB1 0 rfl Tryz.isAgg3 rfl rfl rfl) ?_
  refine Run.lit (vs := [(0, .int .i64 x10.label)]) (cs := [.int .i64 x10.label]) (el := 3) (sz := 1) rfl rfl (fun w => by simp [Instr.buildSlice, Tryz.runUnderlying36, Tryz.sizeOf3, Tryz.zeroValue3, Instr.fill, Value.cells, newRow, (show Array.range 1 = #[0] from rfl)]) rfl (by simp [maxLen]) rfl rfl (by decide) (fun g15 => ?_)
  have hlit3 : tInt.all J [.int .i64 x10.label] [x10.label] := (all_snoc (T := tInt) all_nil ⟨rfl, f10_1_0⟩)
  have hall4 : tInt.all J (clo ++ ([.int .i64 x10.label])) (o ++ ([x10.label])) := all_append ho hlit3
  refine Run.append (by_ := 8) (ys := [.int .i64 x10.label]) (k := 1) (own' := [row (.slice (some ⟨g15, 0, none⟩) 1 1) 3 1 ([.int .i64 x10.label]), blk g5_2 [.int .i64 x10.label, .int .i64 x10.cap, .slice A10_1_2 x10.blocks.length c10_1_2, .bool x10.lost] 45]) 2 rfl rfl rfl Tryz.runUnderlying36 (.inl Tryz.runUnderlying36) Tryz.sizeOf3 Tryz.typeInfo3 rfl Tryz.zeroValue3 rfl rfl rfl (fun w hS => src_own hS (i := 0) rfl) (row_len hlit3 (by first | rfl | (simp; done) | (simp; omega)) rfl) (all_one hlit3) ((o ++ ([x10.label])).length) (by first | (simp; done) | (simp; omega)) (by simp; omega) (by simp [maxLen]; omega) rfl rfl (by decide) (fun A16_4 c16_4 => ?_)
  refine Run.weak Sub.refl (perm_take (i := 0) rfl (perm_take (i := 1) rfl (perm_nil _))) ?_
  refine Run.as ?_
  refine Run.nil ?_
  refine RunQ.inB ?_
  refine RunQ.next ?_
  refine RunC.region ?_
  refine Run.m (v := .int .i64 ((k : Int) + 1)) (y_bin rfl rfl rfl (bn_add (by omega) (by omega))) ?_
  refine Run.mv ?_
  refine Run.nil ?_
  exact RunQ.thenI (fun aa ww hF hS => ⟨_, (by omega), (hInv0 _ _ _).2 ⟨(k + 1), (o ++ ([x10.label])), A16_4, c16_4, clo ++ ([.int .i64 x10.label]), J, hJ_le, hall4, (by omega), (by rw [ho_, take_snoc' hx10, gLabels, gLabels, List.map_append]; rfl), (by simp; omega), rfl, hF.sub (Sub.of rfl), hS.sub (perm_take (i := 0) rfl (perm_nil _))⟩⟩)
 ·
  try simp only [z1, z2, z3, z4, z5, z6, z7, z8, z9, z10, z11, z12, z13, z14, z15, z16] at hc0
  refine RunC.exit ?_
  refine RunQ.pass (fun h => by cases h) ?_
  refine RunQ.pass (fun h => by cases h) ?_
  refine RunQ.out ?_
  refine RunQ.next ?_
  refine RunC.sr ?_
  refine Run.mv ?_
  refine Run.as ?_
  refine Run.nx ?_
  refine RunC.ret ?_
  refine RunQ.freezeR 0 rfl (own' := []) rfl (fun J5 hleJ5 hfzJ5 => ?_)
  have hslJ5 : Sl tInt J5 Ao co o := Sl.of_rowN hfzJ5 rfl rfl (ho.mono hleJ5)
  refine RunQ.weak Sub.refl (perm_nil _) ?_
  refine RunQ.fin1 (.inl rfl) Tryz.results26 (rv_tmp rfl) ?_
  exact ⟨rfl, _, rfl, (rd_eq (T := (tSl tInt)) (x := o) ⟨_, _, rfl, hslJ5⟩ (by rw [ho_, List.take_of_length_le (by omega)]))⟩

theorem c_group_each (I : Imm) {Al : Option Addr} {cl : Nat} (l : List ATape) (hl : Sl tTape I Al cl l) (fidis : FuncId) (capis : List Value) (is : ATape → Bool) (hcallis : ∀ args w, (callFunc fidis args).run Tryz.prog w = .ok (.enter fidis args) w) (his : ∀ J cs x, I.le J → tTape.rd J cs x → x ∈ l → Con Tryz.prog fidis ([tTape.g.v cs] ++ capis).toArray J [] (Ret1 tBool.o (is x))) : Con Tryz.prog 73 [.slice Al l.length cl, .func (.func fidis) #[] capis.toArray].toArray I [] (Ret1 (tBool.o) (l.all is)) := by
 have hsml := hl.small
 refine Con.enter (n := 18) (L := [(0, .slice Al l.length cl), (1, .func (.func fidis) #[] capis.toArray)]) Tryz.func73 rfl rfl (Nat.le_of_ble_eq_true rfl) rfl (fun E => ?_)
 refine RunC.sr ?_
 refine Run.as ?_
 refine Run.nx ?_
 refine RunC.seq ?_
 refine RunC.sr ?_
 refine Run.mv ?_
 refine Run.m (y_len rfl Tryz.runUnderlying22 rfl) ?_
 refine Run.mv ?_
 refine Run.nx ?_
 refine RunC.block ?_
 obtain ⟨Inv0, hInv0⟩ : ∃ Inv : Nat → Act → World → Prop, ∀ mm aa ww, Inv mm aa ww ↔ (∃ (k : Nat) (J : Imm), (I.le J) ∧ (k ≤ l.length) ∧ (∀ y ∈ l.take k, is y = true) ∧ (mm = (l.length - k)) ∧ Frm aa 18 [(1, .func (.func fidis) #[] capis.toArray), (7, .slice Al l.length cl), (8, .int .i64 (l.length : Int)), (9, .int .i64 (k : Int))] ∧ S E ww J []) := ⟨_, fun _ _ _ => Iff.rfl⟩
 refine RunC.loopX Inv0 (fun aa ww hF hS => ⟨_, (hInv0 _ _ _).2 ⟨0, I, (Imm.le.refl _), (by simp), (by simp), rfl, hF.sub (Sub.of rfl), hS.sub (perm_self _)⟩⟩) ?_
 intro mm0 aa ww hv
 obtain ⟨k, J, hJ_le, hk, hn, hmm_, hF, hS⟩ := (hInv0 _ _ _).1 hv
 clear hv
 refine RunC.go ?_ hF hS
 clear hF hS aa ww
 refine RunC.sr ?_
 refine Run.m (v := .bool (decide ((k : Int) < (l.length : Int)))) (y_bin rfl rfl rfl bn_lss) ?_
 refine Run.nx ?_
 refine RunC.seq ?_
 refine RunC.cond rfl (fun hc0 => ?_) (fun hc0 => ?_)
 ·
  try simp only [z1, z2, z3, z4, z5, z6, z7, z8, z9, z10, z11, z12, z13, z14, z15, z16] at hc0
  refine RunC.skip ?_
  refine RunQ.next ?_
  refine RunC.seq ?_
  refine RunC.block ?_
  refine RunC.sr ?_
  obtain ⟨x11, p11_1, cs11_1, hx11, hp11_1, hcs11_1, hrc11_1⟩ := Sl.at_ (P := Tryz.prog) (T := tTape) Tryz.runUnderlying22 Tryz.sizeOf45 (hl.mono hJ_le) (k := .i64) (i := (k : Int)) (by omega) (by omega)
  replace hx11 : l[k]? = some x11 := hx11
  obtain ⟨A11_1_2, c11_1_2, rfl, f11_1_0, f11_1_1, f11_1_2⟩ := hcs11_1
  have hsm11_1_2 := f11_1_2.small
  refine Run.m (v := .pointer (some p11_1)) (y_index rfl rfl rfl hp11_1) ?_
  refine Run.m (v := .agg [.int .i64 x11.label, .int .i64 x11.cap, .slice A11_1_2 x11.blocks.length c11_1_2, .bool x11.lost].toArray) (y_loadA (cs := [.int .i64 x11.label, .int .i64 x11.cap, .slice A11_1_2 x11.blocks.length c11_1_2, .bool x11.lost]) rfl Tryz.isAgg45 Tryz.sizeOf45 rfl hrc11_1 rfl) ?_
  refine Run.alloc (cs := [.int .i64 0, .int .i64 0, .slice none 0 0, .bool false]) rfl Tryz.zeroValue45 rfl rfl rfl (by decide) (fun g6_2 => ?_)
  refine Run.storeB (vs := [.int .i64 x11.label, .int .i64 x11.cap, .slice A11_1_2 x11.blocks.length c11_1_2, .bool x11.lost]) (cs' := [.int .i64 x11.label, .int .i64 x11.cap, .slice A11_1_2 x11.blocks.length c11_1_2, .bool x11.lost]) (own' := []) 0 rfl rfl rfl Tryz.sizeOf45 rfl rfl rfl rfl rfl (Nat.le_of_ble_eq_true rfl) rfl rfl rfl ?_
  refine Run.nx ?_
  refine RunC.sr ?_
  refine Run.mv ?_
  refine Run.m (v := .agg [.int .i64 x11.label, .int .i64 x11.cap, .slice A11_1_2 x11.blocks.length c11_1_2, .bool x11.lost].toArray) (y_loadBA 0 rfl Tryz.isAgg45 Tryz.sizeOf45 rfl rfl rfl rfl) ?_
  have hcl3 : Con Tryz.prog fidis ([(.agg [.int .i64 x11.label, .int .i64 x11.cap, .slice A11_1_2 x11.blocks.length c11_1_2, .bool x11.lost].toArray : Value)] ++ capis).toArray J [] (Ret1 tBool.o (is x11)) := (his J [.int .i64 x11.label, .int .i64 x11.cap, .slice A11_1_2 x11.blocks.length c11_1_2, .bool x11.lost] x11 hJ_le ⟨_, _, rfl, f11_1_0, f11_1_1, f11_1_2⟩ (List.mem_of_getElem? (by assumption)))
  refine Run.callV (en_clos rfl rfl hcallis rfl rfl) (conv_bool hcl3) rfl rfl (by decide) (fun hI4 => ?_)
  refine Run.m (v := .bool (!(is x11))) (y_not (b := (is x11)) rfl rfl) ?_
  refine Run.nx ?_
  refine RunC.cond rfl (fun hc1 => ?_) (fun hc1 => ?_)
  ·
   try simp only [z1, z2, z3, z4, z5, z6, z7, z8, z9, z10, z11, z12, z13, z14, z15, z16] at hc1
   refine RunC.sr ?_
   refine Run.as ?_
   refine Run.nx ?_
   refine RunC.ret ?_
   refine RunQ.inR ?_
   refine RunQ.pass (fun h => by cases h) ?_
   refine RunQ.pass (fun h => by cases h) ?_
   refine RunQ.inR ?_
   refine RunQ.pass (fun h => by cases h) ?_
   refine RunQ.weak Sub.refl (perm_nil _) ?_
   refine RunQ.fin1 (.inl rfl) Tryz.results73 (rv_tmp rfl) ?_
   exact ⟨rfl, _, rfl, (rd_eq (T := tBool) (x := false) rfl (by first | exact (List.all_eq_false.2 ⟨x11, List.mem_of_getElem? hx11, by simp [hc1]⟩).symm | exact (List.all_eq_true.2 (by rw [List.take_of_length_le (by omega)] at hn; exact hn)).symm))⟩
  ·
   try simp only [z1, z2, z3, z4, z5, z6, z7, z8, z9, z10, z11, z12, z13, z14, z15, z16] at hc1
   refine RunC.skip ?_
   refine RunQ.inB ?_
   refine RunQ.next ?_
   refine RunC.region ?_
   refine Run.m (v := .int .i64 ((k : Int) + 1)) (y_bin rfl rfl rfl (bn_add (by omega) (by omega))) ?_
   refine Run.mv ?_
   refine Run.nil ?_
   exact RunQ.thenI (fun aa ww hF hS => ⟨_, (by omega), (hInv0 _ _ _).2 ⟨(k + 1), J, hJ_le, (by omega), (by rw [take_snoc' hx11]; intro y hy; rcases List.mem_append.1 hy with hy | hy; exact hn y hy; simp at hy; subst hy; simpa using hc1), rfl, hF.sub (Sub.of rfl), hS.sub (perm_nil _)⟩⟩)
 ·
  try simp only [z1, z2, z3, z4, z5, z6, z7, z8, z9, z10, z11, z12, z13, z14, z15, z16] at hc0
  refine RunC.exit ?_
  refine RunQ.pass (fun h => by cases h) ?_
  refine RunQ.pass (fun h => by cases h) ?_
  refine RunQ.out ?_
  refine RunQ.next ?_
  refine RunC.sr ?_
  refine Run.as ?_
  refine Run.nx ?_
  refine RunC.ret ?_
  refine RunQ.weak Sub.refl (perm_nil _) ?_
  refine RunQ.fin1 (.inl rfl) Tryz.results73 (rv_tmp rfl) ?_
  exact ⟨rfl, _, rfl, (rd_eq (T := tBool) (x := true) rfl (by first | exact (List.all_eq_false.2 ⟨x11, List.mem_of_getElem? hx11, by simp [hc1]⟩).symm | exact (List.all_eq_true.2 (by rw [List.take_of_length_le (by omega)] at hn; exact hn)).symm))⟩

theorem c_group_allGood (I : Imm) {cst : List Value} (t : ATape) (ht : tTape.rd I cst t) (hsz : ∀ b ∈ t.blocks, b.length ≤ 1000000) : Con Tryz.prog 74 [.agg cst.toArray].toArray I [] (Ret1 (tBool.o) (goodAll t)) := by
 obtain ⟨At_2, ct_2, rfl, ft_0, ft_1, ft_2⟩ := ht
 have hsmt_2 := ft_2.small
 refine Con.enter (n := 21) (L := [(0, .agg [.int .i64 t.label, .int .i64 t.cap, .slice At_2 t.blocks.length ct_2, .bool t.lost].toArray)]) Tryz.func74 rfl rfl (Nat.le_of_ble_eq_true rfl) rfl (fun E => ?_)
 refine RunC.sr ?_
 refine Run.box (cs := [.int .i64 t.label, .int .i64 t.cap, .slice At_2 t.blocks.length ct_2, .bool t.lost]) rfl rfl rfl rfl rfl (by decide) (fun g1 => ?_)
 refine Run.as ?_
 refine Run.nx ?_
 refine RunC.seq ?_
 refine RunC.sr ?_
 refine Run.m (v := .pointer (some ⟨g1, 2, none⟩)) (y_fieldAddr rfl rfl Tryz.runUnderlying45 rfl Tryz.sizeOf43 (by decide) rfl) ?_
 refine Run.m (v := .slice At_2 t.blocks.length ct_2) (y_loadB1 0 rfl Tryz.isAgg43 rfl rfl rfl) ?_
 refine Run.m (y_len rfl Tryz.runUnderlying43 rfl) ?_
 refine Run.mv ?_
 refine Run.nx ?_
 refine RunC.block ?_
 obtain ⟨Inv0, hInv0⟩ : ∃ Inv : Nat → Act → World → Prop, ∀ mm aa ww, Inv mm aa ww ↔ (∃ (k : Nat) (J : Imm), (I.le J) ∧ (k ≤ t.blocks.length) ∧ (∀ a < k, (vGood t (a : Int)).2 = true) ∧ (mm = (t.blocks.length - k)) ∧ Frm aa 21 [(1, .pointer (some ⟨g1, 0, none⟩)), (8, .int .i64 (t.blocks.length : Int)), (9, .int .i64 (k : Int))] ∧ S E ww J [blk g1 [.int .i64 t.label, .int .i64 t.cap, .slice At_2 t.blocks.length ct_2, .bool t.lost] 45]) := ⟨_, fun _ _ _ => Iff.rfl⟩
 refine RunC.loopX Inv0 (fun aa ww hF hS => ⟨_, (hInv0 _ _ _).2 ⟨0, I, (Imm.le.refl _), (by simp), (by intro a ha; omega), rfl, hF.sub (Sub.of rfl), hS.sub (perm_self _)⟩⟩) ?_
 intro mm0 aa ww hv
 obtain ⟨k, J, hJ_le, hk, hn, hmm_, hF, hS⟩ := (hInv0 _ _ _).1 hv
 clear hv
 refine RunC.go ?_ hF hS
 clear hF hS aa ww
 refine RunC.sr ?_
 refine Run.m (v := .bool (decide ((k : Int) < (t.blocks.length : Int)))) (y_bin rfl rfl rfl bn_lss) ?_
 refine Run.nx ?_
 refine RunC.seq ?_
 refine RunC.cond rfl (fun hc0 => ?_) (fun hc0 => ?_)
 ·
  try simp only [z1, z2, z3, z4, z5, z6, z7, z8, z9, z10, z11, z12, z13, z14, z15, z16] at hc0
  refine RunC.skip ?_
  refine RunQ.next ?_
  refine RunC.seq ?_
  refine RunC.block ?_
  refine RunC.sr ?_
  refine Run.mv ?_
  refine Run.as ?_
  refine Run.nx ?_
  refine RunC.sr ?_
  refine Run.m (v := .agg [.int .i64 t.label, .int .i64 t.cap, .slice At_2 t.blocks.length ct_2, .bool t.lost].toArray) (y_loadBA 0 rfl Tryz.isAgg45 Tryz.sizeOf45 rfl rfl rfl rfl) ?_
  refine Run.mv ?_
  refine Run.call0 (en_func rfl Tryz.call86 rfl) (c_volume_Good _ t ⟨_, _, rfl, ft_0, ft_1, (ft_2.mono hJ_le)⟩ (k : Int) (by omega) hsz) rfl rfl (by decide) (fun J1 o1 v1 hleJ1 hq1 => ?_)
  obtain ⟨rfl, cs1a, cs1b, rfl, h1a, h1b⟩ := hq1
  replace h1a : tUnit.rd J1 cs1a ((vGood t (k : Int)).1) := h1a
  obtain ⟨A1a_3, c1a_3, rfl, f1a_0, f1a_1, f1a_2, f1a_3⟩ := h1a
  have hsm1a_3 := f1a_3.small
  replace h1b : tBool.rd J1 cs1b ((vGood t (k : Int)).2) := h1b
  obtain rfl := h1b
  refine Run.mv ?_
  refine Run.m (y_extract rfl rfl rfl) ?_
  refine Run.m (y_extract rfl rfl rfl) ?_
  refine Run.alloc (cs := [.int .i64 0, .int .i64 0, .int .i64 0, .slice none 0 0]) rfl Tryz.zeroValue63 rfl rfl rfl (by decide) (fun g4_2 => ?_)
  refine Run.storeB (vs := [.int .i64 (((vGood t (k : Int)).1).kind), .int .i64 (((vGood t (k : Int)).1).label), .int .i64 (((vGood t (k : Int)).1).number), .slice A1a_3 ((((vGood t (k : Int)).1).load).length) c1a_3]) (cs' := [.int .i64 (((vGood t (k : Int)).1).kind), .int .i64 (((vGood t (k : Int)).1).label), .int .i64 (((vGood t (k : Int)).1).number), .slice A1a_3 ((((vGood t (k : Int)).1).load).length) c1a_3]) (own' := [blk g1 [.int .i64 t.label, .int .i64 t.cap, .slice At_2 t.blocks.length ct_2, .bool t.lost] 45]) 0 rfl rfl rfl Tryz.sizeOf63 rfl rfl rfl rfl rfl (Nat.le_of_ble_eq_true rfl) rfl rfl rfl ?_
  refine Run.as ?_
  refine Run.nx ?_
  refine RunC.sr ?_
  refine Run.mv ?_
  refine Run.m (v := .bool (!((vGood t (k : Int)).2))) (y_not (b := ((vGood t (k : Int)).2)) rfl rfl) ?_
  refine Run.nx ?_
  refine RunC.cond rfl (fun hc1 => ?_) (fun hc1 => ?_)
  ·
   try simp only [z1, z2, z3, z4, z5, z6, z7, z8, z9, z10, z11, z12, z13, z14, z15, z16] at hc1
   refine RunC.sr ?_
   refine Run.as ?_
   refine Run.nx ?_
   refine RunC.ret ?_
   refine RunQ.inR ?_
   refine RunQ.pass (fun h => by cases h) ?_
   refine RunQ.pass (fun h => by cases h) ?_
   refine RunQ.inR ?_
   refine RunQ.pass (fun h => by cases h) ?_
   refine RunQ.weak Sub.refl (perm_nil _) ?_
   refine RunQ.fin1 (.inl rfl) Tryz.results74 (rv_tmp rfl) ?_
   exact ⟨rfl, _, rfl, (rd_eq (T := tBool) (x := false) rfl (by first | exact (goodAll_no (k := k) (by omega) (by simpa using hc1)).symm | exact (goodAll_yes (k := k) (by omega) hn).symm))⟩
  ·
   try simp only [z1, z2, z3, z4, z5, z6, z7, z8, z9, z10, z11, z12, z13, z14, z15, z16] at hc1
   refine RunC.skip ?_
   refine RunQ.inB ?_
   refine RunQ.next ?_
   refine RunC.region ?_
   refine Run.m (v := .int .i64 ((k : Int) + 1)) (y_bin rfl rfl rfl (bn_add (by omega) (by omega))) ?_
   refine Run.mv ?_
   refine Run.nil ?_
   exact RunQ.thenI (fun aa ww hF hS => ⟨_, (by omega), (hInv0 _ _ _).2 ⟨(k + 1), J1, (hJ_le.trans hleJ1), (by omega), (by intro a ha; rcases Nat.lt_succ_iff_lt_or_eq.1 ha with h | h; exact hn a h; subst h; simpa using hc1), rfl, hF.sub (Sub.of rfl), hS.sub (perm_take (i := 1) rfl (perm_nil _))⟩⟩)
 ·
  try simp only [z1, z2, z3, z4, z5, z6, z7, z8, z9, z10, z11, z12, z13, z14, z15, z16] at hc0
  refine RunC.exit ?_
  refine RunQ.pass (fun h => by cases h) ?_
  refine RunQ.pass (fun h => by cases h) ?_
  refine RunQ.out ?_
  refine RunQ.next ?_
  refine RunC.sr ?_
  refine Run.as ?_
  refine Run.nx ?_
  refine RunC.ret ?_
  refine RunQ.weak Sub.refl (perm_nil _) ?_
  refine RunQ.fin1 (.inl rfl) Tryz.results74 (rv_tmp rfl) ?_
  exact ⟨rfl, _, rfl, (rd_eq (T := tBool) (x := true) rfl (by first | exact (goodAll_no (k := k) (by omega) (by simpa using hc1)).symm | exact (goodAll_yes (k := k) (by omega) hn).symm))⟩

theorem c_group_check_1 (I : Imm) {cst : List Value} (t : ATape) (ht : tTape.rd I cst t) : Con Tryz.prog 69 [.agg cst.toArray].toArray I [] (Ret1 (tBool.o) (t.lost)) := by
 obtain ⟨At_2, ct_2, rfl, ft_0, ft_1, ft_2⟩ := ht
 have hsmt_2 := ft_2.small
 refine Con.enter (n := 5) (L := [(0, .agg [.int .i64 t.label, .int .i64 t.cap, .slice At_2 t.blocks.length ct_2, .bool t.lost].toArray)]) Tryz.func69 rfl rfl (Nat.le_of_ble_eq_true rfl) rfl (fun E => ?_)
 refine RunC.sr ?_
 refine Run.box (cs := [.int .i64 t.label, .int .i64 t.cap, .slice At_2 t.blocks.length ct_2, .bool t.lost]) rfl rfl rfl rfl rfl (by decide) (fun g1 => ?_)
 refine Run.as ?_
 refine Run.nx ?_
 refine RunC.sr ?_
 refine Run.m (v := .pointer (some ⟨g1, 3, none⟩)) (y_fieldAddr rfl rfl Tryz.runUnderlying45 rfl Tryz.sizeOf4 (by decide) rfl) ?_
 refine Run.m (v := .bool t.lost) (y_loadB1 0 rfl Tryz.isAgg4 rfl rfl rfl) ?_
 refine Run.as ?_
 refine Run.nx ?_
 refine RunC.ret ?_
 refine RunQ.weak Sub.refl (perm_nil _) ?_
 refine RunQ.fin1 (.inl rfl) Tryz.results69 (rv_tmp rfl) ?_
 exact ⟨rfl, _, rfl, (rd_eq (T := tBool) (x := t.lost) rfl (by rfl))⟩

theorem c_group_check_2 (I : Imm) {cst : List Value} (t : ATape) (ht : tTape.rd I cst t) : Con Tryz.prog 75 [.agg cst.toArray].toArray I [] (Ret1 (tBool.o) (decide (t.blocks.length > 0))) := by
 obtain ⟨At_2, ct_2, rfl, ft_0, ft_1, ft_2⟩ := ht
 have hsmt_2 := ft_2.small
 refine Con.enter (n := 7) (L := [(0, .agg [.int .i64 t.label, .int .i64 t.cap, .slice At_2 t.blocks.length ct_2, .bool t.lost].toArray)]) Tryz.func75 rfl rfl (Nat.le_of_ble_eq_true rfl) rfl (fun E => ?_)
 refine RunC.sr ?_
 refine Run.box (cs := [.int .i64 t.label, .int .i64 t.cap, .slice At_2 t.blocks.length ct_2, .bool t.lost]) rfl rfl rfl rfl rfl (by decide) (fun g1 => ?_)
 refine Run.as ?_
 refine Run.nx ?_
 refine RunC.sr ?_
 refine Run.m (v := .pointer (some ⟨g1, 2, none⟩)) (y_fieldAddr rfl rfl Tryz.runUnderlying45 rfl Tryz.sizeOf43 (by decide) rfl) ?_
 refine Run.m (v := .slice At_2 t.blocks.length ct_2) (y_loadB1 0 rfl Tryz.isAgg43 rfl rfl rfl) ?_
 refine Run.m (y_len rfl Tryz.runUnderlying43 rfl) ?_
 refine Run.m (v := .bool (decide ((t.blocks.length : Int) > 0))) (y_bin rfl rfl rfl bn_gtr) ?_
 refine Run.as ?_
 refine Run.nx ?_
 refine RunC.ret ?_
 refine RunQ.weak Sub.refl (perm_nil _) ?_
 refine RunQ.fin1 (.inl rfl) Tryz.results75 (rv_tmp rfl) ?_
 exact ⟨rfl, _, rfl, (rd_eq (T := tBool) (x := decide ((t.blocks.length : Int) > 0)) rfl (by first | rfl | (simp; done) | (congr 1; simp)))⟩

theorem c_group_check_3 (I : Imm) {cst : List Value} (t : ATape) (ht : tTape.rd I cst t) (gdata : Nat) {csdata : List Value} (data : (List ATape)) (hdata : (tSl tTape).rd I csdata data) (hgdata : RCells I ⟨gdata, 0, none⟩ csdata) (hln : tLenL data ≤ 1000000) : Con Tryz.prog 76 [.agg cst.toArray, .pointer (some (⟨gdata, 0, none⟩ : Addr))].toArray I [] (Ret1 (tBool.o) (decide (tLenL data + 2 > t.cap))) := by
 obtain ⟨Adata_0, cdata_0, rfl, fdata_0⟩ := hdata
 have hsmdata_0 := fdata_0.small
 obtain ⟨At_2, ct_2, rfl, ft_0, ft_1, ft_2⟩ := ht
 have hsmt_2 := ft_2.small
 have hnn := tLenL_nonneg data
 refine Con.enter (n := 10) (L := [(0, .agg [.int .i64 t.label, .int .i64 t.cap, .slice At_2 t.blocks.length ct_2, .bool t.lost].toArray), (1, .pointer (some (⟨gdata, 0, none⟩ : Addr)))]) Tryz.func76 rfl rfl (Nat.le_of_ble_eq_true rfl) rfl (fun E => ?_)
 refine RunC.sr ?_
 refine Run.box (cs := [.int .i64 t.label, .int .i64 t.cap, .slice At_2 t.blocks.length ct_2, .bool t.lost]) rfl rfl rfl rfl rfl (by decide) (fun g2 => ?_)
 refine Run.as ?_
 refine Run.nx ?_
 refine RunC.seq ?_
 refine RunC.regionD (by kernel_rfl) (by kernel_rfl) ?_
 refine RunZ.y (v := .slice Adata_0 data.length cdata_0) (y_load1 rfl Tryz.isAgg22 rfl (RCells.hd hgdata)) rfl rfl (by decide) ?_
 refine RunZ.call (en_func rfl Tryz.call72 rfl) (con_int (c_stripe_Len _ data fdata_0)) rfl rfl (by decide) ?_
 refine RunZ.y (v := .int .i64 ((tLenL data) + 2)) (y_bin rfl rfl rfl (bn_add (by omega) (by omega))) rfl rfl (by decide) ?_
 refine RunZ.y (v := .pointer (some ⟨g2, 1, none⟩)) (y_fieldAddr rfl rfl Tryz.runUnderlying45 rfl Tryz.sizeOf3 (by decide) rfl) rfl rfl (by decide) ?_
 refine RunZ.y (v := .int .i64 t.cap) (y_loadB1 0 rfl Tryz.isAgg3 rfl rfl rfl) rfl rfl (by decide) ?_
 refine RunZ.y (v := .bool (decide ((tLenL data) + 2 > t.cap))) (y_bin rfl rfl rfl bn_gtr) rfl rfl (by decide) ?_
 refine RunZ.y (v := .bool (decide ((tLenL data) + 2 > t.cap))) (y_assign rfl rfl) rfl rfl (by decide) ?_
 refine RunZ.nil ?_
 refine RunQ.next ?_
 refine RunC.ret ?_
 refine RunQ.weak Sub.refl (perm_nil _) ?_
 refine RunQ.fin1 (.inl rfl) Tryz.results76 (rv_tmp rfl) ?_
 exact ⟨rfl, _, rfl, (rd_eq (T := tBool) (x := decide ((tLenL data) + 2 > t.cap)) rfl (by rfl))⟩

theorem c_group_check (I : Imm) {Ad : Option Addr} {cd : Nat} (d : List ATape) (hd : Sl tTape I Ad cd d) {Ab : Option Addr} {cb : Nat} (b : List ATape) (hb : Sl tTape I Ab cb b) {css : List Value} (s : ASeal) (hs : tSeal.rd I css s) (hszd : ∀ t ∈ d, ∀ b ∈ t.blocks, b.length ≤ 1000000) (hln : tLenL d ≤ 1000000) : Con Tryz.prog 28 [.slice Ad d.length cd, .slice Ab b.length cb, .agg css.toArray].toArray I [] (Ret1 (tInt.o) (gCheck d b s)) := by
 have hsmd := hd.small
 have hsmb := hb.small
 obtain ⟨As_4, cs_4, rfl, fs_0, fs_1, fs_2, fs_3, fs_4⟩ := hs
 have hsms_4 := fs_4.small
 refine Con.enter (n := 36) (L := [(0, .slice Ad d.length cd), (1, .slice Ab b.length cb), (2, .agg [.int .i64 s.number, .int .i64 s.index, .int .i64 s.data, .int .i64 s.parity, .slice As_4 s.labels.length cs_4].toArray)]) Tryz.func28 rfl rfl (Nat.le_of_ble_eq_true rfl) rfl (fun E => ?_)
 refine RunC.sr ?_
 refine Run.box (cs := [.slice Ad d.length cd]) rfl rfl rfl rfl rfl (by decide) (fun g3 => ?_)
 refine Run.box (cs := [.int .i64 s.number, .int .i64 s.index, .int .i64 s.data, .int .i64 s.parity, .slice As_4 s.labels.length cs_4]) rfl rfl rfl rfl rfl (by decide) (fun g5 => ?_)
 refine Run.as ?_
 refine Run.nx ?_
 refine RunC.sr ?_
 refine Run.as ?_
 refine Run.nx ?_
 refine RunC.seq ?_
 refine RunC.sr ?_
 refine Run.m (v := .agg [.int .i64 s.number, .int .i64 s.index, .int .i64 s.data, .int .i64 s.parity, .slice As_4 s.labels.length cs_4].toArray) (y_loadBA 0 rfl Tryz.isAgg38 Tryz.sizeOf38 rfl rfl rfl rfl) ?_
 refine Run.callV (en_func rfl Tryz.call70 rfl) (conv_bool (c_record_RightSeal _ s ⟨_, _, rfl, fs_0, fs_1, fs_2, fs_3, fs_4⟩)) rfl rfl (by decide) (fun hI1 => ?_)
 refine Run.m (v := .bool (!(sRight s))) (y_not (b := (sRight s)) rfl rfl) ?_
 refine Run.mv ?_
 refine Run.split 4 rfl (b := (!(sRight s))) (d := 15) (v := .bool ((!(sRight s)) || (d.any (fun x => (x.lost))))) (fun hb11 K11 => ?_) (fun hb11 K11 => ?_) ?_
 ·
  have hc1011 := hb11; try simp only [z1, z2, z3, z4, z5, z6, z7, z8, z9, z10, z11, z12, z13, z14, z15, z16] at hc1011
  refine Run.no rfl rfl rfl rfl (hb11) rfl (by decide) ?_
  refine Run.no rfl rfl rfl rfl (hb11) rfl (by decide) ?_
  refine Run.no rfl rfl rfl rfl (hb11) rfl (by decide) ?_
  refine Run.y (y_pickB rfl rfl (hb11) rfl) rfl rfl (by decide) ?_
  exact K11 _ _ _ (Imm.le.refl _) (by rw [hb11]; simp) (Sub.tl 3 rfl rfl)
 ·
  have hc1011 := hb11; try simp only [z1, z2, z3, z4, z5, z6, z7, z8, z9, z10, z11, z12, z13, z14, z15, z16] at hc1011
  refine Run.yes (v := .slice Ad d.length cd) (y_loadB1 1 rfl Tryz.isAgg22 rfl rfl rfl) rfl rfl rfl rfl (hb11) rfl (by decide) ?_
  refine Run.yes (v := .func (.func 69) #[] #[]) (y_move rfl rfl) rfl rfl rfl rfl (hb11) rfl (by decide) ?_
  refine Run.callVYes (en_func rfl Tryz.call71 rfl) (conv_bool (c_ContainsFunc_apiTape _ d hd 69 [] (fun x => (x.lost)) Tryz.call69 (fun J cs x hle hx hm => c_group_check_1 J x hx ))) rfl rfl rfl rfl (hb11) rfl (by decide) (fun hI3 => ?_)
  refine Run.y (y_pickB rfl rfl (hb11) rfl) rfl rfl (by decide) ?_
  exact K11 _ _ _ (Imm.le.refl _) (by rw [hb11]; simp) (Sub.tl 3 rfl rfl)
 refine Run.mv ?_
 refine Run.split 4 rfl (b := ((!(sRight s)) || (d.any (fun x => (x.lost))))) (d := 20) (v := .bool (((!(sRight s)) || (d.any (fun x => (x.lost)))) || (b.any (fun x => (x.lost))))) (fun hb16 K16 => ?_) (fun hb16 K16 => ?_) ?_
 ·
  have hc1016 := hb16; try simp only [z1, z2, z3, z4, z5, z6, z7, z8, z9, z10, z11, z12, z13, z14, z15, z16] at hc1016
  refine Run.no rfl rfl rfl rfl (hb16) rfl (by decide) ?_
  refine Run.no rfl rfl rfl rfl (hb16) rfl (by decide) ?_
  refine Run.no rfl rfl rfl rfl (hb16) rfl (by decide) ?_
  refine Run.y (y_pickB rfl rfl (hb16) rfl) rfl rfl (by decide) ?_
  exact K16 _ _ _ (Imm.le.refl _) (by rw [hb16]; simp) (Sub.tl 3 rfl rfl)
 ·
  have hc1016 := hb16; try simp only [z1, z2, z3, z4, z5, z6, z7, z8, z9, z10, z11, z12, z13, z14, z15, z16] at hc1016
  refine Run.yes (v := .slice Ab b.length cb) (y_move rfl rfl) rfl rfl rfl rfl (hb16) rfl (by decide) ?_
  refine Run.yes (v := .func (.func 69) #[] #[]) (y_move rfl rfl) rfl rfl rfl rfl (hb16) rfl (by decide) ?_
  refine Run.callVYes (en_func rfl Tryz.call71 rfl) (conv_bool (c_ContainsFunc_apiTape _ b hb 69 [] (fun x => (x.lost)) Tryz.call69 (fun J cs x hle hx hm => c_group_check_1 J x hx ))) rfl rfl rfl rfl (hb16) rfl (by decide) (fun hI5 => ?_)
  refine Run.y (y_pickB rfl rfl (hb16) rfl) rfl rfl (by decide) ?_
  exact K16 _ _ _ (Imm.le.refl _) (by rw [hb16]; simp) (Sub.tl 3 rfl rfl)
 refine Run.mv ?_
 refine Run.split 4 rfl (b := (((!(sRight s)) || (d.any (fun x => (x.lost)))) || (b.any (fun x => (x.lost))))) (d := 25) (v := .bool ((((!(sRight s)) || (d.any (fun x => (x.lost)))) || (b.any (fun x => (x.lost)))) || (decide ((tLenL d) = 0)))) (fun hb21 K21 => ?_) (fun hb21 K21 => ?_) ?_
 ·
  have hc1021 := hb21; try simp only [z1, z2, z3, z4, z5, z6, z7, z8, z9, z10, z11, z12, z13, z14, z15, z16] at hc1021
  refine Run.no rfl rfl rfl rfl (hb21) rfl (by decide) ?_
  refine Run.no rfl rfl rfl rfl (hb21) rfl (by decide) ?_
  refine Run.no rfl rfl rfl rfl (hb21) rfl (by decide) ?_
  refine Run.y (y_pickB rfl rfl (hb21) rfl) rfl rfl (by decide) ?_
  exact K21 _ _ _ (Imm.le.refl _) (by rw [hb21]; simp) (Sub.tl 3 rfl rfl)
 ·
  have hc1021 := hb21; try simp only [z1, z2, z3, z4, z5, z6, z7, z8, z9, z10, z11, z12, z13, z14, z15, z16] at hc1021
  refine Run.yes (v := .slice Ad d.length cd) (y_loadB1 1 rfl Tryz.isAgg22 rfl rfl rfl) rfl rfl rfl rfl (hb21) rfl (by decide) ?_
  refine Run.callVYes (en_func rfl Tryz.call72 rfl) (conv_int (c_stripe_Len _ d hd)) rfl rfl rfl rfl (hb21) rfl (by decide) (fun hI6 => ?_)
  refine Run.yes (v := .bool (decide ((tLenL d) = 0))) (y_bin rfl rfl rfl bn_eql) rfl rfl rfl rfl (hb21) rfl (by decide) ?_
  refine Run.y (y_pickB rfl rfl (hb21) rfl) rfl rfl (by decide) ?_
  exact K21 _ _ _ (Imm.le.refl _) (by rw [hb21]; simp) (Sub.tl 3 rfl rfl)
 refine Run.mv ?_
 refine Run.split 4 rfl (b := ((((!(sRight s)) || (d.any (fun x => (x.lost)))) || (b.any (fun x => (x.lost)))) || (decide ((tLenL d) = 0)))) (d := 30) (v := .bool (((((!(sRight s)) || (d.any (fun x => (x.lost)))) || (b.any (fun x => (x.lost)))) || (decide ((tLenL d) = 0))) || (!(d.all (fun x => (goodAll x)))))) (fun hb26 K26 => ?_) (fun hb26 K26 => ?_) ?_
 ·
  have hc1026 := hb26; try simp only [z1, z2, z3, z4, z5, z6, z7, z8, z9, z10, z11, z12, z13, z14, z15, z16] at hc1026
  refine Run.no rfl rfl rfl rfl (hb26) rfl (by decide) ?_
  refine Run.no rfl rfl rfl rfl (hb26) rfl (by decide) ?_
  refine Run.no rfl rfl rfl rfl (hb26) rfl (by decide) ?_
  refine Run.y (y_pickB rfl rfl (hb26) rfl) rfl rfl (by decide) ?_
  exact K26 _ _ _ (Imm.le.refl _) (by rw [hb26]; simp) (Sub.tl 3 rfl rfl)
 ·
  have hc1026 := hb26; try simp only [z1, z2, z3, z4, z5, z6, z7, z8, z9, z10, z11, z12, z13, z14, z15, z16] at hc1026
  refine Run.yes (v := .slice Ad d.length cd) (y_loadB1 1 rfl Tryz.isAgg22 rfl rfl rfl) rfl rfl rfl rfl (hb26) rfl (by decide) ?_
  refine Run.callVYes (en_func rfl Tryz.call73 rfl) (conv_bool (c_group_each _ d hd 74 [] (fun x => (goodAll x)) Tryz.call74 (fun J cs x hle hx hm => c_group_allGood J x hx (hszd _ hm)))) rfl rfl rfl rfl (hb26) rfl (by decide) (fun hI8 => ?_)
  refine Run.yes (v := .bool (!(d.all (fun x => (goodAll x))))) (y_not (b := (d.all (fun x => (goodAll x)))) rfl rfl) rfl rfl rfl rfl (hb26) rfl (by decide) ?_
  refine Run.y (y_pickB rfl rfl (hb26) rfl) rfl rfl (by decide) ?_
  exact K26 _ _ _ (Imm.le.refl _) (by rw [hb26]; simp) (Sub.tl 3 rfl rfl)
 refine Run.nx ?_
 refine RunC.cond rfl (fun hc0 => ?_) (fun hc0 => ?_)
 ·
  try simp only [z1, z2, z3, z4, z5, z6, z7, z8, z9, z10, z11, z12, z13, z14, z15, z16] at hc0
  refine RunC.sr ?_
  refine Run.as ?_
  refine Run.nx ?_
  refine RunC.ret ?_
  refine RunQ.pass (fun h => by cases h) ?_
  refine RunQ.weak Sub.refl (perm_nil _) ?_
  refine RunQ.fin1 (.inl rfl) Tryz.results28 (rv_tmp rfl) ?_
  exact ⟨rfl, _, rfl, (rd_eq (T := tInt) (x := 1) ⟨rfl, (by first | omega | (dsimp only; omega))⟩ (by first | (rw [gCheck, if_pos hc0]; done) | (rw [gCheck, if_neg (by rintro ((((h | h) | h) | h) | h) <;> simp_all), if_pos hc1]; done) | (rw [gCheck, if_neg (by rintro ((((h | h) | h) | h) | h) <;> simp_all), if_neg (by rw [hc1]; simp), if_pos hc2]; done) | (rw [gCheck, if_neg (by rintro ((((h | h) | h) | h) | h) <;> simp_all), if_neg (by rw [hc1]; simp), if_neg (by rw [hc2]; simp)]; done)))⟩
 ·
  try simp only [z1, z2, z3, z4, z5, z6, z7, z8, z9, z10, z11, z12, z13, z14, z15, z16] at hc0
  refine RunC.skip ?_
  refine RunQ.next ?_
  refine RunC.seq ?_
  refine RunC.sr ?_
  refine Run.mv ?_
  refine Run.callV (en_func rfl Tryz.call71 rfl) (conv_bool (c_ContainsFunc_apiTape _ b hb 75 [] (fun x => (decide (x.blocks.length > 0))) Tryz.call75 (fun J cs x hle hx hm => c_group_check_2 J x hx ))) rfl rfl (by decide) (fun hI10 => ?_)
  refine Run.nx ?_
  refine RunC.cond rfl (fun hc1 => ?_) (fun hc1 => ?_)
  ·
   try simp only [z1, z2, z3, z4, z5, z6, z7, z8, z9, z10, z11, z12, z13, z14, z15, z16] at hc1
   refine RunC.sr ?_
   refine Run.as ?_
   refine Run.nx ?_
   refine RunC.ret ?_
   refine RunQ.pass (fun h => by cases h) ?_
   refine RunQ.weak Sub.refl (perm_nil _) ?_
   refine RunQ.fin1 (.inl rfl) Tryz.results28 (rv_tmp rfl) ?_
   exact ⟨rfl, _, rfl, (rd_eq (T := tInt) (x := 11) ⟨rfl, (by first | omega | (dsimp only; omega))⟩ (by first | (rw [gCheck, if_pos hc0]; done) | (rw [gCheck, if_neg (by rintro ((((h | h) | h) | h) | h) <;> simp_all), if_pos hc1]; done) | (rw [gCheck, if_neg (by rintro ((((h | h) | h) | h) | h) <;> simp_all), if_neg (by rw [hc1]; simp), if_pos hc2]; done) | (rw [gCheck, if_neg (by rintro ((((h | h) | h) | h) | h) <;> simp_all), if_neg (by rw [hc1]; simp), if_neg (by rw [hc2]; simp)]; done)))⟩
  ·
   try simp only [z1, z2, z3, z4, z5, z6, z7, z8, z9, z10, z11, z12, z13, z14, z15, z16] at hc1
   refine RunC.skip ?_
   refine RunQ.next ?_
   refine RunC.seq ?_
   refine RunC.sr ?_
   refine Run.mv ?_
   refine Run.m (v := .func (.func 76) #[] #[.pointer (some ⟨g3, 0, none⟩)]) (y_makeFunc (vp := []) (vq := [.pointer (some ⟨g3, 0, none⟩)]) rfl rfl rfl) ?_
   refine Run.freezeB 1 rfl (own' := [blk g5 [.int .i64 s.number, .int .i64 s.index, .int .i64 s.data, .int .i64 s.parity, .slice As_4 s.labels.length cs_4] 38]) rfl (fun J12 hleJ12 hfzJ12 => ?_)
   have hcp13 : (tSl tTape).rd J12 [.slice Ad d.length cd] d := ⟨_, _, rfl, (hd.mono hleJ12)⟩
   refine Run.callV (en_func rfl Tryz.call71 rfl) (conv_bool (c_ContainsFunc_apiTape _ b (hb.mono hleJ12) 76 [.pointer (some ⟨g3, 0, none⟩)] (fun x => (decide (tLenL d + 2 > x.cap))) Tryz.call76 (fun J cs x hle hx hm => c_group_check_3 J x hx _ d ((tSl tTape).mono hle hcp13) (RCells.mono hle hfzJ12) hln))) rfl rfl (by decide) (fun hI14 => ?_)
   refine Run.nx ?_
   refine RunC.cond rfl (fun hc2 => ?_) (fun hc2 => ?_)
   ·
    try simp only [z1, z2, z3, z4, z5, z6, z7, z8, z9, z10, z11, z12, z13, z14, z15, z16] at hc2
    refine RunC.sr ?_
    refine Run.as ?_
    refine Run.nx ?_
    refine RunC.ret ?_
    refine RunQ.pass (fun h => by cases h) ?_
    refine RunQ.weak Sub.refl (perm_nil _) ?_
    refine RunQ.fin1 (.inl rfl) Tryz.results28 (rv_tmp rfl) ?_
    exact ⟨rfl, _, rfl, (rd_eq (T := tInt) (x := 6) ⟨rfl, (by first | omega | (dsimp only; omega))⟩ (by first | (rw [gCheck, if_pos hc0]; done) | (rw [gCheck, if_neg (by rintro ((((h | h) | h) | h) | h) <;> simp_all), if_pos hc1]; done) | (rw [gCheck, if_neg (by rintro ((((h | h) | h) | h) | h) <;> simp_all), if_neg (by rw [hc1]; simp), if_pos hc2]; done) | (rw [gCheck, if_neg (by rintro ((((h | h) | h) | h) | h) <;> simp_all), if_neg (by rw [hc1]; simp), if_neg (by rw [hc2]; simp)]; done)))⟩
   ·
    try simp only [z1, z2, z3, z4, z5, z6, z7, z8, z9, z10, z11, z12, z13, z14, z15, z16] at hc2
    refine RunC.skip ?_
    refine RunQ.next ?_
    refine RunC.sr ?_
    refine Run.as ?_
    refine Run.nx ?_
    refine RunC.ret ?_
    refine RunQ.weak Sub.refl (perm_nil _) ?_
    refine RunQ.fin1 (.inl rfl) Tryz.results28 (rv_tmp rfl) ?_
    exact ⟨rfl, _, rfl, (rd_eq (T := tInt) (x := 0) ⟨rfl, (by first | omega | (dsimp only; omega))⟩ (by first | (rw [gCheck, if_pos hc0]; done) | (rw [gCheck, if_neg (by rintro ((((h | h) | h) | h) | h) <;> simp_all), if_pos hc1]; done) | (rw [gCheck, if_neg (by rintro ((((h | h) | h) | h) | h) <;> simp_all), if_neg (by rw [hc1]; simp), if_pos hc2]; done) | (rw [gCheck, if_neg (by rintro ((((h | h) | h) | h) | h) <;> simp_all), if_neg (by rw [hc1]; simp), if_neg (by rw [hc2]; simp)]; done)))⟩

theorem c_Grow_apiTape (I : Imm) (n : Int) (hn : 0 ≤ n) (hn2 : n ≤ 1000000) : Con Tryz.prog 68 [.slice none 0 0, .int .i64 n].toArray I [] (fun J o v => ∃ (yr0 : List ATape) (Ar0 : Option Addr) (cr0 : Nat) (clr0 : List Value), yr0 = ([] : List ATape) ∧ o = [row (.slice Ar0 yr0.length cr0) 45 4 clr0] ∧ v = .slice Ar0 yr0.length cr0 ∧ tTape.all J clr0 yr0) := by
 refine Con.enter (n := 27) (L := [(0, .slice none 0 0), (1, .int .i64 n)]) Tryz.func68 rfl rfl (Nat.le_of_ble_eq_true rfl) rfl (fun E => ?_)
 refine RunC.sr ?_
 refine Run.as ?_
 refine Run.nx ?_
 refine RunC.seq ?_
 refine RunC.sr ?_
 refine Run.mv ?_
 refine Run.m (v := .bool (decide (n < 0))) (y_bin rfl rfl rfl bn_lss) ?_
 refine Run.nx ?_
 refine RunC.cond rfl (fun hc0 => ?_) (fun hc0 => ?_)
 ·
  try simp only [z1, z2, z3, z4, z5, z6, z7, z8, z9, z10, z11, z12, z13, z14, z15, z16] at hc0
  exfalso
  omega
 ·
  skip
  try simp only [z1, z2, z3, z4, z5, z6, z7, z8, z9, z10, z11, z12, z13, z14, z15, z16] at hc0
  refine RunC.skip ?_
  refine RunQ.next ?_
  refine RunC.seq ?_
  refine RunC.sr ?_
  refine Run.mv ?_
  refine Run.mv ?_
  refine Run.m (v := .int .i64 (0 : Int)) (y_cap rfl Tryz.runUnderlying22 rfl) ?_
  refine Run.mv ?_
  refine Run.m (y_len rfl Tryz.runUnderlying22 rfl) ?_
  refine Run.m (v := .int .i64 0) (y_bin rfl rfl rfl (bn_sub (a := (0 : Int)) (b := (0 : Int)) (by decide) (by decide))) ?_
  refine Run.m (v := .int .i64 (n - 0)) (y_bin rfl rfl rfl (bn_sub (by omega) (by omega))) ?_
  refine Run.as ?_
  refine Run.nx ?_
  refine RunC.sr ?_
  refine Run.mv ?_
  refine Run.m (v := .bool (decide (n - 0 > 0))) (y_bin rfl rfl rfl bn_gtr) ?_
  refine Run.nx ?_
  refine RunC.cond rfl (fun hc1 => ?_) (fun hc1 => ?_)
  ·
   try simp only [z1, z2, z3, z4, z5, z6, z7, z8, z9, z10, z11, z12, z13, z14, z15, z16] at hc1
   refine RunC.cast (s := 1) (v' := .int .i64 (n.toNat : Int)) rfl (by rw [show n - 0 = (n.toNat : Int) from by omega]) ?_
   refine RunC.region ?_
   refine Run.mv ?_
   refine Run.mv ?_
   refine Run.m (v := .int .i64 (0 : Int)) (y_cap rfl Tryz.runUnderlying22 rfl) ?_
   refine Run.m (v := .slice none 0 0) (y_sliceNil rfl rfl rfl Tryz.runUnderlying22 Tryz.sizeOf45) ?_
   refine Run.mv ?_
   refine Run.growNil (by_ := 48) (k := n.toNat) rfl rfl rfl Tryz.runUnderlying22 Tryz.runUnderlying3 Tryz.sizeOf45 Tryz.typeInfo45 rfl Tryz.zeroValue45 rfl (by omega) (by omega) (by omega) rfl rfl (by decide) (fun A22_1 c22_1 cl22_1 hkc1 => ?_)
   refine Run.mv ?_
   refine Run.m (y_len rfl Tryz.runUnderlying22 rfl) ?_
   refine Run.cutR (m' := 0) (own' := []) 0 rfl rfl rfl Tryz.runUnderlying22 Tryz.sizeOf45 rfl rfl (Nat.zero_le _) (Nat.zero_le _) rfl rfl (by decide) ?_
   refine Run.rowEq (xs' := []) (by simp) ?_
   refine Run.as ?_
   refine Run.nx ?_
   refine RunC.sr ?_
   refine Run.mv ?_
   refine Run.as ?_
   refine Run.nx ?_
   refine RunC.ret ?_
   refine RunQ.weak Sub.refl (perm_self _) ?_
   refine RunQ.fin1 (.inl rfl) Tryz.results68 (rv_tmp rfl) ?_
   exact ⟨([] : List ATape), A22_1, c22_1, [], (by rfl), rfl, rfl, all_nil⟩
  ·
   try simp only [z1, z2, z3, z4, z5, z6, z7, z8, z9, z10, z11, z12, z13, z14, z15, z16] at hc1
   refine RunC.skip ?_
   refine RunQ.next ?_
   refine RunC.sr ?_
   refine Run.mv ?_
   refine Run.as ?_
   refine Run.nx ?_
   refine RunC.ret ?_
   refine RunQ.nilrow none 45 4 ?_
   refine RunQ.weak Sub.refl (perm_self _) ?_
   refine RunQ.fin1 (.inl rfl) Tryz.results68 (rv_tmp rfl) ?_
   exact ⟨([] : List ATape), none, 0, [], (by rfl), rfl, rfl, all_nil⟩

theorem c_Concat_apiTape (I : Imm) {Ass : Option Addr} {css : Nat} (ss : List (List ATape)) (hss : Sl (tSl tTape) I Ass css ss) (hsz : ss.flatten.length ≤ 1000000) : Con Tryz.prog 27 [.slice Ass ss.length css].toArray I [] (Ret1 ((tSl tTape).o) (ss.flatten)) := by
 have hsmss := hss.small
 refine Con.enter (n := 36) (L := [(0, .slice Ass ss.length css)]) Tryz.func27 rfl rfl (Nat.le_of_ble_eq_true rfl) rfl (fun E => ?_)
 refine RunC.sr ?_
 refine Run.as ?_
 refine Run.nx ?_
 refine RunC.sr ?_
 refine Run.as ?_
 refine Run.nx ?_
 refine RunC.seq ?_
 refine RunC.sr ?_
 refine Run.mv ?_
 refine Run.m (y_len rfl Tryz.runUnderlying132 rfl) ?_
 refine Run.mv ?_
 refine Run.nx ?_
 refine RunC.block ?_
 obtain ⟨Inv0, hInv0⟩ : ∃ Inv : Nat → Act → World → Prop, ∀ mm aa ww, Inv mm aa ww ↔ (∃ (k : Nat) (n1 : Nat) (J0 : Imm), (I.le J0) ∧ (k ≤ ss.length) ∧ (n1 = (ss.take k).flatten.length) ∧ (n1 ≤ 1000000) ∧ (mm = (ss.length - k)) ∧ Frm aa 36 [(0, .slice Ass ss.length css), (2, .slice none 0 0), (9, .slice Ass ss.length css), (10, .int .i64 (ss.length : Int)), (11, .int .i64 (k : Int)), (3, .int .i64 (n1 : Int))] ∧ S E ww J0 []) := ⟨_, fun _ _ _ => Iff.rfl⟩
 refine RunC.loopX Inv0 (fun aa ww hF hS => ⟨_, (hInv0 _ _ _).2 ⟨0, 0, I, (Imm.le.refl _), (by omega), (by simp), (by omega), rfl, hF.sub (Sub.of rfl), hS.sub (perm_self _)⟩⟩) ?_
 intro mm0 aa ww hv
 obtain ⟨k, n1, J0, hJ0_le, hk, hn1, hb1, hmm_, hF, hS⟩ := (hInv0 _ _ _).1 hv
 clear hv
 refine RunC.go ?_ hF hS
 clear hF hS aa ww
 refine RunC.sr ?_
 refine Run.m (v := .bool (decide ((k : Int) < (ss.length : Int)))) (y_bin rfl rfl rfl bn_lss) ?_
 refine Run.nx ?_
 refine RunC.seq ?_
 refine RunC.cond rfl (fun hc0 => ?_) (fun hc0 => ?_)
 ·
  try simp only [z1, z2, z3, z4, z5, z6, z7, z8, z9, z10, z11, z12, z13, z14, z15, z16] at hc0
  refine RunC.skip ?_
  refine RunQ.next ?_
  refine RunC.seq ?_
  refine RunC.block ?_
  refine RunC.sr ?_
  obtain ⟨x13, p13_1, cs13_1, hx13, hp13_1, hcs13_1, hrc13_1⟩ := Sl.at_ (P := Tryz.prog) (T := (tSl tTape)) Tryz.runUnderlying132 Tryz.sizeOf22 (hss.mono hJ0_le) (k := .i64) (i := (k : Int)) (by omega) (by omega)
  replace hx13 : ss[k]? = some x13 := hx13
  obtain ⟨A13_1_0, c13_1_0, rfl, f13_1_0⟩ := hcs13_1
  have hsm13_1_0 := f13_1_0.small
  have hfs := flat_step hx13
  refine Run.m (v := .pointer (some p13_1)) (y_index rfl rfl rfl hp13_1) ?_
  refine Run.m (v := .slice A13_1_0 x13.length c13_1_0) (y_load1 rfl Tryz.isAgg22 rfl (RCells.hd hrc13_1)) ?_
  refine Run.as ?_
  refine Run.nx ?_
  refine RunC.sr ?_
  refine Run.mv ?_
  refine Run.mv ?_
  refine Run.m (y_len rfl Tryz.runUnderlying22 rfl) ?_
  refine Run.m (v := .int .i64 ((n1 : Int) + (x13.length : Int))) (y_bin rfl rfl rfl (bn_add (by omega) (by omega))) ?_
  refine Run.as ?_
  refine Run.nx ?_
  refine RunC.sr ?_
  refine Run.mv ?_
  refine Run.m (v := .bool (decide ((n1 : Int) + (x13.length : Int) < 0))) (y_bin rfl rfl rfl bn_lss) ?_
  refine Run.nx ?_
  refine RunC.cond rfl (fun hc1 => ?_) (fun hc1 => ?_)
  ·
   try simp only [z1, z2, z3, z4, z5, z6, z7, z8, z9, z10, z11, z12, z13, z14, z15, z16] at hc1
   exfalso
   omega
  ·
   skip
   try simp only [z1, z2, z3, z4, z5, z6, z7, z8, z9, z10, z11, z12, z13, z14, z15, z16] at hc1
   refine RunC.skip ?_
   refine RunQ.inB ?_
   refine RunQ.next ?_
   refine RunC.region ?_
   refine Run.m (v := .int .i64 ((k : Int) + 1)) (y_bin rfl rfl rfl (bn_add (by omega) (by omega))) ?_
   refine Run.mv ?_
   refine Run.nil ?_
   exact RunQ.thenI (fun aa ww hF hS => ⟨_, (by omega), (hInv0 _ _ _).2 ⟨(k + 1), (n1 + x13.length), J0, hJ0_le, (by omega), (by rw [flat_at hx13, List.length_append]; omega), (by omega), rfl, hF.sub (Sub.of rfl), hS.sub (perm_self _)⟩⟩)
 ·
  try simp only [z1, z2, z3, z4, z5, z6, z7, z8, z9, z10, z11, z12, z13, z14, z15, z16] at hc0
  refine RunC.exit ?_
  refine RunQ.pass (fun h => by cases h) ?_
  refine RunQ.pass (fun h => by cases h) ?_
  refine RunQ.out ?_
  refine RunQ.next ?_
  refine RunC.sr ?_
  refine Run.mv ?_
  refine Run.call (own1 := []) (own2 := []) (en_func rfl Tryz.call68 rfl) (c_Grow_apiTape _ (n1 : Int) (by omega) (by omega)) (List.Perm.refl _) rfl rfl (by decide) (fun J2 o2 v2 hleJ2 hq2 => ?_)
  obtain ⟨yr2_0, Ar2_0, cr2_0, clr2_0, er2_0, rfl, rfl, hr2_0⟩ := hq2
  obtain rfl : ([] : List ATape) = yr2_0 := er2_0.symm
  refine Run.as ?_
  refine Run.nx ?_
  refine RunC.seq ?_
  refine RunC.sr ?_
  refine Run.mv ?_
  refine Run.m (y_len rfl Tryz.runUnderlying132 rfl) ?_
  refine Run.mv ?_
  refine Run.nx ?_
  refine RunC.block ?_
  obtain ⟨Inv1, hInv1⟩ : ∃ Inv : Nat → Act → World → Prop, ∀ mm aa ww, Inv mm aa ww ↔ (∃ (j : Nat) (o : List (ATape)) (Ao : Option Addr) (co : Nat) (clo : List Value) (J : Imm), (J2.le J) ∧ (tTape.all J clo o) ∧ (j ≤ ss.length) ∧ (o = (ss.take j).flatten) ∧ (mm = (ss.length - j)) ∧ Frm aa 36 [(2, .slice none 0 0), (25, .slice Ass ss.length css), (26, .int .i64 (ss.length : Int)), (27, .int .i64 (j : Int)), (6, .slice Ao o.length co)] ∧ S E ww J [row (.slice Ao o.length co) 45 4 clo]) := ⟨_, fun _ _ _ => Iff.rfl⟩
  refine RunC.loopX Inv1 (fun aa ww hF hS => ⟨_, (hInv1 _ _ _).2 ⟨0, ([] : List ATape), Ar2_0, cr2_0, clr2_0, J2, (Imm.le.refl _), hr2_0, (by omega), rfl, rfl, hF.sub (Sub.of rfl), hS.sub (perm_self _)⟩⟩) ?_
  intro mm1 aa ww hv
  obtain ⟨j, o, Ao, co, clo, J, hJ_le, ho, hj, ho_, hmm_, hF, hS⟩ := (hInv1 _ _ _).1 hv
  clear hv
  refine RunC.go ?_ hF hS
  clear hF hS aa ww
  refine RunC.sr ?_
  refine Run.m (v := .bool (decide ((j : Int) < (ss.length : Int)))) (y_bin rfl rfl rfl bn_lss) ?_
  refine Run.nx ?_
  refine RunC.seq ?_
  refine RunC.cond rfl (fun hc2 => ?_) (fun hc2 => ?_)
  ·
   try simp only [z1, z2, z3, z4, z5, z6, z7, z8, z9, z10, z11, z12, z13, z14, z15, z16] at hc2
   refine RunC.skip ?_
   refine RunQ.next ?_
   refine RunC.seq ?_
   refine RunC.block ?_
   refine RunC.sr ?_
   obtain ⟨x29, p29_3, cs29_3, hx29, hp29_3, hcs29_3, hrc29_3⟩ := Sl.at_ (P := Tryz.prog) (T := (tSl tTape)) Tryz.runUnderlying132 Tryz.sizeOf22 (hss.mono ((hJ0_le.trans hleJ2).trans hJ_le)) (k := .i64) (i := (j : Int)) (by omega) (by omega)
   replace hx29 : ss[j]? = some x29 := hx29
   obtain ⟨A29_3_0, c29_3_0, rfl, f29_3_0⟩ := hcs29_3
   have hsm29_3_0 := f29_3_0.small
   refine Run.m (v := .pointer (some p29_3)) (y_index rfl rfl rfl hp29_3) ?_
   refine Run.m (v := .slice A29_3_0 x29.length c29_3_0) (y_load1 rfl Tryz.isAgg22 rfl (RCells.hd hrc29_3)) ?_
   refine Run.as ?_
   refine Run.nx ?_
   refine RunC.region ?_
   refine Run.mv ?_
   refine Run.mv ?_
   obtain ⟨ys4, hraw4, hya4⟩ := Sl.raw f29_3_0
   have hall5 : tTape.all J (clo ++ ys4) (o ++ x29) := all_append ho hya4
   refine Run.append (by_ := 48) (ys := ys4) (k := x29.length) (own' := []) 0 rfl rfl rfl Tryz.runUnderlying22 (.inl Tryz.runUnderlying22) Tryz.sizeOf45 Tryz.typeInfo45 rfl Tryz.zeroValue45 rfl rfl rfl (fun w hS => src_raw hS hraw4) (hya4).1 (all_one hya4) ((o ++ x29).length) (by first | (simp; done) | (simp; omega)) (by have := flat_step hx29; rw [ho_]; simp only [List.length_append, maxLen]; omega) (by have := flat_step hx29; rw [ho_]; simp only [List.length_append, maxLen]; omega) rfl rfl (by decide) (fun A33_5 c33_5 => ?_)
   refine Run.as ?_
   refine Run.nil ?_
   refine RunQ.inB ?_
   refine RunQ.next ?_
   refine RunC.region ?_
   refine Run.m (v := .int .i64 ((j : Int) + 1)) (y_bin rfl rfl rfl (bn_add (by omega) (by omega))) ?_
   refine Run.mv ?_
   refine Run.nil ?_
   exact RunQ.thenI (fun aa ww hF hS => ⟨_, (by omega), (hInv1 _ _ _).2 ⟨(j + 1), (o ++ x29), A33_5, c33_5, clo ++ ys4, J, hJ_le, hall5, (by omega), (by rw [ho_, flat_at hx29]), rfl, hF.sub (Sub.of rfl), hS.sub (perm_self _)⟩⟩)
  ·
   try simp only [z1, z2, z3, z4, z5, z6, z7, z8, z9, z10, z11, z12, z13, z14, z15, z16] at hc2
   refine RunC.exit ?_
   refine RunQ.pass (fun h => by cases h) ?_
   refine RunQ.pass (fun h => by cases h) ?_
   refine RunQ.out ?_
   refine RunQ.next ?_
   refine RunC.sr ?_
   refine Run.mv ?_
   refine Run.as ?_
   refine Run.nx ?_
   refine RunC.ret ?_
   refine RunQ.freezeR 0 rfl (own' := []) rfl (fun J6 hleJ6 hfzJ6 => ?_)
   have hslJ6 : Sl tTape J6 Ao co o := Sl.of_rowN hfzJ6 rfl rfl (ho.mono hleJ6)
   refine RunQ.weak Sub.refl (perm_nil _) ?_
   refine RunQ.fin1 (.inl rfl) Tryz.results27 (rv_tmp rfl) ?_
   exact ⟨rfl, _, rfl, (rd_eq (T := (tSl tTape)) (x := o) ⟨_, _, rfl, hslJ6⟩ (by rw [ho_, List.take_of_length_le (by omega)]))⟩
end Go.Proofs.YtmelbclhkkbmiaaGreat.K
