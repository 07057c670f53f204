/- Contracts of functions of the program, each proved by a walk through its operations, for all memory and all arguments that the theorem names. Printed by a program of mine. -/
import Derived.Test.YtmelbclhkkbmiaaGreatF4
import Derived.Test.YtmelbclhkkbmiaaGreatK10
set_option linter.unusedVariables false
set_option linter.unusedSimpArgs false
set_option maxRecDepth 100000
namespace Go.Proofs.YtmelbclhkkbmiaaGreat.K
open Go Go.RowKit

theorem c_erasure_reckon (I : Imm) {Am : Option Addr} {cm : Nat} (m : List (List UInt8)) (hm : Sl (tSl tU8) I Am cm m) {Al : Option Addr} {cl : Nat} (l : List (List UInt8)) (hl : Sl (tSl tU8) I Al cl l) (hlen : 0 < l.length) (hsz : l.length ≤ 255) (hmr : mRight m = true) (hml : (l.length : Int) = h0len m) (hall : ∀ r ∈ l, r.length = (h0len l).toNat) (hl0 : h0len l ≤ 1000000) : Con Tryz.prog 107 [.slice Am m.length cm, .slice Al l.length cl].toArray I [] (Ret1 ((tSl (tSl tU8)).o) (mReckon m l)) := by
 have hsmm := hm.small
 have hsml := hl.small
 have hml2 := mRight_len hmr
 refine Con.enter (n := 64) (L := [(0, .slice Am m.length cm), (1, .slice Al l.length cl)]) Tryz.func107 rfl rfl (Nat.le_of_ble_eq_true rfl) rfl (fun E => ?_)
 refine RunC.sr ?_
 refine Run.as ?_
 refine Run.nx ?_
 refine RunC.sr ?_
 refine Run.mv ?_
 refine Run.m (y_len rfl Tryz.runUnderlying43 rfl) ?_
 refine Run.make (m := m.length) (k := .i64) rfl rfl rfl (mk_run Tryz.runUnderlying43 Tryz.typeInfo42 (by_ := 24) rfl Tryz.sizeOf42 Tryz.zeroValue42 rfl (by omega) (by omega)) (by simp only [maxLen]; omega) rfl rfl (by decide) (fun g16 => ?_)
 refine Run.rowEq (nCells_nil UInt8 m.length).symm ?_
 refine Run.nilN UInt8 5 1 m.length ?_
 refine Run.as ?_
 refine Run.nx ?_
 refine RunC.seq ?_
 refine RunC.sr ?_
 refine Run.mv ?_
 obtain ⟨x18, p18_1, cs18_1, hx18, hp18_1, hcs18_1, hrc18_1⟩ := Sl.at_ (P := Tryz.prog) (T := (tSl tU8)) Tryz.runUnderlying43 Tryz.sizeOf42 hl (k := .i64) (i := 0) (by omega) (by omega)
 replace hx18 : l[0]? = some x18 := hx18
 obtain ⟨A18_1_0, c18_1_0, rfl, f18_1_0⟩ := hcs18_1
 have hsm18_1_0 := f18_1_0.small
 have h0 := h0len_of hx18
 have hml2 := mRight_len hmr
 refine Run.m (v := .pointer (some p18_1)) (y_index rfl rfl rfl hp18_1) ?_
 refine Run.m (v := .slice A18_1_0 x18.length c18_1_0) (y_load1 rfl Tryz.isAgg42 rfl (RCells.hd hrc18_1)) ?_
 refine Run.m (y_len rfl Tryz.runUnderlying42 rfl) ?_
 refine Run.mv ?_
 refine Run.nx ?_
 refine RunC.block ?_
 obtain ⟨Inv0, hInv0⟩ : ∃ Inv : Nat → Act → World → Prop, ∀ mm aa ww, Inv mm aa ww ↔ (∃ (k : Nat) (M : List (NR UInt8)) (J : Imm), (I.le J) ∧ (∀ e ∈ M, tU8.all J e.cl e.x) ∧ (M.length = m.length) ∧ (k ≤ x18.length) ∧ (∀ i < m.length, (M.map NR.x)[i]? = some ((List.range k).map fun a => cellOf m l i a)) ∧ (mm = (x18.length - k)) ∧ Frm aa 64 [(0, .slice Am m.length cm), (1, .slice Al l.length cl), (4, .slice none 0 0), (5, .slice (some ⟨g16, 0, none⟩) m.length m.length), (20, .int .i64 (x18.length : Int)), (21, .int .i64 (k : Int))] ∧ S E ww J [row (.slice (some ⟨g16, 0, none⟩) m.length m.length) 42 1 (nCells M), allR (nRes 5 1 M)]) := ⟨_, fun _ _ _ => Iff.rfl⟩
 refine RunC.loopX Inv0 (fun aa ww hF hS => ⟨_, (hInv0 _ _ _).2 ⟨0, (List.replicate m.length (nNil UInt8)), I, (Imm.le.refl _), (nest_nil (T := tU8)), (by simp), (by omega), (by intro i hi; simp [hi, nNil]), rfl, hF.sub (Sub.of rfl), hS.sub (perm_take (i := 1) rfl (perm_take (i := 0) rfl (perm_nil _)))⟩⟩) ?_
 intro mm0 aa ww hv
 obtain ⟨k, M, J, hJ_le, hM, hMl, hk, hMx, hmm_, hF, hS⟩ := (hInv0 _ _ _).1 hv
 clear hv
 refine RunC.go ?_ hF hS
 clear hF hS aa ww
 refine RunC.sr ?_
 refine Run.m (v := .bool (decide ((k : Int) < (x18.length : Int)))) (y_bin rfl rfl rfl bn_lss) ?_
 refine Run.nx ?_
 refine RunC.seq ?_
 refine RunC.cond rfl (fun hc0 => ?_) (fun hc0 => ?_)
 ·
  try simp only [z1, z2, z3, z4, z5, z6, z7, z8, z9, z10, z11, z12, z13, z14, z15, z16] at hc0
  refine RunC.skip ?_
  refine RunQ.next ?_
  refine RunC.seq ?_
  refine RunC.block ?_
  refine RunC.sr ?_
  refine Run.mv ?_
  refine Run.as ?_
  refine Run.nx ?_
  refine RunC.sr ?_
  refine Run.as ?_
  refine Run.nx ?_
  refine RunC.seq ?_
  refine RunC.sr ?_
  refine Run.mv ?_
  refine Run.m (y_len rfl Tryz.runUnderlying43 rfl) ?_
  refine Run.mv ?_
  refine Run.nx ?_
  refine RunC.block ?_
  refine RunC.nilrow none 5 1 ?_
  obtain ⟨Inv1, hInv1⟩ : ∃ Inv : Nat → Act → World → Prop, ∀ mm aa ww, Inv mm aa ww ↔ (∃ (j : Nat) (vv : List UInt8) (Avv : Option Addr) (cvv : Nat) (clvv : List Value) (J2 : Imm), (J.le J2) ∧ (tU8.all J2 clvv vv) ∧ (j ≤ l.length) ∧ (vv = (l.take j).map fun r => r.getD k 0) ∧ (mm = (l.length - j)) ∧ Frm aa 64 [(0, .slice Am m.length cm), (1, .slice Al l.length cl), (4, .slice none 0 0), (5, .slice (some ⟨g16, 0, none⟩) m.length m.length), (20, .int .i64 (x18.length : Int)), (21, .int .i64 (k : Int)), (22, .bool (decide ((k : Int) < (x18.length : Int)))), (23, .int .i64 (k : Int)), (6, .int .i64 (k : Int)), (24, .slice Al l.length cl), (25, .int .i64 (l.length : Int)), (26, .int .i64 (j : Int)), (7, .slice Avv vv.length cvv)] ∧ S E ww J2 [row (.slice Avv vv.length cvv) 5 1 clvv, row (.slice (some ⟨g16, 0, none⟩) m.length m.length) 42 1 (nCells M), allR (nRes 5 1 M)]) := ⟨_, fun _ _ _ => Iff.rfl⟩
  refine RunC.loopX Inv1 (fun aa ww hF hS => ⟨_, (hInv1 _ _ _).2 ⟨0, [], none, 0, [], J, (Imm.le.refl _), all_nil, (by omega), rfl, rfl, hF.sub (Sub.of rfl), hS.sub (perm_self _)⟩⟩) ?_
  intro mm1 aa ww hv
  obtain ⟨j, vv, Avv, cvv, clvv, J2, hJ2_le, hvv, hj, hv_, hmm_, hF, hS⟩ := (hInv1 _ _ _).1 hv
  clear hv
  refine RunC.go ?_ hF hS
  clear hF hS aa ww
  have hvl : vv.length = j := by rw [hv_]; simp; omega
  refine RunC.sr ?_
  refine Run.m (v := .bool (decide ((j : Int) < (l.length : Int)))) (y_bin rfl rfl rfl bn_lss) ?_
  refine Run.nx ?_
  refine RunC.seq ?_
  refine RunC.cond rfl (fun hc1 => ?_) (fun hc1 => ?_)
  ·
   try simp only [z1, z2, z3, z4, z5, z6, z7, z8, z9, z10, z11, z12, z13, z14, z15, z16] at hc1
   refine RunC.skip ?_
   refine RunQ.next ?_
   refine RunC.seq ?_
   refine RunC.block ?_
   refine RunC.sr ?_
   obtain ⟨x28, p28_2, cs28_2, hx28, hp28_2, hcs28_2, hrc28_2⟩ := Sl.at_ (P := Tryz.prog) (T := (tSl tU8)) Tryz.runUnderlying43 Tryz.sizeOf42 (hl.mono (hJ_le.trans hJ2_le)) (k := .i64) (i := (j : Int)) (by omega) (by omega)
   replace hx28 : l[j]? = some x28 := hx28
   obtain ⟨A28_2_0, c28_2_0, rfl, f28_2_0⟩ := hcs28_2
   have hsm28_2_0 := f28_2_0.small
   have hrl := hall _ (List.mem_of_getElem? hx28)
   refine Run.m (v := .pointer (some p28_2)) (y_index rfl rfl rfl hp28_2) ?_
   refine Run.m (v := .slice A28_2_0 x28.length c28_2_0) (y_load1 rfl Tryz.isAgg42 rfl (RCells.hd hrc28_2)) ?_
   refine Run.as ?_
   refine Run.nx ?_
   refine RunC.region ?_
   refine Run.mv ?_
   refine Run.mv ?_
   refine Run.mv ?_
   obtain ⟨x33, p33_3, cs33_3, hx33, hp33_3, hcs33_3, hrc33_3⟩ := Sl.at_ (P := Tryz.prog) (T := tU8) Tryz.runUnderlying42 Tryz.sizeOf5 f28_2_0 (k := .i64) (i := (k : Int)) (by omega) (by omega)
   replace hx33 : x28[k]? = some x33 := hx33
   obtain rfl := hcs33_3
   refine Run.m (v := .pointer (some p33_3)) (y_index rfl rfl rfl hp33_3) ?_
   refine Run.m (v := .int .u8 (x33.toNat : Int)) (y_load1 rfl Tryz.isAgg5 rfl (RCells.hd hrc33_3)) ?_
   refine Run.lit (vs := [(0, .int .u8 (x33.toNat : Int))]) (cs := [.int .u8 (x33.toNat : Int)]) (el := 5) (sz := 1) rfl rfl (fun w => by simp [Instr.buildSlice, Tryz.runUnderlying42, Tryz.sizeOf5, Tryz.zeroValue5, Instr.fill, Value.cells, newRow, (show Array.range 1 = #[0] from rfl)]) rfl (by simp [maxLen]) rfl rfl (by decide) (fun g35 => ?_)
   have hlit4 : tU8.all J2 [.int .u8 (x33.toNat : Int)] [x33] := (all_snoc (T := tU8) all_nil rfl)
   have hall5 : tU8.all J2 (clvv ++ ([.int .u8 (x33.toNat : Int)])) (vv ++ ([x33])) := all_append hvv hlit4
   refine Run.append (by_ := 1) (ys := [.int .u8 (x33.toNat : Int)]) (k := 1) (own' := [row (.slice (some ⟨g35, 0, none⟩) 1 1) 5 1 ([.int .u8 (x33.toNat : Int)]), row (.slice (some ⟨g16, 0, none⟩) m.length m.length) 42 1 (nCells M), allR (nRes 5 1 M)]) 1 rfl rfl rfl Tryz.runUnderlying42 (.inl Tryz.runUnderlying42) Tryz.sizeOf5 Tryz.typeInfo5 rfl Tryz.zeroValue5 rfl rfl rfl (fun w hS => src_own hS (i := 0) rfl) (row_len hlit4 (by first | rfl | (simp; done) | (simp; omega)) rfl) (all_one hlit4) ((vv ++ ([x33])).length) (by first | (simp; done) | (simp; omega)) (by first | (rw [hv_]; simp; omega) | (simp; omega)) (by simp [maxLen]; omega) rfl rfl (by decide) (fun A36_5 c36_5 => ?_)
   refine Run.weak Sub.refl (perm_take (i := 0) rfl (perm_take (i := 1) rfl (perm_take (i := 1) rfl (perm_nil _)))) ?_
   refine Run.as ?_
   refine Run.nil ?_
   refine RunQ.inB ?_
   refine RunQ.next ?_
   refine RunC.region ?_
   refine Run.m (v := .int .i64 ((j : Int) + 1)) (y_bin rfl rfl rfl (bn_add (by omega) (by omega))) ?_
   refine Run.mv ?_
   refine Run.nil ?_
   exact RunQ.thenI (fun aa ww hF hS => ⟨_, (by omega), (hInv1 _ _ _).2 ⟨(j + 1), (vv ++ ([x33])), A36_5, c36_5, clvv ++ ([.int .u8 (x33.toNat : Int)]), J2, hJ2_le, hall5, (by omega), (by rw [take_snoc' hx28, List.map_append, ← hv_, List.map_singleton, List.getD_eq_getElem?_getD, hx33]; rfl), rfl, hF.sub (Sub.of rfl), hS.sub (perm_self _)⟩⟩)
  ·
   try simp only [z1, z2, z3, z4, z5, z6, z7, z8, z9, z10, z11, z12, z13, z14, z15, z16] at hc1
   refine RunC.exit ?_
   refine RunQ.pass (fun h => by cases h) ?_
   refine RunQ.pass (fun h => by cases h) ?_
   refine RunQ.out ?_
   refine RunQ.next ?_
   refine RunC.sr ?_
   refine Run.mv ?_
   refine Run.mv ?_
   refine Run.freezeR 0 rfl (own' := [row (.slice (some ⟨g16, 0, none⟩) m.length m.length) 42 1 (nCells M), allR (nRes 5 1 M)]) rfl (fun J6 hleJ6 hfzJ6 => ?_)
   have hslJ6 : Sl tU8 J6 Avv cvv vv := Sl.of_rowN hfzJ6 rfl rfl (hvv.mono hleJ6)
   refine Run.call0 (en_func rfl Tryz.call142 rfl) (c_matrix_Apply _ m (hm.mono ((hJ_le.trans hJ2_le).trans hleJ6)) vv hslJ6) rfl rfl (by decide) (fun J7 o7 v7 hleJ7 hq7 => ?_)
   obtain ⟨rfl, cs7a, cs7b, rfl, h7a, h7b⟩ := hq7
   replace h7a : (tSl tU8).rd J7 cs7a ((mApp m vv).1) := h7a
   obtain ⟨A7a_0, c7a_0, rfl, f7a_0⟩ := h7a
   have hsm7a_0 := f7a_0.small
   replace h7b : tInt.rd J7 cs7b ((mApp m vv).2) := h7b
   obtain ⟨rfl, f7b_0⟩ := h7b
   have happ : mApp m vv = (mApply m (colOf l k), 0) := by rw [mApp_yes ⟨hmr, by omega⟩, show vv = colOf l k from by rw [hv_, List.take_of_length_le (by omega)]; rfl]
   have hxl : (mApp m vv).1.length = m.length := by rw [happ]; exact mApply_len _ _
   refine Run.mv ?_
   refine Run.m (y_extract rfl rfl rfl) ?_
   refine Run.m (y_extract rfl rfl rfl) ?_
   refine Run.as ?_
   refine Run.as ?_
   refine Run.nx ?_
   refine RunC.sr ?_
   refine Run.mv ?_
   refine Run.m (y_len rfl Tryz.runUnderlying42 rfl) ?_
   refine Run.mv ?_
   refine Run.nx ?_
   refine RunC.block ?_
   obtain ⟨Inv2, hInv2⟩ : ∃ Inv : Nat → Act → World → Prop, ∀ mm aa ww, Inv mm aa ww ↔ (∃ (q : Nat) (N : List (NR UInt8)) (J3 : Imm), (J7.le J3) ∧ (∀ e ∈ N, tU8.all J3 e.cl e.x) ∧ (N.length = m.length) ∧ (q ≤ m.length) ∧ (∀ i < m.length, (N.map NR.x)[i]? = some (if i < q then (List.range (k + 1)).map (fun a => cellOf m l i a) else (List.range k).map fun a => cellOf m l i a)) ∧ (mm = (m.length - q)) ∧ Frm aa 64 [(0, .slice Am m.length cm), (1, .slice Al l.length cl), (4, .slice none 0 0), (5, .slice (some ⟨g16, 0, none⟩) m.length m.length), (20, .int .i64 (x18.length : Int)), (21, .int .i64 (k : Int)), (22, .bool (decide ((k : Int) < (x18.length : Int)))), (23, .int .i64 (k : Int)), (6, .int .i64 (k : Int)), (24, .slice Al l.length cl), (25, .int .i64 (l.length : Int)), (26, .int .i64 (j : Int)), (7, .slice Avv vv.length cvv), (27, .bool (decide ((j : Int) < (l.length : Int)))), (39, .slice Am m.length cm), (40, .slice Avv vv.length cvv), (41, .tuple #[.slice A7a_0 (((mApp m vv).1).length) c7a_0, .int .i64 ((mApp m vv).2)]), (38, .tuple #[.slice A7a_0 (((mApp m vv).1).length) c7a_0, .int .i64 ((mApp m vv).2)]), (42, .slice A7a_0 (((mApp m vv).1).length) c7a_0), (43, .int .i64 ((mApp m vv).2)), (10, .slice A7a_0 (((mApp m vv).1).length) c7a_0), (44, .slice A7a_0 (((mApp m vv).1).length) c7a_0), (45, .int .i64 (((mApp m vv).1).length : Int)), (46, .int .i64 (q : Int))] ∧ S E ww J3 [row (.slice (some ⟨g16, 0, none⟩) m.length m.length) 42 1 (nCells N), allR (nRes 5 1 N)]) := ⟨_, fun _ _ _ => Iff.rfl⟩
   refine RunC.loopX Inv2 (fun aa ww hF hS => ⟨_, (hInv2 _ _ _).2 ⟨0, M, J7, (Imm.le.refl _), (nest_mono hM ((hJ2_le.trans hleJ6).trans hleJ7)), hMl, (by omega), (by intro i hi; rw [hMx i hi]; simp), rfl, hF.sub (Sub.of rfl), hS.sub (perm_self _)⟩⟩) ?_
   intro mm2 aa ww hv
   obtain ⟨q, N, J3, hJ3_le, hN, hNl, hq, hNx, hmm_, hF, hS⟩ := (hInv2 _ _ _).1 hv
   clear hv
   refine RunC.go ?_ hF hS
   clear hF hS aa ww
   refine RunC.sr ?_
   refine Run.m (v := .bool (decide ((q : Int) < (((mApp m vv).1).length : Int)))) (y_bin rfl rfl rfl bn_lss) ?_
   refine Run.nx ?_
   refine RunC.seq ?_
   refine RunC.cond rfl (fun hc2 => ?_) (fun hc2 => ?_)
   ·
    try simp only [z1, z2, z3, z4, z5, z6, z7, z8, z9, z10, z11, z12, z13, z14, z15, z16] at hc2
    refine RunC.skip ?_
    refine RunQ.next ?_
    refine RunC.seq ?_
    refine RunC.block ?_
    refine RunC.sr ?_
    refine Run.mv ?_
    obtain ⟨x49, p49_8, cs49_8, hx49, hp49_8, hcs49_8, hrc49_8⟩ := Sl.at_ (P := Tryz.prog) (T := tU8) Tryz.runUnderlying42 Tryz.sizeOf5 (f7a_0.mono hJ3_le) (k := .i64) (i := (q : Int)) (by omega) (by omega)
    replace hx49 : ((mApp m vv).1)[q]? = some x49 := hx49
    obtain rfl := hcs49_8
    refine Run.m (v := .pointer (some p49_8)) (y_index rfl rfl rfl hp49_8) ?_
    refine Run.m (v := .int .u8 (x49.toNat : Int)) (y_load1 rfl Tryz.isAgg5 rfl (RCells.hd hrc49_8)) ?_
    refine Run.as ?_
    refine Run.as ?_
    refine Run.nx ?_
    refine RunC.region ?_
    refine Run.mv ?_
    refine Run.mv ?_
    refine Run.mv ?_
    refine Run.mv ?_
    obtain ⟨e55, he55⟩ : ∃ en, N[q]? = some en := ⟨_, List.getElem?_eq_getElem (by first | exact (by omega) | omega | (simp; omega))⟩
    have hex : e55.x = (List.range k).map fun a => cellOf m l q a := by have hz := hNx q (by omega); rw [List.getElem?_map, he55, if_neg (by omega)] at hz; exact Option.some.inj hz
    have hexl : e55.x.length = k := by rw [hex]; simp
    have hxc : x49 = cellOf m l q k := by rw [happ] at hx49; rw [cellOf, List.getD_eq_getElem?_getD, show (mApply m (colOf l k))[q]? = some x49 from hx49]; rfl
    refine Run.m (v := .pointer (some (pt (some ⟨g16, 0, none⟩) (q * 1)))) (y_indexR (q := (q : Int)) 0 rfl rfl rfl Tryz.runUnderlying43 Tryz.sizeOf42 rfl (by omega) (by omega)) ?_
    refine Run.m (v := .slice e55.A e55.x.length e55.c) (y_loadR1 0 rfl Tryz.isAgg42 rfl rfl (nCells_at he55)) ?_
    refine Run.outN (own' := [row (.slice (some ⟨g16, 0, none⟩) m.length m.length) 42 1 (nCells N)]) 1 rfl rfl he55 ?_
    refine Run.mv ?_
    refine Run.lit (vs := [(0, .int .u8 (x49.toNat : Int))]) (cs := [.int .u8 (x49.toNat : Int)]) (el := 5) (sz := 1) rfl rfl (fun w => by simp [Instr.buildSlice, Tryz.runUnderlying42, Tryz.sizeOf5, Tryz.zeroValue5, Instr.fill, Value.cells, newRow, (show Array.range 1 = #[0] from rfl)]) rfl (by simp [maxLen]) rfl rfl (by decide) (fun g58 => ?_)
    have hlit9 : tU8.all J3 [.int .u8 (x49.toNat : Int)] [x49] := (all_snoc (T := tU8) all_nil rfl)
    have hall10 : tU8.all J3 (e55.cl ++ ([.int .u8 (x49.toNat : Int)])) (e55.x ++ ([x49])) := all_append (hN _ (List.mem_of_getElem? he55)) hlit9
    refine Run.append (by_ := 1) (ys := [.int .u8 (x49.toNat : Int)]) (k := 1) (own' := [row (.slice (some ⟨g58, 0, none⟩) 1 1) 5 1 ([.int .u8 (x49.toNat : Int)]), allR (nRes 5 1 (N.eraseIdx q)), row (.slice (some ⟨g16, 0, none⟩) m.length m.length) 42 1 (nCells N)]) 1 rfl rfl rfl Tryz.runUnderlying42 (.inl Tryz.runUnderlying42) Tryz.sizeOf5 Tryz.typeInfo5 rfl Tryz.zeroValue5 rfl rfl rfl (fun w hS => src_own hS (i := 0) rfl) (row_len hlit9 (by first | rfl | (simp; done) | (simp; omega)) rfl) (all_one hlit9) ((e55.x ++ ([x49])).length) (by first | (simp; done) | (simp; omega)) (by first | (rw [hv_]; simp; omega) | (simp; omega)) (by simp [maxLen]; omega) rfl rfl (by decide) (fun A59_10 c59_10 => ?_)
    refine Run.weak Sub.refl (perm_take (i := 0) rfl (perm_take (i := 1) rfl (perm_take (i := 1) rfl (perm_nil _)))) ?_
    obtain ⟨e60, he60⟩ : ∃ en, N[q]? = some en := ⟨_, List.getElem?_eq_getElem (by first | exact (by omega) | omega | (simp; omega))⟩
    refine Run.m (v := .pointer (some (pt (some ⟨g16, 0, none⟩) (q * 1)))) (y_indexR (q := (q : Int)) 2 rfl rfl rfl Tryz.runUnderlying43 Tryz.sizeOf42 rfl (by omega) (by omega)) ?_
    refine Run.storeR (vs := [.slice A59_10 ((e55.x ++ ([x49])).length) c59_10]) (xs' := (nCells (N.set q (⟨A59_10, c59_10, e55.cl ++ ([.int .u8 (x49.toNat : Int)]), (e55.x ++ ([x49]))⟩ : NR UInt8)))) (own' := [row (.slice A59_10 ((e55.x ++ ([x49])).length) c59_10) 5 1 (e55.cl ++ ([.int .u8 (x49.toNat : Int)])), allR (nRes 5 1 (N.eraseIdx q))]) 2 rfl rfl rfl Tryz.sizeOf42 rfl rfl (by decide) rfl rfl rfl (nCells_room (List.getElem?_eq_some_iff.1 he60).1) (nCells_set (⟨A59_10, c59_10, e55.cl ++ ([.int .u8 (x49.toNat : Int)]), (e55.x ++ ([x49]))⟩ : NR UInt8) (List.getElem?_eq_some_iff.1 he60).1) rfl rfl ?_
    have hnst11 : ∀ e ∈ (N.set q (⟨A59_10, c59_10, e55.cl ++ ([.int .u8 (x49.toNat : Int)]), (e55.x ++ ([x49]))⟩ : NR UInt8)), tU8.all J3 e.cl e.x := nest_set (en := (⟨A59_10, c59_10, e55.cl ++ ([.int .u8 (x49.toNat : Int)]), (e55.x ++ ([x49]))⟩ : NR UInt8)) hN (Imm.le.refl _) hall10
    refine Run.inN (own' := [row (.slice (some ⟨g16, 0, none⟩) m.length m.length) 42 1 (nCells (N.set q (⟨A59_10, c59_10, e55.cl ++ ([.int .u8 (x49.toNat : Int)]), (e55.x ++ ([x49]))⟩ : NR UInt8)))]) (e55.x ++ ([x49])) rfl (List.getElem?_eq_some_iff.1 he60).1 (permC (i := 1) rfl rfl (permC (i := 1) rfl rfl (List.Perm.refl _))) ?_
    refine Run.nil ?_
    refine RunQ.inB ?_
    refine RunQ.next ?_
    refine RunC.region ?_
    refine Run.m (v := .int .i64 ((q : Int) + 1)) (y_bin rfl rfl rfl (bn_add (by omega) (by omega))) ?_
    refine Run.mv ?_
    refine Run.nil ?_
    exact RunQ.thenI (fun aa ww hF hS => ⟨_, (by omega), (hInv2 _ _ _).2 ⟨(q + 1), (N.set q (⟨A59_10, c59_10, e55.cl ++ ([.int .u8 (x49.toNat : Int)]), (e55.x ++ ([x49]))⟩ : NR UInt8)), J3, hJ3_le, hnst11, (by simp; omega), (by omega), (by rw [List.map_set]; have hz := nest_step hNx (by omega) hxc; rw [← hex] at hz; exact hz), rfl, hF.sub (Sub.of rfl), hS.sub (perm_take (i := 1) rfl (perm_take (i := 0) rfl (perm_nil _)))⟩⟩)
   ·
    try simp only [z1, z2, z3, z4, z5, z6, z7, z8, z9, z10, z11, z12, z13, z14, z15, z16] at hc2
    refine RunC.exit ?_
    refine RunQ.pass (fun h => by cases h) ?_
    refine RunQ.pass (fun h => by cases h) ?_
    refine RunQ.out ?_
    refine RunQ.inB ?_
    refine RunQ.next ?_
    refine RunC.region ?_
    refine Run.m (v := .int .i64 ((k : Int) + 1)) (y_bin rfl rfl rfl (bn_add (by omega) (by omega))) ?_
    refine Run.mv ?_
    refine Run.nil ?_
    exact RunQ.thenI (fun aa ww hF hS => ⟨_, (by omega), (hInv0 _ _ _).2 ⟨(k + 1), N, J3, ((((hJ_le.trans hJ2_le).trans hleJ6).trans hleJ7).trans hJ3_le), hN, hNl, (by omega), (by intro i hi; rw [hNx i hi, if_pos (by omega)]), rfl, hF.sub (Sub.of rfl), hS.sub (perm_self _)⟩⟩)
 ·
  try simp only [z1, z2, z3, z4, z5, z6, z7, z8, z9, z10, z11, z12, z13, z14, z15, z16] at hc0
  refine RunC.exit ?_
  refine RunQ.pass (fun h => by cases h) ?_
  refine RunQ.pass (fun h => by cases h) ?_
  refine RunQ.out ?_
  refine RunQ.next ?_
  refine RunC.sr ?_
  refine Run.mv ?_
  refine Run.as ?_
  refine Run.nx ?_
  refine RunC.ret ?_
  refine RunQ.freezeN (own' := []) rfl hMl hM (permC (i := 0) rfl rfl (permC (i := 0) rfl rfl (List.Perm.refl _))) (fun J12 hleJ12 hslJ12 => ?_)
  refine RunQ.cast (s := 5) (v' := .slice (some ⟨g16, 0, none⟩) ((M.map NR.x).length) m.length) rfl (by rw [List.length_map, show M.length = m.length from hMl]) ?_
  refine RunQ.cast (s := 63) (v' := .slice (some ⟨g16, 0, none⟩) ((M.map NR.x).length) m.length) rfl (by rw [List.length_map, show M.length = m.length from hMl]) ?_
  refine RunQ.cast (s := 4) (v' := .slice (some ⟨g16, 0, none⟩) ((M.map NR.x).length) m.length) rfl (by rw [List.length_map, show M.length = m.length from hMl]) ?_
  refine RunQ.weak Sub.refl (perm_nil _) ?_
  refine RunQ.fin1 (.inl rfl) Tryz.results107 (rv_tmp rfl) ?_
  exact ⟨rfl, _, rfl, (rd_eq (T := (tSl (tSl tU8))) (x := (M.map NR.x)) ⟨_, _, rfl, hslJ12⟩ (by rw [mReckon, ← show k = (h0len l).toNat from by omega]; exact range_ext hMx (by simpa using hMl)))⟩

theorem c_erasure_Encode (I : Imm) {Al : Option Addr} {cl : Nat} (l : List (List UInt8)) (hl : Sl (tSl tU8) I Al cl l) (p : Int) (hp : I64 p) (hl0 : h0len l ≤ 1000000) : Con Tryz.prog 77 [.slice Al l.length cl, .int .i64 p].toArray I [] (Ret2 ((tSl (tSl tU8)).o) (tInt.o) ((eEnc l p).1) ((eEnc l p).2)) := by
 have hsml := hl.small
 refine Con.enter (n := 47) (L := [(0, .slice Al l.length cl), (1, .int .i64 p)]) Tryz.func77 rfl rfl (Nat.le_of_ble_eq_true rfl) rfl (fun E => ?_)
 refine RunC.sr ?_
 refine Run.as ?_
 refine Run.as ?_
 refine Run.nx ?_
 refine RunC.seq ?_
 refine RunC.sr ?_
 refine Run.mv ?_
 refine Run.m (y_len rfl Tryz.runUnderlying43 rfl) ?_
 refine Run.m (v := .bool (decide ((l.length : Int) < 1))) (y_bin rfl rfl rfl bn_lss) ?_
 refine Run.mv ?_
 refine Run.split 4 rfl (b := decide ((l.length : Int) < 1)) (d := 15) (v := .bool ((decide ((l.length : Int) < 1)) || (decide ((l.length : Int) > 255)))) (fun hb11 K11 => ?_) (fun hb11 K11 => ?_) ?_
 ·
  have hc1011 := hb11; try simp only [z1, z2, z3, z4, z5, z6, z7, z8, z9, z10, z11, z12, z13, z14, z15, z16] at hc1011
  refine Run.no rfl rfl rfl rfl (hb11) rfl (by decide) ?_
  refine Run.no rfl rfl rfl rfl (hb11) rfl (by decide) ?_
  refine Run.no rfl rfl rfl rfl (hb11) rfl (by decide) ?_
  refine Run.y (y_pickB rfl rfl (hb11) rfl) rfl rfl (by decide) ?_
  exact K11 _ _ _ (Imm.le.refl _) (by rw [hb11]; simp) (Sub.tl 3 rfl rfl)
 ·
  have hc1011 := hb11; try simp only [z1, z2, z3, z4, z5, z6, z7, z8, z9, z10, z11, z12, z13, z14, z15, z16] at hc1011
  refine Run.yes (v := .slice Al l.length cl) (y_move rfl rfl) rfl rfl rfl rfl (hb11) rfl (by decide) ?_
  refine Run.yes (v := .int .i64 (l.length : Int)) (y_len rfl Tryz.runUnderlying43 rfl) rfl rfl rfl rfl (hb11) rfl (by decide) ?_
  refine Run.yes (v := .bool (decide ((l.length : Int) > 255))) (y_bin rfl rfl rfl bn_gtr) rfl rfl rfl rfl (hb11) rfl (by decide) ?_
  refine Run.y (y_pickB rfl rfl (hb11) rfl) rfl rfl (by decide) ?_
  exact K11 _ _ _ (Imm.le.refl _) (by rw [hb11]; simp) (Sub.tl 3 rfl rfl)
 refine Run.mv ?_
 refine Run.split 3 rfl (b := ((decide ((l.length : Int) < 1)) || (decide ((l.length : Int) > 255)))) (d := 19) (v := .bool (((decide ((l.length : Int) < 1)) || (decide ((l.length : Int) > 255))) || (decide (p < 0)))) (fun hb16 K16 => ?_) (fun hb16 K16 => ?_) ?_
 ·
  have hc1016 := hb16; try simp only [z1, z2, z3, z4, z5, z6, z7, z8, z9, z10, z11, z12, z13, z14, z15, z16] at hc1016
  refine Run.no rfl rfl rfl rfl (hb16) rfl (by decide) ?_
  refine Run.no rfl rfl rfl rfl (hb16) rfl (by decide) ?_
  refine Run.y (y_pickB rfl rfl (hb16) rfl) rfl rfl (by decide) ?_
  exact K16 _ _ _ (Imm.le.refl _) (by rw [hb16]; simp) (Sub.tl 2 rfl rfl)
 ·
  have hc1016 := hb16; try simp only [z1, z2, z3, z4, z5, z6, z7, z8, z9, z10, z11, z12, z13, z14, z15, z16] at hc1016
  refine Run.yes (v := .int .i64 p) (y_move rfl rfl) rfl rfl rfl rfl (hb16) rfl (by decide) ?_
  refine Run.yes (v := .bool (decide (p < 0))) (y_bin rfl rfl rfl bn_lss) rfl rfl rfl rfl (hb16) rfl (by decide) ?_
  refine Run.y (y_pickB rfl rfl (hb16) rfl) rfl rfl (by decide) ?_
  exact K16 _ _ _ (Imm.le.refl _) (by rw [hb16]; simp) (Sub.tl 2 rfl rfl)
 refine Run.mv ?_
 refine Run.split 6 rfl (b := (((decide ((l.length : Int) < 1)) || (decide ((l.length : Int) > 255))) || (decide (p < 0)))) (d := 26) (v := .bool ((((decide ((l.length : Int) < 1)) || (decide ((l.length : Int) > 255))) || (decide (p < 0))) || (decide (p > 255 - (l.length : Int))))) (fun hb20 K20 => ?_) (fun hb20 K20 => ?_) ?_
 ·
  have hc1020 := hb20; try simp only [z1, z2, z3, z4, z5, z6, z7, z8, z9, z10, z11, z12, z13, z14, z15, z16] at hc1020
  refine Run.no rfl rfl rfl rfl (hb20) rfl (by decide) ?_
  refine Run.no rfl rfl rfl rfl (hb20) rfl (by decide) ?_
  refine Run.no rfl rfl rfl rfl (hb20) rfl (by decide) ?_
  refine Run.no rfl rfl rfl rfl (hb20) rfl (by decide) ?_
  refine Run.no rfl rfl rfl rfl (hb20) rfl (by decide) ?_
  refine Run.y (y_pickB rfl rfl (hb20) rfl) rfl rfl (by decide) ?_
  exact K20 _ _ _ (Imm.le.refl _) (by rw [hb20]; simp) (Sub.tl 5 rfl rfl)
 ·
  have hc1020 := hb20; try simp only [z1, z2, z3, z4, z5, z6, z7, z8, z9, z10, z11, z12, z13, z14, z15, z16] at hc1020
  refine Run.yes (v := .int .i64 p) (y_move rfl rfl) rfl rfl rfl rfl (hb20) rfl (by decide) ?_
  refine Run.yes (v := .slice Al l.length cl) (y_move rfl rfl) rfl rfl rfl rfl (hb20) rfl (by decide) ?_
  refine Run.yes (v := .int .i64 (l.length : Int)) (y_len rfl Tryz.runUnderlying43 rfl) rfl rfl rfl rfl (hb20) rfl (by decide) ?_
  refine Run.yes (v := .int .i64 (255 - (l.length : Int))) (y_bin rfl rfl rfl (bn_sub (by omega) (by omega))) rfl rfl rfl rfl (hb20) rfl (by decide) ?_
  refine Run.yes (v := .bool (decide (p > 255 - (l.length : Int)))) (y_bin rfl rfl rfl bn_gtr) rfl rfl rfl rfl (hb20) rfl (by decide) ?_
  refine Run.y (y_pickB rfl rfl (hb20) rfl) rfl rfl (by decide) ?_
  exact K20 _ _ _ (Imm.le.refl _) (by rw [hb20]; simp) (Sub.tl 5 rfl rfl)
 refine Run.mv ?_
 refine Run.split 4 rfl (b := ((((decide ((l.length : Int) < 1)) || (decide ((l.length : Int) > 255))) || (decide (p < 0))) || (decide (p > 255 - (l.length : Int))))) (d := 31) (v := .bool (((((decide ((l.length : Int) < 1)) || (decide ((l.length : Int) > 255))) || (decide (p < 0))) || (decide (p > 255 - (l.length : Int)))) || (!(lAlike l)))) (fun hb27 K27 => ?_) (fun hb27 K27 => ?_) ?_
 ·
  have hc1027 := hb27; try simp only [z1, z2, z3, z4, z5, z6, z7, z8, z9, z10, z11, z12, z13, z14, z15, z16] at hc1027
  refine Run.no rfl rfl rfl rfl (hb27) rfl (by decide) ?_
  refine Run.no rfl rfl rfl rfl (hb27) rfl (by decide) ?_
  refine Run.no rfl rfl rfl rfl (hb27) rfl (by decide) ?_
  refine Run.y (y_pickB rfl rfl (hb27) rfl) rfl rfl (by decide) ?_
  exact K27 _ _ _ (Imm.le.refl _) (by rw [hb27]; simp) (Sub.tl 3 rfl rfl)
 ·
  have hc1027 := hb27; try simp only [z1, z2, z3, z4, z5, z6, z7, z8, z9, z10, z11, z12, z13, z14, z15, z16] at hc1027
  refine Run.yes (v := .slice Al l.length cl) (y_move rfl rfl) rfl rfl rfl rfl (hb27) rfl (by decide) ?_
  refine Run.callVYes (en_func rfl Tryz.call105 rfl) (conv_bool (c_erasure_alike _ l hl)) rfl rfl rfl rfl (hb27) rfl (by decide) (fun hI1 => ?_)
  refine Run.yes (v := .bool (!(lAlike l))) (y_not (b := (lAlike l)) rfl rfl) rfl rfl rfl rfl (hb27) rfl (by decide) ?_
  refine Run.y (y_pickB rfl rfl (hb27) rfl) rfl rfl (by decide) ?_
  exact K27 _ _ _ (Imm.le.refl _) (by rw [hb27]; simp) (Sub.tl 3 rfl rfl)
 refine Run.nx ?_
 refine RunC.cond rfl (fun hc0 => ?_) (fun hc0 => ?_)
 ·
  try simp only [z1, z2, z3, z4, z5, z6, z7, z8, z9, z10, z11, z12, z13, z14, z15, z16] at hc0
  refine RunC.sr ?_
  refine Run.as ?_
  refine Run.as ?_
  refine Run.nx ?_
  refine RunC.ret ?_
  refine RunQ.pass (fun h => by cases h) ?_
  refine RunQ.weak Sub.refl (perm_nil _) ?_
  refine RunQ.fin2 (.inl rfl) Tryz.results77 (rv_tmp rfl) (rv_tmp rfl) ?_
  exact ⟨rfl, _, _, rfl, (rd_eq (T := (tSl (tSl tU8))) (x := ([] : List (List UInt8))) ⟨_, _, rfl, sl_nil0⟩ (by first | (rw [eEnc_no hc0] <;> rfl) | (rw [eEnc_at hc0, if_pos hc1] <;> rfl) | (rw [eEnc_at hc0, if_neg hc1, hcc] <;> rfl) | (rw [eEnc_at hc0, if_neg hc1] <;> rfl))), (rd_eq (T := tInt) (x := 1) ⟨rfl, (by first | omega | (dsimp only; omega))⟩ (by first | (rw [eEnc_no hc0] <;> rfl) | (rw [eEnc_at hc0, if_pos hc1] <;> rfl) | (rw [eEnc_at hc0, if_neg hc1, hcc] <;> rfl) | (rw [eEnc_at hc0, if_neg hc1] <;> rfl)))⟩
 ·
  try simp only [z1, z2, z3, z4, z5, z6, z7, z8, z9, z10, z11, z12, z13, z14, z15, z16] at hc0
  refine RunC.skip ?_
  refine RunQ.next ?_
  refine RunC.seq ?_
  refine RunC.sr ?_
  refine Run.mv ?_
  refine Run.m (v := .bool (decide (p = 0))) (y_bin rfl rfl rfl bn_eql) ?_
  refine Run.nx ?_
  refine RunC.cond rfl (fun hc1 => ?_) (fun hc1 => ?_)
  ·
   try simp only [z1, z2, z3, z4, z5, z6, z7, z8, z9, z10, z11, z12, z13, z14, z15, z16] at hc1
   refine RunC.sr ?_
   refine Run.as ?_
   refine Run.as ?_
   refine Run.nx ?_
   refine RunC.ret ?_
   refine RunQ.pass (fun h => by cases h) ?_
   refine RunQ.weak Sub.refl (perm_nil _) ?_
   refine RunQ.fin2 (.inl rfl) Tryz.results77 (rv_tmp rfl) (rv_tmp rfl) ?_
   exact ⟨rfl, _, _, rfl, (rd_eq (T := (tSl (tSl tU8))) (x := ([] : List (List UInt8))) ⟨_, _, rfl, sl_nil0⟩ (by first | (rw [eEnc_no hc0] <;> rfl) | (rw [eEnc_at hc0, if_pos hc1] <;> rfl) | (rw [eEnc_at hc0, if_neg hc1, hcc] <;> rfl) | (rw [eEnc_at hc0, if_neg hc1] <;> rfl))), (rd_eq (T := tInt) (x := 0) ⟨rfl, (by first | omega | (dsimp only; omega))⟩ (by first | (rw [eEnc_no hc0] <;> rfl) | (rw [eEnc_at hc0, if_pos hc1] <;> rfl) | (rw [eEnc_at hc0, if_neg hc1, hcc] <;> rfl) | (rw [eEnc_at hc0, if_neg hc1] <;> rfl)))⟩
  ·
   try simp only [z1, z2, z3, z4, z5, z6, z7, z8, z9, z10, z11, z12, z13, z14, z15, z16] at hc1
   have hcc : cCauchy (l.length : Int) p = (mCauchy l.length p p.toNat, 0) := by rw [cCauchy_yes (by omega)]; rfl
   refine RunC.skip ?_
   refine RunQ.next ?_
   refine RunC.sr ?_
   refine Run.mv ?_
   refine Run.m (y_len rfl Tryz.runUnderlying43 rfl) ?_
   refine Run.mv ?_
   refine Run.call0 (en_func rfl Tryz.call106 rfl) (c_matrix_Cauchy _ (l.length : Int) (by omega) p hp) rfl rfl (by decide) (fun J2 o2 v2 hleJ2 hq2 => ?_)
   obtain ⟨rfl, cs2a, cs2b, rfl, h2a, h2b⟩ := hq2
   replace h2a : (tSl (tSl tU8)).rd J2 cs2a ((cCauchy (l.length : Int) p).1) := h2a
   obtain ⟨A2a_0, c2a_0, rfl, f2a_0⟩ := h2a
   have hsm2a_0 := f2a_0.small
   replace h2b : tInt.rd J2 cs2b ((cCauchy (l.length : Int) p).2) := h2b
   obtain ⟨rfl, f2b_0⟩ := h2b
   refine Run.mv ?_
   refine Run.m (y_extract rfl rfl rfl) ?_
   refine Run.m (y_extract rfl rfl rfl) ?_
   refine Run.as ?_
   refine Run.as ?_
   refine Run.nx ?_
   refine RunC.seq ?_
   refine RunC.sr ?_
   refine Run.mv ?_
   refine Run.m (v := .bool (decide ((cCauchy (l.length : Int) p).2 ≠ 0))) (y_bin rfl rfl rfl bn_neq) ?_
   refine Run.nx ?_
   refine RunC.cond rfl (fun hc2 => ?_) (fun hc2 => ?_)
   ·
    try simp only [z1, z2, z3, z4, z5, z6, z7, z8, z9, z10, z11, z12, z13, z14, z15, z16] at hc2
    exfalso
    rw [hcc] at hc2; exact hc2 rfl
   ·
    skip
    try simp only [z1, z2, z3, z4, z5, z6, z7, z8, z9, z10, z11, z12, z13, z14, z15, z16] at hc2
    refine RunC.skip ?_
    refine RunQ.next ?_
    refine RunC.sr ?_
    refine Run.mv ?_
    refine Run.mv ?_
    refine Run.call0 (en_func rfl Tryz.call107 rfl) (c_erasure_reckon _ ((cCauchy (l.length : Int) p).1) f2a_0 l (hl.mono hleJ2) (by omega) (by omega) (by rw [hcc]; exact mCauchy_right (by omega) (by omega) (by omega) (by omega)) (by rw [hcc]; exact (mCauchy_h0 (by omega)).symm) (fun r hr => by have := lAlike_all hc0.2 hr; omega) hl0) rfl rfl (by decide) (fun J3 o3 v3 hleJ3 hq3 => ?_)
    obtain ⟨rfl, cs3a, rfl, h3a⟩ := hq3
    replace h3a : (tSl (tSl tU8)).rd J3 cs3a (mReckon ((cCauchy (l.length : Int) p).1) l) := h3a
    obtain ⟨A3a_0, c3a_0, rfl, f3a_0⟩ := h3a
    have hsm3a_0 := f3a_0.small
    refine Run.as ?_
    refine Run.as ?_
    refine Run.nx ?_
    refine RunC.ret ?_
    refine RunQ.weak Sub.refl (perm_nil _) ?_
    refine RunQ.fin2 (.inl rfl) Tryz.results77 (rv_tmp rfl) (rv_tmp rfl) ?_
    exact ⟨rfl, _, _, rfl, (rd_eq (T := (tSl (tSl tU8))) (x := (mReckon ((cCauchy (l.length : Int) p).1) l)) ⟨_, _, rfl, f3a_0⟩ (by first | (rw [eEnc_no hc0] <;> rfl) | (rw [eEnc_at hc0, if_pos hc1] <;> rfl) | (rw [eEnc_at hc0, if_neg hc1, hcc] <;> rfl) | (rw [eEnc_at hc0, if_neg hc1] <;> rfl))), (rd_eq (T := tInt) (x := 0) ⟨rfl, (by first | omega | (dsimp only; omega))⟩ (by first | (rw [eEnc_no hc0] <;> rfl) | (rw [eEnc_at hc0, if_pos hc1] <;> rfl) | (rw [eEnc_at hc0, if_neg hc1, hcc] <;> rfl) | (rw [eEnc_at hc0, if_neg hc1] <;> rfl)))⟩
end Go.Proofs.YtmelbclhkkbmiaaGreat.K
