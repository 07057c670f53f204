/- Contracts of functions of the program, each proved by a walk through its operations, for all memory and all arguments that the theorem names. Printed by a program of mine. -/
import Derived.Test.YtmelbclhkkbmiaaGreatF6
import Derived.Test.YtmelbclhkkbmiaaGreatK13
set_option linter.unusedVariables false
set_option linter.unusedSimpArgs false
set_option maxRecDepth 100000
namespace Go.Proofs.YtmelbclhkkbmiaaGreat.K
open Go Go.RowKit

theorem c_group_tape (I : Imm) {cst : List Value} (t : ATape) (ht : tTape.rd I cst t) {css : List Value} (s : ASeal) (hs : tSeal.rd I css s) {Arows : Option Addr} {crows : Nat} (rows : List (List UInt8)) (hrows : Sl (tSl tU8) I Arows crows rows) (hr : rows.length ≤ 1000000) : Con Tryz.prog 30 [.agg cst.toArray, .agg css.toArray, .slice Arows rows.length crows].toArray I [] (Ret2 (tTape.g) (tInt.o) ((gTape t s rows).1) ((gTape t s rows).2)) := by
 have hsmrows := hrows.small
 obtain ⟨At_2, ct_2, rfl, ft_0, ft_1, ft_2⟩ := ht
 have hsmt_2 := ft_2.small
 obtain ⟨As_4, cs_4, rfl, fs_0, fs_1, fs_2, fs_3, fs_4⟩ := hs
 have hsms_4 := fs_4.small
 refine Con.enter (n := 72) (L := [(0, .agg [.int .i64 t.label, .int .i64 t.cap, .slice At_2 t.blocks.length ct_2, .bool t.lost].toArray), (1, .agg [.int .i64 s.number, .int .i64 s.index, .int .i64 s.data, .int .i64 s.parity, .slice As_4 s.labels.length cs_4].toArray), (2, .slice Arows rows.length crows)]) Tryz.func30 rfl rfl (Nat.le_of_ble_eq_true rfl) rfl (fun E => ?_)
 refine RunC.sr ?_
 refine Run.box (cs := [.int .i64 t.label, .int .i64 t.cap, .slice At_2 t.blocks.length ct_2, .bool t.lost]) rfl rfl rfl rfl rfl (by decide) (fun g3 => ?_)
 refine Run.box (cs := [.int .i64 s.number, .int .i64 s.index, .int .i64 s.data, .int .i64 s.parity, .slice As_4 s.labels.length cs_4]) rfl rfl rfl rfl rfl (by decide) (fun g4 => ?_)
 refine Run.alloc (cs := [.int .i64 0, .int .i64 0, .slice none 0 0, .bool false]) rfl Tryz.zeroValue45 rfl rfl rfl (by decide) (fun g6_1 => ?_)
 refine Run.as ?_
 refine Run.nx ?_
 refine RunC.sr ?_
 refine Run.lit (vs := [(0, .int .u8 ((80 : UInt8).toNat : Int))]) (cs := [.int .u8 ((80 : UInt8).toNat : Int)]) (el := 5) (sz := 1) rfl rfl (fun w => by simp [Instr.buildSlice, Tryz.runUnderlying42, Tryz.sizeOf5, Tryz.zeroValue5, Instr.fill, Value.cells, newRow, (show Array.range 1 = #[0] from rfl)]) rfl (by simp [maxLen]) rfl rfl (by decide) (fun g16 => ?_)
 have hlit2 : tU8.all I [.int .u8 ((80 : UInt8).toNat : Int)] [(80 : UInt8)] := (all_snoc (T := tU8) all_nil rfl)
 refine Run.convS (own' := [blk g6_1 [.int .i64 0, .int .i64 0, .slice none 0 0, .bool false] 45, blk g4 [.int .i64 s.number, .int .i64 s.index, .int .i64 s.data, .int .i64 s.parity, .slice As_4 s.labels.length cs_4] 38, blk g3 [.int .i64 t.label, .int .i64 t.cap, .slice At_2 t.blocks.length ct_2, .bool t.lost] 45]) 0 rfl rfl Tryz.underlying42 Tryz.underlying5 rfl rfl (by decide) rfl rfl (by decide) (fun J3 hleJ3 hfzJ3 => ?_)
 have hslJ3 : Sl tU8 J3 (some ⟨g16, 0, none⟩) 1 ([(80 : UInt8)]) := Sl.of_rowN hfzJ3 rfl rfl (hlit2.mono hleJ3)
 refine Run.m (v := .agg [.int .i64 1, .int .i64 0, .int .i64 0, .slice (some ⟨g16, 0, none⟩) 1 1].toArray) (y_build (vs := [(0, .int .i64 1), (3, .slice (some ⟨g16, 0, none⟩) 1 1)]) rfl rfl (fun w => by simp [Instr.build, Tryz.zeroValue63, Tryz.runUnderlying63, Tryz.sizeOf3, Tryz.sizeOf42, Instr.fill, Value.cells])) ?_
 refine Run.lit (vs := [(0, .agg [.int .i64 1, .int .i64 0, .int .i64 0, .slice (some ⟨g16, 0, none⟩) 1 1].toArray)]) (cs := [.int .i64 1, .int .i64 0, .int .i64 0, .slice (some ⟨g16, 0, none⟩) 1 1]) (el := 63) (sz := 4) rfl rfl (fun w => by simp [Instr.buildSlice, Tryz.runUnderlying140, Tryz.sizeOf63, Tryz.zeroValue63, Instr.fill, Value.cells, newRow, (show Array.range 4 = #[0, 1, 2, 3] from rfl)]) rfl (by simp [maxLen]) rfl rfl (by decide) (fun g19 => ?_)
 refine Run.as ?_
 refine Run.nx ?_
 refine RunC.seq ?_
 refine RunC.sr ?_
 refine Run.mv ?_
 refine Run.m (y_len rfl Tryz.runUnderlying43 rfl) ?_
 refine Run.mv ?_
 refine Run.nx ?_
 refine RunC.block ?_
 have hlit4 : tUnit.all J3 [.int .i64 1, .int .i64 0, .int .i64 0, .slice (some ⟨g16, 0, none⟩) 1 1] [(⟨1, 0, 0, [(80 : UInt8)]⟩ : AUnit)] := (all_snoc (T := tUnit) all_nil ⟨_, _, rfl, (by first | omega | (dsimp only; omega)), (by first | omega | (dsimp only; omega)), (by first | omega | (dsimp only; omega)), hslJ3⟩)
 obtain ⟨Inv0, hInv0⟩ : ∃ Inv : Nat → Act → World → Prop, ∀ mm aa ww, Inv mm aa ww ↔ (∃ (k : Nat) (u : List (AUnit)) (Au : Option Addr) (cu : Nat) (clu : List Value) (J : Imm), (J3.le J) ∧ (tUnit.all J clu u) ∧ (k ≤ rows.length) ∧ (u = [(⟨1, 0, 0, [80]⟩ : AUnit)] ++ (rows.take k).map (fun b => (⟨6, 0, 0, b⟩ : AUnit))) ∧ (u.length = k + 1) ∧ (mm = (rows.length - k)) ∧ Frm aa 72 [(3, .pointer (some ⟨g3, 0, none⟩)), (4, .pointer (some ⟨g4, 0, none⟩)), (6, .pointer (some ⟨g6_1, 0, none⟩)), (7, .int .i64 0), (20, .slice Arows rows.length crows), (21, .int .i64 (rows.length : Int)), (22, .int .i64 (k : Int)), (8, .slice Au u.length cu)] ∧ S E ww J [row (.slice Au u.length cu) 63 4 clu, blk g6_1 [.int .i64 0, .int .i64 0, .slice none 0 0, .bool false] 45, blk g4 [.int .i64 s.number, .int .i64 s.index, .int .i64 s.data, .int .i64 s.parity, .slice As_4 s.labels.length cs_4] 38, blk g3 [.int .i64 t.label, .int .i64 t.cap, .slice At_2 t.blocks.length ct_2, .bool t.lost] 45]) := ⟨_, fun _ _ _ => Iff.rfl⟩
 refine RunC.loopX Inv0 (fun aa ww hF hS => ⟨_, (hInv0 _ _ _).2 ⟨0, [(⟨1, 0, 0, [(80 : UInt8)]⟩ : AUnit)], (some ⟨g19, 0, none⟩), 1, [.int .i64 1, .int .i64 0, .int .i64 0, .slice (some ⟨g16, 0, none⟩) 1 1], J3, (Imm.le.refl _), hlit4, (by omega), (by simp), (by simp), rfl, hF.sub (Sub.of rfl), hS.sub (perm_self _)⟩⟩) ?_
 intro mm0 aa ww hv
 obtain ⟨k, u, Au, cu, clu, J, hJ_le, hu, hk, hu_, hul, hmm_, hF, hS⟩ := (hInv0 _ _ _).1 hv
 clear hv
 refine RunC.go ?_ hF hS
 clear hF hS aa ww
 refine RunC.sr ?_
 refine Run.m (v := .bool (decide ((k : Int) < (rows.length : Int)))) (y_bin rfl rfl rfl bn_lss) ?_
 refine Run.nx ?_
 refine RunC.seq ?_
 refine RunC.cond rfl (fun hc0 => ?_) (fun hc0 => ?_)
 ·
  try simp only [z1, z2, z3, z4, z5, z6, z7, z8, z9, z10, z11, z12, z13, z14, z15, z16] at hc0
  refine RunC.skip ?_
  refine RunQ.next ?_
  refine RunC.seq ?_
  refine RunC.block ?_
  refine RunC.sr ?_
  obtain ⟨x24, p24_5, cs24_5, hx24, hp24_5, hcs24_5, hrc24_5⟩ := Sl.at_ (P := Tryz.prog) (T := (tSl tU8)) Tryz.runUnderlying43 Tryz.sizeOf42 (hrows.mono (hleJ3.trans hJ_le)) (k := .i64) (i := (k : Int)) (by omega) (by omega)
  replace hx24 : rows[k]? = some x24 := hx24
  obtain ⟨A24_5_0, c24_5_0, rfl, f24_5_0⟩ := hcs24_5
  have hsm24_5_0 := f24_5_0.small
  refine Run.m (v := .pointer (some p24_5)) (y_index rfl rfl rfl hp24_5) ?_
  refine Run.m (v := .slice A24_5_0 x24.length c24_5_0) (y_load1 rfl Tryz.isAgg42 rfl (RCells.hd hrc24_5)) ?_
  refine Run.as ?_
  refine Run.nx ?_
  refine RunC.region ?_
  refine Run.mv ?_
  refine Run.mv ?_
  refine Run.m (v := .agg [.int .i64 6, .int .i64 0, .int .i64 0, .slice A24_5_0 x24.length c24_5_0].toArray) (y_build (vs := [(0, .int .i64 6), (3, .slice A24_5_0 x24.length c24_5_0)]) rfl rfl (fun w => by simp [Instr.build, Tryz.zeroValue63, Tryz.runUnderlying63, Tryz.sizeOf3, Tryz.sizeOf42, Instr.fill, Value.cells])) ?_
  refine Run.lit (vs := [(0, .agg [.int .i64 6, .int .i64 0, .int .i64 0, .slice A24_5_0 x24.length c24_5_0].toArray)]) (cs := [.int .i64 6, .int .i64 0, .int .i64 0, .slice A24_5_0 x24.length c24_5_0]) (el := 63) (sz := 4) rfl rfl (fun w => by simp [Instr.buildSlice, Tryz.runUnderlying140, Tryz.sizeOf63, Tryz.zeroValue63, Instr.fill, Value.cells, newRow, (show Array.range 4 = #[0, 1, 2, 3] from rfl)]) rfl (by simp [maxLen]) rfl rfl (by decide) (fun g29 => ?_)
  have hlit6 : tUnit.all J [.int .i64 6, .int .i64 0, .int .i64 0, .slice A24_5_0 x24.length c24_5_0] [(⟨6, 0, 0, x24⟩ : AUnit)] := (all_snoc (T := tUnit) all_nil ⟨_, _, rfl, (by first | omega | (dsimp only; omega)), (by first | omega | (dsimp only; omega)), (by first | omega | (dsimp only; omega)), f24_5_0⟩)
  have hall7 : tUnit.all J (clu ++ ([.int .i64 6, .int .i64 0, .int .i64 0, .slice A24_5_0 x24.length c24_5_0])) (u ++ ([(⟨6, 0, 0, x24⟩ : AUnit)])) := all_append hu hlit6
  refine Run.append (by_ := 48) (ys := [.int .i64 6, .int .i64 0, .int .i64 0, .slice A24_5_0 x24.length c24_5_0]) (k := 1) (own' := [row (.slice (some ⟨g29, 0, none⟩) 1 1) 63 4 ([.int .i64 6, .int .i64 0, .int .i64 0, .slice A24_5_0 x24.length c24_5_0]), blk g6_1 [.int .i64 0, .int .i64 0, .slice none 0 0, .bool false] 45, blk g4 [.int .i64 s.number, .int .i64 s.index, .int .i64 s.data, .int .i64 s.parity, .slice As_4 s.labels.length cs_4] 38, blk g3 [.int .i64 t.label, .int .i64 t.cap, .slice At_2 t.blocks.length ct_2, .bool t.lost] 45]) 1 rfl rfl rfl Tryz.runUnderlying140 (.inl Tryz.runUnderlying140) Tryz.sizeOf63 Tryz.typeInfo63 rfl Tryz.zeroValue63 rfl rfl rfl (fun w hS => src_own hS (i := 0) rfl) (row_len hlit6 (by first | rfl | (simp; done) | (simp; omega)) rfl) (all_one hlit6) ((u ++ ([(⟨6, 0, 0, x24⟩ : AUnit)])).length) (by first | (simp; done) | (simp; omega)) (by first | (simp; omega) | (simp at *; omega)) (by simp [maxLen]; omega) rfl rfl (by decide) (fun A30_7 c30_7 => ?_)
  refine Run.weak Sub.refl (perm_take (i := 0) rfl (perm_take (i := 1) rfl (perm_take (i := 1) rfl (perm_take (i := 1) rfl (perm_nil _))))) ?_
  refine Run.as ?_
  refine Run.nil ?_
  refine RunQ.inB ?_
  refine RunQ.next ?_
  refine RunC.region ?_
  refine Run.m (v := .int .i64 ((k : Int) + 1)) (y_bin rfl rfl rfl (bn_add (by omega) (by omega))) ?_
  refine Run.mv ?_
  refine Run.nil ?_
  exact RunQ.thenI (fun aa ww hF hS => ⟨_, (by omega), (hInv0 _ _ _).2 ⟨(k + 1), (u ++ ([(⟨6, 0, 0, x24⟩ : AUnit)])), A30_7, c30_7, clu ++ ([.int .i64 6, .int .i64 0, .int .i64 0, .slice A24_5_0 x24.length c24_5_0]), J, hJ_le, hall7, (by omega), (by rw [hu_, take_snoc' hx24, List.map_append]; simp), (by simp; omega), rfl, hF.sub (Sub.of rfl), hS.sub (perm_self _)⟩⟩)
 ·
  try simp only [z1, z2, z3, z4, z5, z6, z7, z8, z9, z10, z11, z12, z13, z14, z15, z16] at hc0
  refine RunC.exit ?_
  refine RunQ.pass (fun h => by cases h) ?_
  refine RunQ.pass (fun h => by cases h) ?_
  refine RunQ.out ?_
  refine RunQ.next ?_
  refine RunC.sr ?_
  refine Run.mv ?_
  refine Run.m (v := .agg [.int .i64 s.number, .int .i64 s.index, .int .i64 s.data, .int .i64 s.parity, .slice As_4 s.labels.length cs_4].toArray) (y_loadBA 2 rfl Tryz.isAgg38 Tryz.sizeOf38 rfl rfl rfl rfl) ?_
  refine Run.call (own1 := []) (own2 := [row (.slice Au u.length cu) 63 4 clu, blk g6_1 [.int .i64 0, .int .i64 0, .slice none 0 0, .bool false] 45, blk g4 [.int .i64 s.number, .int .i64 s.index, .int .i64 s.data, .int .i64 s.parity, .slice As_4 s.labels.length cs_4] 38, blk g3 [.int .i64 t.label, .int .i64 t.cap, .slice At_2 t.blocks.length ct_2, .bool t.lost] 45]) (en_func rfl Tryz.call81 rfl) (c_record_SealBytes _ s ⟨_, _, rfl, fs_0, fs_1, fs_2, fs_3, (fs_4.mono (hleJ3.trans hJ_le))⟩) (List.Perm.refl _) rfl rfl (by decide) (fun J8 o8 v8 hleJ8 hq8 => ?_)
  obtain ⟨yr8_0, Ar8_0, cr8_0, clr8_0, er8_0, rfl, rfl, hr8_0⟩ := hq8
  obtain rfl : (if sRight s = true then sBytes s else []) = yr8_0 := er8_0.symm
  refine Run.m (v := .agg [.int .i64 5, .int .i64 0, .int .i64 0, .slice Ar8_0 ((if sRight s = true then sBytes s else []).length) cr8_0].toArray) (y_build (vs := [(0, .int .i64 5), (3, .slice Ar8_0 ((if sRight s = true then sBytes s else []).length) cr8_0)]) rfl rfl (fun w => by simp [Instr.build, Tryz.zeroValue63, Tryz.runUnderlying63, Tryz.sizeOf3, Tryz.sizeOf42, Instr.fill, Value.cells])) ?_
  refine Run.freezeR 0 rfl (own' := [row (.slice Au u.length cu) 63 4 clu, blk g6_1 [.int .i64 0, .int .i64 0, .slice none 0 0, .bool false] 45, blk g4 [.int .i64 s.number, .int .i64 s.index, .int .i64 s.data, .int .i64 s.parity, .slice As_4 s.labels.length cs_4] 38, blk g3 [.int .i64 t.label, .int .i64 t.cap, .slice At_2 t.blocks.length ct_2, .bool t.lost] 45]) rfl (fun J9 hleJ9 hfzJ9 => ?_)
  have hslJ9 : Sl tU8 J9 Ar8_0 cr8_0 (if sRight s = true then sBytes s else []) := Sl.of_rowN hfzJ9 rfl rfl (hr8_0.mono hleJ9)
  refine Run.lit (vs := [(0, .agg [.int .i64 5, .int .i64 0, .int .i64 0, .slice Ar8_0 ((if sRight s = true then sBytes s else []).length) cr8_0].toArray)]) (cs := [.int .i64 5, .int .i64 0, .int .i64 0, .slice Ar8_0 ((if sRight s = true then sBytes s else []).length) cr8_0]) (el := 63) (sz := 4) rfl rfl (fun w => by simp [Instr.buildSlice, Tryz.runUnderlying140, Tryz.sizeOf63, Tryz.zeroValue63, Instr.fill, Value.cells, newRow, (show Array.range 4 = #[0, 1, 2, 3] from rfl)]) rfl (by simp [maxLen]) rfl rfl (by decide) (fun g36 => ?_)
  have hlit10 : tUnit.all J9 [.int .i64 5, .int .i64 0, .int .i64 0, .slice Ar8_0 ((if sRight s = true then sBytes s else []).length) cr8_0] [(⟨5, 0, 0, (if sRight s = true then sBytes s else [])⟩ : AUnit)] := (all_snoc (T := tUnit) all_nil ⟨_, _, rfl, (by first | omega | (dsimp only; omega)), (by first | omega | (dsimp only; omega)), (by first | omega | (dsimp only; omega)), hslJ9⟩)
  have hall11 : tUnit.all J9 (clu ++ ([.int .i64 5, .int .i64 0, .int .i64 0, .slice Ar8_0 ((if sRight s = true then sBytes s else []).length) cr8_0])) (u ++ ([(⟨5, 0, 0, (if sRight s = true then sBytes s else [])⟩ : AUnit)])) := all_append (hu.mono (hleJ8.trans hleJ9)) hlit10
  refine Run.append (by_ := 48) (ys := [.int .i64 5, .int .i64 0, .int .i64 0, .slice Ar8_0 ((if sRight s = true then sBytes s else []).length) cr8_0]) (k := 1) (own' := [row (.slice (some ⟨g36, 0, none⟩) 1 1) 63 4 ([.int .i64 5, .int .i64 0, .int .i64 0, .slice Ar8_0 ((if sRight s = true then sBytes s else []).length) cr8_0]), blk g6_1 [.int .i64 0, .int .i64 0, .slice none 0 0, .bool false] 45, blk g4 [.int .i64 s.number, .int .i64 s.index, .int .i64 s.data, .int .i64 s.parity, .slice As_4 s.labels.length cs_4] 38, blk g3 [.int .i64 t.label, .int .i64 t.cap, .slice At_2 t.blocks.length ct_2, .bool t.lost] 45]) 1 rfl rfl rfl Tryz.runUnderlying140 (.inl Tryz.runUnderlying140) Tryz.sizeOf63 Tryz.typeInfo63 rfl Tryz.zeroValue63 rfl rfl rfl (fun w hS => src_own hS (i := 0) rfl) (row_len hlit10 (by first | rfl | (simp; done) | (simp; omega)) rfl) (all_one hlit10) ((u ++ ([(⟨5, 0, 0, (if sRight s = true then sBytes s else [])⟩ : AUnit)])).length) (by first | (simp; done) | (simp; omega)) (by first | (simp; omega) | (simp at *; omega)) (by simp [maxLen]; omega) rfl rfl (by decide) (fun A37_11 c37_11 => ?_)
  refine Run.weak Sub.refl (perm_take (i := 0) rfl (perm_take (i := 1) rfl (perm_take (i := 1) rfl (perm_take (i := 1) rfl (perm_nil _))))) ?_
  refine Run.as ?_
  refine Run.nx ?_
  refine RunC.sr ?_
  refine Run.m (v := .pointer (some ⟨g3, 0, none⟩)) (y_fieldAddr rfl rfl Tryz.runUnderlying45 rfl Tryz.sizeOf3 (by decide) rfl) ?_
  refine Run.m (v := .int .i64 t.label) (y_loadB1 3 rfl Tryz.isAgg3 rfl rfl rfl) ?_
  refine Run.m (v := .pointer (some ⟨g3, 1, none⟩)) (y_fieldAddr rfl rfl Tryz.runUnderlying45 rfl Tryz.sizeOf3 (by decide) rfl) ?_
  refine Run.m (v := .int .i64 t.cap) (y_loadB1 3 rfl Tryz.isAgg3 rfl rfl rfl) ?_
  refine Run.m (v := .agg [.int .i64 t.label, .int .i64 t.cap, .slice none 0 0, .bool false].toArray) (y_build (vs := [(0, .int .i64 t.label), (1, .int .i64 t.cap)]) rfl rfl (fun w => by simp [Instr.build, Tryz.zeroValue45, Tryz.runUnderlying45, Tryz.sizeOf3, Tryz.sizeOf4, Tryz.sizeOf43, Instr.fill, Value.cells])) ?_
  refine Run.alloc (cs := [.int .i64 0, .int .i64 0, .slice none 0 0, .bool false]) rfl Tryz.zeroValue45 rfl rfl rfl (by decide) (fun g11_12 => ?_)
  refine Run.storeB (vs := [.int .i64 t.label, .int .i64 t.cap, .slice none 0 0, .bool false]) (cs' := [.int .i64 t.label, .int .i64 t.cap, .slice none 0 0, .bool false]) (own' := [row (.slice A37_11 ((u ++ ([(⟨5, 0, 0, (if sRight s = true then sBytes s else [])⟩ : AUnit)])).length) c37_11) 63 4 (clu ++ ([.int .i64 5, .int .i64 0, .int .i64 0, .slice Ar8_0 ((if sRight s = true then sBytes s else []).length) cr8_0])), blk g6_1 [.int .i64 0, .int .i64 0, .slice none 0 0, .bool false] 45, blk g4 [.int .i64 s.number, .int .i64 s.index, .int .i64 s.data, .int .i64 s.parity, .slice As_4 s.labels.length cs_4] 38, blk g3 [.int .i64 t.label, .int .i64 t.cap, .slice At_2 t.blocks.length ct_2, .bool t.lost] 45]) 0 rfl rfl rfl Tryz.sizeOf45 rfl rfl rfl rfl rfl (Nat.le_of_ble_eq_true rfl) rfl rfl rfl ?_
  refine Run.nx ?_
  refine RunC.seq ?_
  refine RunC.sr ?_
  refine Run.mv ?_
  refine Run.m (y_len rfl Tryz.runUnderlying140 rfl) ?_
  refine Run.mv ?_
  refine Run.nx ?_
  refine RunC.block ?_
  refine RunC.freezeR 1 rfl (own' := [blk g11_12 [.int .i64 t.label, .int .i64 t.cap, .slice none 0 0, .bool false] 45, blk g6_1 [.int .i64 0, .int .i64 0, .slice none 0 0, .bool false] 45, blk g4 [.int .i64 s.number, .int .i64 s.index, .int .i64 s.data, .int .i64 s.parity, .slice As_4 s.labels.length cs_4] 38, blk g3 [.int .i64 t.label, .int .i64 t.cap, .slice At_2 t.blocks.length ct_2, .bool t.lost] 45]) rfl (fun J13 hleJ13 hfzJ13 => ?_)
  have hslJ13 : Sl tUnit J13 A37_11 c37_11 (u ++ ([(⟨5, 0, 0, (if sRight s = true then sBytes s else [])⟩ : AUnit)])) := Sl.of_rowN hfzJ13 rfl rfl (hall11.mono hleJ13)
  refine RunC.nilrow none 42 1 ?_
  have hU : (u ++ ([(⟨5, 0, 0, (if sRight s = true then sBytes s else [])⟩ : AUnit)])) = gUnits s rows := by rw [hu_, List.take_of_length_le (by omega)]; rfl
  have hXl : (u ++ ([(⟨5, 0, 0, (if sRight s = true then sBytes s else [])⟩ : AUnit)])).length = rows.length + 2 := by simp; omega
  obtain ⟨Inv1, hInv1⟩ : ∃ Inv : Nat → Act → World → Prop, ∀ mm aa ww, Inv mm aa ww ↔ (∃ (j : Nat) (o : List (List UInt8)) (Ao : Option Addr) (co : Nat) (clo : List Value) (J2 : Imm), (J13.le J2) ∧ ((tSl tU8).all J2 clo o) ∧ (j ≤ (u ++ ([(⟨5, 0, 0, (if sRight s = true then sBytes s else [])⟩ : AUnit)])).length) ∧ (putL t.label j ((gUnits s rows).drop j) o = gPut t s rows) ∧ (o.length = j) ∧ (mm = ((u ++ ([(⟨5, 0, 0, (if sRight s = true then sBytes s else [])⟩ : AUnit)])).length - j)) ∧ Frm aa 72 [(3, .pointer (some ⟨g3, 0, none⟩)), (6, .pointer (some ⟨g6_1, 0, none⟩)), (11, .pointer (some ⟨g11_12, 0, none⟩)), (43, .slice A37_11 ((u ++ ([(⟨5, 0, 0, (if sRight s = true then sBytes s else [])⟩ : AUnit)])).length) c37_11), (44, .int .i64 ((u ++ ([(⟨5, 0, 0, (if sRight s = true then sBytes s else [])⟩ : AUnit)])).length : Int)), (45, .int .i64 (j : Int))] ∧ S E ww J2 [blk g11_12 [.int .i64 t.label, .int .i64 t.cap, .slice Ao o.length co, .bool false] 45, row (.slice Ao o.length co) 42 1 clo, blk g6_1 [.int .i64 0, .int .i64 0, .slice none 0 0, .bool false] 45, blk g4 [.int .i64 s.number, .int .i64 s.index, .int .i64 s.data, .int .i64 s.parity, .slice As_4 s.labels.length cs_4] 38, blk g3 [.int .i64 t.label, .int .i64 t.cap, .slice At_2 t.blocks.length ct_2, .bool t.lost] 45]) := ⟨_, fun _ _ _ => Iff.rfl⟩
  refine RunC.loopX Inv1 (fun aa ww hF hS => ⟨_, (hInv1 _ _ _).2 ⟨0, ([] : List (List UInt8)), none, 0, [], J13, (Imm.le.refl _), all_nil, (by omega), rfl, rfl, rfl, hF.sub (Sub.of rfl), hS.sub (perm_take (i := 1) rfl (perm_take (i := 0) rfl (perm_take (i := 0) rfl (perm_take (i := 0) rfl (perm_take (i := 0) rfl (perm_nil _))))))⟩⟩) ?_
  intro mm1 aa ww hv
  obtain ⟨j, o, Ao, co, clo, J2, hJ2_le, ho, hj, hg, hol, hmm_, hF, hS⟩ := (hInv1 _ _ _).1 hv
  clear hv
  refine RunC.go ?_ hF hS
  clear hF hS aa ww
  refine RunC.sr ?_
  refine Run.m (v := .bool (decide ((j : Int) < ((u ++ ([(⟨5, 0, 0, (if sRight s = true then sBytes s else [])⟩ : AUnit)])).length : Int)))) (y_bin rfl rfl rfl bn_lss) ?_
  refine Run.nx ?_
  refine RunC.seq ?_
  refine RunC.cond rfl (fun hc1 => ?_) (fun hc1 => ?_)
  ·
   try simp only [z1, z2, z3, z4, z5, z6, z7, z8, z9, z10, z11, z12, z13, z14, z15, z16] at hc1
   refine RunC.skip ?_
   refine RunQ.next ?_
   refine RunC.seq ?_
   refine RunC.block ?_
   refine RunC.sr ?_
   refine Run.mv ?_
   obtain ⟨x48, p48_14, cs48_14, hx48, hp48_14, hcs48_14, hrc48_14⟩ := Sl.at_ (P := Tryz.prog) (T := tUnit) Tryz.runUnderlying140 Tryz.sizeOf63 (hslJ13.mono hJ2_le) (k := .i64) (i := (j : Int)) (by omega) (by omega)
   replace hx48 : (u ++ ([(⟨5, 0, 0, (if sRight s = true then sBytes s else [])⟩ : AUnit)]))[j]? = some x48 := hx48
   obtain ⟨A48_14_3, c48_14_3, rfl, f48_14_0, f48_14_1, f48_14_2, f48_14_3⟩ := hcs48_14
   have hsm48_14_3 := f48_14_3.small
   have hxu : (gUnits s rows)[j]? = some x48 := by rw [← hU]; exact hx48
   refine Run.m (v := .pointer (some p48_14)) (y_index rfl rfl rfl hp48_14) ?_
   refine Run.m (v := .agg [.int .i64 x48.kind, .int .i64 x48.label, .int .i64 x48.number, .slice A48_14_3 x48.load.length c48_14_3].toArray) (y_loadA (cs := [.int .i64 x48.kind, .int .i64 x48.label, .int .i64 x48.number, .slice A48_14_3 x48.load.length c48_14_3]) rfl Tryz.isAgg63 Tryz.sizeOf63 rfl hrc48_14 rfl) ?_
   refine Run.alloc (cs := [.int .i64 0, .int .i64 0, .int .i64 0, .slice none 0 0]) rfl Tryz.zeroValue63 rfl rfl rfl (by decide) (fun g13_15 => ?_)
   refine Run.as ?_
   refine Run.storeB (vs := [.int .i64 x48.kind, .int .i64 x48.label, .int .i64 x48.number, .slice A48_14_3 x48.load.length c48_14_3]) (cs' := [.int .i64 x48.kind, .int .i64 x48.label, .int .i64 x48.number, .slice A48_14_3 x48.load.length c48_14_3]) (own' := [blk g11_12 [.int .i64 t.label, .int .i64 t.cap, .slice Ao o.length co, .bool false] 45, row (.slice Ao o.length co) 42 1 clo, blk g6_1 [.int .i64 0, .int .i64 0, .slice none 0 0, .bool false] 45, blk g4 [.int .i64 s.number, .int .i64 s.index, .int .i64 s.data, .int .i64 s.parity, .slice As_4 s.labels.length cs_4] 38, blk g3 [.int .i64 t.label, .int .i64 t.cap, .slice At_2 t.blocks.length ct_2, .bool t.lost] 45]) 0 rfl rfl rfl Tryz.sizeOf63 rfl rfl rfl rfl rfl (Nat.le_of_ble_eq_true rfl) rfl rfl rfl ?_
   refine Run.nx ?_
   refine RunC.sr ?_
   refine Run.m (v := .pointer (some ⟨g3, 0, none⟩)) (y_fieldAddr rfl rfl Tryz.runUnderlying45 rfl Tryz.sizeOf3 (by decide) rfl) ?_
   refine Run.m (v := .int .i64 t.label) (y_loadB1 5 rfl Tryz.isAgg3 rfl rfl rfl) ?_
   refine Run.mv ?_
   refine Run.m (v := .pointer (some ⟨g13_15, 1, none⟩)) (y_fieldAddr rfl rfl Tryz.runUnderlying63 rfl Tryz.sizeOf3 (by decide) rfl) ?_
   refine Run.storeB (vs := [.int .i64 t.label]) (cs' := [.int .i64 x48.kind, .int .i64 t.label, .int .i64 x48.number, .slice A48_14_3 x48.load.length c48_14_3]) (own' := [blk g11_12 [.int .i64 t.label, .int .i64 t.cap, .slice Ao o.length co, .bool false] 45, row (.slice Ao o.length co) 42 1 clo, blk g6_1 [.int .i64 0, .int .i64 0, .slice none 0 0, .bool false] 45, blk g4 [.int .i64 s.number, .int .i64 s.index, .int .i64 s.data, .int .i64 s.parity, .slice As_4 s.labels.length cs_4] 38, blk g3 [.int .i64 t.label, .int .i64 t.cap, .slice At_2 t.blocks.length ct_2, .bool t.lost] 45]) 0 rfl rfl rfl Tryz.sizeOf3 rfl rfl rfl rfl rfl (Nat.le_of_ble_eq_true rfl) rfl rfl rfl ?_
   refine Run.m (v := .pointer (some ⟨g13_15, 2, none⟩)) (y_fieldAddr rfl rfl Tryz.runUnderlying63 rfl Tryz.sizeOf3 (by decide) rfl) ?_
   refine Run.storeB (vs := [.int .i64 (j : Int)]) (cs' := [.int .i64 x48.kind, .int .i64 t.label, .int .i64 (j : Int), .slice A48_14_3 x48.load.length c48_14_3]) (own' := [blk g11_12 [.int .i64 t.label, .int .i64 t.cap, .slice Ao o.length co, .bool false] 45, row (.slice Ao o.length co) 42 1 clo, blk g6_1 [.int .i64 0, .int .i64 0, .slice none 0 0, .bool false] 45, blk g4 [.int .i64 s.number, .int .i64 s.index, .int .i64 s.data, .int .i64 s.parity, .slice As_4 s.labels.length cs_4] 38, blk g3 [.int .i64 t.label, .int .i64 t.cap, .slice At_2 t.blocks.length ct_2, .bool t.lost] 45]) 0 rfl rfl rfl Tryz.sizeOf3 rfl rfl rfl rfl rfl (Nat.le_of_ble_eq_true rfl) rfl rfl rfl ?_
   refine Run.nx ?_
   refine RunC.sr ?_
   refine Run.m (v := .agg [.int .i64 x48.kind, .int .i64 t.label, .int .i64 (j : Int), .slice A48_14_3 x48.load.length c48_14_3].toArray) (y_loadBA 0 rfl Tryz.isAgg63 Tryz.sizeOf63 rfl rfl rfl rfl) ?_
   refine Run.call (own1 := []) (own2 := [blk g13_15 [.int .i64 x48.kind, .int .i64 t.label, .int .i64 (j : Int), .slice A48_14_3 x48.load.length c48_14_3] 63, blk g11_12 [.int .i64 t.label, .int .i64 t.cap, .slice Ao o.length co, .bool false] 45, row (.slice Ao o.length co) 42 1 clo, blk g6_1 [.int .i64 0, .int .i64 0, .slice none 0 0, .bool false] 45, blk g4 [.int .i64 s.number, .int .i64 s.index, .int .i64 s.data, .int .i64 s.parity, .slice As_4 s.labels.length cs_4] 38, blk g3 [.int .i64 t.label, .int .i64 t.cap, .slice At_2 t.blocks.length ct_2, .bool t.lost] 45]) (en_func rfl Tryz.call82 rfl) (c_frame_Put _ (⟨x48.kind, t.label, (j : Int), x48.load⟩ : AUnit) ⟨_, _, rfl, f48_14_0, ft_0, (by first | omega | (dsimp only; omega)), f48_14_3⟩) (List.Perm.refl _) rfl rfl (by decide) (fun J16 o16 v16 hleJ16 hq16 => ?_)
   obtain ⟨yr16_0, Ar16_0, cr16_0, clr16_0, csr16_1, er16_0, rfl, rfl, hr16_0, hr16_1⟩ := hq16
   obtain rfl : (if uCheck (⟨x48.kind, t.label, (j : Int), x48.load⟩ : AUnit) = 0 then fMade (⟨x48.kind, t.label, (j : Int), x48.load⟩ : AUnit) else []) = yr16_0 := er16_0.symm
   replace hr16_1 : tInt.rd J16 csr16_1 (uCheck (⟨x48.kind, t.label, (j : Int), x48.load⟩ : AUnit)) := hr16_1
   obtain ⟨rfl, f16_1_0⟩ := hr16_1
   refine Run.mv ?_
   refine Run.m (y_extract rfl rfl rfl) ?_
   refine Run.m (y_extract rfl rfl rfl) ?_
   refine Run.as ?_
   refine Run.as ?_
   refine Run.nx ?_
   refine RunC.seq ?_
   refine RunC.sr ?_
   refine Run.mv ?_
   refine Run.m (v := .bool (decide ((uCheck (⟨x48.kind, t.label, (j : Int), x48.load⟩ : AUnit)) ≠ 0))) (y_bin rfl rfl rfl bn_neq) ?_
   refine Run.nx ?_
   refine RunC.cond rfl (fun hc2 => ?_) (fun hc2 => ?_)
   ·
    try simp only [z1, z2, z3, z4, z5, z6, z7, z8, z9, z10, z11, z12, z13, z14, z15, z16] at hc2
    have hgp : gPut t s rows = ([], uCheck (atU t.label j x48)) := by rw [← hg, putL_at hxu, if_neg (show ¬ uCheck (atU t.label j x48) = 0 from hc2)]
    have hgt : gTape t s rows = (tZero, uCheck (atU t.label j x48)) := by rw [gTape, hgp, if_neg (show ¬ uCheck (atU t.label j x48) = 0 from hc2)]
    refine RunC.sr ?_
    refine Run.m (v := .agg [.int .i64 0, .int .i64 0, .slice none 0 0, .bool false].toArray) (y_build (vs := []) rfl rfl (fun w => by simp [Instr.build, Tryz.zeroValue45, Tryz.runUnderlying45, Tryz.sizeOf3, Tryz.sizeOf4, Tryz.sizeOf43, Instr.fill, Value.cells])) ?_
    refine Run.mv ?_
    refine Run.storeB (vs := [.int .i64 0, .int .i64 0, .slice none 0 0, .bool false]) (cs' := [.int .i64 0, .int .i64 0, .slice none 0 0, .bool false]) (own' := [row (.slice Ar16_0 ((if uCheck (⟨x48.kind, t.label, (j : Int), x48.load⟩ : AUnit) = 0 then fMade (⟨x48.kind, t.label, (j : Int), x48.load⟩ : AUnit) else []).length) cr16_0) 5 1 clr16_0, blk g13_15 [.int .i64 x48.kind, .int .i64 t.label, .int .i64 (j : Int), .slice A48_14_3 x48.load.length c48_14_3] 63, blk g11_12 [.int .i64 t.label, .int .i64 t.cap, .slice Ao o.length co, .bool false] 45, row (.slice Ao o.length co) 42 1 clo, blk g4 [.int .i64 s.number, .int .i64 s.index, .int .i64 s.data, .int .i64 s.parity, .slice As_4 s.labels.length cs_4] 38, blk g3 [.int .i64 t.label, .int .i64 t.cap, .slice At_2 t.blocks.length ct_2, .bool t.lost] 45]) 4 rfl rfl rfl Tryz.sizeOf45 rfl rfl rfl rfl rfl (Nat.le_of_ble_eq_true rfl) rfl rfl rfl ?_
    refine Run.as ?_
    refine Run.nx ?_
    refine RunC.ret ?_
    refine RunQ.pass (fun h => by cases h) ?_
    refine RunQ.inR ?_
    refine RunQ.pass (fun h => by cases h) ?_
    refine RunQ.pass (fun h => by cases h) ?_
    refine RunQ.inR ?_
    refine RunQ.pass (fun h => by cases h) ?_
    refine RunQ.end2 (.inl rfl) Tryz.results30 (rv_cellA (i := 0) rfl Tryz.isAgg45 Tryz.sizeOf45 rfl rfl) (rv_tmp rfl) ?_
    exact ⟨rfl, _, _, rfl, (rd_eq (T := tTape) (x := (⟨0, 0, ([] : List (List UInt8)), false⟩ : ATape)) ⟨_, _, rfl, (by first | omega | (dsimp only; omega)), (by first | omega | (dsimp only; omega)), sl_nil0⟩ (by rw [hgt] <;> rfl)), (rd_eq (T := tInt) (x := (uCheck (⟨x48.kind, t.label, (j : Int), x48.load⟩ : AUnit))) ⟨rfl, f16_1_0⟩ (by rw [hgt] <;> rfl))⟩
   ·
    try simp only [z1, z2, z3, z4, z5, z6, z7, z8, z9, z10, z11, z12, z13, z14, z15, z16] at hc2
    refine RunC.skip ?_
    refine RunQ.next ?_
    refine RunC.region ?_
    refine Run.m (v := .pointer (some ⟨g11_12, 2, none⟩)) (y_fieldAddr rfl rfl Tryz.runUnderlying45 rfl Tryz.sizeOf43 (by decide) rfl) ?_
    refine Run.m (v := .slice Ao o.length co) (y_loadB1 2 rfl Tryz.isAgg43 rfl rfl rfl) ?_
    refine Run.mv ?_
    refine Run.freezeR 0 rfl (own' := [blk g13_15 [.int .i64 x48.kind, .int .i64 t.label, .int .i64 (j : Int), .slice A48_14_3 x48.load.length c48_14_3] 63, blk g11_12 [.int .i64 t.label, .int .i64 t.cap, .slice Ao o.length co, .bool false] 45, row (.slice Ao o.length co) 42 1 clo, blk g6_1 [.int .i64 0, .int .i64 0, .slice none 0 0, .bool false] 45, blk g4 [.int .i64 s.number, .int .i64 s.index, .int .i64 s.data, .int .i64 s.parity, .slice As_4 s.labels.length cs_4] 38, blk g3 [.int .i64 t.label, .int .i64 t.cap, .slice At_2 t.blocks.length ct_2, .bool t.lost] 45]) rfl (fun J17 hleJ17 hfzJ17 => ?_)
    have hslJ17 : Sl tU8 J17 Ar16_0 cr16_0 (if uCheck (⟨x48.kind, t.label, (j : Int), x48.load⟩ : AUnit) = 0 then fMade (⟨x48.kind, t.label, (j : Int), x48.load⟩ : AUnit) else []) := Sl.of_rowN hfzJ17 rfl rfl (hr16_0.mono hleJ17)
    refine Run.lit (vs := [(0, .slice Ar16_0 ((if uCheck (⟨x48.kind, t.label, (j : Int), x48.load⟩ : AUnit) = 0 then fMade (⟨x48.kind, t.label, (j : Int), x48.load⟩ : AUnit) else []).length) cr16_0)]) (cs := [.slice Ar16_0 ((if uCheck (⟨x48.kind, t.label, (j : Int), x48.load⟩ : AUnit) = 0 then fMade (⟨x48.kind, t.label, (j : Int), x48.load⟩ : AUnit) else []).length) cr16_0]) (el := 42) (sz := 1) rfl rfl (fun w => by simp [Instr.buildSlice, Tryz.runUnderlying43, Tryz.sizeOf42, Tryz.zeroValue42, Instr.fill, Value.cells, newRow, (show Array.range 1 = #[0] from rfl)]) rfl (by simp [maxLen]) rfl rfl (by decide) (fun g67 => ?_)
    have hlit18 : (tSl tU8).all J17 [.slice Ar16_0 ((if uCheck (⟨x48.kind, t.label, (j : Int), x48.load⟩ : AUnit) = 0 then fMade (⟨x48.kind, t.label, (j : Int), x48.load⟩ : AUnit) else []).length) cr16_0] [(if uCheck (⟨x48.kind, t.label, (j : Int), x48.load⟩ : AUnit) = 0 then fMade (⟨x48.kind, t.label, (j : Int), x48.load⟩ : AUnit) else [])] := (all_snoc (T := (tSl tU8)) all_nil ⟨_, _, rfl, hslJ17⟩)
    have hall19 : (tSl tU8).all J17 (clo ++ ([.slice Ar16_0 ((if uCheck (⟨x48.kind, t.label, (j : Int), x48.load⟩ : AUnit) = 0 then fMade (⟨x48.kind, t.label, (j : Int), x48.load⟩ : AUnit) else []).length) cr16_0])) (o ++ ([(if uCheck (⟨x48.kind, t.label, (j : Int), x48.load⟩ : AUnit) = 0 then fMade (⟨x48.kind, t.label, (j : Int), x48.load⟩ : AUnit) else [])])) := all_append (ho.mono (hleJ16.trans hleJ17)) hlit18
    refine Run.append (by_ := 24) (ys := [.slice Ar16_0 ((if uCheck (⟨x48.kind, t.label, (j : Int), x48.load⟩ : AUnit) = 0 then fMade (⟨x48.kind, t.label, (j : Int), x48.load⟩ : AUnit) else []).length) cr16_0]) (k := 1) (own' := [row (.slice (some ⟨g67, 0, none⟩) 1 1) 42 1 ([.slice Ar16_0 ((if uCheck (⟨x48.kind, t.label, (j : Int), x48.load⟩ : AUnit) = 0 then fMade (⟨x48.kind, t.label, (j : Int), x48.load⟩ : AUnit) else []).length) cr16_0]), blk g13_15 [.int .i64 x48.kind, .int .i64 t.label, .int .i64 (j : Int), .slice A48_14_3 x48.load.length c48_14_3] 63, blk g11_12 [.int .i64 t.label, .int .i64 t.cap, .slice Ao o.length co, .bool false] 45, blk g6_1 [.int .i64 0, .int .i64 0, .slice none 0 0, .bool false] 45, blk g4 [.int .i64 s.number, .int .i64 s.index, .int .i64 s.data, .int .i64 s.parity, .slice As_4 s.labels.length cs_4] 38, blk g3 [.int .i64 t.label, .int .i64 t.cap, .slice At_2 t.blocks.length ct_2, .bool t.lost] 45]) 3 rfl rfl rfl Tryz.runUnderlying43 (.inl Tryz.runUnderlying43) Tryz.sizeOf42 Tryz.typeInfo42 rfl Tryz.zeroValue42 rfl rfl rfl (fun w hS => src_own hS (i := 0) rfl) (row_len hlit18 (by first | rfl | (simp; done) | (simp; omega)) rfl) (all_one hlit18) ((o ++ ([(if uCheck (⟨x48.kind, t.label, (j : Int), x48.load⟩ : AUnit) = 0 then fMade (⟨x48.kind, t.label, (j : Int), x48.load⟩ : AUnit) else [])])).length) (by first | (simp; done) | (simp; omega)) (by first | (simp; omega) | (simp at *; omega)) (by simp [maxLen]; omega) rfl rfl (by decide) (fun A68_19 c68_19 => ?_)
    refine Run.weak Sub.refl (perm_take (i := 0) rfl (perm_take (i := 1) rfl (perm_take (i := 1) rfl (perm_take (i := 1) rfl (perm_take (i := 1) rfl (perm_take (i := 1) rfl (perm_nil _))))))) ?_
    refine Run.m (v := .pointer (some ⟨g11_12, 2, none⟩)) (y_fieldAddr rfl rfl Tryz.runUnderlying45 rfl Tryz.sizeOf43 (by decide) rfl) ?_
    refine Run.storeB (vs := [.slice A68_19 ((o ++ ([(if uCheck (⟨x48.kind, t.label, (j : Int), x48.load⟩ : AUnit) = 0 then fMade (⟨x48.kind, t.label, (j : Int), x48.load⟩ : AUnit) else [])])).length) c68_19]) (cs' := [.int .i64 t.label, .int .i64 t.cap, .slice A68_19 ((o ++ ([(if uCheck (⟨x48.kind, t.label, (j : Int), x48.load⟩ : AUnit) = 0 then fMade (⟨x48.kind, t.label, (j : Int), x48.load⟩ : AUnit) else [])])).length) c68_19, .bool false]) (own' := [row (.slice A68_19 ((o ++ ([(if uCheck (⟨x48.kind, t.label, (j : Int), x48.load⟩ : AUnit) = 0 then fMade (⟨x48.kind, t.label, (j : Int), x48.load⟩ : AUnit) else [])])).length) c68_19) 42 1 (clo ++ ([.slice Ar16_0 ((if uCheck (⟨x48.kind, t.label, (j : Int), x48.load⟩ : AUnit) = 0 then fMade (⟨x48.kind, t.label, (j : Int), x48.load⟩ : AUnit) else []).length) cr16_0])), blk g13_15 [.int .i64 x48.kind, .int .i64 t.label, .int .i64 (j : Int), .slice A48_14_3 x48.load.length c48_14_3] 63, blk g6_1 [.int .i64 0, .int .i64 0, .slice none 0 0, .bool false] 45, blk g4 [.int .i64 s.number, .int .i64 s.index, .int .i64 s.data, .int .i64 s.parity, .slice As_4 s.labels.length cs_4] 38, blk g3 [.int .i64 t.label, .int .i64 t.cap, .slice At_2 t.blocks.length ct_2, .bool t.lost] 45]) 2 rfl rfl rfl Tryz.sizeOf43 rfl rfl rfl rfl rfl (Nat.le_of_ble_eq_true rfl) rfl rfl rfl ?_
    refine Run.nil ?_
    refine RunQ.inB ?_
    refine RunQ.next ?_
    refine RunC.region ?_
    refine Run.m (v := .int .i64 ((j : Int) + 1)) (y_bin rfl rfl rfl (bn_add (by omega) (by omega))) ?_
    refine Run.mv ?_
    refine Run.nil ?_
    exact RunQ.thenI (fun aa ww hF hS => ⟨_, (by omega), (hInv1 _ _ _).2 ⟨(j + 1), (o ++ ([(if uCheck (⟨x48.kind, t.label, (j : Int), x48.load⟩ : AUnit) = 0 then fMade (⟨x48.kind, t.label, (j : Int), x48.load⟩ : AUnit) else [])])), A68_19, c68_19, clo ++ ([.slice Ar16_0 ((if uCheck (⟨x48.kind, t.label, (j : Int), x48.load⟩ : AUnit) = 0 then fMade (⟨x48.kind, t.label, (j : Int), x48.load⟩ : AUnit) else []).length) cr16_0]), J17, ((hJ2_le.trans hleJ16).trans hleJ17), hall19, (by omega), (by rw [if_pos hc2, ← hg, putL_at hxu, if_pos (show uCheck (atU t.label j x48) = 0 from hc2)]; rfl), (by simp; omega), rfl, hF.sub (Sub.of rfl), hS.sub (perm_take (i := 0) rfl (perm_take (i := 0) rfl (perm_take (i := 1) rfl (perm_take (i := 1) rfl (perm_take (i := 1) rfl (perm_nil _))))))⟩⟩)
  ·
   try simp only [z1, z2, z3, z4, z5, z6, z7, z8, z9, z10, z11, z12, z13, z14, z15, z16] at hc1
   have hgp : gPut t s rows = (o, 0) := by rw [← hg, List.drop_eq_nil_of_le (by rw [← hU]; omega)]; rfl
   have hgt : gTape t s rows = (⟨t.label, t.cap, o, false⟩, 0) := by rw [gTape, hgp]; rfl
   refine RunC.exit ?_
   refine RunQ.pass (fun h => by cases h) ?_
   refine RunQ.pass (fun h => by cases h) ?_
   refine RunQ.out ?_
   refine RunQ.next ?_
   refine RunC.sr ?_
   refine Run.m (v := .agg [.int .i64 t.label, .int .i64 t.cap, .slice Ao o.length co, .bool false].toArray) (y_loadBA 0 rfl Tryz.isAgg45 Tryz.sizeOf45 rfl rfl rfl rfl) ?_
   refine Run.storeB (vs := [.int .i64 t.label, .int .i64 t.cap, .slice Ao o.length co, .bool false]) (cs' := [.int .i64 t.label, .int .i64 t.cap, .slice Ao o.length co, .bool false]) (own' := [blk g11_12 [.int .i64 t.label, .int .i64 t.cap, .slice Ao o.length co, .bool false] 45, row (.slice Ao o.length co) 42 1 clo, blk g4 [.int .i64 s.number, .int .i64 s.index, .int .i64 s.data, .int .i64 s.parity, .slice As_4 s.labels.length cs_4] 38, blk g3 [.int .i64 t.label, .int .i64 t.cap, .slice At_2 t.blocks.length ct_2, .bool t.lost] 45]) 2 rfl rfl rfl Tryz.sizeOf45 rfl rfl rfl rfl rfl (Nat.le_of_ble_eq_true rfl) rfl rfl rfl ?_
   refine Run.as ?_
   refine Run.nx ?_
   refine RunC.ret ?_
   refine RunQ.freezeR 2 rfl (own' := [blk g6_1 [.int .i64 t.label, .int .i64 t.cap, .slice Ao o.length co, .bool false] 45, blk g11_12 [.int .i64 t.label, .int .i64 t.cap, .slice Ao o.length co, .bool false] 45, blk g4 [.int .i64 s.number, .int .i64 s.index, .int .i64 s.data, .int .i64 s.parity, .slice As_4 s.labels.length cs_4] 38, blk g3 [.int .i64 t.label, .int .i64 t.cap, .slice At_2 t.blocks.length ct_2, .bool t.lost] 45]) rfl (fun J20 hleJ20 hfzJ20 => ?_)
   have hslJ20 : Sl (tSl tU8) J20 Ao co o := Sl.of_rowN hfzJ20 rfl rfl (ho.mono hleJ20)
   refine RunQ.end2 (.inl rfl) Tryz.results30 (rv_cellA (i := 0) rfl Tryz.isAgg45 Tryz.sizeOf45 rfl rfl) (rv_tmp rfl) ?_
   exact ⟨rfl, _, _, rfl, (rd_eq (T := tTape) (x := (⟨t.label, t.cap, o, false⟩ : ATape)) ⟨_, _, rfl, ft_0, ft_1, hslJ20⟩ (by rw [hgt] <;> rfl)), (rd_eq (T := tInt) (x := 0) ⟨rfl, (by first | omega | (dsimp only; omega))⟩ (by rw [hgt] <;> rfl))⟩

theorem c_group_Make (I : Imm) {Ad : Option Addr} {cd : Nat} (d : List ATape) (hd : Sl tTape I Ad cd d) {Ab : Option Addr} {cb : Nat} (b : List ATape) (hb : Sl tTape I Ab cb b) (n : Int) (hn : I64 n) (hsd : d.length ≤ 1000) (hsb : b.length ≤ 1000) (hszd : ∀ t ∈ d, ∀ x ∈ t.blocks, x.length ≤ 1000000) (hln : tLenL d ≤ 1000000) : Con Tryz.prog 8 [.slice Ad d.length cd, .slice Ab b.length cb, .int .i64 n].toArray I [] (Ret2 ((tSl tTape).o) (tInt.o) ((gMake d b n).1) ((gMake d b n).2)) := by
 have hsmd := hd.small
 have hsmb := hb.small
 refine Con.enter (n := 76) (L := [(0, .slice Ad d.length cd), (1, .slice Ab b.length cb), (2, .int .i64 n)]) Tryz.func8 rfl rfl (Nat.le_of_ble_eq_true rfl) rfl (fun E => ?_)
 refine RunC.sr ?_
 refine Run.as ?_
 refine Run.as ?_
 refine Run.nx ?_
 refine RunC.sr ?_
 refine Run.mv ?_
 refine Run.mv ?_
 refine Run.m (y_len rfl Tryz.runUnderlying22 rfl) ?_
 refine Run.mv ?_
 refine Run.m (y_len rfl Tryz.runUnderlying22 rfl) ?_
 refine Run.mv ?_
 refine Run.mv ?_
 refine Run.lit (vs := [(0, .slice Ad d.length cd), (1, .slice Ab b.length cb)]) (cs := [.slice Ad d.length cd, .slice Ab b.length cb]) (el := 22) (sz := 1) rfl rfl (fun w => by simp [Instr.buildSlice, Tryz.runUnderlying132, Tryz.sizeOf22, Tryz.zeroValue22, Instr.fill, Value.cells, newRow, (show Array.range 2 = #[0, 1] from rfl)]) rfl (by simp [maxLen]) rfl rfl (by decide) (fun g24 => ?_)
 have hlit1 : (tSl tTape).all I [.slice Ad d.length cd, .slice Ab b.length cb] [d, b] := (all_snoc (T := (tSl tTape)) (all_snoc (T := (tSl tTape)) all_nil ⟨_, _, rfl, hd⟩) ⟨_, _, rfl, hb⟩)
 refine Run.freezeR 0 rfl (own' := []) rfl (fun J2 hleJ2 hfzJ2 => ?_)
 have hslJ2 : Sl (tSl tTape) J2 (some ⟨g24, 0, none⟩) 2 ([d, b]) := Sl.of_rowN hfzJ2 (by simp) rfl (hlit1.mono hleJ2)
 refine Run.cast (s := 24) (v' := .slice (some ⟨g24, 0, none⟩) ([d, b]).length 2) rfl (congrArg (fun n => Value.slice (some ⟨g24, 0, none⟩) n 2) (show 2 = _ from (show ([d, b]).length = 2 from (by simp)).symm)) ?_
 refine Run.call0 (en_func rfl Tryz.call27 rfl) (c_Concat_apiTape _ ([d, b]) hslJ2 (by simp; omega)) rfl rfl (by decide) (fun J3 o3 v3 hleJ3 hq3 => ?_)
 obtain ⟨rfl, cs3a, rfl, h3a⟩ := hq3
 replace h3a : (tSl tTape).rd J3 cs3a (([d, b]).flatten) := h3a
 obtain ⟨A3a_0, c3a_0, rfl, f3a_0⟩ := h3a
 have hsm3a_0 := f3a_0.small
 refine Run.call0 (en_func rfl Tryz.call26 rfl) (c_group_labels _ (([d, b]).flatten) f3a_0 (by simp; omega)) rfl rfl (by decide) (fun J4 o4 v4 hleJ4 hq4 => ?_)
 obtain ⟨rfl, cs4a, rfl, h4a⟩ := hq4
 replace h4a : (tSl tInt).rd J4 cs4a (gLabels (([d, b]).flatten)) := h4a
 obtain ⟨A4a_0, c4a_0, rfl, f4a_0⟩ := h4a
 have hsm4a_0 := f4a_0.small
 refine Run.m (v := .agg [.int .i64 n, .int .i64 0, .int .i64 (d.length : Int), .int .i64 (b.length : Int), .slice A4a_0 ((gLabels (([d, b]).flatten)).length) c4a_0].toArray) (y_build (vs := [(0, .int .i64 n), (2, .int .i64 (d.length : Int)), (3, .int .i64 (b.length : Int)), (4, .slice A4a_0 ((gLabels (([d, b]).flatten)).length) c4a_0)]) rfl rfl (fun w => by simp [Instr.build, Tryz.zeroValue38, Tryz.runUnderlying38, Tryz.sizeOf3, Tryz.sizeOf36, Instr.fill, Value.cells])) ?_
 refine Run.alloc (cs := [.int .i64 0, .int .i64 0, .int .i64 0, .int .i64 0, .slice none 0 0]) rfl Tryz.zeroValue38 rfl rfl rfl (by decide) (fun g8_5 => ?_)
 refine Run.storeB (vs := [.int .i64 n, .int .i64 0, .int .i64 (d.length : Int), .int .i64 (b.length : Int), .slice A4a_0 ((gLabels (([d, b]).flatten)).length) c4a_0]) (cs' := [.int .i64 n, .int .i64 0, .int .i64 (d.length : Int), .int .i64 (b.length : Int), .slice A4a_0 ((gLabels (([d, b]).flatten)).length) c4a_0]) (own' := []) 0 rfl rfl rfl Tryz.sizeOf38 rfl rfl rfl rfl rfl (Nat.le_of_ble_eq_true rfl) rfl rfl rfl ?_
 refine Run.nx ?_
 refine RunC.seq ?_
 refine RunC.sr ?_
 refine Run.mv ?_
 refine Run.mv ?_
 refine Run.m (v := .agg [.int .i64 n, .int .i64 0, .int .i64 (d.length : Int), .int .i64 (b.length : Int), .slice A4a_0 ((gLabels (([d, b]).flatten)).length) c4a_0].toArray) (y_loadBA 0 rfl Tryz.isAgg38 Tryz.sizeOf38 rfl rfl rfl rfl) ?_
 refine Run.callV (en_func rfl Tryz.call28 rfl) (conv_int (c_group_check _ d (hd.mono ((hleJ2.trans hleJ3).trans hleJ4)) b (hb.mono ((hleJ2.trans hleJ3).trans hleJ4)) (⟨n, 0, (d.length : Int), (b.length : Int), (gLabels (([d, b]).flatten))⟩ : ASeal) ⟨_, _, rfl, hn, (by first | omega | (dsimp only; omega)), (by first | omega | (dsimp only; omega)), (by first | omega | (dsimp only; omega)), f4a_0⟩ hszd hln)) rfl rfl (by decide) (fun hI6 => ?_)
 refine Run.as ?_
 refine Run.nx ?_
 refine RunC.sr ?_
 refine Run.mv ?_
 refine Run.m (v := .bool (decide ((gCheck d b (⟨n, 0, (d.length : Int), (b.length : Int), (gLabels (([d, b]).flatten))⟩ : ASeal)) ≠ 0))) (y_bin rfl rfl rfl bn_neq) ?_
 refine Run.nx ?_
 refine RunC.cond rfl (fun hc0 => ?_) (fun hc0 => ?_)
 ·
  try simp only [z1, z2, z3, z4, z5, z6, z7, z8, z9, z10, z11, z12, z13, z14, z15, z16] at hc0
  have hgm : gMake d b n = ([], gCheck d b (gSeal d b n)) := by rw [gMake, if_pos (show ¬ gCheck d b (gSeal d b n) = 0 from hc0)]
  refine RunC.sr ?_
  refine Run.mv ?_
  refine Run.as ?_
  refine Run.as ?_
  refine Run.nx ?_
  refine RunC.ret ?_
  refine RunQ.pass (fun h => by cases h) ?_
  refine RunQ.weak Sub.refl (perm_nil _) ?_
  refine RunQ.fin2 (.inl rfl) Tryz.results8 (rv_tmp rfl) (rv_tmp rfl) ?_
  exact ⟨rfl, _, _, rfl, (rd_eq (T := (tSl tTape)) (x := ([] : List ATape)) ⟨_, _, rfl, sl_nil0⟩ (by rw [hgm] <;> rfl)), (rd_eq (T := tInt) (x := (gCheck d b (⟨n, 0, (d.length : Int), (b.length : Int), (gLabels (([d, b]).flatten))⟩ : ASeal))) ⟨rfl, hI6⟩ (by rw [hgm] <;> rfl))⟩
 ·
  try simp only [z1, z2, z3, z4, z5, z6, z7, z8, z9, z10, z11, z12, z13, z14, z15, z16] at hc0
  have hgc : gCheck d b (gSeal d b n) = 0 := hc0
  refine RunC.skip ?_
  refine RunQ.next ?_
  refine RunC.sr ?_
  refine Run.mv ?_
  refine Run.mv ?_
  refine Run.m (y_len rfl Tryz.runUnderlying22 rfl) ?_
  refine Run.call0 (en_func rfl Tryz.call29 rfl) (c_stripe_Parity _ d (hd.mono ((hleJ2.trans hleJ3).trans hleJ4)) (b.length : Int) (by omega) (by omega) hln) rfl rfl (by decide) (fun J7 o7 v7 hleJ7 hq7 => ?_)
  obtain ⟨rfl, cs7a, cs7b, rfl, h7a, h7b⟩ := hq7
  replace h7a : (tSl (tSl (tSl tU8))).rd J7 cs7a ((sParity d (b.length : Int)).1) := h7a
  obtain ⟨A7a_0, c7a_0, rfl, f7a_0⟩ := h7a
  have hsm7a_0 := f7a_0.small
  replace h7b : tInt.rd J7 cs7b ((sParity d (b.length : Int)).2) := h7b
  obtain ⟨rfl, f7b_0⟩ := h7b
  refine Run.mv ?_
  refine Run.m (y_extract rfl rfl rfl) ?_
  refine Run.m (y_extract rfl rfl rfl) ?_
  refine Run.as ?_
  refine Run.as ?_
  refine Run.nx ?_
  refine RunC.seq ?_
  refine RunC.sr ?_
  refine Run.mv ?_
  refine Run.m (v := .bool (decide ((sParity d (b.length : Int)).2 ≠ 0))) (y_bin rfl rfl rfl bn_neq) ?_
  refine Run.nx ?_
  refine RunC.cond rfl (fun hc1 => ?_) (fun hc1 => ?_)
  ·
   try simp only [z1, z2, z3, z4, z5, z6, z7, z8, z9, z10, z11, z12, z13, z14, z15, z16] at hc1
   have hgm : gMake d b n = ([], (sParity d (b.length : Int)).2) := by rw [gMake, if_neg (fun h => h hgc), if_pos hc1]
   refine RunC.sr ?_
   refine Run.mv ?_
   refine Run.as ?_
   refine Run.as ?_
   refine Run.nx ?_
   refine RunC.ret ?_
   refine RunQ.pass (fun h => by cases h) ?_
   refine RunQ.weak Sub.refl (perm_nil _) ?_
   refine RunQ.fin2 (.inl rfl) Tryz.results8 (rv_tmp rfl) (rv_tmp rfl) ?_
   exact ⟨rfl, _, _, rfl, (rd_eq (T := (tSl tTape)) (x := ([] : List ATape)) ⟨_, _, rfl, sl_nil0⟩ (by rw [hgm] <;> rfl)), (rd_eq (T := tInt) (x := (sParity d (b.length : Int)).2) ⟨rfl, f7b_0⟩ (by rw [hgm] <;> rfl))⟩
  ·
   try simp only [z1, z2, z3, z4, z5, z6, z7, z8, z9, z10, z11, z12, z13, z14, z15, z16] at hc1
   have hspl := sParity_len hc1
   have hnn := tLenL_nonneg d
   refine RunC.skip ?_
   refine RunQ.next ?_
   refine RunC.sr ?_
   refine Run.as ?_
   refine Run.nx ?_
   refine RunC.seq ?_
   refine RunC.sr ?_
   refine Run.mv ?_
   refine Run.m (y_len rfl Tryz.runUnderlying22 rfl) ?_
   refine Run.mv ?_
   refine Run.nx ?_
   refine RunC.weak (L' := [(0, .slice Ad d.length cd), (6, .slice none 0 0), (7, .int .i64 0), (8, .pointer (some ⟨g8_5, 0, none⟩)), (10, .slice A7a_0 (((sParity d (b.length : Int)).1).length) c7a_0), (12, .slice none 0 0), (45, .slice Ab b.length cb), (46, .int .i64 (b.length : Int)), (47, .int .i64 0)]) (Sub.of rfl) (perm_self _) ?_
   refine RunC.block ?_
   refine RunC.nilrow none 45 4 ?_
   obtain ⟨Inv0, hInv0⟩ : ∃ Inv : Nat → Act → World → Prop, ∀ mm aa ww, Inv mm aa ww ↔ (∃ (k : Nat) (iv : Int) (o : List (ATape)) (Ao : Option Addr) (co : Nat) (clo : List Value) (J : Imm), (J7.le J) ∧ (tTape.all J clo o) ∧ (k ≤ b.length) ∧ (I64 iv) ∧ (o.length = k) ∧ (gTapes (d.length : Int) (gSeal d b n) (sParity d (b.length : Int)).1 k (b.drop k) o = gTapes (d.length : Int) (gSeal d b n) (sParity d (b.length : Int)).1 0 b []) ∧ (mm = (b.length - k)) ∧ Frm aa 76 [(0, .slice Ad d.length cd), (8, .pointer (some ⟨g8_5, 0, none⟩)), (10, .slice A7a_0 (((sParity d (b.length : Int)).1).length) c7a_0), (45, .slice Ab b.length cb), (46, .int .i64 (b.length : Int)), (47, .int .i64 (k : Int)), (12, .slice Ao o.length co)] ∧ S E ww J [row (.slice Ao o.length co) 45 4 clo, blk g8_5 [.int .i64 n, .int .i64 iv, .int .i64 (d.length : Int), .int .i64 (b.length : Int), .slice A4a_0 ((gLabels (([d, b]).flatten)).length) c4a_0] 38]) := ⟨_, fun _ _ _ => Iff.rfl⟩
   refine RunC.loopX Inv0 (fun aa ww hF hS => ⟨_, (hInv0 _ _ _).2 ⟨0, 0, ([] : List ATape), none, 0, [], J7, (Imm.le.refl _), all_nil, (by omega), (by decide), rfl, rfl, rfl, hF.sub (Sub.of rfl), hS.sub (perm_self _)⟩⟩) ?_
   intro mm0 aa ww hv
   obtain ⟨k, iv, o, Ao, co, clo, J, hJ_le, ho, hk, hiv, hol, hg, hmm_, hF, hS⟩ := (hInv0 _ _ _).1 hv
   clear hv
   refine RunC.go ?_ hF hS
   clear hF hS aa ww
   refine RunC.sr ?_
   refine Run.m (v := .bool (decide ((k : Int) < (b.length : Int)))) (y_bin rfl rfl rfl bn_lss) ?_
   refine Run.nx ?_
   refine RunC.seq ?_
   refine RunC.cond rfl (fun hc2 => ?_) (fun hc2 => ?_)
   ·
    try simp only [z1, z2, z3, z4, z5, z6, z7, z8, z9, z10, z11, z12, z13, z14, z15, z16] at hc2
    refine RunC.skip ?_
    refine RunQ.next ?_
    refine RunC.seq ?_
    refine RunC.block ?_
    refine RunC.sr ?_
    refine Run.mv ?_
    obtain ⟨x50, p50_8, cs50_8, hx50, hp50_8, hcs50_8, hrc50_8⟩ := Sl.at_ (P := Tryz.prog) (T := tTape) Tryz.runUnderlying22 Tryz.sizeOf45 (hb.mono ((((hleJ2.trans hleJ3).trans hleJ4).trans hleJ7).trans hJ_le)) (k := .i64) (i := (k : Int)) (by omega) (by omega)
    replace hx50 : b[k]? = some x50 := hx50
    obtain ⟨A50_8_2, c50_8_2, rfl, f50_8_0, f50_8_1, f50_8_2⟩ := hcs50_8
    have hsm50_8_2 := f50_8_2.small
    have hklt := (List.getElem?_eq_some_iff.1 hx50).1
    refine Run.m (v := .pointer (some p50_8)) (y_index rfl rfl rfl hp50_8) ?_
    refine Run.m (v := .agg [.int .i64 x50.label, .int .i64 x50.cap, .slice A50_8_2 x50.blocks.length c50_8_2, .bool x50.lost].toArray) (y_loadA (cs := [.int .i64 x50.label, .int .i64 x50.cap, .slice A50_8_2 x50.blocks.length c50_8_2, .bool x50.lost]) rfl Tryz.isAgg45 Tryz.sizeOf45 rfl hrc50_8 rfl) ?_
    refine Run.alloc (cs := [.int .i64 0, .int .i64 0, .slice none 0 0, .bool false]) rfl Tryz.zeroValue45 rfl rfl rfl (by decide) (fun g14_9 => ?_)
    refine Run.as ?_
    refine Run.storeB (vs := [.int .i64 x50.label, .int .i64 x50.cap, .slice A50_8_2 x50.blocks.length c50_8_2, .bool x50.lost]) (cs' := [.int .i64 x50.label, .int .i64 x50.cap, .slice A50_8_2 x50.blocks.length c50_8_2, .bool x50.lost]) (own' := [row (.slice Ao o.length co) 45 4 clo, blk g8_5 [.int .i64 n, .int .i64 iv, .int .i64 (d.length : Int), .int .i64 (b.length : Int), .slice A4a_0 ((gLabels (([d, b]).flatten)).length) c4a_0] 38]) 0 rfl rfl rfl Tryz.sizeOf45 rfl rfl rfl rfl rfl (Nat.le_of_ble_eq_true rfl) rfl rfl rfl ?_
    refine Run.nx ?_
    refine RunC.sr ?_
    refine Run.mv ?_
    refine Run.m (y_len rfl Tryz.runUnderlying22 rfl) ?_
    refine Run.mv ?_
    refine Run.m (v := .int .i64 ((d.length : Int) + (k : Int))) (y_bin rfl rfl rfl (bn_add (by omega) (by omega))) ?_
    refine Run.m (v := .pointer (some ⟨g8_5, 1, none⟩)) (y_fieldAddr rfl rfl Tryz.runUnderlying38 rfl Tryz.sizeOf3 (by decide) rfl) ?_
    refine Run.storeB (vs := [.int .i64 ((d.length : Int) + (k : Int))]) (cs' := [.int .i64 n, .int .i64 ((d.length : Int) + (k : Int)), .int .i64 (d.length : Int), .int .i64 (b.length : Int), .slice A4a_0 ((gLabels (([d, b]).flatten)).length) c4a_0]) (own' := [blk g14_9 [.int .i64 x50.label, .int .i64 x50.cap, .slice A50_8_2 x50.blocks.length c50_8_2, .bool x50.lost] 45, row (.slice Ao o.length co) 45 4 clo]) 2 rfl rfl rfl Tryz.sizeOf3 rfl rfl rfl rfl rfl (Nat.le_of_ble_eq_true rfl) rfl rfl rfl ?_
    refine Run.nx ?_
    refine RunC.seq ?_
    refine RunC.freezeB 1 rfl (own' := [blk g8_5 [.int .i64 n, .int .i64 ((d.length : Int) + (k : Int)), .int .i64 (d.length : Int), .int .i64 (b.length : Int), .slice A4a_0 ((gLabels (([d, b]).flatten)).length) c4a_0] 38, row (.slice Ao o.length co) 45 4 clo]) rfl (fun J10 hleJ10 hfzJ10 => ?_)
    refine RunC.regionT [11, 12] [blk g8_5 [.int .i64 n, .int .i64 ((d.length : Int) + (k : Int)), .int .i64 (d.length : Int), .int .i64 (b.length : Int), .slice A4a_0 ((gLabels (([d, b]).flatten)).length) c4a_0] 38] (by kernel_rfl) rfl ?_
    refine RunT.y (v := .agg [.int .i64 x50.label, .int .i64 x50.cap, .slice A50_8_2 x50.blocks.length c50_8_2, .bool x50.lost].toArray) (listed' := #[true, false, false, false, false, false, false, false, false, false, false, false, false]) 0 rfl (by kernel_rfl) (by kernel_rfl) (by kernel_rfl) (by kernel_rfl) rfl (Imm.le.refl _) (perm_take (i := 0) rfl (perm_nil _)) (y_loadA (cs := [.int .i64 x50.label, .int .i64 x50.cap, .slice A50_8_2 x50.blocks.length c50_8_2, .bool x50.lost]) rfl Tryz.isAgg45 Tryz.sizeOf45 rfl (show RCells _ _ [.int .i64 x50.label, .int .i64 x50.cap, .slice A50_8_2 x50.blocks.length c50_8_2, .bool x50.lost] from hfzJ10) rfl) (.plain rfl) rfl (by decide) rfl ?_
    refine RunT.y (v := .agg [.int .i64 n, .int .i64 ((d.length : Int) + (k : Int)), .int .i64 (d.length : Int), .int .i64 (b.length : Int), .slice A4a_0 ((gLabels (([d, b]).flatten)).length) c4a_0].toArray) (listed' := #[true, true, false, false, false, false, false, false, false, false, false, false, false]) 1 rfl (by kernel_rfl) (by kernel_rfl) (by kernel_rfl) (by kernel_rfl) rfl (Imm.le.refl _) (perm_take (i := 0) rfl (perm_nil _)) (y_loadBA 0 rfl Tryz.isAgg38 Tryz.sizeOf38 rfl rfl rfl rfl) (.plain rfl) rfl (by decide) rfl ?_
    refine RunT.p (v := .slice A7a_0 (((sParity d (b.length : Int)).1).length) c7a_0) (listed' := #[true, true, true, false, false, false, false, false, false, false, false, false, false]) 2 rfl (by kernel_rfl) (by kernel_rfl) (by kernel_rfl) rfl (fun _ => ⟨(Imm.le.refl _), (perm_take (i := 0) rfl (perm_nil _))⟩) (y_move rfl rfl) (.plain rfl) rfl (by decide) rfl ?_
    refine RunT.p (v := .int .i64 (k : Int)) (listed' := #[true, true, true, true, false, false, false, false, false, false, false, false, false]) 3 rfl (by kernel_rfl) (by kernel_rfl) (by kernel_rfl) rfl (fun _ => ⟨(Imm.le.refl _), (perm_take (i := 0) rfl (perm_nil _))⟩) (y_move rfl rfl) (.plain rfl) rfl (by decide) rfl ?_
    obtain ⟨x62, p62_11, cs62_11, hx62, hp62_11, hcs62_11, hrc62_11⟩ := Sl.at_ (P := Tryz.prog) (T := (tSl (tSl tU8))) Tryz.runUnderlying75 Tryz.sizeOf43 (f7a_0.mono (hJ_le.trans hleJ10)) (k := .i64) (i := (k : Int)) (by omega) (by omega)
    replace hx62 : ((sParity d (b.length : Int)).1)[k]? = some x62 := hx62
    obtain ⟨A62_11_0, c62_11_0, rfl, f62_11_0⟩ := hcs62_11
    have hsm62_11_0 := f62_11_0.small
    refine RunT.p (v := .pointer (some p62_11)) (listed' := #[true, true, true, true, true, false, false, false, false, false, false, false, false]) 4 rfl (by kernel_rfl) (by kernel_rfl) (by kernel_rfl) rfl (fun _ => ⟨(Imm.le.refl _), (perm_take (i := 0) rfl (perm_nil _))⟩) (y_index rfl rfl rfl hp62_11) (.plain rfl) rfl (by decide) rfl ?_
    refine RunT.y (v := .slice A62_11_0 x62.length c62_11_0) (listed' := #[true, true, true, true, true, true, false, false, false, false, false, false, false]) 5 rfl (by kernel_rfl) (by kernel_rfl) (by kernel_rfl) (by kernel_rfl) rfl (Imm.le.refl _) (perm_take (i := 0) rfl (perm_nil _)) (y_load1 rfl Tryz.isAgg43 rfl (RCells.hd hrc62_11)) (.plain rfl) rfl (by decide) rfl ?_
    refine RunT.step2 (li := #[true, true, true, true, true, true, true, false, false, false, false, false, false]) (lj := #[true, true, true, true, true, true, false, false, false, false, true, false, false]) 6 10 rfl rfl (by kernel_rfl) rfl rfl ?_ ?_
    ·
     refine Run.call0 (en_func rfl Tryz.call30 rfl) (c_group_tape _ x50 ⟨_, _, rfl, f50_8_0, f50_8_1, (f50_8_2.mono hleJ10)⟩ (⟨n, (d.length : Int) + (k : Int), (d.length : Int), (b.length : Int), (gLabels (([d, b]).flatten))⟩ : ASeal) ⟨_, _, rfl, hn, (by first | omega | (dsimp only; omega)), (by first | omega | (dsimp only; omega)), (by first | omega | (dsimp only; omega)), (f4a_0.mono ((hleJ7.trans hJ_le).trans hleJ10))⟩ x62 f62_11_0 (by have := sParity_row (List.mem_of_getElem? hx62); omega)) rfl rfl (by decide) (fun J12 o12 v12 hleJ12 hq12 => ?_)
     obtain ⟨rfl, cs12a, cs12b, rfl, h12a, h12b⟩ := hq12
     replace h12a : tTape.rd J12 cs12a ((gTape x50 (⟨n, (d.length : Int) + (k : Int), (d.length : Int), (b.length : Int), (gLabels (([d, b]).flatten))⟩ : ASeal) x62).1) := h12a
     obtain ⟨A12a_2, c12a_2, rfl, f12a_0, f12a_1, f12a_2⟩ := h12a
     have hsm12a_2 := f12a_2.small
     replace h12b : tInt.rd J12 cs12b ((gTape x50 (⟨n, (d.length : Int) + (k : Int), (d.length : Int), (b.length : Int), (gLabels (([d, b]).flatten))⟩ : ASeal) x62).2) := h12b
     obtain ⟨rfl, f12b_0⟩ := h12b
     refine Run.nil ?_
     refine RunQ.stepEnd (fun _ => ⟨hleJ12, (perm_take (i := 0) rfl (perm_nil _))⟩) ?_
     refine RunT.p (v := .tuple #[.agg [.int .i64 (((gTape x50 (⟨n, (d.length : Int) + (k : Int), (d.length : Int), (b.length : Int), (gLabels (([d, b]).flatten))⟩ : ASeal) x62).1).label), .int .i64 (((gTape x50 (⟨n, (d.length : Int) + (k : Int), (d.length : Int), (b.length : Int), (gLabels (([d, b]).flatten))⟩ : ASeal) x62).1).cap), .slice A12a_2 ((((gTape x50 (⟨n, (d.length : Int) + (k : Int), (d.length : Int), (b.length : Int), (gLabels (([d, b]).flatten))⟩ : ASeal) x62).1).blocks).length) c12a_2, .bool (((gTape x50 (⟨n, (d.length : Int) + (k : Int), (d.length : Int), (b.length : Int), (gLabels (([d, b]).flatten))⟩ : ASeal) x62).1).lost)].toArray, .int .i64 ((gTape x50 (⟨n, (d.length : Int) + (k : Int), (d.length : Int), (b.length : Int), (gLabels (([d, b]).flatten))⟩ : ASeal) x62).2)]) (listed' := #[true, true, true, true, true, true, true, true, false, false, false, false, false]) 7 rfl (by kernel_rfl) (by kernel_rfl) (by kernel_rfl) rfl (fun _ => ⟨hleJ12, (perm_take (i := 0) rfl (perm_nil _))⟩) (y_move rfl rfl) (.plain rfl) rfl (by decide) rfl ?_
     refine RunT.p (v := .agg [.int .i64 (((gTape x50 (⟨n, (d.length : Int) + (k : Int), (d.length : Int), (b.length : Int), (gLabels (([d, b]).flatten))⟩ : ASeal) x62).1).label), .int .i64 (((gTape x50 (⟨n, (d.length : Int) + (k : Int), (d.length : Int), (b.length : Int), (gLabels (([d, b]).flatten))⟩ : ASeal) x62).1).cap), .slice A12a_2 ((((gTape x50 (⟨n, (d.length : Int) + (k : Int), (d.length : Int), (b.length : Int), (gLabels (([d, b]).flatten))⟩ : ASeal) x62).1).blocks).length) c12a_2, .bool (((gTape x50 (⟨n, (d.length : Int) + (k : Int), (d.length : Int), (b.length : Int), (gLabels (([d, b]).flatten))⟩ : ASeal) x62).1).lost)].toArray) (listed' := #[true, true, true, true, true, true, true, true, true, false, false, false, false]) 8 rfl (by kernel_rfl) (by kernel_rfl) (by kernel_rfl) rfl (fun _ => ⟨hleJ12, (perm_take (i := 0) rfl (perm_nil _))⟩) (y_extract rfl rfl rfl) (.plain rfl) rfl (by decide) rfl ?_
     refine RunT.p (v := .int .i64 ((gTape x50 (⟨n, (d.length : Int) + (k : Int), (d.length : Int), (b.length : Int), (gLabels (([d, b]).flatten))⟩ : ASeal) x62).2)) (listed' := #[true, true, true, true, true, true, true, true, true, true, false, false, false]) 9 rfl (by kernel_rfl) (by kernel_rfl) (by kernel_rfl) rfl (fun _ => ⟨hleJ12, (perm_take (i := 0) rfl (perm_nil _))⟩) (y_extract rfl rfl rfl) (.plain rfl) rfl (by decide) rfl ?_
     refine RunT.step (listed' := #[true, true, true, true, true, true, true, true, true, true, true, false, false]) 10 rfl (by kernel_rfl) rfl ?_
     refine Run.alloc (cs := [.int .i64 0, .int .i64 0, .slice none 0 0, .bool false]) rfl Tryz.zeroValue45 rfl rfl rfl (by decide) (fun g15_13 => ?_)
     refine Run.nil ?_
     refine RunQ.stepEnd (fun _ => ⟨hleJ12, (perm_take (i := 1) rfl (perm_nil _))⟩) ?_
     refine RunT.step (listed' := #[true, true, true, true, true, true, true, true, true, true, true, true, false]) 11 rfl (by kernel_rfl) rfl ?_
     refine Run.storeB (vs := [.int .i64 (((gTape x50 (⟨n, (d.length : Int) + (k : Int), (d.length : Int), (b.length : Int), (gLabels (([d, b]).flatten))⟩ : ASeal) x62).1).label), .int .i64 (((gTape x50 (⟨n, (d.length : Int) + (k : Int), (d.length : Int), (b.length : Int), (gLabels (([d, b]).flatten))⟩ : ASeal) x62).1).cap), .slice A12a_2 ((((gTape x50 (⟨n, (d.length : Int) + (k : Int), (d.length : Int), (b.length : Int), (gLabels (([d, b]).flatten))⟩ : ASeal) x62).1).blocks).length) c12a_2, .bool (((gTape x50 (⟨n, (d.length : Int) + (k : Int), (d.length : Int), (b.length : Int), (gLabels (([d, b]).flatten))⟩ : ASeal) x62).1).lost)]) (cs' := [.int .i64 (((gTape x50 (⟨n, (d.length : Int) + (k : Int), (d.length : Int), (b.length : Int), (gLabels (([d, b]).flatten))⟩ : ASeal) x62).1).label), .int .i64 (((gTape x50 (⟨n, (d.length : Int) + (k : Int), (d.length : Int), (b.length : Int), (gLabels (([d, b]).flatten))⟩ : ASeal) x62).1).cap), .slice A12a_2 ((((gTape x50 (⟨n, (d.length : Int) + (k : Int), (d.length : Int), (b.length : Int), (gLabels (([d, b]).flatten))⟩ : ASeal) x62).1).blocks).length) c12a_2, .bool (((gTape x50 (⟨n, (d.length : Int) + (k : Int), (d.length : Int), (b.length : Int), (gLabels (([d, b]).flatten))⟩ : ASeal) x62).1).lost)]) (own' := [blk g8_5 [.int .i64 n, .int .i64 ((d.length : Int) + (k : Int)), .int .i64 (d.length : Int), .int .i64 (b.length : Int), .slice A4a_0 ((gLabels (([d, b]).flatten)).length) c4a_0] 38, row (.slice Ao o.length co) 45 4 clo]) 0 rfl rfl rfl Tryz.sizeOf45 rfl rfl rfl rfl rfl (Nat.le_of_ble_eq_true rfl) rfl rfl rfl ?_
     refine Run.nil ?_
     refine RunQ.stepEnd (fun h => absurd (show false = true from h) Bool.false_ne_true) ?_
     refine RunT.step (listed' := #[true, true, true, true, true, true, true, true, true, true, true, true, true]) 12 rfl (by kernel_rfl) rfl ?_
     refine Run.as ?_
     refine Run.nil ?_
     refine RunQ.stepEnd (fun h => absurd (show false = true from h) Bool.false_ne_true) ?_
     refine RunT.done (by kernel_rfl) ?_
     refine RunQ.next ?_
     refine RunC.seq ?_
     refine RunC.sr ?_
     refine Run.mv ?_
     refine Run.m (v := .bool (decide ((gTape x50 (⟨n, (d.length : Int) + (k : Int), (d.length : Int), (b.length : Int), (gLabels (([d, b]).flatten))⟩ : ASeal) x62).2 ≠ 0))) (y_bin rfl rfl rfl bn_neq) ?_
     refine Run.nx ?_
     refine RunC.cond rfl (fun hc3 => ?_) (fun hc3 => ?_)
     ·
      try simp only [z1, z2, z3, z4, z5, z6, z7, z8, z9, z10, z11, z12, z13, z14, z15, z16] at hc3
      have hgm : gMake d b n = ([], (gTape x50 ⟨n, (d.length : Int) + (k : Int), (d.length : Int), (b.length : Int), gLabels [d, b].flatten⟩ x62).2) := by rw [gMake, if_neg (fun h => h hgc), if_neg (fun h => h hc1), ← hg, gTapes_at (q := ⟨n, (d.length : Int) + (k : Int), (d.length : Int), (b.length : Int), gLabels [d, b].flatten⟩) hx50 hx62 rfl, if_neg hc3]
      refine RunC.sr ?_
      refine Run.mv ?_
      refine Run.as ?_
      refine Run.as ?_
      refine Run.nx ?_
      refine RunC.ret ?_
      refine RunQ.pass (fun h => by cases h) ?_
      refine RunQ.inR ?_
      refine RunQ.pass (fun h => by cases h) ?_
      refine RunQ.pass (fun h => by cases h) ?_
      refine RunQ.inR ?_
      refine RunQ.pass (fun h => by cases h) ?_
      refine RunQ.weak Sub.refl (perm_nil _) ?_
      refine RunQ.fin2 (.inl rfl) Tryz.results8 (rv_tmp rfl) (rv_tmp rfl) ?_
      exact ⟨rfl, _, _, rfl, (rd_eq (T := (tSl tTape)) (x := ([] : List ATape)) ⟨_, _, rfl, sl_nil0⟩ (by rw [hgm] <;> rfl)), (rd_eq (T := tInt) (x := (gTape x50 (⟨n, (d.length : Int) + (k : Int), (d.length : Int), (b.length : Int), (gLabels (([d, b]).flatten))⟩ : ASeal) x62).2) ⟨rfl, f12b_0⟩ (by rw [hgm] <;> rfl))⟩
     ·
      try simp only [z1, z2, z3, z4, z5, z6, z7, z8, z9, z10, z11, z12, z13, z14, z15, z16] at hc3
      refine RunC.skip ?_
      refine RunQ.next ?_
      refine RunC.region ?_
      refine Run.mv ?_
      refine Run.m (v := .agg [.int .i64 (((gTape x50 (⟨n, (d.length : Int) + (k : Int), (d.length : Int), (b.length : Int), (gLabels (([d, b]).flatten))⟩ : ASeal) x62).1).label), .int .i64 (((gTape x50 (⟨n, (d.length : Int) + (k : Int), (d.length : Int), (b.length : Int), (gLabels (([d, b]).flatten))⟩ : ASeal) x62).1).cap), .slice A12a_2 ((((gTape x50 (⟨n, (d.length : Int) + (k : Int), (d.length : Int), (b.length : Int), (gLabels (([d, b]).flatten))⟩ : ASeal) x62).1).blocks).length) c12a_2, .bool (((gTape x50 (⟨n, (d.length : Int) + (k : Int), (d.length : Int), (b.length : Int), (gLabels (([d, b]).flatten))⟩ : ASeal) x62).1).lost)].toArray) (y_loadBA 0 rfl Tryz.isAgg45 Tryz.sizeOf45 rfl rfl rfl rfl) ?_
      refine Run.lit (vs := [(0, .agg [.int .i64 (((gTape x50 (⟨n, (d.length : Int) + (k : Int), (d.length : Int), (b.length : Int), (gLabels (([d, b]).flatten))⟩ : ASeal) x62).1).label), .int .i64 (((gTape x50 (⟨n, (d.length : Int) + (k : Int), (d.length : Int), (b.length : Int), (gLabels (([d, b]).flatten))⟩ : ASeal) x62).1).cap), .slice A12a_2 ((((gTape x50 (⟨n, (d.length : Int) + (k : Int), (d.length : Int), (b.length : Int), (gLabels (([d, b]).flatten))⟩ : ASeal) x62).1).blocks).length) c12a_2, .bool (((gTape x50 (⟨n, (d.length : Int) + (k : Int), (d.length : Int), (b.length : Int), (gLabels (([d, b]).flatten))⟩ : ASeal) x62).1).lost)].toArray)]) (cs := [.int .i64 (((gTape x50 (⟨n, (d.length : Int) + (k : Int), (d.length : Int), (b.length : Int), (gLabels (([d, b]).flatten))⟩ : ASeal) x62).1).label), .int .i64 (((gTape x50 (⟨n, (d.length : Int) + (k : Int), (d.length : Int), (b.length : Int), (gLabels (([d, b]).flatten))⟩ : ASeal) x62).1).cap), .slice A12a_2 ((((gTape x50 (⟨n, (d.length : Int) + (k : Int), (d.length : Int), (b.length : Int), (gLabels (([d, b]).flatten))⟩ : ASeal) x62).1).blocks).length) c12a_2, .bool (((gTape x50 (⟨n, (d.length : Int) + (k : Int), (d.length : Int), (b.length : Int), (gLabels (([d, b]).flatten))⟩ : ASeal) x62).1).lost)]) (el := 45) (sz := 4) rfl rfl (fun w => by simp [Instr.buildSlice, Tryz.runUnderlying22, Tryz.sizeOf45, Tryz.zeroValue45, Instr.fill, Value.cells, newRow, (show Array.range 4 = #[0, 1, 2, 3] from rfl)]) rfl (by simp [maxLen]) rfl rfl (by decide) (fun g72 => ?_)
      have hlit14 : tTape.all J12 [.int .i64 (((gTape x50 (⟨n, (d.length : Int) + (k : Int), (d.length : Int), (b.length : Int), (gLabels (([d, b]).flatten))⟩ : ASeal) x62).1).label), .int .i64 (((gTape x50 (⟨n, (d.length : Int) + (k : Int), (d.length : Int), (b.length : Int), (gLabels (([d, b]).flatten))⟩ : ASeal) x62).1).cap), .slice A12a_2 ((((gTape x50 (⟨n, (d.length : Int) + (k : Int), (d.length : Int), (b.length : Int), (gLabels (([d, b]).flatten))⟩ : ASeal) x62).1).blocks).length) c12a_2, .bool (((gTape x50 (⟨n, (d.length : Int) + (k : Int), (d.length : Int), (b.length : Int), (gLabels (([d, b]).flatten))⟩ : ASeal) x62).1).lost)] [((gTape x50 (⟨n, (d.length : Int) + (k : Int), (d.length : Int), (b.length : Int), (gLabels (([d, b]).flatten))⟩ : ASeal) x62).1)] := (all_snoc (T := tTape) all_nil ⟨_, _, rfl, f12a_0, f12a_1, f12a_2⟩)
      have hall15 : tTape.all J12 (clo ++ ([.int .i64 (((gTape x50 (⟨n, (d.length : Int) + (k : Int), (d.length : Int), (b.length : Int), (gLabels (([d, b]).flatten))⟩ : ASeal) x62).1).label), .int .i64 (((gTape x50 (⟨n, (d.length : Int) + (k : Int), (d.length : Int), (b.length : Int), (gLabels (([d, b]).flatten))⟩ : ASeal) x62).1).cap), .slice A12a_2 ((((gTape x50 (⟨n, (d.length : Int) + (k : Int), (d.length : Int), (b.length : Int), (gLabels (([d, b]).flatten))⟩ : ASeal) x62).1).blocks).length) c12a_2, .bool (((gTape x50 (⟨n, (d.length : Int) + (k : Int), (d.length : Int), (b.length : Int), (gLabels (([d, b]).flatten))⟩ : ASeal) x62).1).lost)])) (o ++ ([((gTape x50 (⟨n, (d.length : Int) + (k : Int), (d.length : Int), (b.length : Int), (gLabels (([d, b]).flatten))⟩ : ASeal) x62).1)])) := all_append (ho.mono (hleJ10.trans hleJ12)) hlit14
      refine Run.append (by_ := 48) (ys := [.int .i64 (((gTape x50 (⟨n, (d.length : Int) + (k : Int), (d.length : Int), (b.length : Int), (gLabels (([d, b]).flatten))⟩ : ASeal) x62).1).label), .int .i64 (((gTape x50 (⟨n, (d.length : Int) + (k : Int), (d.length : Int), (b.length : Int), (gLabels (([d, b]).flatten))⟩ : ASeal) x62).1).cap), .slice A12a_2 ((((gTape x50 (⟨n, (d.length : Int) + (k : Int), (d.length : Int), (b.length : Int), (gLabels (([d, b]).flatten))⟩ : ASeal) x62).1).blocks).length) c12a_2, .bool (((gTape x50 (⟨n, (d.length : Int) + (k : Int), (d.length : Int), (b.length : Int), (gLabels (([d, b]).flatten))⟩ : ASeal) x62).1).lost)]) (k := 1) (own' := [row (.slice (some ⟨g72, 0, none⟩) 1 1) 45 4 ([.int .i64 (((gTape x50 (⟨n, (d.length : Int) + (k : Int), (d.length : Int), (b.length : Int), (gLabels (([d, b]).flatten))⟩ : ASeal) x62).1).label), .int .i64 (((gTape x50 (⟨n, (d.length : Int) + (k : Int), (d.length : Int), (b.length : Int), (gLabels (([d, b]).flatten))⟩ : ASeal) x62).1).cap), .slice A12a_2 ((((gTape x50 (⟨n, (d.length : Int) + (k : Int), (d.length : Int), (b.length : Int), (gLabels (([d, b]).flatten))⟩ : ASeal) x62).1).blocks).length) c12a_2, .bool (((gTape x50 (⟨n, (d.length : Int) + (k : Int), (d.length : Int), (b.length : Int), (gLabels (([d, b]).flatten))⟩ : ASeal) x62).1).lost)]), blk g15_13 [.int .i64 (((gTape x50 (⟨n, (d.length : Int) + (k : Int), (d.length : Int), (b.length : Int), (gLabels (([d, b]).flatten))⟩ : ASeal) x62).1).label), .int .i64 (((gTape x50 (⟨n, (d.length : Int) + (k : Int), (d.length : Int), (b.length : Int), (gLabels (([d, b]).flatten))⟩ : ASeal) x62).1).cap), .slice A12a_2 ((((gTape x50 (⟨n, (d.length : Int) + (k : Int), (d.length : Int), (b.length : Int), (gLabels (([d, b]).flatten))⟩ : ASeal) x62).1).blocks).length) c12a_2, .bool (((gTape x50 (⟨n, (d.length : Int) + (k : Int), (d.length : Int), (b.length : Int), (gLabels (([d, b]).flatten))⟩ : ASeal) x62).1).lost)] 45, blk g8_5 [.int .i64 n, .int .i64 ((d.length : Int) + (k : Int)), .int .i64 (d.length : Int), .int .i64 (b.length : Int), .slice A4a_0 ((gLabels (([d, b]).flatten)).length) c4a_0] 38]) 3 rfl rfl rfl Tryz.runUnderlying22 (.inl Tryz.runUnderlying22) Tryz.sizeOf45 Tryz.typeInfo45 rfl Tryz.zeroValue45 rfl rfl rfl (fun w hS => src_own hS (i := 0) rfl) (row_len hlit14 (by first | rfl | (simp; done) | (simp; omega)) rfl) (all_one hlit14) ((o ++ ([((gTape x50 (⟨n, (d.length : Int) + (k : Int), (d.length : Int), (b.length : Int), (gLabels (([d, b]).flatten))⟩ : ASeal) x62).1)])).length) (by first | (simp; done) | (simp; omega)) (by simp; omega) (by simp [maxLen]; omega) rfl rfl (by decide) (fun A73_15 c73_15 => ?_)
      refine Run.weak Sub.refl (perm_take (i := 0) rfl (perm_take (i := 1) rfl (perm_take (i := 1) rfl (perm_nil _)))) ?_
      refine Run.as ?_
      refine Run.nil ?_
      refine RunQ.inB ?_
      refine RunQ.next ?_
      refine RunC.region ?_
      refine Run.m (v := .int .i64 ((k : Int) + 1)) (y_bin rfl rfl rfl (bn_add (by omega) (by omega))) ?_
      refine Run.mv ?_
      refine Run.nil ?_
      exact RunQ.thenI (fun aa ww hF hS => ⟨_, (by omega), (hInv0 _ _ _).2 ⟨(k + 1), (d.length : Int) + (k : Int), (o ++ ([((gTape x50 (⟨n, (d.length : Int) + (k : Int), (d.length : Int), (b.length : Int), (gLabels (([d, b]).flatten))⟩ : ASeal) x62).1)])), A73_15, c73_15, clo ++ ([.int .i64 (((gTape x50 (⟨n, (d.length : Int) + (k : Int), (d.length : Int), (b.length : Int), (gLabels (([d, b]).flatten))⟩ : ASeal) x62).1).label), .int .i64 (((gTape x50 (⟨n, (d.length : Int) + (k : Int), (d.length : Int), (b.length : Int), (gLabels (([d, b]).flatten))⟩ : ASeal) x62).1).cap), .slice A12a_2 ((((gTape x50 (⟨n, (d.length : Int) + (k : Int), (d.length : Int), (b.length : Int), (gLabels (([d, b]).flatten))⟩ : ASeal) x62).1).blocks).length) c12a_2, .bool (((gTape x50 (⟨n, (d.length : Int) + (k : Int), (d.length : Int), (b.length : Int), (gLabels (([d, b]).flatten))⟩ : ASeal) x62).1).lost)]), J12, ((hJ_le.trans hleJ10).trans hleJ12), hall15, (by omega), (by omega), (by simp; omega), (by rw [← hg, gTapes_at (q := ⟨n, (d.length : Int) + (k : Int), (d.length : Int), (b.length : Int), gLabels [d, b].flatten⟩) hx50 hx62 rfl, if_pos hc3]), rfl, hF.sub (Sub.of rfl), hS.sub (perm_take (i := 0) rfl (perm_take (i := 1) rfl (perm_nil _)))⟩⟩)
    ·
     refine Run.alloc (cs := [.int .i64 0, .int .i64 0, .slice none 0 0, .bool false]) rfl Tryz.zeroValue45 rfl rfl rfl (by decide) (fun g15_16 => ?_)
     refine Run.nil ?_
     refine RunQ.stepEnd (fun _ => ⟨(Imm.le.refl _), (perm_take (i := 1) rfl (perm_nil _))⟩) ?_
     refine RunT.step (listed' := #[true, true, true, true, true, true, true, false, false, false, true, false, false]) 6 rfl (by kernel_rfl) rfl ?_
     refine Run.call0 (en_func rfl Tryz.call30 rfl) (c_group_tape _ x50 ⟨_, _, rfl, f50_8_0, f50_8_1, (f50_8_2.mono hleJ10)⟩ (⟨n, (d.length : Int) + (k : Int), (d.length : Int), (b.length : Int), (gLabels (([d, b]).flatten))⟩ : ASeal) ⟨_, _, rfl, hn, (by first | omega | (dsimp only; omega)), (by first | omega | (dsimp only; omega)), (by first | omega | (dsimp only; omega)), (f4a_0.mono ((hleJ7.trans hJ_le).trans hleJ10))⟩ x62 f62_11_0 (by have := sParity_row (List.mem_of_getElem? hx62); omega)) rfl rfl (by decide) (fun J17 o17 v17 hleJ17 hq17 => ?_)
     obtain ⟨rfl, cs17a, cs17b, rfl, h17a, h17b⟩ := hq17
     replace h17a : tTape.rd J17 cs17a ((gTape x50 (⟨n, (d.length : Int) + (k : Int), (d.length : Int), (b.length : Int), (gLabels (([d, b]).flatten))⟩ : ASeal) x62).1) := h17a
     obtain ⟨A17a_2, c17a_2, rfl, f17a_0, f17a_1, f17a_2⟩ := h17a
     have hsm17a_2 := f17a_2.small
     replace h17b : tInt.rd J17 cs17b ((gTape x50 (⟨n, (d.length : Int) + (k : Int), (d.length : Int), (b.length : Int), (gLabels (([d, b]).flatten))⟩ : ASeal) x62).2) := h17b
     obtain ⟨rfl, f17b_0⟩ := h17b
     refine Run.nil ?_
     refine RunQ.stepEnd (fun _ => ⟨hleJ17, (perm_take (i := 1) rfl (perm_nil _))⟩) ?_
     refine RunT.p (v := .tuple #[.agg [.int .i64 (((gTape x50 (⟨n, (d.length : Int) + (k : Int), (d.length : Int), (b.length : Int), (gLabels (([d, b]).flatten))⟩ : ASeal) x62).1).label), .int .i64 (((gTape x50 (⟨n, (d.length : Int) + (k : Int), (d.length : Int), (b.length : Int), (gLabels (([d, b]).flatten))⟩ : ASeal) x62).1).cap), .slice A17a_2 ((((gTape x50 (⟨n, (d.length : Int) + (k : Int), (d.length : Int), (b.length : Int), (gLabels (([d, b]).flatten))⟩ : ASeal) x62).1).blocks).length) c17a_2, .bool (((gTape x50 (⟨n, (d.length : Int) + (k : Int), (d.length : Int), (b.length : Int), (gLabels (([d, b]).flatten))⟩ : ASeal) x62).1).lost)].toArray, .int .i64 ((gTape x50 (⟨n, (d.length : Int) + (k : Int), (d.length : Int), (b.length : Int), (gLabels (([d, b]).flatten))⟩ : ASeal) x62).2)]) (listed' := #[true, true, true, true, true, true, true, true, false, false, true, false, false]) 7 rfl (by kernel_rfl) (by kernel_rfl) (by kernel_rfl) rfl (fun _ => ⟨hleJ17, (perm_take (i := 1) rfl (perm_nil _))⟩) (y_move rfl rfl) (.plain rfl) rfl (by decide) rfl ?_
     refine RunT.p (v := .agg [.int .i64 (((gTape x50 (⟨n, (d.length : Int) + (k : Int), (d.length : Int), (b.length : Int), (gLabels (([d, b]).flatten))⟩ : ASeal) x62).1).label), .int .i64 (((gTape x50 (⟨n, (d.length : Int) + (k : Int), (d.length : Int), (b.length : Int), (gLabels (([d, b]).flatten))⟩ : ASeal) x62).1).cap), .slice A17a_2 ((((gTape x50 (⟨n, (d.length : Int) + (k : Int), (d.length : Int), (b.length : Int), (gLabels (([d, b]).flatten))⟩ : ASeal) x62).1).blocks).length) c17a_2, .bool (((gTape x50 (⟨n, (d.length : Int) + (k : Int), (d.length : Int), (b.length : Int), (gLabels (([d, b]).flatten))⟩ : ASeal) x62).1).lost)].toArray) (listed' := #[true, true, true, true, true, true, true, true, true, false, true, false, false]) 8 rfl (by kernel_rfl) (by kernel_rfl) (by kernel_rfl) rfl (fun _ => ⟨hleJ17, (perm_take (i := 1) rfl (perm_nil _))⟩) (y_extract rfl rfl rfl) (.plain rfl) rfl (by decide) rfl ?_
     refine RunT.p (v := .int .i64 ((gTape x50 (⟨n, (d.length : Int) + (k : Int), (d.length : Int), (b.length : Int), (gLabels (([d, b]).flatten))⟩ : ASeal) x62).2)) (listed' := #[true, true, true, true, true, true, true, true, true, true, true, false, false]) 9 rfl (by kernel_rfl) (by kernel_rfl) (by kernel_rfl) rfl (fun _ => ⟨hleJ17, (perm_take (i := 1) rfl (perm_nil _))⟩) (y_extract rfl rfl rfl) (.plain rfl) rfl (by decide) rfl ?_
     refine RunT.step (listed' := #[true, true, true, true, true, true, true, true, true, true, true, true, false]) 11 rfl (by kernel_rfl) rfl ?_
     refine Run.storeB (vs := [.int .i64 (((gTape x50 (⟨n, (d.length : Int) + (k : Int), (d.length : Int), (b.length : Int), (gLabels (([d, b]).flatten))⟩ : ASeal) x62).1).label), .int .i64 (((gTape x50 (⟨n, (d.length : Int) + (k : Int), (d.length : Int), (b.length : Int), (gLabels (([d, b]).flatten))⟩ : ASeal) x62).1).cap), .slice A17a_2 ((((gTape x50 (⟨n, (d.length : Int) + (k : Int), (d.length : Int), (b.length : Int), (gLabels (([d, b]).flatten))⟩ : ASeal) x62).1).blocks).length) c17a_2, .bool (((gTape x50 (⟨n, (d.length : Int) + (k : Int), (d.length : Int), (b.length : Int), (gLabels (([d, b]).flatten))⟩ : ASeal) x62).1).lost)]) (cs' := [.int .i64 (((gTape x50 (⟨n, (d.length : Int) + (k : Int), (d.length : Int), (b.length : Int), (gLabels (([d, b]).flatten))⟩ : ASeal) x62).1).label), .int .i64 (((gTape x50 (⟨n, (d.length : Int) + (k : Int), (d.length : Int), (b.length : Int), (gLabels (([d, b]).flatten))⟩ : ASeal) x62).1).cap), .slice A17a_2 ((((gTape x50 (⟨n, (d.length : Int) + (k : Int), (d.length : Int), (b.length : Int), (gLabels (([d, b]).flatten))⟩ : ASeal) x62).1).blocks).length) c17a_2, .bool (((gTape x50 (⟨n, (d.length : Int) + (k : Int), (d.length : Int), (b.length : Int), (gLabels (([d, b]).flatten))⟩ : ASeal) x62).1).lost)]) (own' := [blk g8_5 [.int .i64 n, .int .i64 ((d.length : Int) + (k : Int)), .int .i64 (d.length : Int), .int .i64 (b.length : Int), .slice A4a_0 ((gLabels (([d, b]).flatten)).length) c4a_0] 38, row (.slice Ao o.length co) 45 4 clo]) 0 rfl rfl rfl Tryz.sizeOf45 rfl rfl rfl rfl rfl (Nat.le_of_ble_eq_true rfl) rfl rfl rfl ?_
     refine Run.nil ?_
     refine RunQ.stepEnd (fun h => absurd (show false = true from h) Bool.false_ne_true) ?_
     refine RunT.step (listed' := #[true, true, true, true, true, true, true, true, true, true, true, true, true]) 12 rfl (by kernel_rfl) rfl ?_
     refine Run.as ?_
     refine Run.nil ?_
     refine RunQ.stepEnd (fun h => absurd (show false = true from h) Bool.false_ne_true) ?_
     refine RunT.done (by kernel_rfl) ?_
     refine RunQ.next ?_
     refine RunC.seq ?_
     refine RunC.sr ?_
     refine Run.mv ?_
     refine Run.m (v := .bool (decide ((gTape x50 (⟨n, (d.length : Int) + (k : Int), (d.length : Int), (b.length : Int), (gLabels (([d, b]).flatten))⟩ : ASeal) x62).2 ≠ 0))) (y_bin rfl rfl rfl bn_neq) ?_
     refine Run.nx ?_
     refine RunC.cond rfl (fun hc3 => ?_) (fun hc3 => ?_)
     ·
      try simp only [z1, z2, z3, z4, z5, z6, z7, z8, z9, z10, z11, z12, z13, z14, z15, z16] at hc3
      have hgm : gMake d b n = ([], (gTape x50 ⟨n, (d.length : Int) + (k : Int), (d.length : Int), (b.length : Int), gLabels [d, b].flatten⟩ x62).2) := by rw [gMake, if_neg (fun h => h hgc), if_neg (fun h => h hc1), ← hg, gTapes_at (q := ⟨n, (d.length : Int) + (k : Int), (d.length : Int), (b.length : Int), gLabels [d, b].flatten⟩) hx50 hx62 rfl, if_neg hc3]
      refine RunC.sr ?_
      refine Run.mv ?_
      refine Run.as ?_
      refine Run.as ?_
      refine Run.nx ?_
      refine RunC.ret ?_
      refine RunQ.pass (fun h => by cases h) ?_
      refine RunQ.inR ?_
      refine RunQ.pass (fun h => by cases h) ?_
      refine RunQ.pass (fun h => by cases h) ?_
      refine RunQ.inR ?_
      refine RunQ.pass (fun h => by cases h) ?_
      refine RunQ.weak Sub.refl (perm_nil _) ?_
      refine RunQ.fin2 (.inl rfl) Tryz.results8 (rv_tmp rfl) (rv_tmp rfl) ?_
      exact ⟨rfl, _, _, rfl, (rd_eq (T := (tSl tTape)) (x := ([] : List ATape)) ⟨_, _, rfl, sl_nil0⟩ (by rw [hgm] <;> rfl)), (rd_eq (T := tInt) (x := (gTape x50 (⟨n, (d.length : Int) + (k : Int), (d.length : Int), (b.length : Int), (gLabels (([d, b]).flatten))⟩ : ASeal) x62).2) ⟨rfl, f17b_0⟩ (by rw [hgm] <;> rfl))⟩
     ·
      try simp only [z1, z2, z3, z4, z5, z6, z7, z8, z9, z10, z11, z12, z13, z14, z15, z16] at hc3
      refine RunC.skip ?_
      refine RunQ.next ?_
      refine RunC.region ?_
      refine Run.mv ?_
      refine Run.m (v := .agg [.int .i64 (((gTape x50 (⟨n, (d.length : Int) + (k : Int), (d.length : Int), (b.length : Int), (gLabels (([d, b]).flatten))⟩ : ASeal) x62).1).label), .int .i64 (((gTape x50 (⟨n, (d.length : Int) + (k : Int), (d.length : Int), (b.length : Int), (gLabels (([d, b]).flatten))⟩ : ASeal) x62).1).cap), .slice A17a_2 ((((gTape x50 (⟨n, (d.length : Int) + (k : Int), (d.length : Int), (b.length : Int), (gLabels (([d, b]).flatten))⟩ : ASeal) x62).1).blocks).length) c17a_2, .bool (((gTape x50 (⟨n, (d.length : Int) + (k : Int), (d.length : Int), (b.length : Int), (gLabels (([d, b]).flatten))⟩ : ASeal) x62).1).lost)].toArray) (y_loadBA 0 rfl Tryz.isAgg45 Tryz.sizeOf45 rfl rfl rfl rfl) ?_
      refine Run.lit (vs := [(0, .agg [.int .i64 (((gTape x50 (⟨n, (d.length : Int) + (k : Int), (d.length : Int), (b.length : Int), (gLabels (([d, b]).flatten))⟩ : ASeal) x62).1).label), .int .i64 (((gTape x50 (⟨n, (d.length : Int) + (k : Int), (d.length : Int), (b.length : Int), (gLabels (([d, b]).flatten))⟩ : ASeal) x62).1).cap), .slice A17a_2 ((((gTape x50 (⟨n, (d.length : Int) + (k : Int), (d.length : Int), (b.length : Int), (gLabels (([d, b]).flatten))⟩ : ASeal) x62).1).blocks).length) c17a_2, .bool (((gTape x50 (⟨n, (d.length : Int) + (k : Int), (d.length : Int), (b.length : Int), (gLabels (([d, b]).flatten))⟩ : ASeal) x62).1).lost)].toArray)]) (cs := [.int .i64 (((gTape x50 (⟨n, (d.length : Int) + (k : Int), (d.length : Int), (b.length : Int), (gLabels (([d, b]).flatten))⟩ : ASeal) x62).1).label), .int .i64 (((gTape x50 (⟨n, (d.length : Int) + (k : Int), (d.length : Int), (b.length : Int), (gLabels (([d, b]).flatten))⟩ : ASeal) x62).1).cap), .slice A17a_2 ((((gTape x50 (⟨n, (d.length : Int) + (k : Int), (d.length : Int), (b.length : Int), (gLabels (([d, b]).flatten))⟩ : ASeal) x62).1).blocks).length) c17a_2, .bool (((gTape x50 (⟨n, (d.length : Int) + (k : Int), (d.length : Int), (b.length : Int), (gLabels (([d, b]).flatten))⟩ : ASeal) x62).1).lost)]) (el := 45) (sz := 4) rfl rfl (fun w => by simp [Instr.buildSlice, Tryz.runUnderlying22, Tryz.sizeOf45, Tryz.zeroValue45, Instr.fill, Value.cells, newRow, (show Array.range 4 = #[0, 1, 2, 3] from rfl)]) rfl (by simp [maxLen]) rfl rfl (by decide) (fun g72 => ?_)
      have hlit18 : tTape.all J17 [.int .i64 (((gTape x50 (⟨n, (d.length : Int) + (k : Int), (d.length : Int), (b.length : Int), (gLabels (([d, b]).flatten))⟩ : ASeal) x62).1).label), .int .i64 (((gTape x50 (⟨n, (d.length : Int) + (k : Int), (d.length : Int), (b.length : Int), (gLabels (([d, b]).flatten))⟩ : ASeal) x62).1).cap), .slice A17a_2 ((((gTape x50 (⟨n, (d.length : Int) + (k : Int), (d.length : Int), (b.length : Int), (gLabels (([d, b]).flatten))⟩ : ASeal) x62).1).blocks).length) c17a_2, .bool (((gTape x50 (⟨n, (d.length : Int) + (k : Int), (d.length : Int), (b.length : Int), (gLabels (([d, b]).flatten))⟩ : ASeal) x62).1).lost)] [((gTape x50 (⟨n, (d.length : Int) + (k : Int), (d.length : Int), (b.length : Int), (gLabels (([d, b]).flatten))⟩ : ASeal) x62).1)] := (all_snoc (T := tTape) all_nil ⟨_, _, rfl, f17a_0, f17a_1, f17a_2⟩)
      have hall19 : tTape.all J17 (clo ++ ([.int .i64 (((gTape x50 (⟨n, (d.length : Int) + (k : Int), (d.length : Int), (b.length : Int), (gLabels (([d, b]).flatten))⟩ : ASeal) x62).1).label), .int .i64 (((gTape x50 (⟨n, (d.length : Int) + (k : Int), (d.length : Int), (b.length : Int), (gLabels (([d, b]).flatten))⟩ : ASeal) x62).1).cap), .slice A17a_2 ((((gTape x50 (⟨n, (d.length : Int) + (k : Int), (d.length : Int), (b.length : Int), (gLabels (([d, b]).flatten))⟩ : ASeal) x62).1).blocks).length) c17a_2, .bool (((gTape x50 (⟨n, (d.length : Int) + (k : Int), (d.length : Int), (b.length : Int), (gLabels (([d, b]).flatten))⟩ : ASeal) x62).1).lost)])) (o ++ ([((gTape x50 (⟨n, (d.length : Int) + (k : Int), (d.length : Int), (b.length : Int), (gLabels (([d, b]).flatten))⟩ : ASeal) x62).1)])) := all_append (ho.mono (hleJ10.trans hleJ17)) hlit18
      refine Run.append (by_ := 48) (ys := [.int .i64 (((gTape x50 (⟨n, (d.length : Int) + (k : Int), (d.length : Int), (b.length : Int), (gLabels (([d, b]).flatten))⟩ : ASeal) x62).1).label), .int .i64 (((gTape x50 (⟨n, (d.length : Int) + (k : Int), (d.length : Int), (b.length : Int), (gLabels (([d, b]).flatten))⟩ : ASeal) x62).1).cap), .slice A17a_2 ((((gTape x50 (⟨n, (d.length : Int) + (k : Int), (d.length : Int), (b.length : Int), (gLabels (([d, b]).flatten))⟩ : ASeal) x62).1).blocks).length) c17a_2, .bool (((gTape x50 (⟨n, (d.length : Int) + (k : Int), (d.length : Int), (b.length : Int), (gLabels (([d, b]).flatten))⟩ : ASeal) x62).1).lost)]) (k := 1) (own' := [row (.slice (some ⟨g72, 0, none⟩) 1 1) 45 4 ([.int .i64 (((gTape x50 (⟨n, (d.length : Int) + (k : Int), (d.length : Int), (b.length : Int), (gLabels (([d, b]).flatten))⟩ : ASeal) x62).1).label), .int .i64 (((gTape x50 (⟨n, (d.length : Int) + (k : Int), (d.length : Int), (b.length : Int), (gLabels (([d, b]).flatten))⟩ : ASeal) x62).1).cap), .slice A17a_2 ((((gTape x50 (⟨n, (d.length : Int) + (k : Int), (d.length : Int), (b.length : Int), (gLabels (([d, b]).flatten))⟩ : ASeal) x62).1).blocks).length) c17a_2, .bool (((gTape x50 (⟨n, (d.length : Int) + (k : Int), (d.length : Int), (b.length : Int), (gLabels (([d, b]).flatten))⟩ : ASeal) x62).1).lost)]), blk g15_16 [.int .i64 (((gTape x50 (⟨n, (d.length : Int) + (k : Int), (d.length : Int), (b.length : Int), (gLabels (([d, b]).flatten))⟩ : ASeal) x62).1).label), .int .i64 (((gTape x50 (⟨n, (d.length : Int) + (k : Int), (d.length : Int), (b.length : Int), (gLabels (([d, b]).flatten))⟩ : ASeal) x62).1).cap), .slice A17a_2 ((((gTape x50 (⟨n, (d.length : Int) + (k : Int), (d.length : Int), (b.length : Int), (gLabels (([d, b]).flatten))⟩ : ASeal) x62).1).blocks).length) c17a_2, .bool (((gTape x50 (⟨n, (d.length : Int) + (k : Int), (d.length : Int), (b.length : Int), (gLabels (([d, b]).flatten))⟩ : ASeal) x62).1).lost)] 45, blk g8_5 [.int .i64 n, .int .i64 ((d.length : Int) + (k : Int)), .int .i64 (d.length : Int), .int .i64 (b.length : Int), .slice A4a_0 ((gLabels (([d, b]).flatten)).length) c4a_0] 38]) 3 rfl rfl rfl Tryz.runUnderlying22 (.inl Tryz.runUnderlying22) Tryz.sizeOf45 Tryz.typeInfo45 rfl Tryz.zeroValue45 rfl rfl rfl (fun w hS => src_own hS (i := 0) rfl) (row_len hlit18 (by first | rfl | (simp; done) | (simp; omega)) rfl) (all_one hlit18) ((o ++ ([((gTape x50 (⟨n, (d.length : Int) + (k : Int), (d.length : Int), (b.length : Int), (gLabels (([d, b]).flatten))⟩ : ASeal) x62).1)])).length) (by first | (simp; done) | (simp; omega)) (by simp; omega) (by simp [maxLen]; omega) rfl rfl (by decide) (fun A73_19 c73_19 => ?_)
      refine Run.weak Sub.refl (perm_take (i := 0) rfl (perm_take (i := 1) rfl (perm_take (i := 1) rfl (perm_nil _)))) ?_
      refine Run.as ?_
      refine Run.nil ?_
      refine RunQ.inB ?_
      refine RunQ.next ?_
      refine RunC.region ?_
      refine Run.m (v := .int .i64 ((k : Int) + 1)) (y_bin rfl rfl rfl (bn_add (by omega) (by omega))) ?_
      refine Run.mv ?_
      refine Run.nil ?_
      exact RunQ.thenI (fun aa ww hF hS => ⟨_, (by omega), (hInv0 _ _ _).2 ⟨(k + 1), (d.length : Int) + (k : Int), (o ++ ([((gTape x50 (⟨n, (d.length : Int) + (k : Int), (d.length : Int), (b.length : Int), (gLabels (([d, b]).flatten))⟩ : ASeal) x62).1)])), A73_19, c73_19, clo ++ ([.int .i64 (((gTape x50 (⟨n, (d.length : Int) + (k : Int), (d.length : Int), (b.length : Int), (gLabels (([d, b]).flatten))⟩ : ASeal) x62).1).label), .int .i64 (((gTape x50 (⟨n, (d.length : Int) + (k : Int), (d.length : Int), (b.length : Int), (gLabels (([d, b]).flatten))⟩ : ASeal) x62).1).cap), .slice A17a_2 ((((gTape x50 (⟨n, (d.length : Int) + (k : Int), (d.length : Int), (b.length : Int), (gLabels (([d, b]).flatten))⟩ : ASeal) x62).1).blocks).length) c17a_2, .bool (((gTape x50 (⟨n, (d.length : Int) + (k : Int), (d.length : Int), (b.length : Int), (gLabels (([d, b]).flatten))⟩ : ASeal) x62).1).lost)]), J17, ((hJ_le.trans hleJ10).trans hleJ17), hall19, (by omega), (by omega), (by simp; omega), (by rw [← hg, gTapes_at (q := ⟨n, (d.length : Int) + (k : Int), (d.length : Int), (b.length : Int), gLabels [d, b].flatten⟩) hx50 hx62 rfl, if_pos hc3]), rfl, hF.sub (Sub.of rfl), hS.sub (perm_take (i := 0) rfl (perm_take (i := 1) rfl (perm_nil _)))⟩⟩)
   ·
    try simp only [z1, z2, z3, z4, z5, z6, z7, z8, z9, z10, z11, z12, z13, z14, z15, z16] at hc2
    have hgm : gMake d b n = (o, 0) := by rw [gMake, if_neg (fun h => h hgc), if_neg (fun h => h hc1), ← hg, List.drop_eq_nil_of_le (by omega)]; rfl
    refine RunC.exit ?_
    refine RunQ.pass (fun h => by cases h) ?_
    refine RunQ.pass (fun h => by cases h) ?_
    refine RunQ.out ?_
    refine RunQ.next ?_
    refine RunC.sr ?_
    refine Run.mv ?_
    refine Run.as ?_
    refine Run.as ?_
    refine Run.nx ?_
    refine RunC.ret ?_
    refine RunQ.freezeR 0 rfl (own' := [blk g8_5 [.int .i64 n, .int .i64 iv, .int .i64 (d.length : Int), .int .i64 (b.length : Int), .slice A4a_0 ((gLabels (([d, b]).flatten)).length) c4a_0] 38]) rfl (fun J20 hleJ20 hfzJ20 => ?_)
    have hslJ20 : Sl tTape J20 Ao co o := Sl.of_rowN hfzJ20 rfl rfl (ho.mono hleJ20)
    refine RunQ.weak Sub.refl (perm_nil _) ?_
    refine RunQ.fin2 (.inl rfl) Tryz.results8 (rv_tmp rfl) (rv_tmp rfl) ?_
    exact ⟨rfl, _, _, rfl, (rd_eq (T := (tSl tTape)) (x := o) ⟨_, _, rfl, hslJ20⟩ (by rw [hgm] <;> rfl)), (rd_eq (T := tInt) (x := 0) ⟨rfl, (by first | omega | (dsimp only; omega))⟩ (by rw [hgm] <;> rfl))⟩

def lay_sortSeal_ren : Go.Shelf.Ren := ⟨fun | 6 => 41 | 15 => 90 | 14 => 89 | 28 => 131 | 29 => 132 | 20 => 123 | 21 => 124 | 22 => 125 | 23 => 126 | 24 => 127 | 25 => 128 | 26 => 129 | 27 => 130 | 46 => 149 | 47 => 150 | 48 => 151 | 49 => 152 | 50 => 153 | 57 => 161 | n => n, fun | 22 => 33 | 24 => 38 | 25 => 93 | 3 => 3 | 39 => 131 | 0 => 0 | 53 => 100 | 55 => 164 | 4 => 4 | 46 => 188 | 45 => 187 | 50 => 192 | 5 => 5 | 9 => 9 | 66 => 209 | 70 => 184 | 76 => 220 | 77 => 221 | n => n, fun | n => n⟩
theorem lay_sortSeal : Go.Proofs.SlLaysF0.n6 Tryz.prog lay_sortSeal_ren := {
 mixed := by kernel_rfl
 f6 := ⟨Tryz.f41.name, by decide, Tryz.func41.trans (congrArg some (by kernel_rfl))⟩
 f14 := ⟨Tryz.f89.name, by decide, Tryz.func89.trans (congrArg some (by kernel_rfl))⟩
 f15 := Tryz.func90.trans (congrArg some (by kernel_rfl))
 f20 := ⟨Tryz.f123.name, by decide, Tryz.func123.trans (congrArg some (by kernel_rfl))⟩
 f21 := ⟨Tryz.f124.name, by decide, Tryz.func124.trans (congrArg some (by kernel_rfl))⟩
 f22 := ⟨Tryz.f125.name, by decide, Tryz.func125.trans (congrArg some (by kernel_rfl))⟩
 f23 := ⟨Tryz.f126.name, by decide, Tryz.func126.trans (congrArg some (by kernel_rfl))⟩
 f24 := ⟨Tryz.f127.name, by decide, Tryz.func127.trans (congrArg some (by kernel_rfl))⟩
 f25 := ⟨Tryz.f128.name, by decide, Tryz.func128.trans (congrArg some (by kernel_rfl))⟩
 f26 := ⟨Tryz.f129.name, by decide, Tryz.func129.trans (congrArg some (by kernel_rfl))⟩
 f27 := ⟨Tryz.f130.name, by decide, Tryz.func130.trans (congrArg some (by kernel_rfl))⟩
 f28 := Tryz.func131.trans (congrArg some (by kernel_rfl))
 f29 := Tryz.func132.trans (congrArg some (by kernel_rfl))
 f46 := ⟨Tryz.f149.name, by decide, Tryz.func149.trans (congrArg some (by kernel_rfl))⟩
 f47 := Tryz.func150.trans (congrArg some (by kernel_rfl))
 f48 := Tryz.func151.trans (congrArg some (by kernel_rfl))
 f49 := ⟨Tryz.f152.name, by decide, Tryz.func152.trans (congrArg some (by kernel_rfl))⟩
 f50 := ⟨Tryz.f153.name, by decide, Tryz.func153.trans (congrArg some (by kernel_rfl))⟩
 f57 := ⟨Tryz.f161.name, by decide, Tryz.func161.trans (congrArg some (by kernel_rfl))⟩
 t0 := Tryz.underlying0
 a0 := Tryz.isAgg0
 z0 := Tryz.sizeOf0
 v0 := Tryz.zeroValue0
 t3 := Tryz.underlying3
 a3 := Tryz.isAgg3
 z3 := Tryz.sizeOf3
 v3 := Tryz.zeroValue3
 t4 := Tryz.underlying4
 a4 := Tryz.isAgg4
 z4 := Tryz.sizeOf4
 v4 := Tryz.zeroValue4
 t5 := Tryz.underlying5
 a5 := Tryz.isAgg5
 z5 := Tryz.sizeOf5
 v5 := Tryz.zeroValue5
 t9 := Tryz.underlying9
 a9 := Tryz.isAgg9
 z9 := Tryz.sizeOf9
 v9 := Tryz.zeroValue9
 t22 := Tryz.underlying33
 a22 := Tryz.isAgg33
 z22 := Tryz.sizeOf33
 v22 := Tryz.zeroValue33
 t25 := Tryz.underlying93
 a25 := Tryz.isAgg93
 z25 := Tryz.sizeOf93
 v25 := Tryz.zeroValue93
 t39 := Tryz.underlying131
 a39 := Tryz.isAgg131
 z39 := Tryz.sizeOf131
 v39 := Tryz.zeroValue131
 t45 := Tryz.underlying187
 a45 := Tryz.isAgg187
 z45 := Tryz.sizeOf187
 v45 := Tryz.zeroValue187
 t46 := Tryz.underlying188
 a46 := Tryz.isAgg188
 z46 := Tryz.sizeOf188
 v46 := Tryz.zeroValue188
 t50 := Tryz.underlying192
 a50 := Tryz.isAgg192
 z50 := Tryz.sizeOf192
 v50 := Tryz.zeroValue192
 t53 := Tryz.underlying100
 a53 := Tryz.isAgg100
 z53 := Tryz.sizeOf100
 v53 := Tryz.zeroValue100
 t55 := Tryz.underlying164
 a55 := Tryz.isAgg164
 z55 := Tryz.sizeOf164
 v55 := Tryz.zeroValue164
 t66 := Tryz.underlying209
 a66 := Tryz.isAgg209
 z66 := Tryz.sizeOf209
 v66 := Tryz.zeroValue209
 t70 := Tryz.underlying184
 a70 := Tryz.isAgg184
 z70 := Tryz.sizeOf184
 v70 := Tryz.zeroValue184
 t76 := Tryz.underlying220
 a76 := Tryz.isAgg220
 z76 := Tryz.sizeOf220
 v76 := Tryz.zeroValue220
 t77 := Tryz.underlying221
 a77 := Tryz.isAgg221
 z77 := Tryz.sizeOf221
 v77 := Tryz.zeroValue221 }

def lay_cmpInt_ren : Go.Shelf.Ren := ⟨fun | 5 => 43 | 7 => 91 | n => n, fun | 22 => 3 | 3 => 3 | 4 => 4 | n => n, fun | n => n⟩
theorem lay_cmpInt : Go.Proofs.SlLaysC2.n5 Tryz.prog lay_cmpInt_ren := {
 mixed := by kernel_rfl
 f5 := ⟨Tryz.f43.name, by decide, Tryz.func43.trans (congrArg some (by kernel_rfl))⟩
 f7 := ⟨Tryz.f91.name, by decide, Tryz.func91.trans (congrArg some (by kernel_rfl))⟩
 t3 := Tryz.underlying3
 a3 := Tryz.isAgg3
 z3 := Tryz.sizeOf3
 v3 := Tryz.zeroValue3
 t4 := Tryz.underlying4
 a4 := Tryz.isAgg4
 z4 := Tryz.sizeOf4
 v4 := Tryz.zeroValue4
 t22 := Tryz.underlying3
 a22 := Tryz.isAgg3
 z22 := Tryz.sizeOf3
 v22 := Tryz.zeroValue3 }

open Go.Sort Go.Shelf in
theorem ltSeal (x y : ASeal) : ltOf (fun x y : ASeal => Lib.compareInt x.number y.number) x y = decide (x.number < y.number) := by
 unfold ltOf Lib.compareInt
 by_cases h1 : x.number < y.number
 · simp [h1]
 · by_cases h2 : y.number < x.number <;> simp [h1, h2]
open Go.Sort Go.Shelf in
theorem swoSeal : SWO (ltOf fun x y : ASeal => Lib.compareInt x.number y.number) where
 irrefl x := by rw [ltSeal]; simp
 trans x y z h1 h2 := by rw [ltSeal] at *; simp at *; omega
 ntrans x y z h1 h2 := by rw [ltSeal] at *; simp at *; omega
open Go.Sort Go.Shelf in
set_option maxHeartbeats 1000000 in
theorem closSeal {I : Imm} {xs ys : List Value} {x y : ASeal} (W : World) (hx : tSeal.rd I xs x) (hy : tSeal.rd I ys y) : Calls Tryz.prog 42 #[.agg xs.toArray, .agg ys.toArray] W fun e w' => e = .returned (.int .i64 (Lib.compareInt x.number y.number)) ∧ ∃ q os', w' = grow (W.drewN q) os' := by
 obtain ⟨A1, c1, rfl, _⟩ := hx
 obtain ⟨A2, c2, rfl, _⟩ := hy
 have hcon := fun W' => AnyG.cmp_Compare_int lay_cmpInt x.number y.number W'
 change ∀ W', Calls Tryz.prog 43 _ _ _ at hcon
 generalize Lib.compareInt x.number y.number = r at hcon ⊢
 go_enter Tryz.func42, Tryz.ntmps42
 go_wp2_with (go_at_call 43; refine (hcon _).mono ?_; rintro e w' ⟨rfl, rfl⟩)
 go_ret
 exact ⟨rfl, 0, _, by rw [alloc_eq_grow, alloc_eq_grow, grow_grow]; rfl⟩
theorem c_SortFunc_Seal (I : Imm) (A : Option Addr) (c : Nat) (cl : List Value) (s : List ASeal) (hs : tSeal.all I cl s) (hsz : s.length < 4611686018427387904) :
  Con Tryz.prog 41 [.slice A s.length c, .func (.func 42) #[] #[]].toArray I [row (.slice A s.length c) 38 5 cl] (fun J o v =>
   ∃ s' cl', s'.Perm s ∧ s'.Pairwise (fun a b => ¬ Lib.compareInt b.number a.number < 0) ∧ o = [row (.slice A s'.length c) 38 5 cl'] ∧ v = .tuple #[] ∧ tSeal.all J cl' s') :=
 con_sortK (ρ := lay_sortSeal_ren) tSeal (by decide) lay_sortSeal Tryz.isAgg38 Tryz.sizeOf38 swoSeal 42 (Tryz.call42) I (fun xs ys x y W hx hy => closSeal W hx hy) A c cl s hs hsz

theorem c_group_Find_1 (I : Imm) {csx : List Value} (x : ASeal) (hx : tSeal.rd I csx x) (gs : Nat) {css : List Value} (s : ASeal) (hs : tSeal.rd I css s) (hgs : RCells I ⟨gs, 0, none⟩ css) : Con Tryz.prog 40 [.agg csx.toArray, .pointer (some (⟨gs, 0, none⟩ : Addr))].toArray I [] (Ret1 (tBool.o) (decide (x.number = s.number))) := by
 obtain ⟨As_4, cs_4, rfl, fs_0, fs_1, fs_2, fs_3, fs_4⟩ := hs
 have hsms_4 := fs_4.small
 obtain ⟨Ax_4, cx_4, rfl, fx_0, fx_1, fx_2, fx_3, fx_4⟩ := hx
 have hsmx_4 := fx_4.small
 refine Con.enter (n := 9) (L := [(0, .agg [.int .i64 x.number, .int .i64 x.index, .int .i64 x.data, .int .i64 x.parity, .slice Ax_4 x.labels.length cx_4].toArray), (1, .pointer (some (⟨gs, 0, none⟩ : Addr)))]) Tryz.func40 rfl rfl (Nat.le_of_ble_eq_true rfl) rfl (fun E => ?_)
 refine RunC.sr ?_
 refine Run.box (cs := [.int .i64 x.number, .int .i64 x.index, .int .i64 x.data, .int .i64 x.parity, .slice Ax_4 x.labels.length cx_4]) rfl rfl rfl rfl rfl (by decide) (fun g2 => ?_)
 refine Run.as ?_
 refine Run.nx ?_
 refine RunC.sr ?_
 refine Run.m (v := .pointer (some ⟨g2, 0, none⟩)) (y_fieldAddr rfl rfl Tryz.runUnderlying38 rfl Tryz.sizeOf3 (by decide) rfl) ?_
 refine Run.m (v := .int .i64 x.number) (y_loadB1 0 rfl Tryz.isAgg3 rfl rfl rfl) ?_
 refine Run.m (v := .pointer (some (⟨gs, 0, none⟩ : Addr))) (y_fieldAddr rfl rfl Tryz.runUnderlying38 rfl Tryz.sizeOf3 (by decide) (add_zero' _)) ?_
 refine Run.m (v := .int .i64 s.number) (y_load1 rfl Tryz.isAgg3 rfl (RCells.hd hgs)) ?_
 refine Run.m (v := .bool (decide (x.number = s.number))) (y_bin rfl rfl rfl bn_eql) ?_
 refine Run.as ?_
 refine Run.nx ?_
 refine RunC.ret ?_
 refine RunQ.weak Sub.refl (perm_nil _) ?_
 refine RunQ.fin1 (.inl rfl) Tryz.results40 (rv_tmp rfl) ?_
 exact ⟨rfl, _, rfl, (rd_eq (T := tBool) (x := decide (x.number = s.number)) rfl (by rfl))⟩

theorem c_group_Find (I : Imm) {Al : Option Addr} {cl : Nat} (l : List ATape) (hl : Sl tTape I Al cl l) (hszl : ∀ t ∈ l, ∀ x ∈ t.blocks, x.length ≤ 1000000) (hsz : l.length ≤ 1000000) : Con Tryz.prog 12 [.slice Al l.length cl].toArray I [] (Ret1 ((tSl tSeal).o) (gFind l)) := by
 have hsml := hl.small
 refine Con.enter (n := 45) (L := [(0, .slice Al l.length cl)]) Tryz.func12 rfl rfl (Nat.le_of_ble_eq_true rfl) rfl (fun E => ?_)
 refine RunC.sr ?_
 refine Run.as ?_
 refine Run.nx ?_
 refine RunC.sr ?_
 refine Run.as ?_
 refine Run.nx ?_
 refine RunC.seq ?_
 refine RunC.sr ?_
 refine Run.mv ?_
 refine Run.m (y_len rfl Tryz.runUnderlying22 rfl) ?_
 refine Run.mv ?_
 refine Run.nx ?_
 refine RunC.block ?_
 refine RunC.nilrow none 38 5 ?_
 obtain ⟨Inv0, hInv0⟩ : ∃ Inv : Nat → Act → World → Prop, ∀ mm aa ww, Inv mm aa ww ↔ (∃ (k : Nat) (o : List (ASeal)) (Ao : Option Addr) (co : Nat) (clo : List Value) (J : Imm), (I.le J) ∧ (tSeal.all J clo o) ∧ (k ≤ l.length) ∧ (o = gFindU (l.take k)) ∧ (o.length ≤ k) ∧ (mm = (l.length - k)) ∧ Frm aa 45 [(2, .slice none 0 0), (8, .slice Al l.length cl), (9, .int .i64 (l.length : Int)), (10, .int .i64 (k : Int)), (3, .slice Ao o.length co)] ∧ S E ww J [row (.slice Ao o.length co) 38 5 clo]) := ⟨_, fun _ _ _ => Iff.rfl⟩
 refine RunC.loopX Inv0 (fun aa ww hF hS => ⟨_, (hInv0 _ _ _).2 ⟨0, ([] : List ASeal), none, 0, [], I, (Imm.le.refl _), all_nil, (by omega), rfl, (by simp), rfl, hF.sub (Sub.of rfl), hS.sub (perm_self _)⟩⟩) ?_
 intro mm0 aa ww hv
 obtain ⟨k, o, Ao, co, clo, J, hJ_le, ho, hk, ho_, hol, hmm_, hF, hS⟩ := (hInv0 _ _ _).1 hv
 clear hv
 refine RunC.go ?_ hF hS
 clear hF hS aa ww
 refine RunC.sr ?_
 refine Run.m (v := .bool (decide ((k : Int) < (l.length : Int)))) (y_bin rfl rfl rfl bn_lss) ?_
 refine Run.nx ?_
 refine RunC.seq ?_
 refine RunC.cond rfl (fun hc0 => ?_) (fun hc0 => ?_)
 ·
  try simp only [z1, z2, z3, z4, z5, z6, z7, z8, z9, z10, z11, z12, z13, z14, z15, z16] at hc0
  refine RunC.skip ?_
  refine RunQ.next ?_
  refine RunC.seq ?_
  refine RunC.block ?_
  refine RunC.sr ?_
  obtain ⟨x12, p12_1, cs12_1, hx12, hp12_1, hcs12_1, hrc12_1⟩ := Sl.at_ (P := Tryz.prog) (T := tTape) Tryz.runUnderlying22 Tryz.sizeOf45 (hl.mono hJ_le) (k := .i64) (i := (k : Int)) (by omega) (by omega)
  replace hx12 : l[k]? = some x12 := hx12
  obtain ⟨A12_1_2, c12_1_2, rfl, f12_1_0, f12_1_1, f12_1_2⟩ := hcs12_1
  have hsm12_1_2 := f12_1_2.small
  refine Run.m (v := .pointer (some p12_1)) (y_index rfl rfl rfl hp12_1) ?_
  refine Run.m (v := .agg [.int .i64 x12.label, .int .i64 x12.cap, .slice A12_1_2 x12.blocks.length c12_1_2, .bool x12.lost].toArray) (y_loadA (cs := [.int .i64 x12.label, .int .i64 x12.cap, .slice A12_1_2 x12.blocks.length c12_1_2, .bool x12.lost]) rfl Tryz.isAgg45 Tryz.sizeOf45 rfl hrc12_1 rfl) ?_
  refine Run.alloc (cs := [.int .i64 0, .int .i64 0, .slice none 0 0, .bool false]) rfl Tryz.zeroValue45 rfl rfl rfl (by decide) (fun g5_2 => ?_)
  refine Run.storeB (vs := [.int .i64 x12.label, .int .i64 x12.cap, .slice A12_1_2 x12.blocks.length c12_1_2, .bool x12.lost]) (cs' := [.int .i64 x12.label, .int .i64 x12.cap, .slice A12_1_2 x12.blocks.length c12_1_2, .bool x12.lost]) (own' := [row (.slice Ao o.length co) 38 5 clo]) 0 rfl rfl rfl Tryz.sizeOf45 rfl rfl rfl rfl rfl (Nat.le_of_ble_eq_true rfl) rfl rfl rfl ?_
  refine Run.nx ?_
  refine RunC.sr ?_
  refine Run.m (v := .agg [.int .i64 x12.label, .int .i64 x12.cap, .slice A12_1_2 x12.blocks.length c12_1_2, .bool x12.lost].toArray) (y_loadBA 0 rfl Tryz.isAgg45 Tryz.sizeOf45 rfl rfl rfl rfl) ?_
  refine Run.call0 (en_func rfl Tryz.call38 rfl) (c_volume_Sealed _ x12 ⟨_, _, rfl, f12_1_0, f12_1_1, f12_1_2⟩ (hszl _ (List.mem_of_getElem? hx12))) rfl rfl (by decide) (fun J3 o3 v3 hleJ3 hq3 => ?_)
  obtain ⟨rfl, cs3a, cs3b, rfl, h3a, h3b⟩ := hq3
  replace h3a : tSeal.rd J3 cs3a ((vSealed x12).1) := h3a
  obtain ⟨A3a_4, c3a_4, rfl, f3a_0, f3a_1, f3a_2, f3a_3, f3a_4⟩ := h3a
  have hsm3a_4 := f3a_4.small
  replace h3b : tBool.rd J3 cs3b ((vSealed x12).2) := h3b
  obtain rfl := h3b
  refine Run.mv ?_
  refine Run.m (y_extract rfl rfl rfl) ?_
  refine Run.m (y_extract rfl rfl rfl) ?_
  refine Run.alloc (cs := [.int .i64 0, .int .i64 0, .int .i64 0, .int .i64 0, .slice none 0 0]) rfl Tryz.zeroValue38 rfl rfl rfl (by decide) (fun g6_4 => ?_)
  refine Run.storeB (vs := [.int .i64 (((vSealed x12).1).number), .int .i64 (((vSealed x12).1).index), .int .i64 (((vSealed x12).1).data), .int .i64 (((vSealed x12).1).parity), .slice A3a_4 ((((vSealed x12).1).labels).length) c3a_4]) (cs' := [.int .i64 (((vSealed x12).1).number), .int .i64 (((vSealed x12).1).index), .int .i64 (((vSealed x12).1).data), .int .i64 (((vSealed x12).1).parity), .slice A3a_4 ((((vSealed x12).1).labels).length) c3a_4]) (own' := [blk g5_2 [.int .i64 x12.label, .int .i64 x12.cap, .slice A12_1_2 x12.blocks.length c12_1_2, .bool x12.lost] 45, row (.slice Ao o.length co) 38 5 clo]) 0 rfl rfl rfl Tryz.sizeOf38 rfl rfl rfl rfl rfl (Nat.le_of_ble_eq_true rfl) rfl rfl rfl ?_
  refine Run.as ?_
  refine Run.nx ?_
  refine RunC.seq ?_
  refine RunC.seq ?_
  refine RunC.freezeB 1 rfl (own' := [blk g6_4 [.int .i64 (((vSealed x12).1).number), .int .i64 (((vSealed x12).1).index), .int .i64 (((vSealed x12).1).data), .int .i64 (((vSealed x12).1).parity), .slice A3a_4 ((((vSealed x12).1).labels).length) c3a_4] 38, row (.slice Ao o.length co) 38 5 clo]) rfl (fun J5 hleJ5 hfzJ5 => ?_)
  refine RunC.freezeB 0 rfl (own' := [row (.slice Ao o.length co) 38 5 clo]) rfl (fun J6 hleJ6 hfzJ6 => ?_)
  refine RunC.regionD (by kernel_rfl) (by kernel_rfl) ?_
  refine RunZ.y (v := .bool ((vSealed x12).2)) (y_move rfl rfl) rfl rfl (by decide) ?_
  refine RunZ.y (v := .bool (!((vSealed x12).2))) (y_not (b := ((vSealed x12).2)) rfl rfl) rfl rfl (by decide) ?_
  refine RunZ.y (v := .bool (!((vSealed x12).2))) (y_move rfl rfl) rfl rfl (by decide) ?_
  refine RunZ.split 10 rfl (b := (!((vSealed x12).2))) (d := 31) (v := .bool ((!((vSealed x12).2)) || (decide (labIx (vSealed x12).1 ≠ x12.label)))) (fun hb21 K21 => ?_) (fun hb21 K21 => ?_) ?_
  ·
   have hc1021 := hb21; try simp only [z1, z2, z3, z4, z5, z6, z7, z8, z9, z10, z11, z12, z13, z14, z15, z16] at hc1021
   refine RunZ.no rfl rfl rfl rfl (hb21) rfl (by decide) ?_
   refine RunZ.no rfl rfl rfl rfl (hb21) rfl (by decide) ?_
   refine RunZ.no rfl rfl rfl rfl (hb21) rfl (by decide) ?_
   refine RunZ.no rfl rfl rfl rfl (hb21) rfl (by decide) ?_
   refine RunZ.no rfl rfl rfl rfl (hb21) rfl (by decide) ?_
   refine RunZ.no rfl rfl rfl rfl (hb21) rfl (by decide) ?_
   refine RunZ.no rfl rfl rfl rfl (hb21) rfl (by decide) ?_
   refine RunZ.no rfl rfl rfl rfl (hb21) rfl (by decide) ?_
   refine RunZ.no rfl rfl rfl rfl (hb21) rfl (by decide) ?_
   refine RunZ.y (y_pickB rfl rfl (hb21) rfl) rfl rfl (by decide) ?_
   exact K21 _ _ (by rw [hb21]; first | (simp; done) | (rw [labIx, List.getD_eq_getElem?_getD, hx26]; simp)) (Sub.tl 9 rfl rfl)
  ·
   have hc1021 := hb21; try simp only [z1, z2, z3, z4, z5, z6, z7, z8, z9, z10, z11, z12, z13, z14, z15, z16] at hc1021
   refine RunZ.yes (v := .pointer (some ⟨g6_4, 4, none⟩)) (y_fieldAddr rfl rfl Tryz.runUnderlying38 rfl Tryz.sizeOf36 (by decide) rfl) rfl rfl rfl rfl (hb21) rfl (by decide) ?_
   refine RunZ.yes (v := .slice A3a_4 ((((vSealed x12).1).labels).length) c3a_4) (y_load1 rfl Tryz.isAgg36 rfl (RCells.at_ hfzJ6 4 rfl rfl)) rfl rfl rfl rfl (hb21) rfl (by decide) ?_
   refine RunZ.yes (v := .pointer (some ⟨g6_4, 1, none⟩)) (y_fieldAddr rfl rfl Tryz.runUnderlying38 rfl Tryz.sizeOf3 (by decide) rfl) rfl rfl rfl rfl (hb21) rfl (by decide) ?_
   refine RunZ.yes (v := .int .i64 (((vSealed x12).1).index)) (y_load1 rfl Tryz.isAgg3 rfl (RCells.at_ hfzJ6 1 rfl rfl)) rfl rfl rfl rfl (hb21) rfl (by decide) ?_
   obtain ⟨x26, p26_7, cs26_7, hx26, hp26_7, hcs26_7, hrc26_7⟩ := Sl.at_ (P := Tryz.prog) (T := tInt) Tryz.runUnderlying36 Tryz.sizeOf3 (f3a_4.mono (hleJ5.trans hleJ6)) (k := .i64) (i := ((vSealed x12).1).index) (vSealed_ix hc1021).1 (vSealed_ix hc1021).2
   obtain ⟨rfl, f26_7_0⟩ := hcs26_7
   refine RunZ.yes (v := .pointer (some p26_7)) (y_index rfl rfl rfl hp26_7) rfl rfl rfl rfl (hb21) rfl (by decide) ?_
   refine RunZ.yes (v := .int .i64 x26) (y_load1 rfl Tryz.isAgg3 rfl (RCells.hd hrc26_7)) rfl rfl rfl rfl (hb21) rfl (by decide) ?_
   refine RunZ.yes (v := .pointer (some ⟨g5_2, 0, none⟩)) (y_fieldAddr rfl rfl Tryz.runUnderlying45 rfl Tryz.sizeOf3 (by decide) rfl) rfl rfl rfl rfl (hb21) rfl (by decide) ?_
   refine RunZ.yes (v := .int .i64 x12.label) (y_load1 rfl Tryz.isAgg3 rfl (RCells.at_ (hfzJ5.mono hleJ6) 0 rfl rfl)) rfl rfl rfl rfl (hb21) rfl (by decide) ?_
   refine RunZ.yes (v := .bool (decide (x26 ≠ x12.label))) (y_bin rfl rfl rfl bn_neq) rfl rfl rfl rfl (hb21) rfl (by decide) ?_
   refine RunZ.y (y_pickB rfl rfl (hb21) rfl) rfl rfl (by decide) ?_
   exact K21 _ _ (by rw [hb21]; first | (simp; done) | (rw [labIx, List.getD_eq_getElem?_getD, hx26]; simp)) (Sub.tl 9 rfl rfl)
  refine RunZ.y (v := .bool ((!((vSealed x12).2)) || (decide (labIx (vSealed x12).1 ≠ x12.label)))) (y_move rfl rfl) rfl rfl (by decide) ?_
  refine RunZ.split 4 rfl (b := ((!((vSealed x12).2)) || (decide (labIx (vSealed x12).1 ≠ x12.label)))) (d := 36) (v := .bool (((!((vSealed x12).2)) || (decide (labIx (vSealed x12).1 ≠ x12.label))) || (o.any (fun x => (decide (x.number = ((vSealed x12).1).number)))))) (fun hb32 K32 => ?_) (fun hb32 K32 => ?_) ?_
  ·
   have hc1032 := hb32; try simp only [z1, z2, z3, z4, z5, z6, z7, z8, z9, z10, z11, z12, z13, z14, z15, z16] at hc1032
   refine RunZ.no rfl rfl rfl rfl (hb32) rfl (by decide) ?_
   refine RunZ.no rfl rfl rfl rfl (hb32) rfl (by decide) ?_
   refine RunZ.no rfl rfl rfl rfl (hb32) rfl (by decide) ?_
   refine RunZ.y (y_pickB rfl rfl (hb32) rfl) rfl rfl (by decide) ?_
   exact K32 _ _ (by rw [hb32]; simp) (Sub.tl 3 rfl rfl)
  ·
   have hc1032 := hb32; try simp only [z1, z2, z3, z4, z5, z6, z7, z8, z9, z10, z11, z12, z13, z14, z15, z16] at hc1032
   refine RunZ.yes (v := .slice Ao o.length co) (y_move rfl rfl) rfl rfl rfl rfl (hb32) rfl (by decide) ?_
   refine RunZ.yes (v := .func (.func 40) #[] #[.pointer (some ⟨g6_4, 0, none⟩)]) (y_makeFunc (vp := []) (vq := [.pointer (some ⟨g6_4, 0, none⟩)]) rfl rfl rfl) rfl rfl rfl rfl (hb32) rfl (by decide) ?_
   have hcp9 : tSeal.rd J6 [.int .i64 (((vSealed x12).1).number), .int .i64 (((vSealed x12).1).index), .int .i64 (((vSealed x12).1).data), .int .i64 (((vSealed x12).1).parity), .slice A3a_4 ((((vSealed x12).1).labels).length) c3a_4] ((vSealed x12).1) := ⟨_, _, rfl, f3a_0, f3a_1, f3a_2, f3a_3, (f3a_4.mono (hleJ5.trans hleJ6))⟩
   refine RunZ.callBYes (en_func rfl Tryz.call39 rfl) (Bor.row (own' := []) 0 rfl rfl (fun Jb8 hleJb8 hb_8 => Bor.base (con_bool (c_ContainsFunc_apiSeal _ o (Sl.of_rowN hb_8 rfl rfl (ho.mono (((hleJ3.trans hleJ5).trans hleJ6).trans hleJb8))) 40 [.pointer (some ⟨g6_4, 0, none⟩)] (fun x => (decide (x.number = ((vSealed x12).1).number))) Tryz.call40 (fun J cs x hle hx hm => c_group_Find_1 J x hx _ ((vSealed x12).1) (tSeal.mono (hleJb8.trans hle) hcp9) (RCells.mono (hleJb8.trans hle) hfzJ6)))))) rfl rfl rfl rfl (hb32) rfl (by decide) ?_
   refine RunZ.y (y_pickB rfl rfl (hb32) rfl) rfl rfl (by decide) ?_
   exact K32 _ _ (by rw [hb32]; simp) (Sub.tl 3 rfl rfl)
  refine RunZ.nil ?_
  refine RunQ.next ?_
  refine RunC.cond rfl (fun hc1 => ?_) (fun hc1 => ?_)
  ·
   try simp only [z1, z2, z3, z4, z5, z6, z7, z8, z9, z10, z11, z12, z13, z14, z15, z16] at hc1
   have hsk : gSkip o x12 = true := by unfold gSkip; simp only [z1, z2, z3, z4, z5, z6, z7, z8, z9, z10, z11, z12, z13, z14, z15, z16]; exact hc1
   refine RunC.exit ?_
   refine RunQ.pass (fun h => by cases h) ?_
   refine RunQ.out ?_
   refine RunQ.next ?_
   refine RunC.region ?_
   refine Run.m (v := .int .i64 ((k : Int) + 1)) (y_bin rfl rfl rfl (bn_add (by omega) (by omega))) ?_
   refine Run.mv ?_
   refine Run.nil ?_
   exact RunQ.thenI (fun aa ww hF hS => ⟨_, (by omega), (hInv0 _ _ _).2 ⟨(k + 1), o, Ao, co, clo, J6, (((hJ_le.trans hleJ3).trans hleJ5).trans hleJ6), (ho.mono ((hleJ3.trans hleJ5).trans hleJ6)), (by omega), (by rw [take_snoc' hx12, gFindU_snoc, gFind1, ← ho_]; first | (rw [if_pos hsk]; done) | (rw [if_neg (by rw [hsk]; simp)]; done)), (by first | omega | (simp; omega)), rfl, hF.sub (Sub.of rfl), hS.sub (perm_self _)⟩⟩)
  ·
   try simp only [z1, z2, z3, z4, z5, z6, z7, z8, z9, z10, z11, z12, z13, z14, z15, z16] at hc1
   have hsk : gSkip o x12 = false := by unfold gSkip; simp only [z1, z2, z3, z4, z5, z6, z7, z8, z9, z10, z11, z12, z13, z14, z15, z16]; exact hc1
   refine RunC.skip ?_
   refine RunQ.next ?_
   refine RunC.region ?_
   refine Run.mv ?_
   refine Run.m (v := .agg [.int .i64 (((vSealed x12).1).number), .int .i64 (((vSealed x12).1).index), .int .i64 (((vSealed x12).1).data), .int .i64 (((vSealed x12).1).parity), .slice A3a_4 ((((vSealed x12).1).labels).length) c3a_4].toArray) (y_loadA (cs := [.int .i64 (((vSealed x12).1).number), .int .i64 (((vSealed x12).1).index), .int .i64 (((vSealed x12).1).data), .int .i64 (((vSealed x12).1).parity), .slice A3a_4 ((((vSealed x12).1).labels).length) c3a_4]) rfl Tryz.isAgg38 Tryz.sizeOf38 rfl (show RCells _ _ [.int .i64 (((vSealed x12).1).number), .int .i64 (((vSealed x12).1).index), .int .i64 (((vSealed x12).1).data), .int .i64 (((vSealed x12).1).parity), .slice A3a_4 ((((vSealed x12).1).labels).length) c3a_4] from hfzJ6) rfl) ?_
   refine Run.lit (vs := [(0, .agg [.int .i64 (((vSealed x12).1).number), .int .i64 (((vSealed x12).1).index), .int .i64 (((vSealed x12).1).data), .int .i64 (((vSealed x12).1).parity), .slice A3a_4 ((((vSealed x12).1).labels).length) c3a_4].toArray)]) (cs := [.int .i64 (((vSealed x12).1).number), .int .i64 (((vSealed x12).1).index), .int .i64 (((vSealed x12).1).data), .int .i64 (((vSealed x12).1).parity), .slice A3a_4 ((((vSealed x12).1).labels).length) c3a_4]) (el := 38) (sz := 5) rfl rfl (fun w => by simp [Instr.buildSlice, Tryz.runUnderlying33, Tryz.sizeOf38, Tryz.zeroValue38, Instr.fill, Value.cells, newRow, (show Array.range 5 = #[0, 1, 2, 3, 4] from rfl)]) rfl (by simp [maxLen]) rfl rfl (by decide) (fun g39 => ?_)
   have hlit10 : tSeal.all J6 [.int .i64 (((vSealed x12).1).number), .int .i64 (((vSealed x12).1).index), .int .i64 (((vSealed x12).1).data), .int .i64 (((vSealed x12).1).parity), .slice A3a_4 ((((vSealed x12).1).labels).length) c3a_4] [((vSealed x12).1)] := (all_snoc (T := tSeal) all_nil ⟨_, _, rfl, f3a_0, f3a_1, f3a_2, f3a_3, (f3a_4.mono (hleJ5.trans hleJ6))⟩)
   have hall11 : tSeal.all J6 (clo ++ ([.int .i64 (((vSealed x12).1).number), .int .i64 (((vSealed x12).1).index), .int .i64 (((vSealed x12).1).data), .int .i64 (((vSealed x12).1).parity), .slice A3a_4 ((((vSealed x12).1).labels).length) c3a_4])) (o ++ ([((vSealed x12).1)])) := all_append (ho.mono ((hleJ3.trans hleJ5).trans hleJ6)) hlit10
   refine Run.append (by_ := 56) (ys := [.int .i64 (((vSealed x12).1).number), .int .i64 (((vSealed x12).1).index), .int .i64 (((vSealed x12).1).data), .int .i64 (((vSealed x12).1).parity), .slice A3a_4 ((((vSealed x12).1).labels).length) c3a_4]) (k := 1) (own' := [row (.slice (some ⟨g39, 0, none⟩) 1 1) 38 5 ([.int .i64 (((vSealed x12).1).number), .int .i64 (((vSealed x12).1).index), .int .i64 (((vSealed x12).1).data), .int .i64 (((vSealed x12).1).parity), .slice A3a_4 ((((vSealed x12).1).labels).length) c3a_4])]) 1 rfl rfl rfl Tryz.runUnderlying33 (.inl Tryz.runUnderlying33) Tryz.sizeOf38 Tryz.typeInfo38 rfl Tryz.zeroValue38 rfl rfl rfl (fun w hS => src_own hS (i := 0) rfl) (row_len hlit10 (by first | rfl | (simp; done) | (simp; omega)) rfl) (all_one hlit10) ((o ++ ([((vSealed x12).1)])).length) (by first | (simp; done) | (simp; omega)) (by simp; omega) (by simp [maxLen]; omega) rfl rfl (by decide) (fun A40_11 c40_11 => ?_)
   refine Run.weak Sub.refl (perm_take (i := 0) rfl (perm_nil _)) ?_
   refine Run.as ?_
   refine Run.nil ?_
   refine RunQ.inB ?_
   refine RunQ.next ?_
   refine RunC.region ?_
   refine Run.m (v := .int .i64 ((k : Int) + 1)) (y_bin rfl rfl rfl (bn_add (by omega) (by omega))) ?_
   refine Run.mv ?_
   refine Run.nil ?_
   exact RunQ.thenI (fun aa ww hF hS => ⟨_, (by omega), (hInv0 _ _ _).2 ⟨(k + 1), (o ++ ([((vSealed x12).1)])), A40_11, c40_11, clo ++ ([.int .i64 (((vSealed x12).1).number), .int .i64 (((vSealed x12).1).index), .int .i64 (((vSealed x12).1).data), .int .i64 (((vSealed x12).1).parity), .slice A3a_4 ((((vSealed x12).1).labels).length) c3a_4]), J6, (((hJ_le.trans hleJ3).trans hleJ5).trans hleJ6), hall11, (by omega), (by rw [take_snoc' hx12, gFindU_snoc, gFind1, ← ho_]; first | (rw [if_pos hsk]; done) | (rw [if_neg (by rw [hsk]; simp)]; done)), (by first | omega | (simp; omega)), rfl, hF.sub (Sub.of rfl), hS.sub (perm_self _)⟩⟩)
 ·
  try simp only [z1, z2, z3, z4, z5, z6, z7, z8, z9, z10, z11, z12, z13, z14, z15, z16] at hc0
  refine RunC.exit ?_
  refine RunQ.pass (fun h => by cases h) ?_
  refine RunQ.pass (fun h => by cases h) ?_
  refine RunQ.out ?_
  refine RunQ.next ?_
  refine RunC.sr ?_
  refine Run.mv ?_
  refine Run.call (own1 := [row (.slice Ao o.length co) 38 5 clo]) (own2 := []) (en_func rfl Tryz.call41 rfl) (c_SortFunc_Seal _ Ao co clo o ho (by omega)) (permC (i := 0) rfl rfl (List.Perm.refl _)) rfl rfl (by decide) (fun J12 o12 v12 hleJ12 hq12 => ?_)
  obtain ⟨sx43, scl12, hsp43, hss43, rfl, rfl, hsa12⟩ := hq12
  refine Run.cast (s := 3) (v' := .slice Ao sx43.length co) rfl (by rw [hsp43.length_eq]) ?_
  refine Run.cast (s := 42) (v' := .slice Ao sx43.length co) rfl (by rw [hsp43.length_eq]) ?_
  refine Run.nx ?_
  refine RunC.sr ?_
  refine Run.mv ?_
  refine Run.as ?_
  refine Run.nx ?_
  refine RunC.ret ?_
  refine RunQ.freezeR 0 rfl (own' := []) rfl (fun J13 hleJ13 hfzJ13 => ?_)
  have hslJ13 : Sl tSeal J13 Ao co sx43 := Sl.of_rowN hfzJ13 rfl rfl (hsa12.mono hleJ13)
  refine RunQ.weak Sub.refl (perm_nil _) ?_
  refine RunQ.fin1 (.inl rfl) Tryz.results12 (rv_tmp rfl) ?_
  exact ⟨rfl, _, rfl, (rd_eq (T := (tSl tSeal)) (x := sx43) ⟨_, _, rfl, hslJ13⟩ (by exact gFind_of (by rw [List.take_of_length_le (by omega)] at ho_; rw [← ho_]; exact hsp43) hss43))⟩
end Go.Proofs.YtmelbclhkkbmiaaGreat.K
