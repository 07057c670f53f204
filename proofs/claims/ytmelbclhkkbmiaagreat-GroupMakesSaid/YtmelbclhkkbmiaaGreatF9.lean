/- Contracts of functions of the program, each proved by a walk through its operations, for all memory and all arguments that the theorem names. Printed by a program of mine. -/
import Derived.Test.YtmelbclhkkbmiaaGreatF8
set_option linter.unusedVariables false
set_option linter.unusedSimpArgs false
set_option maxRecDepth 100000
namespace Go.Proofs.YtmelbclhkkbmiaaGreat.K
open Go Go.RowKit

theorem c_cartridgelaw14_alive (I : Imm) : Con Tryz.prog 6 [].toArray I [] (Ret1 (tBool.o) true) := by
 refine Con.enter (n := 49) (L := []) Tryz.func6 rfl rfl (Nat.le_of_ble_eq_true rfl) rfl (fun E => ?_)
 refine RunC.sr ?_
 refine Run.as ?_
 refine Run.nx ?_
 refine RunC.sr ?_
 refine Run.lit (vs := [(0, .int .u8 ((68 : UInt8).toNat : Int))]) (cs := [.int .u8 ((68 : UInt8).toNat : Int)]) (el := 5) (sz := 1) rfl rfl (fun w => by simp [Instr.buildSlice, Tryz.runUnderlying42, Tryz.sizeOf5, Tryz.zeroValue5, Instr.fill, Value.cells, newRow, (show Array.range 1 = #[0] from rfl)]) rfl (by simp [maxLen]) rfl rfl (by decide) (fun g6 => ?_)
 have hlit1 : tU8.all I [.int .u8 ((68 : UInt8).toNat : Int)] [(68 : UInt8)] := (all_snoc (T := tU8) all_nil rfl)
 refine Run.convS (own' := []) 0 rfl rfl Tryz.underlying42 Tryz.underlying5 rfl rfl (by decide) rfl rfl (by decide) (fun J2 hleJ2 hfzJ2 => ?_)
 have hslJ2 : Sl tU8 J2 (some ⟨g6, 0, none⟩) 1 ([(68 : UInt8)]) := Sl.of_rowN hfzJ2 rfl rfl (hlit1.mono hleJ2)
 refine Run.m (v := .agg [.int .i64 1, .int .i64 1, .int .i64 0, .slice (some ⟨g6, 0, none⟩) 1 1].toArray) (y_build (vs := [(0, .int .i64 1), (1, .int .i64 1), (3, .slice (some ⟨g6, 0, none⟩) 1 1)]) rfl rfl (fun w => by simp [Instr.build, Tryz.zeroValue63, Tryz.runUnderlying63, Tryz.sizeOf3, Tryz.sizeOf42, Instr.fill, Value.cells])) ?_
 refine Run.call (own1 := []) (own2 := []) (en_func rfl Tryz.call24 rfl) (c_cartridgeref1_PutFrame _ (⟨1, 1, 0, [(68 : UInt8)]⟩ : AUnit) ⟨_, _, rfl, (by first | omega | (dsimp only; omega)), (by first | omega | (dsimp only; omega)), (by first | omega | (dsimp only; omega)), hslJ2⟩) (List.Perm.refl _) rfl rfl (by decide) (fun J3 o3 v3 hleJ3 hq3 => ?_)
 obtain ⟨yr3_0, Ar3_0, cr3_0, clr3_0, csr3_1, er3_0, rfl, rfl, hr3_0, hr3_1⟩ := hq3
 obtain rfl : (if uCheck (⟨1, 1, 0, [(68 : UInt8)]⟩ : AUnit) = 0 then fMade (⟨1, 1, 0, [(68 : UInt8)]⟩ : AUnit) else []) = yr3_0 := er3_0.symm
 replace hr3_1 : tInt.rd J3 csr3_1 (uCheck (⟨1, 1, 0, [(68 : UInt8)]⟩ : AUnit)) := hr3_1
 obtain ⟨rfl, f3_1_0⟩ := hr3_1
 refine Run.mv ?_
 refine Run.m (y_extract rfl rfl rfl) ?_
 refine Run.m (y_extract rfl rfl rfl) ?_
 refine Run.as ?_
 refine Run.as ?_
 refine Run.nx ?_
 refine RunC.sr ?_
 refine Run.mv ?_
 refine Run.freezeR 0 rfl (own' := []) rfl (fun J4 hleJ4 hfzJ4 => ?_)
 have hslJ4 : Sl tU8 J4 Ar3_0 cr3_0 (if uCheck (⟨1, 1, 0, [(68 : UInt8)]⟩ : AUnit) = 0 then fMade (⟨1, 1, 0, [(68 : UInt8)]⟩ : AUnit) else []) := Sl.of_rowN hfzJ4 rfl rfl (hr3_0.mono hleJ4)
 refine Run.lit (vs := [(0, .slice Ar3_0 ((if uCheck (⟨1, 1, 0, [(68 : UInt8)]⟩ : AUnit) = 0 then fMade (⟨1, 1, 0, [(68 : UInt8)]⟩ : AUnit) else []).length) cr3_0)]) (cs := [.slice Ar3_0 ((if uCheck (⟨1, 1, 0, [(68 : UInt8)]⟩ : AUnit) = 0 then fMade (⟨1, 1, 0, [(68 : UInt8)]⟩ : AUnit) else []).length) cr3_0]) (el := 42) (sz := 1) rfl rfl (fun w => by simp [Instr.buildSlice, Tryz.runUnderlying43, Tryz.sizeOf42, Tryz.zeroValue42, Instr.fill, Value.cells, newRow, (show Array.range 1 = #[0] from rfl)]) rfl (by simp [maxLen]) rfl rfl (by decide) (fun g14 => ?_)
 refine Run.m (v := .agg [.int .i64 1, .int .i64 4, .slice (some ⟨g14, 0, none⟩) 1 1, .bool false].toArray) (y_build (vs := [(0, .int .i64 1), (1, .int .i64 4), (2, .slice (some ⟨g14, 0, none⟩) 1 1)]) rfl rfl (fun w => by simp [Instr.build, Tryz.zeroValue45, Tryz.runUnderlying45, Tryz.sizeOf3, Tryz.sizeOf4, Tryz.sizeOf43, Instr.fill, Value.cells])) ?_
 have hlit5 : (tSl tU8).all J4 [.slice Ar3_0 ((if uCheck (⟨1, 1, 0, [(68 : UInt8)]⟩ : AUnit) = 0 then fMade (⟨1, 1, 0, [(68 : UInt8)]⟩ : AUnit) else []).length) cr3_0] [(if uCheck (⟨1, 1, 0, [(68 : UInt8)]⟩ : AUnit) = 0 then fMade (⟨1, 1, 0, [(68 : UInt8)]⟩ : AUnit) else [])] := (all_snoc (T := (tSl tU8)) all_nil ⟨_, _, rfl, hslJ4⟩)
 refine Run.freezeR 0 rfl (own' := []) rfl (fun J6 hleJ6 hfzJ6 => ?_)
 have hslJ6 : Sl (tSl tU8) J6 (some ⟨g14, 0, none⟩) 1 ([(if uCheck (⟨1, 1, 0, [(68 : UInt8)]⟩ : AUnit) = 0 then fMade (⟨1, 1, 0, [(68 : UInt8)]⟩ : AUnit) else [])]) := Sl.of_rowN hfzJ6 (by simp) rfl (hlit5.mono hleJ6)
 refine Run.cast (s := 14) (v' := .slice (some ⟨g14, 0, none⟩) ([(if uCheck (⟨1, 1, 0, [(68 : UInt8)]⟩ : AUnit) = 0 then fMade (⟨1, 1, 0, [(68 : UInt8)]⟩ : AUnit) else [])]).length 1) rfl (congrArg (fun n => Value.slice (some ⟨g14, 0, none⟩) n 1) (show 1 = _ from (show ([(if uCheck (⟨1, 1, 0, [(68 : UInt8)]⟩ : AUnit) = 0 then fMade (⟨1, 1, 0, [(68 : UInt8)]⟩ : AUnit) else [])]).length = 1 from (by simp)).symm)) ?_
 refine Run.lit (vs := [(0, .agg [.int .i64 1, .int .i64 4, .slice (some ⟨g14, 0, none⟩) (([(if uCheck (⟨1, 1, 0, [(68 : UInt8)]⟩ : AUnit) = 0 then fMade (⟨1, 1, 0, [(68 : UInt8)]⟩ : AUnit) else [])]).length) 1, .bool false].toArray)]) (cs := [.int .i64 1, .int .i64 4, .slice (some ⟨g14, 0, none⟩) (([(if uCheck (⟨1, 1, 0, [(68 : UInt8)]⟩ : AUnit) = 0 then fMade (⟨1, 1, 0, [(68 : UInt8)]⟩ : AUnit) else [])]).length) 1, .bool false]) (el := 45) (sz := 4) rfl rfl (fun w => by simp [Instr.buildSlice, Tryz.runUnderlying22, Tryz.sizeOf45, Tryz.zeroValue45, Instr.fill, Value.cells, newRow, (show Array.range 4 = #[0, 1, 2, 3] from rfl)]) rfl (by simp [maxLen]) rfl rfl (by decide) (fun g16 => ?_)
 refine Run.m (v := .agg [.int .i64 2, .int .i64 4, .slice none 0 0, .bool false].toArray) (y_build (vs := [(0, .int .i64 2), (1, .int .i64 4)]) rfl rfl (fun w => by simp [Instr.build, Tryz.zeroValue45, Tryz.runUnderlying45, Tryz.sizeOf3, Tryz.sizeOf4, Tryz.sizeOf43, Instr.fill, Value.cells])) ?_
 refine Run.lit (vs := [(0, .agg [.int .i64 2, .int .i64 4, .slice none 0 0, .bool false].toArray)]) (cs := [.int .i64 2, .int .i64 4, .slice none 0 0, .bool false]) (el := 45) (sz := 4) rfl rfl (fun w => by simp [Instr.buildSlice, Tryz.runUnderlying22, Tryz.sizeOf45, Tryz.zeroValue45, Instr.fill, Value.cells, newRow, (show Array.range 4 = #[0, 1, 2, 3] from rfl)]) rfl (by simp [maxLen]) rfl rfl (by decide) (fun g18 => ?_)
 have hlit7 : tTape.all J6 [.int .i64 1, .int .i64 4, .slice (some ⟨g14, 0, none⟩) (([(if uCheck (⟨1, 1, 0, [(68 : UInt8)]⟩ : AUnit) = 0 then fMade (⟨1, 1, 0, [(68 : UInt8)]⟩ : AUnit) else [])]).length) 1, .bool false] [(⟨1, 4, [(if uCheck (⟨1, 1, 0, [(68 : UInt8)]⟩ : AUnit) = 0 then fMade (⟨1, 1, 0, [(68 : UInt8)]⟩ : AUnit) else [])], false⟩ : ATape)] := (all_snoc (T := tTape) all_nil ⟨_, _, rfl, (by first | omega | (dsimp only; omega)), (by first | omega | (dsimp only; omega)), hslJ6⟩)
 refine Run.freezeR 1 rfl (own' := [row (.slice (some ⟨g18, 0, none⟩) 1 1) 45 4 ([.int .i64 2, .int .i64 4, .slice none 0 0, .bool false])]) rfl (fun J8 hleJ8 hfzJ8 => ?_)
 have hslJ8 : Sl tTape J8 (some ⟨g16, 0, none⟩) 1 ([(⟨1, 4, [(if uCheck (⟨1, 1, 0, [(68 : UInt8)]⟩ : AUnit) = 0 then fMade (⟨1, 1, 0, [(68 : UInt8)]⟩ : AUnit) else [])], false⟩ : ATape)]) := Sl.of_rowN hfzJ8 (by simp) rfl (hlit7.mono hleJ8)
 refine Run.cast (s := 16) (v' := .slice (some ⟨g16, 0, none⟩) ([(⟨1, 4, [(if uCheck (⟨1, 1, 0, [(68 : UInt8)]⟩ : AUnit) = 0 then fMade (⟨1, 1, 0, [(68 : UInt8)]⟩ : AUnit) else [])], false⟩ : ATape)]).length 1) rfl (congrArg (fun n => Value.slice (some ⟨g16, 0, none⟩) n 1) (show 1 = _ from (show ([(⟨1, 4, [(if uCheck (⟨1, 1, 0, [(68 : UInt8)]⟩ : AUnit) = 0 then fMade (⟨1, 1, 0, [(68 : UInt8)]⟩ : AUnit) else [])], false⟩ : ATape)]).length = 1 from (by simp)).symm)) ?_
 have hlit9 : tTape.all J8 [.int .i64 2, .int .i64 4, .slice none 0 0, .bool false] [(⟨2, 4, ([] : List (List UInt8)), false⟩ : ATape)] := (all_snoc (T := tTape) all_nil ⟨_, _, rfl, (by first | omega | (dsimp only; omega)), (by first | omega | (dsimp only; omega)), sl_nil0⟩)
 refine Run.freezeR 0 rfl (own' := []) rfl (fun J10 hleJ10 hfzJ10 => ?_)
 have hslJ10 : Sl tTape J10 (some ⟨g18, 0, none⟩) 1 ([(⟨2, 4, ([] : List (List UInt8)), false⟩ : ATape)]) := Sl.of_rowN hfzJ10 (by simp) rfl (hlit9.mono hleJ10)
 refine Run.cast (s := 18) (v' := .slice (some ⟨g18, 0, none⟩) ([(⟨2, 4, ([] : List (List UInt8)), false⟩ : ATape)]).length 1) rfl (congrArg (fun n => Value.slice (some ⟨g18, 0, none⟩) n 1) (show 1 = _ from (show ([(⟨2, 4, ([] : List (List UInt8)), false⟩ : ATape)]).length = 1 from (by simp)).symm)) ?_
 refine Run.call0 (en_func rfl Tryz.call8 rfl) (c_group_Make _ ([(⟨1, 4, [(if uCheck (⟨1, 1, 0, [(68 : UInt8)]⟩ : AUnit) = 0 then fMade (⟨1, 1, 0, [(68 : UInt8)]⟩ : AUnit) else [])], false⟩ : ATape)]) (hslJ8.mono hleJ10) ([(⟨2, 4, ([] : List (List UInt8)), false⟩ : ATape)]) hslJ10 1 (by omega) (by simp) (by simp) (by intro t ht x hx; simp only [List.mem_singleton] at ht; subst ht; simp only [List.mem_singleton] at hx; subst hx; have := fput_len (⟨1, 1, 0, [68]⟩ : AUnit); omega) (by simp [tLenL]; omega)) rfl rfl (by decide) (fun J11 o11 v11 hleJ11 hq11 => ?_)
 obtain ⟨rfl, cs11a, cs11b, rfl, h11a, h11b⟩ := hq11
 replace h11a : (tSl tTape).rd J11 cs11a ((gMake ([(⟨1, 4, [(if uCheck (⟨1, 1, 0, [(68 : UInt8)]⟩ : AUnit) = 0 then fMade (⟨1, 1, 0, [(68 : UInt8)]⟩ : AUnit) else [])], false⟩ : ATape)]) ([(⟨2, 4, ([] : List (List UInt8)), false⟩ : ATape)]) (1 : Int)).1) := h11a
 obtain ⟨A11a_0, c11a_0, rfl, f11a_0⟩ := h11a
 have hsm11a_0 := f11a_0.small
 replace h11b : tInt.rd J11 cs11b ((gMake ([(⟨1, 4, [(if uCheck (⟨1, 1, 0, [(68 : UInt8)]⟩ : AUnit) = 0 then fMade (⟨1, 1, 0, [(68 : UInt8)]⟩ : AUnit) else [])], false⟩ : ATape)]) ([(⟨2, 4, ([] : List (List UInt8)), false⟩ : ATape)]) (1 : Int)).2) := h11b
 obtain ⟨rfl, f11b_0⟩ := h11b
 refine Run.mv ?_
 refine Run.m (y_extract rfl rfl rfl) ?_
 refine Run.m (y_extract rfl rfl rfl) ?_
 refine Run.as ?_
 refine Run.as ?_
 refine Run.nx ?_
 refine RunC.sr ?_
 refine Run.call0 (en_func rfl Tryz.call12 rfl) (c_group_Find _ ([] : List ATape) sl_nil0 (by simp) (by simp)) rfl rfl (by decide) (fun J12 o12 v12 hleJ12 hq12 => ?_)
 obtain ⟨rfl, cs12a, rfl, h12a⟩ := hq12
 replace h12a : (tSl tSeal).rd J12 cs12a (gFind ([] : List ATape)) := h12a
 obtain ⟨A12a_0, c12a_0, rfl, f12a_0⟩ := h12a
 have hsm12a_0 := f12a_0.small
 refine Run.m (y_len rfl Tryz.runUnderlying33 rfl) ?_
 refine Run.m (v := .bool (decide (((gFind ([] : List ATape)).length : Int) = 0))) (y_bin rfl rfl rfl bn_eql) ?_
 refine Run.mv ?_
 refine Run.split 4 rfl (b := decide (((gFind ([] : List ATape)).length : Int) = 0)) (d := 29) (v := .bool ((decide (((gFind ([] : List ATape)).length : Int) = 0)) && (decide (((gMake ([(⟨1, 4, [(if uCheck (⟨1, 1, 0, [(68 : UInt8)]⟩ : AUnit) = 0 then fMade (⟨1, 1, 0, [(68 : UInt8)]⟩ : AUnit) else [])], false⟩ : ATape)]) ([(⟨2, 4, ([] : List (List UInt8)), false⟩ : ATape)]) (1 : Int)).2) = 0)))) (fun hb25 K25 => ?_) (fun hb25 K25 => ?_) ?_
 ·
  have hc1025 := hb25; try simp only [z1, z2, z3, z4, z5, z6, z7, z8, z9, z10, z11, z12, z13, z14, z15, z16] at hc1025
  refine Run.yes (v := .int .i64 ((gMake ([(⟨1, 4, [(if uCheck (⟨1, 1, 0, [(68 : UInt8)]⟩ : AUnit) = 0 then fMade (⟨1, 1, 0, [(68 : UInt8)]⟩ : AUnit) else [])], false⟩ : ATape)]) ([(⟨2, 4, ([] : List (List UInt8)), false⟩ : ATape)]) (1 : Int)).2)) (y_move rfl rfl) rfl rfl rfl rfl (hb25) rfl (by decide) ?_
  refine Run.callVYes (en_func rfl Tryz.call11 rfl) (conv_int (c_cartridgelaw14_num _ ((gMake ([(⟨1, 4, [(if uCheck (⟨1, 1, 0, [(68 : UInt8)]⟩ : AUnit) = 0 then fMade (⟨1, 1, 0, [(68 : UInt8)]⟩ : AUnit) else [])], false⟩ : ATape)]) ([(⟨2, 4, ([] : List (List UInt8)), false⟩ : ATape)]) (1 : Int)).2) f11b_0)) rfl rfl rfl rfl (hb25) rfl (by decide) (fun hI13 => ?_)
  refine Run.yes (v := .bool (decide (((gMake ([(⟨1, 4, [(if uCheck (⟨1, 1, 0, [(68 : UInt8)]⟩ : AUnit) = 0 then fMade (⟨1, 1, 0, [(68 : UInt8)]⟩ : AUnit) else [])], false⟩ : ATape)]) ([(⟨2, 4, ([] : List (List UInt8)), false⟩ : ATape)]) (1 : Int)).2) = 0))) (y_bin rfl rfl rfl bn_eql) rfl rfl rfl rfl (hb25) rfl (by decide) ?_
  refine Run.y (y_pickB rfl rfl (hb25) rfl) rfl rfl (by decide) ?_
  exact K25 _ _ _ (Imm.le.refl _) (by rw [hb25]; simp) (Sub.tl 3 rfl rfl)
 ·
  have hc1025 := hb25; try simp only [z1, z2, z3, z4, z5, z6, z7, z8, z9, z10, z11, z12, z13, z14, z15, z16] at hc1025
  refine Run.no rfl rfl rfl rfl (hb25) rfl (by decide) ?_
  refine Run.no rfl rfl rfl rfl (hb25) rfl (by decide) ?_
  refine Run.no rfl rfl rfl rfl (hb25) rfl (by decide) ?_
  refine Run.y (y_pickB rfl rfl (hb25) rfl) rfl rfl (by decide) ?_
  exact K25 _ _ _ (Imm.le.refl _) (by rw [hb25]; simp) (Sub.tl 3 rfl rfl)
 refine Run.mv ?_
 refine Run.split 4 rfl (b := ((decide (((gFind ([] : List ATape)).length : Int) = 0)) && (decide (((gMake ([(⟨1, 4, [(if uCheck (⟨1, 1, 0, [(68 : UInt8)]⟩ : AUnit) = 0 then fMade (⟨1, 1, 0, [(68 : UInt8)]⟩ : AUnit) else [])], false⟩ : ATape)]) ([(⟨2, 4, ([] : List (List UInt8)), false⟩ : ATape)]) (1 : Int)).2) = 0)))) (d := 34) (v := .bool (((decide (((gFind ([] : List ATape)).length : Int) = 0)) && (decide (((gMake ([(⟨1, 4, [(if uCheck (⟨1, 1, 0, [(68 : UInt8)]⟩ : AUnit) = 0 then fMade (⟨1, 1, 0, [(68 : UInt8)]⟩ : AUnit) else [])], false⟩ : ATape)]) ([(⟨2, 4, ([] : List (List UInt8)), false⟩ : ATape)]) (1 : Int)).2) = 0))) && (decide ((((gMake ([(⟨1, 4, [(if uCheck (⟨1, 1, 0, [(68 : UInt8)]⟩ : AUnit) = 0 then fMade (⟨1, 1, 0, [(68 : UInt8)]⟩ : AUnit) else [])], false⟩ : ATape)]) ([(⟨2, 4, ([] : List (List UInt8)), false⟩ : ATape)]) (1 : Int)).1).length : Int) = 1)))) (fun hb30 K30 => ?_) (fun hb30 K30 => ?_) ?_
 ·
  have hc1030 := hb30; try simp only [z1, z2, z3, z4, z5, z6, z7, z8, z9, z10, z11, z12, z13, z14, z15, z16] at hc1030
  refine Run.yes (v := .slice A11a_0 (((gMake ([(⟨1, 4, [(if uCheck (⟨1, 1, 0, [(68 : UInt8)]⟩ : AUnit) = 0 then fMade (⟨1, 1, 0, [(68 : UInt8)]⟩ : AUnit) else [])], false⟩ : ATape)]) ([(⟨2, 4, ([] : List (List UInt8)), false⟩ : ATape)]) (1 : Int)).1).length) c11a_0) (y_move rfl rfl) rfl rfl rfl rfl (hb30) rfl (by decide) ?_
  refine Run.yes (v := .int .i64 (((gMake ([(⟨1, 4, [(if uCheck (⟨1, 1, 0, [(68 : UInt8)]⟩ : AUnit) = 0 then fMade (⟨1, 1, 0, [(68 : UInt8)]⟩ : AUnit) else [])], false⟩ : ATape)]) ([(⟨2, 4, ([] : List (List UInt8)), false⟩ : ATape)]) (1 : Int)).1).length : Int)) (y_len rfl Tryz.runUnderlying22 rfl) rfl rfl rfl rfl (hb30) rfl (by decide) ?_
  refine Run.yes (v := .bool (decide ((((gMake ([(⟨1, 4, [(if uCheck (⟨1, 1, 0, [(68 : UInt8)]⟩ : AUnit) = 0 then fMade (⟨1, 1, 0, [(68 : UInt8)]⟩ : AUnit) else [])], false⟩ : ATape)]) ([(⟨2, 4, ([] : List (List UInt8)), false⟩ : ATape)]) (1 : Int)).1).length : Int) = 1))) (y_bin rfl rfl rfl bn_eql) rfl rfl rfl rfl (hb30) rfl (by decide) ?_
  refine Run.y (y_pickB rfl rfl (hb30) rfl) rfl rfl (by decide) ?_
  exact K30 _ _ _ (Imm.le.refl _) (by rw [hb30]; simp) (Sub.tl 3 rfl rfl)
 ·
  have hc1030 := hb30; try simp only [z1, z2, z3, z4, z5, z6, z7, z8, z9, z10, z11, z12, z13, z14, z15, z16] at hc1030
  refine Run.no rfl rfl rfl rfl (hb30) rfl (by decide) ?_
  refine Run.no rfl rfl rfl rfl (hb30) rfl (by decide) ?_
  refine Run.no rfl rfl rfl rfl (hb30) rfl (by decide) ?_
  refine Run.y (y_pickB rfl rfl (hb30) rfl) rfl rfl (by decide) ?_
  exact K30 _ _ _ (Imm.le.refl _) (by rw [hb30]; simp) (Sub.tl 3 rfl rfl)
 refine Run.mv ?_
 refine Run.split 7 rfl (b := (((decide (((gFind ([] : List ATape)).length : Int) = 0)) && (decide (((gMake ([(⟨1, 4, [(if uCheck (⟨1, 1, 0, [(68 : UInt8)]⟩ : AUnit) = 0 then fMade (⟨1, 1, 0, [(68 : UInt8)]⟩ : AUnit) else [])], false⟩ : ATape)]) ([(⟨2, 4, ([] : List (List UInt8)), false⟩ : ATape)]) (1 : Int)).2) = 0))) && (decide ((((gMake ([(⟨1, 4, [(if uCheck (⟨1, 1, 0, [(68 : UInt8)]⟩ : AUnit) = 0 then fMade (⟨1, 1, 0, [(68 : UInt8)]⟩ : AUnit) else [])], false⟩ : ATape)]) ([(⟨2, 4, ([] : List (List UInt8)), false⟩ : ATape)]) (1 : Int)).1).length : Int) = 1)))) (d := 42) (v := .bool ((((decide (((gFind ([] : List ATape)).length : Int) = 0)) && (decide (((gMake ([(⟨1, 4, [(if uCheck (⟨1, 1, 0, [(68 : UInt8)]⟩ : AUnit) = 0 then fMade (⟨1, 1, 0, [(68 : UInt8)]⟩ : AUnit) else [])], false⟩ : ATape)]) ([(⟨2, 4, ([] : List (List UInt8)), false⟩ : ATape)]) (1 : Int)).2) = 0))) && (decide ((((gMake ([(⟨1, 4, [(if uCheck (⟨1, 1, 0, [(68 : UInt8)]⟩ : AUnit) = 0 then fMade (⟨1, 1, 0, [(68 : UInt8)]⟩ : AUnit) else [])], false⟩ : ATape)]) ([(⟨2, 4, ([] : List (List UInt8)), false⟩ : ATape)]) (1 : Int)).1).length : Int) = 1))) && (decide (h0blk ((gMake ([(⟨1, 4, [(if uCheck (⟨1, 1, 0, [(68 : UInt8)]⟩ : AUnit) = 0 then fMade (⟨1, 1, 0, [(68 : UInt8)]⟩ : AUnit) else [])], false⟩ : ATape)]) ([(⟨2, 4, ([] : List (List UInt8)), false⟩ : ATape)]) (1 : Int)).1) = 3)))) (fun hb35 K35 => ?_) (fun hb35 K35 => ?_) ?_
 ·
  have hc1035 := hb35; try simp only [z1, z2, z3, z4, z5, z6, z7, z8, z9, z10, z11, z12, z13, z14, z15, z16] at hc1035
  refine Run.yes (v := .slice A11a_0 (((gMake ([(⟨1, 4, [(if uCheck (⟨1, 1, 0, [(68 : UInt8)]⟩ : AUnit) = 0 then fMade (⟨1, 1, 0, [(68 : UInt8)]⟩ : AUnit) else [])], false⟩ : ATape)]) ([(⟨2, 4, ([] : List (List UInt8)), false⟩ : ATape)]) (1 : Int)).1).length) c11a_0) (y_move rfl rfl) rfl rfl rfl rfl (hb35) rfl (by decide) ?_
  obtain ⟨x37, p37_14, cs37_14, hx37, hp37_14, hcs37_14, hrc37_14⟩ := Sl.at_ (P := Tryz.prog) (T := tTape) Tryz.runUnderlying22 Tryz.sizeOf45 (f11a_0.mono hleJ12) (k := .i64) (i := 0) (by omega) (by omega)
  replace hx37 : ((gMake ([(⟨1, 4, [(if uCheck (⟨1, 1, 0, [(68 : UInt8)]⟩ : AUnit) = 0 then fMade (⟨1, 1, 0, [(68 : UInt8)]⟩ : AUnit) else [])], false⟩ : ATape)]) ([(⟨2, 4, ([] : List (List UInt8)), false⟩ : ATape)]) (1 : Int)).1)[0]? = some x37 := hx37
  obtain ⟨A37_14_2, c37_14_2, rfl, f37_14_0, f37_14_1, f37_14_2⟩ := hcs37_14
  have hsm37_14_2 := f37_14_2.small
  refine Run.yes (v := .pointer (some p37_14)) (y_index rfl rfl rfl hp37_14) rfl rfl rfl rfl (hb35) rfl (by decide) ?_
  refine Run.yes (v := .pointer (some (p37_14.add 2))) (y_fieldAddr rfl rfl Tryz.runUnderlying45 rfl Tryz.sizeOf43 (by decide) rfl) rfl rfl rfl rfl (hb35) rfl (by decide) ?_
  refine Run.yes (v := .slice A37_14_2 x37.blocks.length c37_14_2) (y_load1 rfl Tryz.isAgg43 rfl (RCells.at_ hrc37_14 2 rfl rfl)) rfl rfl rfl rfl (hb35) rfl (by decide) ?_
  refine Run.yes (v := .int .i64 (x37.blocks.length : Int)) (y_len rfl Tryz.runUnderlying43 rfl) rfl rfl rfl rfl (hb35) rfl (by decide) ?_
  refine Run.yes (v := .bool (decide ((x37.blocks.length : Int) = 3))) (y_bin rfl rfl rfl bn_eql) rfl rfl rfl rfl (hb35) rfl (by decide) ?_
  refine Run.y (y_pickB rfl rfl (hb35) rfl) rfl rfl (by decide) ?_
  exact K35 _ _ _ (Imm.le.refl _) (by rw [hb35]; first | (simp; done) | (rw [h0blk_of hx37]; simp)) (Sub.tl 6 rfl rfl)
 ·
  have hc1035 := hb35; try simp only [z1, z2, z3, z4, z5, z6, z7, z8, z9, z10, z11, z12, z13, z14, z15, z16] at hc1035
  refine Run.no rfl rfl rfl rfl (hb35) rfl (by decide) ?_
  refine Run.no rfl rfl rfl rfl (hb35) rfl (by decide) ?_
  refine Run.no rfl rfl rfl rfl (hb35) rfl (by decide) ?_
  refine Run.no rfl rfl rfl rfl (hb35) rfl (by decide) ?_
  refine Run.no rfl rfl rfl rfl (hb35) rfl (by decide) ?_
  refine Run.no rfl rfl rfl rfl (hb35) rfl (by decide) ?_
  refine Run.y (y_pickB rfl rfl (hb35) rfl) rfl rfl (by decide) ?_
  exact K35 _ _ _ (Imm.le.refl _) (by rw [hb35]; first | (simp; done) | (rw [h0blk_of hx37]; simp)) (Sub.tl 6 rfl rfl)
 refine Run.mv ?_
 refine Run.split 5 rfl (b := ((((decide (((gFind ([] : List ATape)).length : Int) = 0)) && (decide (((gMake ([(⟨1, 4, [(if uCheck (⟨1, 1, 0, [(68 : UInt8)]⟩ : AUnit) = 0 then fMade (⟨1, 1, 0, [(68 : UInt8)]⟩ : AUnit) else [])], false⟩ : ATape)]) ([(⟨2, 4, ([] : List (List UInt8)), false⟩ : ATape)]) (1 : Int)).2) = 0))) && (decide ((((gMake ([(⟨1, 4, [(if uCheck (⟨1, 1, 0, [(68 : UInt8)]⟩ : AUnit) = 0 then fMade (⟨1, 1, 0, [(68 : UInt8)]⟩ : AUnit) else [])], false⟩ : ATape)]) ([(⟨2, 4, ([] : List (List UInt8)), false⟩ : ATape)]) (1 : Int)).1).length : Int) = 1))) && (decide (h0blk ((gMake ([(⟨1, 4, [(if uCheck (⟨1, 1, 0, [(68 : UInt8)]⟩ : AUnit) = 0 then fMade (⟨1, 1, 0, [(68 : UInt8)]⟩ : AUnit) else [])], false⟩ : ATape)]) ([(⟨2, 4, ([] : List (List UInt8)), false⟩ : ATape)]) (1 : Int)).1) = 3)))) (d := 48) (v := .bool (((((decide (((gFind ([] : List ATape)).length : Int) = 0)) && (decide (((gMake ([(⟨1, 4, [(if uCheck (⟨1, 1, 0, [(68 : UInt8)]⟩ : AUnit) = 0 then fMade (⟨1, 1, 0, [(68 : UInt8)]⟩ : AUnit) else [])], false⟩ : ATape)]) ([(⟨2, 4, ([] : List (List UInt8)), false⟩ : ATape)]) (1 : Int)).2) = 0))) && (decide ((((gMake ([(⟨1, 4, [(if uCheck (⟨1, 1, 0, [(68 : UInt8)]⟩ : AUnit) = 0 then fMade (⟨1, 1, 0, [(68 : UInt8)]⟩ : AUnit) else [])], false⟩ : ATape)]) ([(⟨2, 4, ([] : List (List UInt8)), false⟩ : ATape)]) (1 : Int)).1).length : Int) = 1))) && (decide (h0blk ((gMake ([(⟨1, 4, [(if uCheck (⟨1, 1, 0, [(68 : UInt8)]⟩ : AUnit) = 0 then fMade (⟨1, 1, 0, [(68 : UInt8)]⟩ : AUnit) else [])], false⟩ : ATape)]) ([(⟨2, 4, ([] : List (List UInt8)), false⟩ : ATape)]) (1 : Int)).1) = 3))) && (decide (((gFind ((gMake ([(⟨1, 4, [(if uCheck (⟨1, 1, 0, [(68 : UInt8)]⟩ : AUnit) = 0 then fMade (⟨1, 1, 0, [(68 : UInt8)]⟩ : AUnit) else [])], false⟩ : ATape)]) ([(⟨2, 4, ([] : List (List UInt8)), false⟩ : ATape)]) (1 : Int)).1)).length : Int) = 1)))) (fun hb43 K43 => ?_) (fun hb43 K43 => ?_) ?_
 ·
  have hc1043 := hb43; try simp only [z1, z2, z3, z4, z5, z6, z7, z8, z9, z10, z11, z12, z13, z14, z15, z16] at hc1043
  refine Run.yes (v := .slice A11a_0 (((gMake ([(⟨1, 4, [(if uCheck (⟨1, 1, 0, [(68 : UInt8)]⟩ : AUnit) = 0 then fMade (⟨1, 1, 0, [(68 : UInt8)]⟩ : AUnit) else [])], false⟩ : ATape)]) ([(⟨2, 4, ([] : List (List UInt8)), false⟩ : ATape)]) (1 : Int)).1).length) c11a_0) (y_move rfl rfl) rfl rfl rfl rfl (hb43) rfl (by decide) ?_
  refine Run.callYes (en_func rfl Tryz.call12 rfl) (c_group_Find _ ((gMake ([(⟨1, 4, [(if uCheck (⟨1, 1, 0, [(68 : UInt8)]⟩ : AUnit) = 0 then fMade (⟨1, 1, 0, [(68 : UInt8)]⟩ : AUnit) else [])], false⟩ : ATape)]) ([(⟨2, 4, ([] : List (List UInt8)), false⟩ : ATape)]) (1 : Int)).1) (f11a_0.mono hleJ12) (fun t ht x hx => by have := gMake_blocks _ _ _ t ht x hx; omega) (by have := gMake_len [(⟨1, 4, [fput ⟨1, 1, 0, [68]⟩], false⟩ : ATape)] [(⟨2, 4, [], false⟩ : ATape)] 1; exact Nat.le_trans this (by decide))) rfl rfl rfl rfl (hb43) rfl (by decide) (fun J15 o15 v15 hleJ15 hq15 => ?_)
  obtain ⟨rfl, cs15a, rfl, h15a⟩ := hq15
  replace h15a : (tSl tSeal).rd J15 cs15a (gFind ((gMake ([(⟨1, 4, [(if uCheck (⟨1, 1, 0, [(68 : UInt8)]⟩ : AUnit) = 0 then fMade (⟨1, 1, 0, [(68 : UInt8)]⟩ : AUnit) else [])], false⟩ : ATape)]) ([(⟨2, 4, ([] : List (List UInt8)), false⟩ : ATape)]) (1 : Int)).1)) := h15a
  obtain ⟨A15a_0, c15a_0, rfl, f15a_0⟩ := h15a
  have hsm15a_0 := f15a_0.small
  refine Run.yes (v := .int .i64 ((gFind ((gMake ([(⟨1, 4, [(if uCheck (⟨1, 1, 0, [(68 : UInt8)]⟩ : AUnit) = 0 then fMade (⟨1, 1, 0, [(68 : UInt8)]⟩ : AUnit) else [])], false⟩ : ATape)]) ([(⟨2, 4, ([] : List (List UInt8)), false⟩ : ATape)]) (1 : Int)).1)).length : Int)) (y_len rfl Tryz.runUnderlying33 rfl) rfl rfl rfl rfl (hb43) rfl (by decide) ?_
  refine Run.yes (v := .bool (decide (((gFind ((gMake ([(⟨1, 4, [(if uCheck (⟨1, 1, 0, [(68 : UInt8)]⟩ : AUnit) = 0 then fMade (⟨1, 1, 0, [(68 : UInt8)]⟩ : AUnit) else [])], false⟩ : ATape)]) ([(⟨2, 4, ([] : List (List UInt8)), false⟩ : ATape)]) (1 : Int)).1)).length : Int) = 1))) (y_bin rfl rfl rfl bn_eql) rfl rfl rfl rfl (hb43) rfl (by decide) ?_
  refine Run.y (y_pickB rfl rfl (hb43) rfl) rfl rfl (by decide) ?_
  exact K43 _ _ _ hleJ15 (by rw [hb43]; simp) (Sub.tl 4 rfl rfl)
 ·
  have hc1043 := hb43; try simp only [z1, z2, z3, z4, z5, z6, z7, z8, z9, z10, z11, z12, z13, z14, z15, z16] at hc1043
  refine Run.no rfl rfl rfl rfl (hb43) rfl (by decide) ?_
  refine Run.no rfl rfl rfl rfl (hb43) rfl (by decide) ?_
  refine Run.no rfl rfl rfl rfl (hb43) rfl (by decide) ?_
  refine Run.no rfl rfl rfl rfl (hb43) rfl (by decide) ?_
  refine Run.y (y_pickB rfl rfl (hb43) rfl) rfl rfl (by decide) ?_
  exact K43 _ _ _ (Imm.le.refl _) (by rw [hb43]; simp) (Sub.tl 4 rfl rfl)
 refine Run.as ?_
 refine Run.nx ?_
 refine RunC.ret ?_
 refine RunQ.weak Sub.refl (perm_nil _) ?_
 refine RunQ.fin1 (.inl rfl) Tryz.results6 (rv_tmp rfl) ?_
 exact ⟨rfl, _, rfl, (rd_eq (T := tBool) (x := (((((decide (((gFind ([] : List ATape)).length : Int) = 0)) && (decide (((gMake ([(⟨1, 4, [(if uCheck (⟨1, 1, 0, [(68 : UInt8)]⟩ : AUnit) = 0 then fMade (⟨1, 1, 0, [(68 : UInt8)]⟩ : AUnit) else [])], false⟩ : ATape)]) ([(⟨2, 4, ([] : List (List UInt8)), false⟩ : ATape)]) (1 : Int)).2) = 0))) && (decide ((((gMake ([(⟨1, 4, [(if uCheck (⟨1, 1, 0, [(68 : UInt8)]⟩ : AUnit) = 0 then fMade (⟨1, 1, 0, [(68 : UInt8)]⟩ : AUnit) else [])], false⟩ : ATape)]) ([(⟨2, 4, ([] : List (List UInt8)), false⟩ : ATape)]) (1 : Int)).1).length : Int) = 1))) && (decide (h0blk ((gMake ([(⟨1, 4, [(if uCheck (⟨1, 1, 0, [(68 : UInt8)]⟩ : AUnit) = 0 then fMade (⟨1, 1, 0, [(68 : UInt8)]⟩ : AUnit) else [])], false⟩ : ATape)]) ([(⟨2, 4, ([] : List (List UInt8)), false⟩ : ATape)]) (1 : Int)).1) = 3))) && (decide (((gFind ((gMake ([(⟨1, 4, [(if uCheck (⟨1, 1, 0, [(68 : UInt8)]⟩ : AUnit) = 0 then fMade (⟨1, 1, 0, [(68 : UInt8)]⟩ : AUnit) else [])], false⟩ : ATape)]) ([(⟨2, 4, ([] : List (List UInt8)), false⟩ : ATape)]) (1 : Int)).1)).length : Int) = 1)))) rfl (by decide +kernel))⟩
end Go.Proofs.YtmelbclhkkbmiaaGreat.K
