/- Contracts of functions of the program, each proved by a walk through its operations, for all memory and all arguments that the theorem names. Printed by a program of mine. -/
import Derived.Test.YtmelbclhkkbmiaaF8
set_option linter.unusedVariables false
set_option linter.unusedSimpArgs false
set_option maxRecDepth 100000
namespace Go.Proofs.Ytmelbclhkkbmiaa.K
open Go Go.RowKit

theorem c_cartridgelaw14_alive (I : Imm) : Con Try.prog 5 [].toArray I [] (Ret1 (tBool.o) true) := by
  refine Con.enter (n := 49) (L := []) Try.func5 rfl rfl (Nat.le_of_ble_eq_true rfl) rfl (fun E => ?_)
  refine RunC.seq ?_
  refine RunC.region ?_
  refine Run.y (v := .bool false) (y_assign rfl rfl) rfl rfl (by decide) ?_
  refine Run.nil ?_
  refine RunQ.next ?_
  refine RunC.seq ?_
  refine RunC.region ?_
  refine Run.lit (vs := [(0, .int .u8 ((68 : UInt8).toNat : Int))]) (cs := [.int .u8 ((68 : UInt8).toNat : Int)]) (el := 5) (sz := 1) rfl rfl (fun w => by simp [Instr.buildSlice, Try.runUnderlying24, Try.sizeOf5, Try.zeroValue5, Instr.fill, Value.cells, newRow, (show Array.range 1 = #[0] from rfl)]) rfl (by simp [maxLen]) rfl rfl (by decide) (fun g6 => ?_)
  have hlit1 : tU8.all I [.int .u8 ((68 : UInt8).toNat : Int)] [(68 : UInt8)] := (all_snoc (T := tU8) all_nil rfl)
  refine Run.convS (own' := []) 0 rfl rfl Try.underlying24 Try.underlying5 rfl rfl (by decide) rfl rfl (by decide) (fun J2 hleJ2 hfzJ2 => ?_)
  have hslJ2 : Sl tU8 J2 (some ⟨g6, 0, none⟩) 1 ([(68 : UInt8)]) := Sl.of_rowN hfzJ2 rfl rfl (hlit1.mono hleJ2)
  refine Run.y (v := .agg [.int .i64 1, .int .i64 1, .int .i64 0, .slice (some ⟨g6, 0, none⟩) 1 1].toArray) (y_build (vs := [(0, .int .i64 1), (1, .int .i64 1), (3, .slice (some ⟨g6, 0, none⟩) 1 1)]) rfl rfl (fun w => by simp [Instr.build, Try.zeroValue28, Try.runUnderlying28, Try.sizeOf3, Try.sizeOf24, Instr.fill, Value.cells])) rfl rfl (by decide) ?_
  refine Run.call (own1 := []) (own2 := []) (en_func rfl Try.call6 rfl) (c_cartridgeref1_PutFrame _ (⟨1, 1, 0, [(68 : UInt8)]⟩ : AUnit) ⟨_, _, rfl, (by first | omega | (dsimp only; omega)), (by first | omega | (dsimp only; omega)), (by first | omega | (dsimp only; omega)), hslJ2⟩) (List.Perm.refl _) rfl rfl (by decide) (fun J3 o3 v3 hleJ3 hq3 => ?_)
  obtain ⟨yr3_0, Ar3_0, cr3_0, clr3_0, csr3_1, er3_0, rfl, rfl, hr3_0, hr3_1⟩ := hq3
  obtain rfl : (if uCheck (⟨1, 1, 0, [(68 : UInt8)]⟩ : AUnit) = 0 then fMade (⟨1, 1, 0, [(68 : UInt8)]⟩ : AUnit) else []) = yr3_0 := er3_0.symm
  replace hr3_1 : tInt.rd J3 csr3_1 (uCheck (⟨1, 1, 0, [(68 : UInt8)]⟩ : AUnit)) := hr3_1
  obtain ⟨rfl, f3_1_0⟩ := hr3_1
  refine Run.y (v := .tuple #[.slice Ar3_0 ((if uCheck (⟨1, 1, 0, [(68 : UInt8)]⟩ : AUnit) = 0 then fMade (⟨1, 1, 0, [(68 : UInt8)]⟩ : AUnit) else []).length) cr3_0, .int .i64 (uCheck (⟨1, 1, 0, [(68 : UInt8)]⟩ : AUnit))]) (y_move rfl rfl) rfl rfl (by decide) ?_
  refine Run.y (v := .slice Ar3_0 ((if uCheck (⟨1, 1, 0, [(68 : UInt8)]⟩ : AUnit) = 0 then fMade (⟨1, 1, 0, [(68 : UInt8)]⟩ : AUnit) else []).length) cr3_0) (y_extract rfl rfl rfl) rfl rfl (by decide) ?_
  refine Run.y (v := .int .i64 (uCheck (⟨1, 1, 0, [(68 : UInt8)]⟩ : AUnit))) (y_extract rfl rfl rfl) rfl rfl (by decide) ?_
  refine Run.y (v := .slice Ar3_0 ((if uCheck (⟨1, 1, 0, [(68 : UInt8)]⟩ : AUnit) = 0 then fMade (⟨1, 1, 0, [(68 : UInt8)]⟩ : AUnit) else []).length) cr3_0) (y_assign rfl rfl) rfl rfl (by decide) ?_
  refine Run.y (v := .int .i64 (uCheck (⟨1, 1, 0, [(68 : UInt8)]⟩ : AUnit))) (y_assign rfl rfl) rfl rfl (by decide) ?_
  refine Run.nil ?_
  refine RunQ.next ?_
  refine RunC.seq ?_
  refine RunC.region ?_
  refine Run.y (v := .slice Ar3_0 ((if uCheck (⟨1, 1, 0, [(68 : UInt8)]⟩ : AUnit) = 0 then fMade (⟨1, 1, 0, [(68 : UInt8)]⟩ : AUnit) else []).length) cr3_0) (y_move rfl rfl) rfl rfl (by decide) ?_
  refine Run.freezeR 0 rfl (own' := []) rfl (fun J4 hleJ4 hfzJ4 => ?_)
  have hslJ4 : Sl tU8 J4 Ar3_0 cr3_0 (if uCheck (⟨1, 1, 0, [(68 : UInt8)]⟩ : AUnit) = 0 then fMade (⟨1, 1, 0, [(68 : UInt8)]⟩ : AUnit) else []) := Sl.of_rowN hfzJ4 rfl rfl (hr3_0.mono hleJ4)
  refine Run.lit (vs := [(0, .slice Ar3_0 ((if uCheck (⟨1, 1, 0, [(68 : UInt8)]⟩ : AUnit) = 0 then fMade (⟨1, 1, 0, [(68 : UInt8)]⟩ : AUnit) else []).length) cr3_0)]) (cs := [.slice Ar3_0 ((if uCheck (⟨1, 1, 0, [(68 : UInt8)]⟩ : AUnit) = 0 then fMade (⟨1, 1, 0, [(68 : UInt8)]⟩ : AUnit) else []).length) cr3_0]) (el := 24) (sz := 1) rfl rfl (fun w => by simp [Instr.buildSlice, Try.runUnderlying30, Try.sizeOf24, Try.zeroValue24, Instr.fill, Value.cells, newRow, (show Array.range 1 = #[0] from rfl)]) rfl (by simp [maxLen]) rfl rfl (by decide) (fun g14 => ?_)
  refine Run.y (v := .agg [.int .i64 1, .int .i64 4, .slice (some ⟨g14, 0, none⟩) 1 1, .bool false].toArray) (y_build (vs := [(0, .int .i64 1), (1, .int .i64 4), (2, .slice (some ⟨g14, 0, none⟩) 1 1)]) rfl rfl (fun w => by simp [Instr.build, Try.zeroValue32, Try.runUnderlying32, Try.sizeOf3, Try.sizeOf4, Try.sizeOf30, Instr.fill, Value.cells])) rfl rfl (by decide) ?_
  have hlit5 : (tSl tU8).all J4 [.slice Ar3_0 ((if uCheck (⟨1, 1, 0, [(68 : UInt8)]⟩ : AUnit) = 0 then fMade (⟨1, 1, 0, [(68 : UInt8)]⟩ : AUnit) else []).length) cr3_0] [(if uCheck (⟨1, 1, 0, [(68 : UInt8)]⟩ : AUnit) = 0 then fMade (⟨1, 1, 0, [(68 : UInt8)]⟩ : AUnit) else [])] := (all_snoc (T := (tSl tU8)) all_nil ⟨_, _, rfl, hslJ4⟩)
  refine Run.freezeR 0 rfl (own' := []) rfl (fun J6 hleJ6 hfzJ6 => ?_)
  have hslJ6 : Sl (tSl tU8) J6 (some ⟨g14, 0, none⟩) 1 ([(if uCheck (⟨1, 1, 0, [(68 : UInt8)]⟩ : AUnit) = 0 then fMade (⟨1, 1, 0, [(68 : UInt8)]⟩ : AUnit) else [])]) := Sl.of_rowN hfzJ6 (by simp) rfl (hlit5.mono hleJ6)
  refine Run.cast (s := 14) (v' := .slice (some ⟨g14, 0, none⟩) ([(if uCheck (⟨1, 1, 0, [(68 : UInt8)]⟩ : AUnit) = 0 then fMade (⟨1, 1, 0, [(68 : UInt8)]⟩ : AUnit) else [])]).length 1) rfl (congrArg (fun n => Value.slice (some ⟨g14, 0, none⟩) n 1) (show 1 = _ from (show ([(if uCheck (⟨1, 1, 0, [(68 : UInt8)]⟩ : AUnit) = 0 then fMade (⟨1, 1, 0, [(68 : UInt8)]⟩ : AUnit) else [])]).length = 1 from (by simp)).symm)) ?_
  refine Run.lit (vs := [(0, .agg [.int .i64 1, .int .i64 4, .slice (some ⟨g14, 0, none⟩) (([(if uCheck (⟨1, 1, 0, [(68 : UInt8)]⟩ : AUnit) = 0 then fMade (⟨1, 1, 0, [(68 : UInt8)]⟩ : AUnit) else [])]).length) 1, .bool false].toArray)]) (cs := [.int .i64 1, .int .i64 4, .slice (some ⟨g14, 0, none⟩) (([(if uCheck (⟨1, 1, 0, [(68 : UInt8)]⟩ : AUnit) = 0 then fMade (⟨1, 1, 0, [(68 : UInt8)]⟩ : AUnit) else [])]).length) 1, .bool false]) (el := 32) (sz := 4) rfl rfl (fun w => by simp [Instr.buildSlice, Try.runUnderlying29, Try.sizeOf32, Try.zeroValue32, Instr.fill, Value.cells, newRow, (show Array.range 4 = #[0, 1, 2, 3] from rfl)]) rfl (by simp [maxLen]) rfl rfl (by decide) (fun g16 => ?_)
  refine Run.y (v := .agg [.int .i64 2, .int .i64 4, .slice none 0 0, .bool false].toArray) (y_build (vs := [(0, .int .i64 2), (1, .int .i64 4)]) rfl rfl (fun w => by simp [Instr.build, Try.zeroValue32, Try.runUnderlying32, Try.sizeOf3, Try.sizeOf4, Try.sizeOf30, Instr.fill, Value.cells])) rfl rfl (by decide) ?_
  refine Run.lit (vs := [(0, .agg [.int .i64 2, .int .i64 4, .slice none 0 0, .bool false].toArray)]) (cs := [.int .i64 2, .int .i64 4, .slice none 0 0, .bool false]) (el := 32) (sz := 4) rfl rfl (fun w => by simp [Instr.buildSlice, Try.runUnderlying29, Try.sizeOf32, Try.zeroValue32, Instr.fill, Value.cells, newRow, (show Array.range 4 = #[0, 1, 2, 3] from rfl)]) rfl (by simp [maxLen]) rfl rfl (by decide) (fun g18 => ?_)
  have hlit7 : tTape.all J6 [.int .i64 1, .int .i64 4, .slice (some ⟨g14, 0, none⟩) (([(if uCheck (⟨1, 1, 0, [(68 : UInt8)]⟩ : AUnit) = 0 then fMade (⟨1, 1, 0, [(68 : UInt8)]⟩ : AUnit) else [])]).length) 1, .bool false] [(⟨1, 4, [(if uCheck (⟨1, 1, 0, [(68 : UInt8)]⟩ : AUnit) = 0 then fMade (⟨1, 1, 0, [(68 : UInt8)]⟩ : AUnit) else [])], false⟩ : ATape)] := (all_snoc (T := tTape) all_nil ⟨_, _, rfl, (by first | omega | (dsimp only; omega)), (by first | omega | (dsimp only; omega)), hslJ6⟩)
  refine Run.freezeR 1 rfl (own' := [row (.slice (some ⟨g18, 0, none⟩) 1 1) 32 4 ([.int .i64 2, .int .i64 4, .slice none 0 0, .bool false])]) rfl (fun J8 hleJ8 hfzJ8 => ?_)
  have hslJ8 : Sl tTape J8 (some ⟨g16, 0, none⟩) 1 ([(⟨1, 4, [(if uCheck (⟨1, 1, 0, [(68 : UInt8)]⟩ : AUnit) = 0 then fMade (⟨1, 1, 0, [(68 : UInt8)]⟩ : AUnit) else [])], false⟩ : ATape)]) := Sl.of_rowN hfzJ8 (by simp) rfl (hlit7.mono hleJ8)
  refine Run.cast (s := 16) (v' := .slice (some ⟨g16, 0, none⟩) ([(⟨1, 4, [(if uCheck (⟨1, 1, 0, [(68 : UInt8)]⟩ : AUnit) = 0 then fMade (⟨1, 1, 0, [(68 : UInt8)]⟩ : AUnit) else [])], false⟩ : ATape)]).length 1) rfl (congrArg (fun n => Value.slice (some ⟨g16, 0, none⟩) n 1) (show 1 = _ from (show ([(⟨1, 4, [(if uCheck (⟨1, 1, 0, [(68 : UInt8)]⟩ : AUnit) = 0 then fMade (⟨1, 1, 0, [(68 : UInt8)]⟩ : AUnit) else [])], false⟩ : ATape)]).length = 1 from (by simp)).symm)) ?_
  have hlit9 : tTape.all J8 [.int .i64 2, .int .i64 4, .slice none 0 0, .bool false] [(⟨2, 4, ([] : List (List UInt8)), false⟩ : ATape)] := (all_snoc (T := tTape) all_nil ⟨_, _, rfl, (by first | omega | (dsimp only; omega)), (by first | omega | (dsimp only; omega)), sl_nil0⟩)
  refine Run.freezeR 0 rfl (own' := []) rfl (fun J10 hleJ10 hfzJ10 => ?_)
  have hslJ10 : Sl tTape J10 (some ⟨g18, 0, none⟩) 1 ([(⟨2, 4, ([] : List (List UInt8)), false⟩ : ATape)]) := Sl.of_rowN hfzJ10 (by simp) rfl (hlit9.mono hleJ10)
  refine Run.cast (s := 18) (v' := .slice (some ⟨g18, 0, none⟩) ([(⟨2, 4, ([] : List (List UInt8)), false⟩ : ATape)]).length 1) rfl (congrArg (fun n => Value.slice (some ⟨g18, 0, none⟩) n 1) (show 1 = _ from (show ([(⟨2, 4, ([] : List (List UInt8)), false⟩ : ATape)]).length = 1 from (by simp)).symm)) ?_
  refine Run.call0 (en_func rfl Try.call7 rfl) (c_group_Make _ ([(⟨1, 4, [(if uCheck (⟨1, 1, 0, [(68 : UInt8)]⟩ : AUnit) = 0 then fMade (⟨1, 1, 0, [(68 : UInt8)]⟩ : AUnit) else [])], false⟩ : ATape)]) (hslJ8.mono hleJ10) ([(⟨2, 4, ([] : List (List UInt8)), false⟩ : ATape)]) hslJ10 1 (by omega) (by simp) (by simp) (by intro t ht x hx; simp only [List.mem_singleton] at ht; subst ht; simp only [List.mem_singleton] at hx; subst hx; have := fput_len (⟨1, 1, 0, [68]⟩ : AUnit); omega) (by simp [tLenL]; omega)) rfl rfl (by decide) (fun J11 o11 v11 hleJ11 hq11 => ?_)
  obtain ⟨rfl, cs11a, cs11b, rfl, h11a, h11b⟩ := hq11
  replace h11a : (tSl tTape).rd J11 cs11a ((gMake ([(⟨1, 4, [(if uCheck (⟨1, 1, 0, [(68 : UInt8)]⟩ : AUnit) = 0 then fMade (⟨1, 1, 0, [(68 : UInt8)]⟩ : AUnit) else [])], false⟩ : ATape)]) ([(⟨2, 4, ([] : List (List UInt8)), false⟩ : ATape)]) (1 : Int)).1) := h11a
  obtain ⟨A11a_0, c11a_0, rfl, f11a_0⟩ := h11a
  have hsm11a_0 := f11a_0.small
  replace h11b : tInt.rd J11 cs11b ((gMake ([(⟨1, 4, [(if uCheck (⟨1, 1, 0, [(68 : UInt8)]⟩ : AUnit) = 0 then fMade (⟨1, 1, 0, [(68 : UInt8)]⟩ : AUnit) else [])], false⟩ : ATape)]) ([(⟨2, 4, ([] : List (List UInt8)), false⟩ : ATape)]) (1 : Int)).2) := h11b
  obtain ⟨rfl, f11b_0⟩ := h11b
  refine Run.y (v := .tuple #[.slice A11a_0 (((gMake ([(⟨1, 4, [(if uCheck (⟨1, 1, 0, [(68 : UInt8)]⟩ : AUnit) = 0 then fMade (⟨1, 1, 0, [(68 : UInt8)]⟩ : AUnit) else [])], false⟩ : ATape)]) ([(⟨2, 4, ([] : List (List UInt8)), false⟩ : ATape)]) (1 : Int)).1).length) c11a_0, .int .i64 ((gMake ([(⟨1, 4, [(if uCheck (⟨1, 1, 0, [(68 : UInt8)]⟩ : AUnit) = 0 then fMade (⟨1, 1, 0, [(68 : UInt8)]⟩ : AUnit) else [])], false⟩ : ATape)]) ([(⟨2, 4, ([] : List (List UInt8)), false⟩ : ATape)]) (1 : Int)).2)]) (y_move rfl rfl) rfl rfl (by decide) ?_
  refine Run.y (v := .slice A11a_0 (((gMake ([(⟨1, 4, [(if uCheck (⟨1, 1, 0, [(68 : UInt8)]⟩ : AUnit) = 0 then fMade (⟨1, 1, 0, [(68 : UInt8)]⟩ : AUnit) else [])], false⟩ : ATape)]) ([(⟨2, 4, ([] : List (List UInt8)), false⟩ : ATape)]) (1 : Int)).1).length) c11a_0) (y_extract rfl rfl rfl) rfl rfl (by decide) ?_
  refine Run.y (v := .int .i64 ((gMake ([(⟨1, 4, [(if uCheck (⟨1, 1, 0, [(68 : UInt8)]⟩ : AUnit) = 0 then fMade (⟨1, 1, 0, [(68 : UInt8)]⟩ : AUnit) else [])], false⟩ : ATape)]) ([(⟨2, 4, ([] : List (List UInt8)), false⟩ : ATape)]) (1 : Int)).2)) (y_extract rfl rfl rfl) rfl rfl (by decide) ?_
  refine Run.y (v := .slice A11a_0 (((gMake ([(⟨1, 4, [(if uCheck (⟨1, 1, 0, [(68 : UInt8)]⟩ : AUnit) = 0 then fMade (⟨1, 1, 0, [(68 : UInt8)]⟩ : AUnit) else [])], false⟩ : ATape)]) ([(⟨2, 4, ([] : List (List UInt8)), false⟩ : ATape)]) (1 : Int)).1).length) c11a_0) (y_assign rfl rfl) rfl rfl (by decide) ?_
  refine Run.y (v := .int .i64 ((gMake ([(⟨1, 4, [(if uCheck (⟨1, 1, 0, [(68 : UInt8)]⟩ : AUnit) = 0 then fMade (⟨1, 1, 0, [(68 : UInt8)]⟩ : AUnit) else [])], false⟩ : ATape)]) ([(⟨2, 4, ([] : List (List UInt8)), false⟩ : ATape)]) (1 : Int)).2)) (y_assign rfl rfl) rfl rfl (by decide) ?_
  refine Run.nil ?_
  refine RunQ.next ?_
  refine RunC.seq ?_
  refine RunC.region ?_
  refine Run.call0 (en_func rfl Try.call9 rfl) (c_group_Find _ ([] : List ATape) sl_nil0 (by simp) (by simp)) rfl rfl (by decide) (fun J12 o12 v12 hleJ12 hq12 => ?_)
  obtain ⟨rfl, cs12a, rfl, h12a⟩ := hq12
  replace h12a : (tSl tSeal).rd J12 cs12a (gFind ([] : List ATape)) := h12a
  obtain ⟨A12a_0, c12a_0, rfl, f12a_0⟩ := h12a
  have hsm12a_0 := f12a_0.small
  refine Run.y (v := .int .i64 ((gFind ([] : List ATape)).length : Int)) (y_len rfl Try.runUnderlying38 rfl) rfl rfl (by decide) ?_
  refine Run.y (v := .bool (decide (((gFind ([] : List ATape)).length : Int) = 0))) (y_bin rfl rfl rfl bn_eql) rfl rfl (by decide) ?_
  refine Run.y (v := .bool (decide (((gFind ([] : List ATape)).length : Int) = 0))) (y_move rfl rfl) rfl rfl (by decide) ?_
  refine Run.split 4 rfl (b := decide (((gFind ([] : List ATape)).length : Int) = 0)) (d := 29) (v := .bool ((decide (((gFind ([] : List ATape)).length : Int) = 0)) && (decide (((gMake ([(⟨1, 4, [(if uCheck (⟨1, 1, 0, [(68 : UInt8)]⟩ : AUnit) = 0 then fMade (⟨1, 1, 0, [(68 : UInt8)]⟩ : AUnit) else [])], false⟩ : ATape)]) ([(⟨2, 4, ([] : List (List UInt8)), false⟩ : ATape)]) (1 : Int)).2) = 0)))) (fun hb25 K25 => ?_) (fun hb25 K25 => ?_) ?_
  ·
    have hc1025 := hb25; try simp only [Bool.and_eq_true, Bool.or_eq_true, Bool.and_eq_false_iff, Bool.or_eq_false_iff, decide_eq_true_eq, decide_eq_false_iff_not, Bool.not_eq_true', Bool.not_eq_false', Bool.not_eq_true, Bool.not_eq_false, Int.not_lt, Int.not_le, ge_iff_le, gt_iff_lt, ne_eq, Decidable.not_not] at hc1025
    refine Run.yes (v := .int .i64 ((gMake ([(⟨1, 4, [(if uCheck (⟨1, 1, 0, [(68 : UInt8)]⟩ : AUnit) = 0 then fMade (⟨1, 1, 0, [(68 : UInt8)]⟩ : AUnit) else [])], false⟩ : ATape)]) ([(⟨2, 4, ([] : List (List UInt8)), false⟩ : ATape)]) (1 : Int)).2)) (y_move rfl rfl) rfl rfl rfl rfl (hb25) rfl (by decide) ?_
    refine Run.callVYes (en_func rfl Try.call8 rfl) (conv_int (c_cartridgelaw14_num _ ((gMake ([(⟨1, 4, [(if uCheck (⟨1, 1, 0, [(68 : UInt8)]⟩ : AUnit) = 0 then fMade (⟨1, 1, 0, [(68 : UInt8)]⟩ : AUnit) else [])], false⟩ : ATape)]) ([(⟨2, 4, ([] : List (List UInt8)), false⟩ : ATape)]) (1 : Int)).2) f11b_0)) rfl rfl rfl rfl (hb25) rfl (by decide) (fun hI13 => ?_)
    refine Run.yes (v := .bool (decide (((gMake ([(⟨1, 4, [(if uCheck (⟨1, 1, 0, [(68 : UInt8)]⟩ : AUnit) = 0 then fMade (⟨1, 1, 0, [(68 : UInt8)]⟩ : AUnit) else [])], false⟩ : ATape)]) ([(⟨2, 4, ([] : List (List UInt8)), false⟩ : ATape)]) (1 : Int)).2) = 0))) (y_bin rfl rfl rfl bn_eql) rfl rfl rfl rfl (hb25) rfl (by decide) ?_
    refine Run.y (y_pickB rfl rfl (hb25) rfl) rfl rfl (by decide) ?_
    exact K25 _ _ _ (Imm.le.refl _) (by rw [hb25]; simp) (Sub.push (Sub.push (Sub.push Sub.refl rfl) rfl) rfl)
  ·
    have hc1025 := hb25; try simp only [Bool.and_eq_true, Bool.or_eq_true, Bool.and_eq_false_iff, Bool.or_eq_false_iff, decide_eq_true_eq, decide_eq_false_iff_not, Bool.not_eq_true', Bool.not_eq_false', Bool.not_eq_true, Bool.not_eq_false, Int.not_lt, Int.not_le, ge_iff_le, gt_iff_lt, ne_eq, Decidable.not_not] at hc1025
    refine Run.no rfl rfl rfl rfl (hb25) rfl (by decide) ?_
    refine Run.no rfl rfl rfl rfl (hb25) rfl (by decide) ?_
    refine Run.no rfl rfl rfl rfl (hb25) rfl (by decide) ?_
    refine Run.y (y_pickB rfl rfl (hb25) rfl) rfl rfl (by decide) ?_
    exact K25 _ _ _ (Imm.le.refl _) (by rw [hb25]; simp) (Sub.push (Sub.push (Sub.push Sub.refl rfl) rfl) rfl)
  refine Run.y (v := .bool ((decide (((gFind ([] : List ATape)).length : Int) = 0)) && (decide (((gMake ([(⟨1, 4, [(if uCheck (⟨1, 1, 0, [(68 : UInt8)]⟩ : AUnit) = 0 then fMade (⟨1, 1, 0, [(68 : UInt8)]⟩ : AUnit) else [])], false⟩ : ATape)]) ([(⟨2, 4, ([] : List (List UInt8)), false⟩ : ATape)]) (1 : Int)).2) = 0)))) (y_move rfl rfl) rfl rfl (by decide) ?_
  refine Run.split 4 rfl (b := ((decide (((gFind ([] : List ATape)).length : Int) = 0)) && (decide (((gMake ([(⟨1, 4, [(if uCheck (⟨1, 1, 0, [(68 : UInt8)]⟩ : AUnit) = 0 then fMade (⟨1, 1, 0, [(68 : UInt8)]⟩ : AUnit) else [])], false⟩ : ATape)]) ([(⟨2, 4, ([] : List (List UInt8)), false⟩ : ATape)]) (1 : Int)).2) = 0)))) (d := 34) (v := .bool (((decide (((gFind ([] : List ATape)).length : Int) = 0)) && (decide (((gMake ([(⟨1, 4, [(if uCheck (⟨1, 1, 0, [(68 : UInt8)]⟩ : AUnit) = 0 then fMade (⟨1, 1, 0, [(68 : UInt8)]⟩ : AUnit) else [])], false⟩ : ATape)]) ([(⟨2, 4, ([] : List (List UInt8)), false⟩ : ATape)]) (1 : Int)).2) = 0))) && (decide ((((gMake ([(⟨1, 4, [(if uCheck (⟨1, 1, 0, [(68 : UInt8)]⟩ : AUnit) = 0 then fMade (⟨1, 1, 0, [(68 : UInt8)]⟩ : AUnit) else [])], false⟩ : ATape)]) ([(⟨2, 4, ([] : List (List UInt8)), false⟩ : ATape)]) (1 : Int)).1).length : Int) = 1)))) (fun hb30 K30 => ?_) (fun hb30 K30 => ?_) ?_
  ·
    have hc1030 := hb30; try simp only [Bool.and_eq_true, Bool.or_eq_true, Bool.and_eq_false_iff, Bool.or_eq_false_iff, decide_eq_true_eq, decide_eq_false_iff_not, Bool.not_eq_true', Bool.not_eq_false', Bool.not_eq_true, Bool.not_eq_false, Int.not_lt, Int.not_le, ge_iff_le, gt_iff_lt, ne_eq, Decidable.not_not] at hc1030
    refine Run.yes (v := .slice A11a_0 (((gMake ([(⟨1, 4, [(if uCheck (⟨1, 1, 0, [(68 : UInt8)]⟩ : AUnit) = 0 then fMade (⟨1, 1, 0, [(68 : UInt8)]⟩ : AUnit) else [])], false⟩ : ATape)]) ([(⟨2, 4, ([] : List (List UInt8)), false⟩ : ATape)]) (1 : Int)).1).length) c11a_0) (y_move rfl rfl) rfl rfl rfl rfl (hb30) rfl (by decide) ?_
    refine Run.yes (v := .int .i64 (((gMake ([(⟨1, 4, [(if uCheck (⟨1, 1, 0, [(68 : UInt8)]⟩ : AUnit) = 0 then fMade (⟨1, 1, 0, [(68 : UInt8)]⟩ : AUnit) else [])], false⟩ : ATape)]) ([(⟨2, 4, ([] : List (List UInt8)), false⟩ : ATape)]) (1 : Int)).1).length : Int)) (y_len rfl Try.runUnderlying29 rfl) rfl rfl rfl rfl (hb30) rfl (by decide) ?_
    refine Run.yes (v := .bool (decide ((((gMake ([(⟨1, 4, [(if uCheck (⟨1, 1, 0, [(68 : UInt8)]⟩ : AUnit) = 0 then fMade (⟨1, 1, 0, [(68 : UInt8)]⟩ : AUnit) else [])], false⟩ : ATape)]) ([(⟨2, 4, ([] : List (List UInt8)), false⟩ : ATape)]) (1 : Int)).1).length : Int) = 1))) (y_bin rfl rfl rfl bn_eql) rfl rfl rfl rfl (hb30) rfl (by decide) ?_
    refine Run.y (y_pickB rfl rfl (hb30) rfl) rfl rfl (by decide) ?_
    exact K30 _ _ _ (Imm.le.refl _) (by rw [hb30]; simp) (Sub.push (Sub.push (Sub.push Sub.refl rfl) rfl) rfl)
  ·
    have hc1030 := hb30; try simp only [Bool.and_eq_true, Bool.or_eq_true, Bool.and_eq_false_iff, Bool.or_eq_false_iff, decide_eq_true_eq, decide_eq_false_iff_not, Bool.not_eq_true', Bool.not_eq_false', Bool.not_eq_true, Bool.not_eq_false, Int.not_lt, Int.not_le, ge_iff_le, gt_iff_lt, ne_eq, Decidable.not_not] at hc1030
    refine Run.no rfl rfl rfl rfl (hb30) rfl (by decide) ?_
    refine Run.no rfl rfl rfl rfl (hb30) rfl (by decide) ?_
    refine Run.no rfl rfl rfl rfl (hb30) rfl (by decide) ?_
    refine Run.y (y_pickB rfl rfl (hb30) rfl) rfl rfl (by decide) ?_
    exact K30 _ _ _ (Imm.le.refl _) (by rw [hb30]; simp) (Sub.push (Sub.push (Sub.push Sub.refl rfl) rfl) rfl)
  refine Run.y (v := .bool (((decide (((gFind ([] : List ATape)).length : Int) = 0)) && (decide (((gMake ([(⟨1, 4, [(if uCheck (⟨1, 1, 0, [(68 : UInt8)]⟩ : AUnit) = 0 then fMade (⟨1, 1, 0, [(68 : UInt8)]⟩ : AUnit) else [])], false⟩ : ATape)]) ([(⟨2, 4, ([] : List (List UInt8)), false⟩ : ATape)]) (1 : Int)).2) = 0))) && (decide ((((gMake ([(⟨1, 4, [(if uCheck (⟨1, 1, 0, [(68 : UInt8)]⟩ : AUnit) = 0 then fMade (⟨1, 1, 0, [(68 : UInt8)]⟩ : AUnit) else [])], false⟩ : ATape)]) ([(⟨2, 4, ([] : List (List UInt8)), false⟩ : ATape)]) (1 : Int)).1).length : Int) = 1)))) (y_move rfl rfl) rfl rfl (by decide) ?_
  refine Run.split 7 rfl (b := (((decide (((gFind ([] : List ATape)).length : Int) = 0)) && (decide (((gMake ([(⟨1, 4, [(if uCheck (⟨1, 1, 0, [(68 : UInt8)]⟩ : AUnit) = 0 then fMade (⟨1, 1, 0, [(68 : UInt8)]⟩ : AUnit) else [])], false⟩ : ATape)]) ([(⟨2, 4, ([] : List (List UInt8)), false⟩ : ATape)]) (1 : Int)).2) = 0))) && (decide ((((gMake ([(⟨1, 4, [(if uCheck (⟨1, 1, 0, [(68 : UInt8)]⟩ : AUnit) = 0 then fMade (⟨1, 1, 0, [(68 : UInt8)]⟩ : AUnit) else [])], false⟩ : ATape)]) ([(⟨2, 4, ([] : List (List UInt8)), false⟩ : ATape)]) (1 : Int)).1).length : Int) = 1)))) (d := 42) (v := .bool ((((decide (((gFind ([] : List ATape)).length : Int) = 0)) && (decide (((gMake ([(⟨1, 4, [(if uCheck (⟨1, 1, 0, [(68 : UInt8)]⟩ : AUnit) = 0 then fMade (⟨1, 1, 0, [(68 : UInt8)]⟩ : AUnit) else [])], false⟩ : ATape)]) ([(⟨2, 4, ([] : List (List UInt8)), false⟩ : ATape)]) (1 : Int)).2) = 0))) && (decide ((((gMake ([(⟨1, 4, [(if uCheck (⟨1, 1, 0, [(68 : UInt8)]⟩ : AUnit) = 0 then fMade (⟨1, 1, 0, [(68 : UInt8)]⟩ : AUnit) else [])], false⟩ : ATape)]) ([(⟨2, 4, ([] : List (List UInt8)), false⟩ : ATape)]) (1 : Int)).1).length : Int) = 1))) && (decide (h0blk ((gMake ([(⟨1, 4, [(if uCheck (⟨1, 1, 0, [(68 : UInt8)]⟩ : AUnit) = 0 then fMade (⟨1, 1, 0, [(68 : UInt8)]⟩ : AUnit) else [])], false⟩ : ATape)]) ([(⟨2, 4, ([] : List (List UInt8)), false⟩ : ATape)]) (1 : Int)).1) = 3)))) (fun hb35 K35 => ?_) (fun hb35 K35 => ?_) ?_
  ·
    have hc1035 := hb35; try simp only [Bool.and_eq_true, Bool.or_eq_true, Bool.and_eq_false_iff, Bool.or_eq_false_iff, decide_eq_true_eq, decide_eq_false_iff_not, Bool.not_eq_true', Bool.not_eq_false', Bool.not_eq_true, Bool.not_eq_false, Int.not_lt, Int.not_le, ge_iff_le, gt_iff_lt, ne_eq, Decidable.not_not] at hc1035
    refine Run.yes (v := .slice A11a_0 (((gMake ([(⟨1, 4, [(if uCheck (⟨1, 1, 0, [(68 : UInt8)]⟩ : AUnit) = 0 then fMade (⟨1, 1, 0, [(68 : UInt8)]⟩ : AUnit) else [])], false⟩ : ATape)]) ([(⟨2, 4, ([] : List (List UInt8)), false⟩ : ATape)]) (1 : Int)).1).length) c11a_0) (y_move rfl rfl) rfl rfl rfl rfl (hb35) rfl (by decide) ?_
    obtain ⟨x37, p37_14, cs37_14, hx37, hp37_14, hcs37_14, hrc37_14⟩ := Sl.at_ (P := Try.prog) (T := tTape) Try.runUnderlying29 Try.sizeOf32 (f11a_0.mono hleJ12) (k := .i64) (i := 0) (by omega) (by omega)
    replace hx37 : ((gMake ([(⟨1, 4, [(if uCheck (⟨1, 1, 0, [(68 : UInt8)]⟩ : AUnit) = 0 then fMade (⟨1, 1, 0, [(68 : UInt8)]⟩ : AUnit) else [])], false⟩ : ATape)]) ([(⟨2, 4, ([] : List (List UInt8)), false⟩ : ATape)]) (1 : Int)).1)[0]? = some x37 := hx37
    obtain ⟨A37_14_2, c37_14_2, rfl, f37_14_0, f37_14_1, f37_14_2⟩ := hcs37_14
    have hsm37_14_2 := f37_14_2.small
    refine Run.yes (v := .pointer (some p37_14)) (y_index rfl rfl rfl hp37_14) rfl rfl rfl rfl (hb35) rfl (by decide) ?_
    refine Run.yes (v := .pointer (some (p37_14.add 2))) (y_fieldAddr rfl rfl Try.runUnderlying32 rfl Try.sizeOf30 (by decide) rfl) rfl rfl rfl rfl (hb35) rfl (by decide) ?_
    refine Run.yes (v := .slice A37_14_2 x37.blocks.length c37_14_2) (y_load1 rfl Try.isAgg30 rfl (RCells.at_ hrc37_14 2 rfl rfl)) rfl rfl rfl rfl (hb35) rfl (by decide) ?_
    refine Run.yes (v := .int .i64 (x37.blocks.length : Int)) (y_len rfl Try.runUnderlying30 rfl) rfl rfl rfl rfl (hb35) rfl (by decide) ?_
    refine Run.yes (v := .bool (decide ((x37.blocks.length : Int) = 3))) (y_bin rfl rfl rfl bn_eql) rfl rfl rfl rfl (hb35) rfl (by decide) ?_
    refine Run.y (y_pickB rfl rfl (hb35) rfl) rfl rfl (by decide) ?_
    exact K35 _ _ _ (Imm.le.refl _) (by rw [hb35]; first | (simp; done) | (rw [h0blk_of hx37]; simp)) (Sub.push (Sub.push (Sub.push (Sub.push (Sub.push (Sub.push Sub.refl rfl) rfl) rfl) rfl) rfl) rfl)
  ·
    have hc1035 := hb35; try simp only [Bool.and_eq_true, Bool.or_eq_true, Bool.and_eq_false_iff, Bool.or_eq_false_iff, decide_eq_true_eq, decide_eq_false_iff_not, Bool.not_eq_true', Bool.not_eq_false', Bool.not_eq_true, Bool.not_eq_false, Int.not_lt, Int.not_le, ge_iff_le, gt_iff_lt, ne_eq, Decidable.not_not] at hc1035
    refine Run.no rfl rfl rfl rfl (hb35) rfl (by decide) ?_
    refine Run.no rfl rfl rfl rfl (hb35) rfl (by decide) ?_
    refine Run.no rfl rfl rfl rfl (hb35) rfl (by decide) ?_
    refine Run.no rfl rfl rfl rfl (hb35) rfl (by decide) ?_
    refine Run.no rfl rfl rfl rfl (hb35) rfl (by decide) ?_
    refine Run.no rfl rfl rfl rfl (hb35) rfl (by decide) ?_
    refine Run.y (y_pickB rfl rfl (hb35) rfl) rfl rfl (by decide) ?_
    exact K35 _ _ _ (Imm.le.refl _) (by rw [hb35]; first | (simp; done) | (rw [h0blk_of hx37]; simp)) (Sub.push (Sub.push (Sub.push (Sub.push (Sub.push (Sub.push Sub.refl rfl) rfl) rfl) rfl) rfl) rfl)
  refine Run.y (v := .bool ((((decide (((gFind ([] : List ATape)).length : Int) = 0)) && (decide (((gMake ([(⟨1, 4, [(if uCheck (⟨1, 1, 0, [(68 : UInt8)]⟩ : AUnit) = 0 then fMade (⟨1, 1, 0, [(68 : UInt8)]⟩ : AUnit) else [])], false⟩ : ATape)]) ([(⟨2, 4, ([] : List (List UInt8)), false⟩ : ATape)]) (1 : Int)).2) = 0))) && (decide ((((gMake ([(⟨1, 4, [(if uCheck (⟨1, 1, 0, [(68 : UInt8)]⟩ : AUnit) = 0 then fMade (⟨1, 1, 0, [(68 : UInt8)]⟩ : AUnit) else [])], false⟩ : ATape)]) ([(⟨2, 4, ([] : List (List UInt8)), false⟩ : ATape)]) (1 : Int)).1).length : Int) = 1))) && (decide (h0blk ((gMake ([(⟨1, 4, [(if uCheck (⟨1, 1, 0, [(68 : UInt8)]⟩ : AUnit) = 0 then fMade (⟨1, 1, 0, [(68 : UInt8)]⟩ : AUnit) else [])], false⟩ : ATape)]) ([(⟨2, 4, ([] : List (List UInt8)), false⟩ : ATape)]) (1 : Int)).1) = 3)))) (y_move rfl rfl) rfl rfl (by decide) ?_
  refine Run.split 5 rfl (b := ((((decide (((gFind ([] : List ATape)).length : Int) = 0)) && (decide (((gMake ([(⟨1, 4, [(if uCheck (⟨1, 1, 0, [(68 : UInt8)]⟩ : AUnit) = 0 then fMade (⟨1, 1, 0, [(68 : UInt8)]⟩ : AUnit) else [])], false⟩ : ATape)]) ([(⟨2, 4, ([] : List (List UInt8)), false⟩ : ATape)]) (1 : Int)).2) = 0))) && (decide ((((gMake ([(⟨1, 4, [(if uCheck (⟨1, 1, 0, [(68 : UInt8)]⟩ : AUnit) = 0 then fMade (⟨1, 1, 0, [(68 : UInt8)]⟩ : AUnit) else [])], false⟩ : ATape)]) ([(⟨2, 4, ([] : List (List UInt8)), false⟩ : ATape)]) (1 : Int)).1).length : Int) = 1))) && (decide (h0blk ((gMake ([(⟨1, 4, [(if uCheck (⟨1, 1, 0, [(68 : UInt8)]⟩ : AUnit) = 0 then fMade (⟨1, 1, 0, [(68 : UInt8)]⟩ : AUnit) else [])], false⟩ : ATape)]) ([(⟨2, 4, ([] : List (List UInt8)), false⟩ : ATape)]) (1 : Int)).1) = 3)))) (d := 48) (v := .bool (((((decide (((gFind ([] : List ATape)).length : Int) = 0)) && (decide (((gMake ([(⟨1, 4, [(if uCheck (⟨1, 1, 0, [(68 : UInt8)]⟩ : AUnit) = 0 then fMade (⟨1, 1, 0, [(68 : UInt8)]⟩ : AUnit) else [])], false⟩ : ATape)]) ([(⟨2, 4, ([] : List (List UInt8)), false⟩ : ATape)]) (1 : Int)).2) = 0))) && (decide ((((gMake ([(⟨1, 4, [(if uCheck (⟨1, 1, 0, [(68 : UInt8)]⟩ : AUnit) = 0 then fMade (⟨1, 1, 0, [(68 : UInt8)]⟩ : AUnit) else [])], false⟩ : ATape)]) ([(⟨2, 4, ([] : List (List UInt8)), false⟩ : ATape)]) (1 : Int)).1).length : Int) = 1))) && (decide (h0blk ((gMake ([(⟨1, 4, [(if uCheck (⟨1, 1, 0, [(68 : UInt8)]⟩ : AUnit) = 0 then fMade (⟨1, 1, 0, [(68 : UInt8)]⟩ : AUnit) else [])], false⟩ : ATape)]) ([(⟨2, 4, ([] : List (List UInt8)), false⟩ : ATape)]) (1 : Int)).1) = 3))) && (decide (((gFind ((gMake ([(⟨1, 4, [(if uCheck (⟨1, 1, 0, [(68 : UInt8)]⟩ : AUnit) = 0 then fMade (⟨1, 1, 0, [(68 : UInt8)]⟩ : AUnit) else [])], false⟩ : ATape)]) ([(⟨2, 4, ([] : List (List UInt8)), false⟩ : ATape)]) (1 : Int)).1)).length : Int) = 1)))) (fun hb43 K43 => ?_) (fun hb43 K43 => ?_) ?_
  ·
    have hc1043 := hb43; try simp only [Bool.and_eq_true, Bool.or_eq_true, Bool.and_eq_false_iff, Bool.or_eq_false_iff, decide_eq_true_eq, decide_eq_false_iff_not, Bool.not_eq_true', Bool.not_eq_false', Bool.not_eq_true, Bool.not_eq_false, Int.not_lt, Int.not_le, ge_iff_le, gt_iff_lt, ne_eq, Decidable.not_not] at hc1043
    refine Run.yes (v := .slice A11a_0 (((gMake ([(⟨1, 4, [(if uCheck (⟨1, 1, 0, [(68 : UInt8)]⟩ : AUnit) = 0 then fMade (⟨1, 1, 0, [(68 : UInt8)]⟩ : AUnit) else [])], false⟩ : ATape)]) ([(⟨2, 4, ([] : List (List UInt8)), false⟩ : ATape)]) (1 : Int)).1).length) c11a_0) (y_move rfl rfl) rfl rfl rfl rfl (hb43) rfl (by decide) ?_
    refine Run.callYes (en_func rfl Try.call9 rfl) (c_group_Find _ ((gMake ([(⟨1, 4, [(if uCheck (⟨1, 1, 0, [(68 : UInt8)]⟩ : AUnit) = 0 then fMade (⟨1, 1, 0, [(68 : UInt8)]⟩ : AUnit) else [])], false⟩ : ATape)]) ([(⟨2, 4, ([] : List (List UInt8)), false⟩ : ATape)]) (1 : Int)).1) (f11a_0.mono hleJ12) (fun t ht x hx => by have := gMake_blocks _ _ _ t ht x hx; omega) (by have := gMake_len [(⟨1, 4, [fput ⟨1, 1, 0, [68]⟩], false⟩ : ATape)] [(⟨2, 4, [], false⟩ : ATape)] 1; exact Nat.le_trans this (by decide))) rfl rfl rfl rfl (hb43) rfl (by decide) (fun J15 o15 v15 hleJ15 hq15 => ?_)
    obtain ⟨rfl, cs15a, rfl, h15a⟩ := hq15
    replace h15a : (tSl tSeal).rd J15 cs15a (gFind ((gMake ([(⟨1, 4, [(if uCheck (⟨1, 1, 0, [(68 : UInt8)]⟩ : AUnit) = 0 then fMade (⟨1, 1, 0, [(68 : UInt8)]⟩ : AUnit) else [])], false⟩ : ATape)]) ([(⟨2, 4, ([] : List (List UInt8)), false⟩ : ATape)]) (1 : Int)).1)) := h15a
    obtain ⟨A15a_0, c15a_0, rfl, f15a_0⟩ := h15a
    have hsm15a_0 := f15a_0.small
    refine Run.yes (v := .int .i64 ((gFind ((gMake ([(⟨1, 4, [(if uCheck (⟨1, 1, 0, [(68 : UInt8)]⟩ : AUnit) = 0 then fMade (⟨1, 1, 0, [(68 : UInt8)]⟩ : AUnit) else [])], false⟩ : ATape)]) ([(⟨2, 4, ([] : List (List UInt8)), false⟩ : ATape)]) (1 : Int)).1)).length : Int)) (y_len rfl Try.runUnderlying38 rfl) rfl rfl rfl rfl (hb43) rfl (by decide) ?_
    refine Run.yes (v := .bool (decide (((gFind ((gMake ([(⟨1, 4, [(if uCheck (⟨1, 1, 0, [(68 : UInt8)]⟩ : AUnit) = 0 then fMade (⟨1, 1, 0, [(68 : UInt8)]⟩ : AUnit) else [])], false⟩ : ATape)]) ([(⟨2, 4, ([] : List (List UInt8)), false⟩ : ATape)]) (1 : Int)).1)).length : Int) = 1))) (y_bin rfl rfl rfl bn_eql) rfl rfl rfl rfl (hb43) rfl (by decide) ?_
    refine Run.y (y_pickB rfl rfl (hb43) rfl) rfl rfl (by decide) ?_
    exact K43 _ _ _ hleJ15 (by rw [hb43]; simp) (Sub.push (Sub.push (Sub.push (Sub.push Sub.refl rfl) rfl) rfl) rfl)
  ·
    have hc1043 := hb43; try simp only [Bool.and_eq_true, Bool.or_eq_true, Bool.and_eq_false_iff, Bool.or_eq_false_iff, decide_eq_true_eq, decide_eq_false_iff_not, Bool.not_eq_true', Bool.not_eq_false', Bool.not_eq_true, Bool.not_eq_false, Int.not_lt, Int.not_le, ge_iff_le, gt_iff_lt, ne_eq, Decidable.not_not] at hc1043
    refine Run.no rfl rfl rfl rfl (hb43) rfl (by decide) ?_
    refine Run.no rfl rfl rfl rfl (hb43) rfl (by decide) ?_
    refine Run.no rfl rfl rfl rfl (hb43) rfl (by decide) ?_
    refine Run.no rfl rfl rfl rfl (hb43) rfl (by decide) ?_
    refine Run.y (y_pickB rfl rfl (hb43) rfl) rfl rfl (by decide) ?_
    exact K43 _ _ _ (Imm.le.refl _) (by rw [hb43]; simp) (Sub.push (Sub.push (Sub.push (Sub.push Sub.refl rfl) rfl) rfl) rfl)
  refine Run.y (v := .bool (((((decide (((gFind ([] : List ATape)).length : Int) = 0)) && (decide (((gMake ([(⟨1, 4, [(if uCheck (⟨1, 1, 0, [(68 : UInt8)]⟩ : AUnit) = 0 then fMade (⟨1, 1, 0, [(68 : UInt8)]⟩ : AUnit) else [])], false⟩ : ATape)]) ([(⟨2, 4, ([] : List (List UInt8)), false⟩ : ATape)]) (1 : Int)).2) = 0))) && (decide ((((gMake ([(⟨1, 4, [(if uCheck (⟨1, 1, 0, [(68 : UInt8)]⟩ : AUnit) = 0 then fMade (⟨1, 1, 0, [(68 : UInt8)]⟩ : AUnit) else [])], false⟩ : ATape)]) ([(⟨2, 4, ([] : List (List UInt8)), false⟩ : ATape)]) (1 : Int)).1).length : Int) = 1))) && (decide (h0blk ((gMake ([(⟨1, 4, [(if uCheck (⟨1, 1, 0, [(68 : UInt8)]⟩ : AUnit) = 0 then fMade (⟨1, 1, 0, [(68 : UInt8)]⟩ : AUnit) else [])], false⟩ : ATape)]) ([(⟨2, 4, ([] : List (List UInt8)), false⟩ : ATape)]) (1 : Int)).1) = 3))) && (decide (((gFind ((gMake ([(⟨1, 4, [(if uCheck (⟨1, 1, 0, [(68 : UInt8)]⟩ : AUnit) = 0 then fMade (⟨1, 1, 0, [(68 : UInt8)]⟩ : AUnit) else [])], false⟩ : ATape)]) ([(⟨2, 4, ([] : List (List UInt8)), false⟩ : ATape)]) (1 : Int)).1)).length : Int) = 1)))) (y_assign rfl rfl) rfl rfl (by decide) ?_
  refine Run.nil ?_
  refine RunQ.next ?_
  refine RunC.ret ?_
  refine RunQ.weak Sub.refl (perm_nil _) ?_
  refine RunQ.fin1 (.inl rfl) Try.results5 (rv_tmp rfl) ?_
  exact ⟨rfl, _, rfl, (rd_eq (T := tBool) (x := (((((decide (((gFind ([] : List ATape)).length : Int) = 0)) && (decide (((gMake ([(⟨1, 4, [(if uCheck (⟨1, 1, 0, [(68 : UInt8)]⟩ : AUnit) = 0 then fMade (⟨1, 1, 0, [(68 : UInt8)]⟩ : AUnit) else [])], false⟩ : ATape)]) ([(⟨2, 4, ([] : List (List UInt8)), false⟩ : ATape)]) (1 : Int)).2) = 0))) && (decide ((((gMake ([(⟨1, 4, [(if uCheck (⟨1, 1, 0, [(68 : UInt8)]⟩ : AUnit) = 0 then fMade (⟨1, 1, 0, [(68 : UInt8)]⟩ : AUnit) else [])], false⟩ : ATape)]) ([(⟨2, 4, ([] : List (List UInt8)), false⟩ : ATape)]) (1 : Int)).1).length : Int) = 1))) && (decide (h0blk ((gMake ([(⟨1, 4, [(if uCheck (⟨1, 1, 0, [(68 : UInt8)]⟩ : AUnit) = 0 then fMade (⟨1, 1, 0, [(68 : UInt8)]⟩ : AUnit) else [])], false⟩ : ATape)]) ([(⟨2, 4, ([] : List (List UInt8)), false⟩ : ATape)]) (1 : Int)).1) = 3))) && (decide (((gFind ((gMake ([(⟨1, 4, [(if uCheck (⟨1, 1, 0, [(68 : UInt8)]⟩ : AUnit) = 0 then fMade (⟨1, 1, 0, [(68 : UInt8)]⟩ : AUnit) else [])], false⟩ : ATape)]) ([(⟨2, 4, ([] : List (List UInt8)), false⟩ : ATape)]) (1 : Int)).1)).length : Int) = 1)))) rfl (by decide +kernel))⟩

theorem c_cartridgelaw14_GroupNumbers (I : Imm) {Ans : Option Addr} {cns : Nat} (ns : List Int) (hns : Sl tInt I Ans cns ns) : Con Try.prog 4 [.slice Ans ns.length cns].toArray I [] (Ret1 (tBool.o) true) := by
  have hsmns := hns.small
  refine Con.enter (n := 173) (L := [(0, .slice Ans ns.length cns)]) Try.func4 rfl rfl (Nat.le_of_ble_eq_true rfl) rfl (fun E => ?_)
  refine RunC.seq ?_
  refine RunC.region ?_
  refine Run.y (v := .bool false) (y_assign rfl rfl) rfl rfl (by decide) ?_
  refine Run.nil ?_
  refine RunQ.next ?_
  refine RunC.seq ?_
  refine RunC.region ?_
  refine Run.callV (en_func rfl Try.call5 rfl) (conv_bool (c_cartridgelaw14_alive _)) rfl rfl (by decide) (fun hI1 => ?_)
  refine Run.y (v := .bool true) (y_assign rfl rfl) rfl rfl (by decide) ?_
  refine Run.nil ?_
  refine RunQ.next ?_
  refine RunC.seq ?_
  refine RunC.seq ?_
  refine RunC.region ?_
  refine Run.y (v := .bool true) (y_move rfl rfl) rfl rfl (by decide) ?_
  refine Run.y (v := .bool false) (y_not (b := true) rfl rfl) rfl rfl (by decide) ?_
  refine Run.y (v := .bool false) (y_move rfl rfl) rfl rfl (by decide) ?_
  refine Run.yes (v := .slice Ans ns.length cns) (y_move rfl rfl) rfl rfl rfl rfl (rfl) rfl (by decide) ?_
  refine Run.yes (v := .int .i64 (ns.length : Int)) (y_len rfl Try.runUnderlying22 rfl) rfl rfl rfl rfl (rfl) rfl (by decide) ?_
  refine Run.yes (v := .bool (decide ((ns.length : Int) > 8))) (y_bin rfl rfl rfl bn_gtr) rfl rfl rfl rfl (rfl) rfl (by decide) ?_
  refine Run.y (v := .bool (decide ((ns.length : Int) > 8))) (y_pick rfl rfl rfl) rfl rfl (by decide) ?_
  refine Run.nil ?_
  refine RunQ.next ?_
  refine RunC.cond rfl (fun hc0 => ?_) (fun hc0 => ?_)
  ·
    try simp only [Bool.and_eq_true, Bool.or_eq_true, Bool.and_eq_false_iff, Bool.or_eq_false_iff, decide_eq_true_eq, decide_eq_false_iff_not, Bool.not_eq_true', Bool.not_eq_false', Bool.not_eq_true, Bool.not_eq_false, Int.not_lt, Int.not_le, ge_iff_le, gt_iff_lt, ne_eq, Decidable.not_not] at hc0
    refine RunC.seq ?_
    refine RunC.region ?_
    refine Run.y (v := .bool true) (y_move rfl rfl) rfl rfl (by decide) ?_
    refine Run.y (v := .bool true) (y_assign rfl rfl) rfl rfl (by decide) ?_
    refine Run.nil ?_
    refine RunQ.next ?_
    refine RunC.ret ?_
    refine RunQ.pass (fun h => by cases h) ?_
    refine RunQ.weak Sub.refl (perm_nil _) ?_
    refine RunQ.fin1 (.inl rfl) Try.results4 (rv_tmp rfl) ?_
    exact ⟨rfl, _, rfl, (rd_eq (T := tBool) (x := true) rfl (by first | rfl | simp))⟩
  ·
    try simp only [Bool.and_eq_true, Bool.or_eq_true, Bool.and_eq_false_iff, Bool.or_eq_false_iff, decide_eq_true_eq, decide_eq_false_iff_not, Bool.not_eq_true', Bool.not_eq_false', Bool.not_eq_true, Bool.not_eq_false, Int.not_lt, Int.not_le, ge_iff_le, gt_iff_lt, ne_eq, Decidable.not_not] at hc0
    refine RunC.skip ?_
    refine RunQ.next ?_
    refine RunC.seq ?_
    refine RunC.region ?_
    refine Run.y (v := .slice none 0 0) (y_assign rfl rfl) rfl rfl (by decide) ?_
    refine Run.nil ?_
    refine RunQ.next ?_
    refine RunC.seq ?_
    refine RunC.seq ?_
    refine RunC.region ?_
    refine Run.y (v := .int .i64 0) (y_assign rfl rfl) rfl rfl (by decide) ?_
    refine Run.nil ?_
    refine RunQ.next ?_
    refine RunC.block ?_
    refine RunC.nilrow none 32 4 ?_
    obtain ⟨Inv0, hInv0⟩ : ∃ Inv : Nat → Act → World → Prop, ∀ mm aa ww, Inv mm aa ww ↔ (∃ (k : Nat) (l : List (ATape)) (Al : Option Addr) (cl : Nat) (cll : List Value) (J : Imm), (I.le J) ∧ (tTape.all J cll l) ∧ (k ≤ ns.length) ∧ (GnL ns k l) ∧ (mm = (ns.length - k)) ∧ Frm aa 173 [(0, .slice Ans ns.length cns), (5, .int .i64 (k : Int)), (4, .slice Al l.length cl)] ∧ S E ww J [row (.slice Al l.length cl) 32 4 cll]) := ⟨_, fun _ _ _ => Iff.rfl⟩
    refine RunC.loopX Inv0 (fun aa ww hF hS => ⟨_, (hInv0 _ _ _).2 ⟨0, ([] : List ATape), none, 0, [], I, (Imm.le.refl _), all_nil, (by omega), GnL.nil, rfl, hF.sub (.cons rfl (.cons rfl (.cons rfl .nil))), hS.sub (perm_self _)⟩⟩) ?_
    intro mm0 aa ww hv
    obtain ⟨k, l, Al, cl, cll, J, hJ_le, hl, hk, hgn, hmm_, hF, hS⟩ := (hInv0 _ _ _).1 hv
    clear hv
    refine RunC.go ?_ hF hS
    clear hF hS aa ww
    have hgl0 := hgn.len
    refine RunC.seq ?_
    refine RunC.seq ?_
    refine RunC.region ?_
    refine Run.y (v := .int .i64 (k : Int)) (y_move rfl rfl) rfl rfl (by decide) ?_
    refine Run.y (v := .slice Ans ns.length cns) (y_move rfl rfl) rfl rfl (by decide) ?_
    refine Run.y (v := .int .i64 (ns.length : Int)) (y_len rfl Try.runUnderlying22 rfl) rfl rfl (by decide) ?_
    refine Run.y (v := .bool (decide ((k : Int) < (ns.length : Int)))) (y_bin rfl rfl rfl bn_lss) rfl rfl (by decide) ?_
    refine Run.nil ?_
    refine RunQ.next ?_
    refine RunC.cond rfl (fun hc1 => ?_) (fun hc1 => ?_)
    ·
      try simp only [Bool.and_eq_true, Bool.or_eq_true, Bool.and_eq_false_iff, Bool.or_eq_false_iff, decide_eq_true_eq, decide_eq_false_iff_not, Bool.not_eq_true', Bool.not_eq_false', Bool.not_eq_true, Bool.not_eq_false, Int.not_lt, Int.not_le, ge_iff_le, gt_iff_lt, ne_eq, Decidable.not_not] at hc1
      refine RunC.skip ?_
      refine RunQ.next ?_
      refine RunC.seq ?_
      refine RunC.block ?_
      refine RunC.seq ?_
      refine RunC.region ?_
      refine Run.y (v := .int .i64 (k : Int)) (y_move rfl rfl) rfl rfl (by decide) ?_
      refine Run.y (v := .int .i64 (2 * (k : Int))) (y_bin rfl rfl rfl (bn_mul (by omega) (by omega))) rfl rfl (by decide) ?_
      refine Run.y (v := .int .i64 ((2 * (k : Int)) + 1)) (y_bin rfl rfl rfl (bn_add (by omega) (by omega))) rfl rfl (by decide) ?_
      refine Run.lit (vs := [(0, .int .u8 ((68 : UInt8).toNat : Int))]) (cs := [.int .u8 ((68 : UInt8).toNat : Int)]) (el := 5) (sz := 1) rfl rfl (fun w => by simp [Instr.buildSlice, Try.runUnderlying24, Try.sizeOf5, Try.zeroValue5, Instr.fill, Value.cells, newRow, (show Array.range 1 = #[0] from rfl)]) rfl (by simp [maxLen]) rfl rfl (by decide) (fun g39 => ?_)
      have hlit2 : tU8.all J [.int .u8 ((68 : UInt8).toNat : Int)] [(68 : UInt8)] := (all_snoc (T := tU8) all_nil rfl)
      refine Run.convS (own' := [row (.slice Al l.length cl) 32 4 cll]) 0 rfl rfl Try.underlying24 Try.underlying5 rfl rfl (by decide) rfl rfl (by decide) (fun J3 hleJ3 hfzJ3 => ?_)
      have hslJ3 : Sl tU8 J3 (some ⟨g39, 0, none⟩) 1 ([(68 : UInt8)]) := Sl.of_rowN hfzJ3 rfl rfl (hlit2.mono hleJ3)
      refine Run.y (v := .agg [.int .i64 1, .int .i64 ((2 * (k : Int)) + 1), .int .i64 0, .slice (some ⟨g39, 0, none⟩) 1 1].toArray) (y_build (vs := [(0, .int .i64 1), (1, .int .i64 ((2 * (k : Int)) + 1)), (3, .slice (some ⟨g39, 0, none⟩) 1 1)]) rfl rfl (fun w => by simp [Instr.build, Try.zeroValue28, Try.runUnderlying28, Try.sizeOf3, Try.sizeOf24, Instr.fill, Value.cells])) rfl rfl (by decide) ?_
      refine Run.call (own1 := []) (own2 := [row (.slice Al l.length cl) 32 4 cll]) (en_func rfl Try.call6 rfl) (c_cartridgeref1_PutFrame _ (⟨1, (2 * (k : Int)) + 1, 0, [(68 : UInt8)]⟩ : AUnit) ⟨_, _, rfl, (by first | omega | (dsimp only; omega)), (by first | omega | (dsimp only; omega)), (by first | omega | (dsimp only; omega)), hslJ3⟩) (List.Perm.refl _) rfl rfl (by decide) (fun J4 o4 v4 hleJ4 hq4 => ?_)
      obtain ⟨yr4_0, Ar4_0, cr4_0, clr4_0, csr4_1, er4_0, rfl, rfl, hr4_0, hr4_1⟩ := hq4
      obtain rfl : (if uCheck (⟨1, (2 * (k : Int)) + 1, 0, [(68 : UInt8)]⟩ : AUnit) = 0 then fMade (⟨1, (2 * (k : Int)) + 1, 0, [(68 : UInt8)]⟩ : AUnit) else []) = yr4_0 := er4_0.symm
      replace hr4_1 : tInt.rd J4 csr4_1 (uCheck (⟨1, (2 * (k : Int)) + 1, 0, [(68 : UInt8)]⟩ : AUnit)) := hr4_1
      obtain ⟨rfl, f4_1_0⟩ := hr4_1
      refine Run.y (v := .tuple #[.slice Ar4_0 ((if uCheck (⟨1, (2 * (k : Int)) + 1, 0, [(68 : UInt8)]⟩ : AUnit) = 0 then fMade (⟨1, (2 * (k : Int)) + 1, 0, [(68 : UInt8)]⟩ : AUnit) else []).length) cr4_0, .int .i64 (uCheck (⟨1, (2 * (k : Int)) + 1, 0, [(68 : UInt8)]⟩ : AUnit))]) (y_move rfl rfl) rfl rfl (by decide) ?_
      refine Run.y (v := .slice Ar4_0 ((if uCheck (⟨1, (2 * (k : Int)) + 1, 0, [(68 : UInt8)]⟩ : AUnit) = 0 then fMade (⟨1, (2 * (k : Int)) + 1, 0, [(68 : UInt8)]⟩ : AUnit) else []).length) cr4_0) (y_extract rfl rfl rfl) rfl rfl (by decide) ?_
      refine Run.y (v := .int .i64 (uCheck (⟨1, (2 * (k : Int)) + 1, 0, [(68 : UInt8)]⟩ : AUnit))) (y_extract rfl rfl rfl) rfl rfl (by decide) ?_
      refine Run.y (v := .slice Ar4_0 ((if uCheck (⟨1, (2 * (k : Int)) + 1, 0, [(68 : UInt8)]⟩ : AUnit) = 0 then fMade (⟨1, (2 * (k : Int)) + 1, 0, [(68 : UInt8)]⟩ : AUnit) else []).length) cr4_0) (y_assign rfl rfl) rfl rfl (by decide) ?_
      refine Run.y (v := .int .i64 (uCheck (⟨1, (2 * (k : Int)) + 1, 0, [(68 : UInt8)]⟩ : AUnit))) (y_assign rfl rfl) rfl rfl (by decide) ?_
      refine Run.nil ?_
      refine RunQ.next ?_
      refine RunC.seq ?_
      refine RunC.region ?_
      refine Run.y (v := .int .i64 (k : Int)) (y_move rfl rfl) rfl rfl (by decide) ?_
      refine Run.y (v := .int .i64 (2 * (k : Int))) (y_bin rfl rfl rfl (bn_mul (by omega) (by omega))) rfl rfl (by decide) ?_
      refine Run.y (v := .int .i64 ((2 * (k : Int)) + 1)) (y_bin rfl rfl rfl (bn_add (by omega) (by omega))) rfl rfl (by decide) ?_
      refine Run.y (v := .slice Ar4_0 ((if uCheck (⟨1, (2 * (k : Int)) + 1, 0, [(68 : UInt8)]⟩ : AUnit) = 0 then fMade (⟨1, (2 * (k : Int)) + 1, 0, [(68 : UInt8)]⟩ : AUnit) else []).length) cr4_0) (y_move rfl rfl) rfl rfl (by decide) ?_
      refine Run.freezeR 0 rfl (own' := [row (.slice Al l.length cl) 32 4 cll]) rfl (fun J5 hleJ5 hfzJ5 => ?_)
      have hslJ5 : Sl tU8 J5 Ar4_0 cr4_0 (if uCheck (⟨1, (2 * (k : Int)) + 1, 0, [(68 : UInt8)]⟩ : AUnit) = 0 then fMade (⟨1, (2 * (k : Int)) + 1, 0, [(68 : UInt8)]⟩ : AUnit) else []) := Sl.of_rowN hfzJ5 rfl rfl (hr4_0.mono hleJ5)
      refine Run.lit (vs := [(0, .slice Ar4_0 ((if uCheck (⟨1, (2 * (k : Int)) + 1, 0, [(68 : UInt8)]⟩ : AUnit) = 0 then fMade (⟨1, (2 * (k : Int)) + 1, 0, [(68 : UInt8)]⟩ : AUnit) else []).length) cr4_0)]) (cs := [.slice Ar4_0 ((if uCheck (⟨1, (2 * (k : Int)) + 1, 0, [(68 : UInt8)]⟩ : AUnit) = 0 then fMade (⟨1, (2 * (k : Int)) + 1, 0, [(68 : UInt8)]⟩ : AUnit) else []).length) cr4_0]) (el := 24) (sz := 1) rfl rfl (fun w => by simp [Instr.buildSlice, Try.runUnderlying30, Try.sizeOf24, Try.zeroValue24, Instr.fill, Value.cells, newRow, (show Array.range 1 = #[0] from rfl)]) rfl (by simp [maxLen]) rfl rfl (by decide) (fun g49 => ?_)
      refine Run.y (v := .agg [.int .i64 ((2 * (k : Int)) + 1), .int .i64 5, .slice (some ⟨g49, 0, none⟩) 1 1, .bool false].toArray) (y_build (vs := [(0, .int .i64 ((2 * (k : Int)) + 1)), (1, .int .i64 5), (2, .slice (some ⟨g49, 0, none⟩) 1 1)]) rfl rfl (fun w => by simp [Instr.build, Try.zeroValue32, Try.runUnderlying32, Try.sizeOf3, Try.sizeOf4, Try.sizeOf30, Instr.fill, Value.cells])) rfl rfl (by decide) ?_
      refine Run.alloc (cs := [.int .i64 0, .int .i64 0, .slice none 0 0, .bool false]) rfl Try.zeroValue32 rfl rfl rfl (by decide) (fun g8_6 => ?_)
      refine Run.storeB (vs := [.int .i64 ((2 * (k : Int)) + 1), .int .i64 5, .slice (some ⟨g49, 0, none⟩) 1 1, .bool false]) (cs' := [.int .i64 ((2 * (k : Int)) + 1), .int .i64 5, .slice (some ⟨g49, 0, none⟩) 1 1, .bool false]) (own' := [row (.slice (some ⟨g49, 0, none⟩) 1 1) 24 1 ([.slice Ar4_0 ((if uCheck (⟨1, (2 * (k : Int)) + 1, 0, [(68 : UInt8)]⟩ : AUnit) = 0 then fMade (⟨1, (2 * (k : Int)) + 1, 0, [(68 : UInt8)]⟩ : AUnit) else []).length) cr4_0]), row (.slice Al l.length cl) 32 4 cll]) 0 rfl rfl rfl Try.sizeOf32 rfl rfl rfl rfl rfl (Nat.le_of_ble_eq_true rfl) rfl rfl rfl ?_
      refine Run.nil ?_
      refine RunQ.next ?_
      refine RunC.seq ?_
      have hlit7 : (tSl tU8).all J5 [.slice Ar4_0 ((if uCheck (⟨1, (2 * (k : Int)) + 1, 0, [(68 : UInt8)]⟩ : AUnit) = 0 then fMade (⟨1, (2 * (k : Int)) + 1, 0, [(68 : UInt8)]⟩ : AUnit) else []).length) cr4_0] [(if uCheck (⟨1, (2 * (k : Int)) + 1, 0, [(68 : UInt8)]⟩ : AUnit) = 0 then fMade (⟨1, (2 * (k : Int)) + 1, 0, [(68 : UInt8)]⟩ : AUnit) else [])] := (all_snoc (T := (tSl tU8)) all_nil ⟨_, _, rfl, hslJ5⟩)
      refine RunC.freezeR 1 rfl (own' := [blk g8_6 [.int .i64 ((2 * (k : Int)) + 1), .int .i64 5, .slice (some ⟨g49, 0, none⟩) 1 1, .bool false] 32, row (.slice Al l.length cl) 32 4 cll]) rfl (fun J8 hleJ8 hfzJ8 => ?_)
      have hslJ8 : Sl (tSl tU8) J8 (some ⟨g49, 0, none⟩) 1 ([(if uCheck (⟨1, (2 * (k : Int)) + 1, 0, [(68 : UInt8)]⟩ : AUnit) = 0 then fMade (⟨1, (2 * (k : Int)) + 1, 0, [(68 : UInt8)]⟩ : AUnit) else [])]) := Sl.of_rowN hfzJ8 (by simp) rfl (hlit7.mono hleJ8)
      refine RunC.cast (s := 49) (v' := .slice (some ⟨g49, 0, none⟩) ([(if uCheck (⟨1, (2 * (k : Int)) + 1, 0, [(68 : UInt8)]⟩ : AUnit) = 0 then fMade (⟨1, (2 * (k : Int)) + 1, 0, [(68 : UInt8)]⟩ : AUnit) else [])]).length 1) rfl (congrArg (fun n => Value.slice (some ⟨g49, 0, none⟩) n 1) (show 1 = _ from (show ([(if uCheck (⟨1, (2 * (k : Int)) + 1, 0, [(68 : UInt8)]⟩ : AUnit) = 0 then fMade (⟨1, (2 * (k : Int)) + 1, 0, [(68 : UInt8)]⟩ : AUnit) else [])]).length = 1 from (by simp)).symm)) ?_
      refine RunC.freezeB 0 rfl (own' := [row (.slice Al l.length cl) 32 4 cll]) rfl (fun J9 hleJ9 hfzJ9 => ?_)
      refine RunC.regionT [17, 18] [] (by kernel_rfl) rfl ?_
      refine RunT.y (v := .agg [.int .i64 ((2 * (k : Int)) + 1), .int .i64 5, .slice (some ⟨g49, 0, none⟩) (([(if uCheck (⟨1, (2 * (k : Int)) + 1, 0, [(68 : UInt8)]⟩ : AUnit) = 0 then fMade (⟨1, (2 * (k : Int)) + 1, 0, [(68 : UInt8)]⟩ : AUnit) else [])]).length) 1, .bool false].toArray) (listed' := #[true, false, false, false, false, false, false, false, false, false, false, false, false, false, false, false, false, false, false]) 0 rfl (by kernel_rfl) (by kernel_rfl) (by kernel_rfl) (by kernel_rfl) rfl (Imm.le.refl _) (perm_nil _) (y_loadA (cs := [.int .i64 ((2 * (k : Int)) + 1), .int .i64 5, .slice (some ⟨g49, 0, none⟩) (([(if uCheck (⟨1, (2 * (k : Int)) + 1, 0, [(68 : UInt8)]⟩ : AUnit) = 0 then fMade (⟨1, (2 * (k : Int)) + 1, 0, [(68 : UInt8)]⟩ : AUnit) else [])]).length) 1, .bool false]) rfl Try.isAgg32 Try.sizeOf32 rfl (show RCells _ _ [.int .i64 ((2 * (k : Int)) + 1), .int .i64 5, .slice (some ⟨g49, 0, none⟩) (([(if uCheck (⟨1, (2 * (k : Int)) + 1, 0, [(68 : UInt8)]⟩ : AUnit) = 0 then fMade (⟨1, (2 * (k : Int)) + 1, 0, [(68 : UInt8)]⟩ : AUnit) else [])]).length) 1, .bool false] from hfzJ9) rfl) (.plain rfl) rfl (by decide) rfl ?_
      refine RunT.p (v := .int .i64 (k : Int)) (listed' := #[true, false, true, false, false, false, false, false, false, false, false, false, false, false, false, false, false, false, false]) 2 rfl (by kernel_rfl) (by kernel_rfl) (by kernel_rfl) rfl (fun _ => ⟨(Imm.le.refl _), (perm_nil _)⟩) (y_move rfl rfl) (.plain rfl) rfl (by decide) rfl ?_
      refine RunT.p (v := .int .i64 (2 * (k : Int))) (listed' := #[true, false, true, true, false, false, false, false, false, false, false, false, false, false, false, false, false, false, false]) 3 rfl (by kernel_rfl) (by kernel_rfl) (by kernel_rfl) rfl (fun _ => ⟨(Imm.le.refl _), (perm_nil _)⟩) (y_bin rfl rfl rfl (bn_mul (by omega) (by omega))) (.plain rfl) rfl (by decide) rfl ?_
      refine RunT.p (v := .int .i64 ((2 * (k : Int)) + 2)) (listed' := #[true, false, true, true, true, false, false, false, false, false, false, false, false, false, false, false, false, false, false]) 4 rfl (by kernel_rfl) (by kernel_rfl) (by kernel_rfl) rfl (fun _ => ⟨(Imm.le.refl _), (perm_nil _)⟩) (y_bin rfl rfl rfl (bn_add (by omega) (by omega))) (.plain rfl) rfl (by decide) rfl ?_
      refine RunT.p (v := .agg [.int .i64 ((2 * (k : Int)) + 2), .int .i64 5, .slice none 0 0, .bool false].toArray) (listed' := #[true, false, true, true, true, true, false, false, false, false, false, false, false, false, false, false, false, false, false]) 5 rfl (by kernel_rfl) (by kernel_rfl) (by kernel_rfl) rfl (fun _ => ⟨(Imm.le.refl _), (perm_nil _)⟩) (y_build (vs := [(0, .int .i64 ((2 * (k : Int)) + 2)), (1, .int .i64 5)]) rfl rfl (fun w => by simp [Instr.build, Try.zeroValue32, Try.runUnderlying32, Try.sizeOf3, Try.sizeOf4, Try.sizeOf30, Instr.fill, Value.cells])) (.plain rfl) rfl (by decide) rfl ?_
      refine RunT.p (v := .slice Ans ns.length cns) (listed' := #[true, false, true, true, true, true, false, true, false, false, false, false, false, false, false, false, false, false, false]) 7 rfl (by kernel_rfl) (by kernel_rfl) (by kernel_rfl) rfl (fun _ => ⟨(Imm.le.refl _), (perm_nil _)⟩) (y_move rfl rfl) (.plain rfl) rfl (by decide) rfl ?_
      refine RunT.p (v := .int .i64 (k : Int)) (listed' := #[true, false, true, true, true, true, false, true, true, false, false, false, false, false, false, false, false, false, false]) 8 rfl (by kernel_rfl) (by kernel_rfl) (by kernel_rfl) rfl (fun _ => ⟨(Imm.le.refl _), (perm_nil _)⟩) (y_move rfl rfl) (.plain rfl) rfl (by decide) rfl ?_
      obtain ⟨x61, p61_10, cs61_10, hx61, hp61_10, hcs61_10, hrc61_10⟩ := Sl.at_ (P := Try.prog) (T := tInt) Try.runUnderlying22 Try.sizeOf3 (hns.mono (((((hJ_le.trans hleJ3).trans hleJ4).trans hleJ5).trans hleJ8).trans hleJ9)) (k := .i64) (i := (k : Int)) (by omega) (by omega)
      replace hx61 : ns[k]? = some x61 := hx61
      obtain ⟨rfl, f61_10_0⟩ := hcs61_10
      refine RunT.p (v := .pointer (some p61_10)) (listed' := #[true, false, true, true, true, true, false, true, true, true, false, false, false, false, false, false, false, false, false]) 9 rfl (by kernel_rfl) (by kernel_rfl) (by kernel_rfl) rfl (fun _ => ⟨(Imm.le.refl _), (perm_nil _)⟩) (y_index rfl rfl rfl hp61_10) (.plain rfl) rfl (by decide) rfl ?_
      refine RunT.y (v := .int .i64 x61) (listed' := #[true, false, true, true, true, true, false, true, true, true, true, false, false, false, false, false, false, false, false]) 10 rfl (by kernel_rfl) (by kernel_rfl) (by kernel_rfl) (by kernel_rfl) rfl (Imm.le.refl _) (perm_nil _) (y_load1 rfl Try.isAgg3 rfl (RCells.hd hrc61_10)) (.plain rfl) rfl (by decide) rfl ?_
      refine RunT.p (v := .int .i64 (x61 % 2 ^ 3)) (listed' := #[true, false, true, true, true, true, false, true, true, true, true, true, false, false, false, false, false, false, false]) 11 rfl (by kernel_rfl) (by kernel_rfl) (by kernel_rfl) rfl (fun _ => ⟨(Imm.le.refl _), (perm_nil _)⟩) (y_bin rfl rfl rfl (bn_mask 3 (by decide) rfl)) (.plain rfl) rfl (by decide) rfl ?_
      refine RunT.p (v := .int .i64 (1 + (x61 % 2 ^ 3))) (listed' := #[true, false, true, true, true, true, false, true, true, true, true, true, true, false, false, false, false, false, false]) 12 rfl (by kernel_rfl) (by kernel_rfl) (by kernel_rfl) rfl (fun _ => ⟨(Imm.le.refl _), (perm_nil _)⟩) (y_bin rfl rfl rfl (bn_add (by omega) (by omega))) (.plain rfl) rfl (by decide) rfl ?_
      refine RunT.step2 (li := #[true, true, true, true, true, true, false, true, true, true, true, true, true, false, false, false, false, false, false]) (lj := #[true, false, true, true, true, true, true, true, true, true, true, true, true, false, false, false, false, false, false]) 1 6 rfl rfl (by kernel_rfl) rfl rfl ?_ ?_
      ·
        refine Run.lit (vs := [(0, .agg [.int .i64 ((2 * (k : Int)) + 1), .int .i64 5, .slice (some ⟨g49, 0, none⟩) (([(if uCheck (⟨1, (2 * (k : Int)) + 1, 0, [(68 : UInt8)]⟩ : AUnit) = 0 then fMade (⟨1, (2 * (k : Int)) + 1, 0, [(68 : UInt8)]⟩ : AUnit) else [])]).length) 1, .bool false].toArray)]) (cs := [.int .i64 ((2 * (k : Int)) + 1), .int .i64 5, .slice (some ⟨g49, 0, none⟩) (([(if uCheck (⟨1, (2 * (k : Int)) + 1, 0, [(68 : UInt8)]⟩ : AUnit) = 0 then fMade (⟨1, (2 * (k : Int)) + 1, 0, [(68 : UInt8)]⟩ : AUnit) else [])]).length) 1, .bool false]) (el := 32) (sz := 4) rfl rfl (fun w => by simp [Instr.buildSlice, Try.runUnderlying29, Try.sizeOf32, Try.zeroValue32, Instr.fill, Value.cells, newRow, (show Array.range 4 = #[0, 1, 2, 3] from rfl)]) rfl (by simp [maxLen]) rfl rfl (by decide) (fun g53 => ?_)
        refine Run.nil ?_
        refine RunQ.stepEnd (fun _ => ⟨(Imm.le.refl _), (perm_nil _)⟩) ?_
        refine RunT.step (listed' := #[true, true, true, true, true, true, true, true, true, true, true, true, true, false, false, false, false, false, false]) 6 rfl (by kernel_rfl) rfl ?_
        refine Run.lit (vs := [(0, .agg [.int .i64 ((2 * (k : Int)) + 2), .int .i64 5, .slice none 0 0, .bool false].toArray)]) (cs := [.int .i64 ((2 * (k : Int)) + 2), .int .i64 5, .slice none 0 0, .bool false]) (el := 32) (sz := 4) rfl rfl (fun w => by simp [Instr.buildSlice, Try.runUnderlying29, Try.sizeOf32, Try.zeroValue32, Instr.fill, Value.cells, newRow, (show Array.range 4 = #[0, 1, 2, 3] from rfl)]) rfl (by simp [maxLen]) rfl rfl (by decide) (fun g58 => ?_)
        refine Run.nil ?_
        refine RunQ.stepEnd (fun _ => ⟨(Imm.le.refl _), (perm_nil _)⟩) ?_
        refine RunT.step (listed' := #[true, true, true, true, true, true, true, true, true, true, true, true, true, true, false, false, false, false, false]) 13 rfl (by kernel_rfl) rfl ?_
        have hlit11 : tTape.all J9 [.int .i64 ((2 * (k : Int)) + 1), .int .i64 5, .slice (some ⟨g49, 0, none⟩) (([(if uCheck (⟨1, (2 * (k : Int)) + 1, 0, [(68 : UInt8)]⟩ : AUnit) = 0 then fMade (⟨1, (2 * (k : Int)) + 1, 0, [(68 : UInt8)]⟩ : AUnit) else [])]).length) 1, .bool false] [(⟨(2 * (k : Int)) + 1, 5, [(if uCheck (⟨1, (2 * (k : Int)) + 1, 0, [(68 : UInt8)]⟩ : AUnit) = 0 then fMade (⟨1, (2 * (k : Int)) + 1, 0, [(68 : UInt8)]⟩ : AUnit) else [])], false⟩ : ATape)] := (all_snoc (T := tTape) all_nil ⟨_, _, rfl, (by first | omega | (dsimp only; omega)), (by first | omega | (dsimp only; omega)), (hslJ8.mono hleJ9)⟩)
        refine Run.freezeR 1 rfl (own' := [row (.slice (some ⟨g58, 0, none⟩) 1 1) 32 4 ([.int .i64 ((2 * (k : Int)) + 2), .int .i64 5, .slice none 0 0, .bool false]), row (.slice Al l.length cl) 32 4 cll]) rfl (fun J12 hleJ12 hfzJ12 => ?_)
        have hslJ12 : Sl tTape J12 (some ⟨g53, 0, none⟩) 1 ([(⟨(2 * (k : Int)) + 1, 5, [(if uCheck (⟨1, (2 * (k : Int)) + 1, 0, [(68 : UInt8)]⟩ : AUnit) = 0 then fMade (⟨1, (2 * (k : Int)) + 1, 0, [(68 : UInt8)]⟩ : AUnit) else [])], false⟩ : ATape)]) := Sl.of_rowN hfzJ12 (by simp) rfl (hlit11.mono hleJ12)
        refine Run.cast (s := 53) (v' := .slice (some ⟨g53, 0, none⟩) ([(⟨(2 * (k : Int)) + 1, 5, [(if uCheck (⟨1, (2 * (k : Int)) + 1, 0, [(68 : UInt8)]⟩ : AUnit) = 0 then fMade (⟨1, (2 * (k : Int)) + 1, 0, [(68 : UInt8)]⟩ : AUnit) else [])], false⟩ : ATape)]).length 1) rfl (congrArg (fun n => Value.slice (some ⟨g53, 0, none⟩) n 1) (show 1 = _ from (show ([(⟨(2 * (k : Int)) + 1, 5, [(if uCheck (⟨1, (2 * (k : Int)) + 1, 0, [(68 : UInt8)]⟩ : AUnit) = 0 then fMade (⟨1, (2 * (k : Int)) + 1, 0, [(68 : UInt8)]⟩ : AUnit) else [])], false⟩ : ATape)]).length = 1 from (by simp)).symm)) ?_
        have hlit13 : tTape.all J12 [.int .i64 ((2 * (k : Int)) + 2), .int .i64 5, .slice none 0 0, .bool false] [(⟨(2 * (k : Int)) + 2, 5, ([] : List (List UInt8)), false⟩ : ATape)] := (all_snoc (T := tTape) all_nil ⟨_, _, rfl, (by first | omega | (dsimp only; omega)), (by first | omega | (dsimp only; omega)), sl_nil0⟩)
        refine Run.freezeR 0 rfl (own' := [row (.slice Al l.length cl) 32 4 cll]) rfl (fun J14 hleJ14 hfzJ14 => ?_)
        have hslJ14 : Sl tTape J14 (some ⟨g58, 0, none⟩) 1 ([(⟨(2 * (k : Int)) + 2, 5, ([] : List (List UInt8)), false⟩ : ATape)]) := Sl.of_rowN hfzJ14 (by simp) rfl (hlit13.mono hleJ14)
        refine Run.cast (s := 58) (v' := .slice (some ⟨g58, 0, none⟩) ([(⟨(2 * (k : Int)) + 2, 5, ([] : List (List UInt8)), false⟩ : ATape)]).length 1) rfl (congrArg (fun n => Value.slice (some ⟨g58, 0, none⟩) n 1) (show 1 = _ from (show ([(⟨(2 * (k : Int)) + 2, 5, ([] : List (List UInt8)), false⟩ : ATape)]).length = 1 from (by simp)).symm)) ?_
        refine Run.call0 (en_func rfl Try.call7 rfl) (c_group_Make _ ([(⟨(2 * (k : Int)) + 1, 5, [(if uCheck (⟨1, (2 * (k : Int)) + 1, 0, [(68 : UInt8)]⟩ : AUnit) = 0 then fMade (⟨1, (2 * (k : Int)) + 1, 0, [(68 : UInt8)]⟩ : AUnit) else [])], false⟩ : ATape)]) (hslJ12.mono hleJ14) ([(⟨(2 * (k : Int)) + 2, 5, ([] : List (List UInt8)), false⟩ : ATape)]) hslJ14 (1 + (x61 % 2 ^ 3)) (by omega) (by simp) (by simp) (gnD_blocks k) (gnD_tlen k)) rfl rfl (by decide) (fun J15 o15 v15 hleJ15 hq15 => ?_)
        obtain ⟨rfl, cs15a, cs15b, rfl, h15a, h15b⟩ := hq15
        replace h15a : (tSl tTape).rd J15 cs15a ((gMake ([(⟨(2 * (k : Int)) + 1, 5, [(if uCheck (⟨1, (2 * (k : Int)) + 1, 0, [(68 : UInt8)]⟩ : AUnit) = 0 then fMade (⟨1, (2 * (k : Int)) + 1, 0, [(68 : UInt8)]⟩ : AUnit) else [])], false⟩ : ATape)]) ([(⟨(2 * (k : Int)) + 2, 5, ([] : List (List UInt8)), false⟩ : ATape)]) (1 + (x61 % 2 ^ 3))).1) := h15a
        obtain ⟨A15a_0, c15a_0, rfl, f15a_0⟩ := h15a
        have hsm15a_0 := f15a_0.small
        replace h15b : tInt.rd J15 cs15b ((gMake ([(⟨(2 * (k : Int)) + 1, 5, [(if uCheck (⟨1, (2 * (k : Int)) + 1, 0, [(68 : UInt8)]⟩ : AUnit) = 0 then fMade (⟨1, (2 * (k : Int)) + 1, 0, [(68 : UInt8)]⟩ : AUnit) else [])], false⟩ : ATape)]) ([(⟨(2 * (k : Int)) + 2, 5, ([] : List (List UInt8)), false⟩ : ATape)]) (1 + (x61 % 2 ^ 3))).2) := h15b
        obtain ⟨rfl, f15b_0⟩ := h15b
        obtain ⟨r, hr, hgm⟩ := gn_make ns (i := k) (by omega)
        have hgm2 : (gMake ([(⟨(2 * (k : Int)) + 1, 5, [(if uCheck (⟨1, (2 * (k : Int)) + 1, 0, [(68 : UInt8)]⟩ : AUnit) = 0 then fMade (⟨1, (2 * (k : Int)) + 1, 0, [(68 : UInt8)]⟩ : AUnit) else [])], false⟩ : ATape)]) ([(⟨(2 * (k : Int)) + 2, 5, ([] : List (List UInt8)), false⟩ : ATape)]) (1 + (x61 % 2 ^ 3))) = ([gOut (gnB k) (gnS ns k) r], 0) := by rw [show (1 + x61 % 2 ^ 3 : Int) = gnNum ns k from by rw [gnNum, List.getD_eq_getElem?_getD, hx61]; rfl]; exact hgm
        refine Run.nil ?_
        refine RunQ.stepEnd (fun _ => ⟨((hleJ12.trans hleJ14).trans hleJ15), (perm_nil _)⟩) ?_
        refine RunT.p (v := .tuple #[.slice A15a_0 (((gMake ([(⟨(2 * (k : Int)) + 1, 5, [(if uCheck (⟨1, (2 * (k : Int)) + 1, 0, [(68 : UInt8)]⟩ : AUnit) = 0 then fMade (⟨1, (2 * (k : Int)) + 1, 0, [(68 : UInt8)]⟩ : AUnit) else [])], false⟩ : ATape)]) ([(⟨(2 * (k : Int)) + 2, 5, ([] : List (List UInt8)), false⟩ : ATape)]) (1 + (x61 % 2 ^ 3))).1).length) c15a_0, .int .i64 ((gMake ([(⟨(2 * (k : Int)) + 1, 5, [(if uCheck (⟨1, (2 * (k : Int)) + 1, 0, [(68 : UInt8)]⟩ : AUnit) = 0 then fMade (⟨1, (2 * (k : Int)) + 1, 0, [(68 : UInt8)]⟩ : AUnit) else [])], false⟩ : ATape)]) ([(⟨(2 * (k : Int)) + 2, 5, ([] : List (List UInt8)), false⟩ : ATape)]) (1 + (x61 % 2 ^ 3))).2)]) (listed' := #[true, true, true, true, true, true, true, true, true, true, true, true, true, true, true, false, false, false, false]) 14 rfl (by kernel_rfl) (by kernel_rfl) (by kernel_rfl) rfl (fun _ => ⟨((hleJ12.trans hleJ14).trans hleJ15), (perm_nil _)⟩) (y_move rfl rfl) (.plain rfl) rfl (by decide) rfl ?_
        refine RunT.p (v := .slice A15a_0 (((gMake ([(⟨(2 * (k : Int)) + 1, 5, [(if uCheck (⟨1, (2 * (k : Int)) + 1, 0, [(68 : UInt8)]⟩ : AUnit) = 0 then fMade (⟨1, (2 * (k : Int)) + 1, 0, [(68 : UInt8)]⟩ : AUnit) else [])], false⟩ : ATape)]) ([(⟨(2 * (k : Int)) + 2, 5, ([] : List (List UInt8)), false⟩ : ATape)]) (1 + (x61 % 2 ^ 3))).1).length) c15a_0) (listed' := #[true, true, true, true, true, true, true, true, true, true, true, true, true, true, true, true, false, false, false]) 15 rfl (by kernel_rfl) (by kernel_rfl) (by kernel_rfl) rfl (fun _ => ⟨((hleJ12.trans hleJ14).trans hleJ15), (perm_nil _)⟩) (y_extract rfl rfl rfl) (.plain rfl) rfl (by decide) rfl ?_
        refine RunT.p (v := .int .i64 ((gMake ([(⟨(2 * (k : Int)) + 1, 5, [(if uCheck (⟨1, (2 * (k : Int)) + 1, 0, [(68 : UInt8)]⟩ : AUnit) = 0 then fMade (⟨1, (2 * (k : Int)) + 1, 0, [(68 : UInt8)]⟩ : AUnit) else [])], false⟩ : ATape)]) ([(⟨(2 * (k : Int)) + 2, 5, ([] : List (List UInt8)), false⟩ : ATape)]) (1 + (x61 % 2 ^ 3))).2)) (listed' := #[true, true, true, true, true, true, true, true, true, true, true, true, true, true, true, true, true, false, false]) 16 rfl (by kernel_rfl) (by kernel_rfl) (by kernel_rfl) rfl (fun _ => ⟨((hleJ12.trans hleJ14).trans hleJ15), (perm_nil _)⟩) (y_extract rfl rfl rfl) (.plain rfl) rfl (by decide) rfl ?_
        refine RunT.step (listed' := #[true, true, true, true, true, true, true, true, true, true, true, true, true, true, true, true, true, true, false]) 17 rfl (by kernel_rfl) rfl ?_
        refine Run.y (v := .slice A15a_0 (((gMake ([(⟨(2 * (k : Int)) + 1, 5, [(if uCheck (⟨1, (2 * (k : Int)) + 1, 0, [(68 : UInt8)]⟩ : AUnit) = 0 then fMade (⟨1, (2 * (k : Int)) + 1, 0, [(68 : UInt8)]⟩ : AUnit) else [])], false⟩ : ATape)]) ([(⟨(2 * (k : Int)) + 2, 5, ([] : List (List UInt8)), false⟩ : ATape)]) (1 + (x61 % 2 ^ 3))).1).length) c15a_0) (y_assign rfl rfl) rfl rfl (by decide) ?_
        refine Run.nil ?_
        refine RunQ.stepEnd (fun h => absurd (show false = true from h) Bool.false_ne_true) ?_
        refine RunT.step (listed' := #[true, true, true, true, true, true, true, true, true, true, true, true, true, true, true, true, true, true, true]) 18 rfl (by kernel_rfl) rfl ?_
        refine Run.y (v := .int .i64 ((gMake ([(⟨(2 * (k : Int)) + 1, 5, [(if uCheck (⟨1, (2 * (k : Int)) + 1, 0, [(68 : UInt8)]⟩ : AUnit) = 0 then fMade (⟨1, (2 * (k : Int)) + 1, 0, [(68 : UInt8)]⟩ : AUnit) else [])], false⟩ : ATape)]) ([(⟨(2 * (k : Int)) + 2, 5, ([] : List (List UInt8)), false⟩ : ATape)]) (1 + (x61 % 2 ^ 3))).2)) (y_assign rfl rfl) rfl rfl (by decide) ?_
        refine Run.nil ?_
        refine RunQ.stepEnd (fun h => absurd (show false = true from h) Bool.false_ne_true) ?_
        refine RunT.done (by kernel_rfl) ?_
        refine RunQ.next ?_
        refine RunC.weak (L' := [(0, .slice Ans ns.length cns), (5, .int .i64 (k : Int)), (4, .slice Al l.length cl), (29, .int .i64 (k : Int)), (30, .slice Ans ns.length cns), (31, .int .i64 (ns.length : Int)), (32, .bool (decide ((k : Int) < (ns.length : Int)))), (36, .int .i64 (k : Int)), (37, .int .i64 (2 * (k : Int))), (38, .int .i64 ((2 * (k : Int)) + 1)), (39, .slice (some ⟨g39, 0, none⟩) 1 1), (40, .slice (some ⟨g39, 0, none⟩) 1 1), (41, .agg [.int .i64 1, .int .i64 ((2 * (k : Int)) + 1), .int .i64 0, .slice (some ⟨g39, 0, none⟩) 1 1].toArray), (42, .tuple #[.slice Ar4_0 ((if uCheck (⟨1, (2 * (k : Int)) + 1, 0, [(68 : UInt8)]⟩ : AUnit) = 0 then fMade (⟨1, (2 * (k : Int)) + 1, 0, [(68 : UInt8)]⟩ : AUnit) else []).length) cr4_0, .int .i64 (uCheck (⟨1, (2 * (k : Int)) + 1, 0, [(68 : UInt8)]⟩ : AUnit))]), (35, .tuple #[.slice Ar4_0 ((if uCheck (⟨1, (2 * (k : Int)) + 1, 0, [(68 : UInt8)]⟩ : AUnit) = 0 then fMade (⟨1, (2 * (k : Int)) + 1, 0, [(68 : UInt8)]⟩ : AUnit) else []).length) cr4_0, .int .i64 (uCheck (⟨1, (2 * (k : Int)) + 1, 0, [(68 : UInt8)]⟩ : AUnit))]), (43, .slice Ar4_0 ((if uCheck (⟨1, (2 * (k : Int)) + 1, 0, [(68 : UInt8)]⟩ : AUnit) = 0 then fMade (⟨1, (2 * (k : Int)) + 1, 0, [(68 : UInt8)]⟩ : AUnit) else []).length) cr4_0), (44, .int .i64 (uCheck (⟨1, (2 * (k : Int)) + 1, 0, [(68 : UInt8)]⟩ : AUnit))), (6, .slice Ar4_0 ((if uCheck (⟨1, (2 * (k : Int)) + 1, 0, [(68 : UInt8)]⟩ : AUnit) = 0 then fMade (⟨1, (2 * (k : Int)) + 1, 0, [(68 : UInt8)]⟩ : AUnit) else []).length) cr4_0), (45, .int .i64 (k : Int)), (46, .int .i64 (2 * (k : Int))), (47, .int .i64 ((2 * (k : Int)) + 1)), (48, .slice Ar4_0 ((if uCheck (⟨1, (2 * (k : Int)) + 1, 0, [(68 : UInt8)]⟩ : AUnit) = 0 then fMade (⟨1, (2 * (k : Int)) + 1, 0, [(68 : UInt8)]⟩ : AUnit) else []).length) cr4_0), (49, .slice (some ⟨g49, 0, none⟩) (([(if uCheck (⟨1, (2 * (k : Int)) + 1, 0, [(68 : UInt8)]⟩ : AUnit) = 0 then fMade (⟨1, (2 * (k : Int)) + 1, 0, [(68 : UInt8)]⟩ : AUnit) else [])]).length) 1), (50, .agg [.int .i64 ((2 * (k : Int)) + 1), .int .i64 5, .slice (some ⟨g49, 0, none⟩) (([(if uCheck (⟨1, (2 * (k : Int)) + 1, 0, [(68 : UInt8)]⟩ : AUnit) = 0 then fMade (⟨1, (2 * (k : Int)) + 1, 0, [(68 : UInt8)]⟩ : AUnit) else [])]).length) 1, .bool false].toArray), (8, .pointer (some ⟨g8_6, 0, none⟩)), (52, .agg [.int .i64 ((2 * (k : Int)) + 1), .int .i64 5, .slice (some ⟨g49, 0, none⟩) (([(if uCheck (⟨1, (2 * (k : Int)) + 1, 0, [(68 : UInt8)]⟩ : AUnit) = 0 then fMade (⟨1, (2 * (k : Int)) + 1, 0, [(68 : UInt8)]⟩ : AUnit) else [])]).length) 1, .bool false].toArray), (54, .int .i64 (k : Int)), (55, .int .i64 (2 * (k : Int))), (56, .int .i64 ((2 * (k : Int)) + 2)), (57, .agg [.int .i64 ((2 * (k : Int)) + 2), .int .i64 5, .slice none 0 0, .bool false].toArray), (59, .slice Ans ns.length cns), (60, .int .i64 (k : Int)), (61, .pointer (some p61_10)), (62, .int .i64 x61), (63, .int .i64 (x61 % 2 ^ 3)), (64, .int .i64 (1 + (x61 % 2 ^ 3))), (53, .slice (some ⟨g53, 0, none⟩) (([(⟨(2 * (k : Int)) + 1, 5, [(if uCheck (⟨1, (2 * (k : Int)) + 1, 0, [(68 : UInt8)]⟩ : AUnit) = 0 then fMade (⟨1, (2 * (k : Int)) + 1, 0, [(68 : UInt8)]⟩ : AUnit) else [])], false⟩ : ATape)]).length) 1), (58, .slice (some ⟨g58, 0, none⟩) (([(⟨(2 * (k : Int)) + 2, 5, ([] : List (List UInt8)), false⟩ : ATape)]).length) 1), (65, .tuple #[.slice A15a_0 (((gMake ([(⟨(2 * (k : Int)) + 1, 5, [(if uCheck (⟨1, (2 * (k : Int)) + 1, 0, [(68 : UInt8)]⟩ : AUnit) = 0 then fMade (⟨1, (2 * (k : Int)) + 1, 0, [(68 : UInt8)]⟩ : AUnit) else [])], false⟩ : ATape)]) ([(⟨(2 * (k : Int)) + 2, 5, ([] : List (List UInt8)), false⟩ : ATape)]) (1 + (x61 % 2 ^ 3))).1).length) c15a_0, .int .i64 ((gMake ([(⟨(2 * (k : Int)) + 1, 5, [(if uCheck (⟨1, (2 * (k : Int)) + 1, 0, [(68 : UInt8)]⟩ : AUnit) = 0 then fMade (⟨1, (2 * (k : Int)) + 1, 0, [(68 : UInt8)]⟩ : AUnit) else [])], false⟩ : ATape)]) ([(⟨(2 * (k : Int)) + 2, 5, ([] : List (List UInt8)), false⟩ : ATape)]) (1 + (x61 % 2 ^ 3))).2)]), (51, .tuple #[.slice A15a_0 (((gMake ([(⟨(2 * (k : Int)) + 1, 5, [(if uCheck (⟨1, (2 * (k : Int)) + 1, 0, [(68 : UInt8)]⟩ : AUnit) = 0 then fMade (⟨1, (2 * (k : Int)) + 1, 0, [(68 : UInt8)]⟩ : AUnit) else [])], false⟩ : ATape)]) ([(⟨(2 * (k : Int)) + 2, 5, ([] : List (List UInt8)), false⟩ : ATape)]) (1 + (x61 % 2 ^ 3))).1).length) c15a_0, .int .i64 ((gMake ([(⟨(2 * (k : Int)) + 1, 5, [(if uCheck (⟨1, (2 * (k : Int)) + 1, 0, [(68 : UInt8)]⟩ : AUnit) = 0 then fMade (⟨1, (2 * (k : Int)) + 1, 0, [(68 : UInt8)]⟩ : AUnit) else [])], false⟩ : ATape)]) ([(⟨(2 * (k : Int)) + 2, 5, ([] : List (List UInt8)), false⟩ : ATape)]) (1 + (x61 % 2 ^ 3))).2)]), (66, .slice A15a_0 (((gMake ([(⟨(2 * (k : Int)) + 1, 5, [(if uCheck (⟨1, (2 * (k : Int)) + 1, 0, [(68 : UInt8)]⟩ : AUnit) = 0 then fMade (⟨1, (2 * (k : Int)) + 1, 0, [(68 : UInt8)]⟩ : AUnit) else [])], false⟩ : ATape)]) ([(⟨(2 * (k : Int)) + 2, 5, ([] : List (List UInt8)), false⟩ : ATape)]) (1 + (x61 % 2 ^ 3))).1).length) c15a_0), (67, .int .i64 ((gMake ([(⟨(2 * (k : Int)) + 1, 5, [(if uCheck (⟨1, (2 * (k : Int)) + 1, 0, [(68 : UInt8)]⟩ : AUnit) = 0 then fMade (⟨1, (2 * (k : Int)) + 1, 0, [(68 : UInt8)]⟩ : AUnit) else [])], false⟩ : ATape)]) ([(⟨(2 * (k : Int)) + 2, 5, ([] : List (List UInt8)), false⟩ : ATape)]) (1 + (x61 % 2 ^ 3))).2)), (9, .slice A15a_0 (((gMake ([(⟨(2 * (k : Int)) + 1, 5, [(if uCheck (⟨1, (2 * (k : Int)) + 1, 0, [(68 : UInt8)]⟩ : AUnit) = 0 then fMade (⟨1, (2 * (k : Int)) + 1, 0, [(68 : UInt8)]⟩ : AUnit) else [])], false⟩ : ATape)]) ([(⟨(2 * (k : Int)) + 2, 5, ([] : List (List UInt8)), false⟩ : ATape)]) (1 + (x61 % 2 ^ 3))).1).length) c15a_0), (10, .int .i64 ((gMake ([(⟨(2 * (k : Int)) + 1, 5, [(if uCheck (⟨1, (2 * (k : Int)) + 1, 0, [(68 : UInt8)]⟩ : AUnit) = 0 then fMade (⟨1, (2 * (k : Int)) + 1, 0, [(68 : UInt8)]⟩ : AUnit) else [])], false⟩ : ATape)]) ([(⟨(2 * (k : Int)) + 2, 5, ([] : List (List UInt8)), false⟩ : ATape)]) (1 + (x61 % 2 ^ 3))).2))]) (.cons rfl (.cons rfl (.cons rfl (.cons rfl (.cons rfl (.cons rfl (.cons rfl (.cons rfl (.cons rfl (.cons rfl (.cons rfl (.cons rfl (.cons rfl (.cons rfl (.cons rfl (.cons rfl (.cons rfl (.cons rfl (.cons rfl (.cons rfl (.cons rfl (.cons rfl (.cons rfl (.cons rfl (.cons rfl (.cons rfl (.cons rfl (.cons rfl (.cons rfl (.cons rfl (.cons rfl (.cons rfl (.cons rfl (.cons rfl (.cons rfl (.cons rfl (.cons rfl (.cons rfl (.cons rfl (.cons rfl (.cons rfl (.cons rfl (.cons rfl (.cons rfl .nil)))))))))))))))))))))))))))))))))))))))))))) (perm_self _) ?_
        refine RunC.seq ?_
        refine RunC.seq ?_
        refine RunC.region ?_
        refine Run.y (v := .int .i64 ((gMake ([(⟨(2 * (k : Int)) + 1, 5, [(if uCheck (⟨1, (2 * (k : Int)) + 1, 0, [(68 : UInt8)]⟩ : AUnit) = 0 then fMade (⟨1, (2 * (k : Int)) + 1, 0, [(68 : UInt8)]⟩ : AUnit) else [])], false⟩ : ATape)]) ([(⟨(2 * (k : Int)) + 2, 5, ([] : List (List UInt8)), false⟩ : ATape)]) (1 + (x61 % 2 ^ 3))).2)) (y_move rfl rfl) rfl rfl (by decide) ?_
        refine Run.callV (en_func rfl Try.call8 rfl) (conv_int (c_cartridgelaw14_num _ ((gMake ([(⟨(2 * (k : Int)) + 1, 5, [(if uCheck (⟨1, (2 * (k : Int)) + 1, 0, [(68 : UInt8)]⟩ : AUnit) = 0 then fMade (⟨1, (2 * (k : Int)) + 1, 0, [(68 : UInt8)]⟩ : AUnit) else [])], false⟩ : ATape)]) ([(⟨(2 * (k : Int)) + 2, 5, ([] : List (List UInt8)), false⟩ : ATape)]) (1 + (x61 % 2 ^ 3))).2) f15b_0)) rfl rfl (by decide) (fun hI16 => ?_)
        refine Run.y (v := .bool (decide (((gMake ([(⟨(2 * (k : Int)) + 1, 5, [(if uCheck (⟨1, (2 * (k : Int)) + 1, 0, [(68 : UInt8)]⟩ : AUnit) = 0 then fMade (⟨1, (2 * (k : Int)) + 1, 0, [(68 : UInt8)]⟩ : AUnit) else [])], false⟩ : ATape)]) ([(⟨(2 * (k : Int)) + 2, 5, ([] : List (List UInt8)), false⟩ : ATape)]) (1 + (x61 % 2 ^ 3))).2) ≠ 0))) (y_bin rfl rfl rfl bn_neq) rfl rfl (by decide) ?_
        refine Run.y (v := .bool (decide (((gMake ([(⟨(2 * (k : Int)) + 1, 5, [(if uCheck (⟨1, (2 * (k : Int)) + 1, 0, [(68 : UInt8)]⟩ : AUnit) = 0 then fMade (⟨1, (2 * (k : Int)) + 1, 0, [(68 : UInt8)]⟩ : AUnit) else [])], false⟩ : ATape)]) ([(⟨(2 * (k : Int)) + 2, 5, ([] : List (List UInt8)), false⟩ : ATape)]) (1 + (x61 % 2 ^ 3))).2) ≠ 0))) (y_move rfl rfl) rfl rfl (by decide) ?_
        refine Run.split 4 rfl (b := decide (((gMake ([(⟨(2 * (k : Int)) + 1, 5, [(if uCheck (⟨1, (2 * (k : Int)) + 1, 0, [(68 : UInt8)]⟩ : AUnit) = 0 then fMade (⟨1, (2 * (k : Int)) + 1, 0, [(68 : UInt8)]⟩ : AUnit) else [])], false⟩ : ATape)]) ([(⟨(2 * (k : Int)) + 2, 5, ([] : List (List UInt8)), false⟩ : ATape)]) (1 + (x61 % 2 ^ 3))).2) ≠ 0)) (d := 75) (v := .bool ((decide (((gMake ([(⟨(2 * (k : Int)) + 1, 5, [(if uCheck (⟨1, (2 * (k : Int)) + 1, 0, [(68 : UInt8)]⟩ : AUnit) = 0 then fMade (⟨1, (2 * (k : Int)) + 1, 0, [(68 : UInt8)]⟩ : AUnit) else [])], false⟩ : ATape)]) ([(⟨(2 * (k : Int)) + 2, 5, ([] : List (List UInt8)), false⟩ : ATape)]) (1 + (x61 % 2 ^ 3))).2) ≠ 0)) || (decide ((((gMake ([(⟨(2 * (k : Int)) + 1, 5, [(if uCheck (⟨1, (2 * (k : Int)) + 1, 0, [(68 : UInt8)]⟩ : AUnit) = 0 then fMade (⟨1, (2 * (k : Int)) + 1, 0, [(68 : UInt8)]⟩ : AUnit) else [])], false⟩ : ATape)]) ([(⟨(2 * (k : Int)) + 2, 5, ([] : List (List UInt8)), false⟩ : ATape)]) (1 + (x61 % 2 ^ 3))).1).length : Int) ≠ 1)))) (fun hb71 K71 => ?_) (fun hb71 K71 => ?_) ?_
        ·
          have hc1071 := hb71; try simp only [Bool.and_eq_true, Bool.or_eq_true, Bool.and_eq_false_iff, Bool.or_eq_false_iff, decide_eq_true_eq, decide_eq_false_iff_not, Bool.not_eq_true', Bool.not_eq_false', Bool.not_eq_true, Bool.not_eq_false, Int.not_lt, Int.not_le, ge_iff_le, gt_iff_lt, ne_eq, Decidable.not_not] at hc1071
          refine Run.no rfl rfl rfl rfl (hb71) rfl (by decide) ?_
          refine Run.no rfl rfl rfl rfl (hb71) rfl (by decide) ?_
          refine Run.no rfl rfl rfl rfl (hb71) rfl (by decide) ?_
          refine Run.y (y_pickB rfl rfl (hb71) rfl) rfl rfl (by decide) ?_
          exact K71 _ _ _ (Imm.le.refl _) (by rw [hb71]; simp) (Sub.push (Sub.push (Sub.push Sub.refl rfl) rfl) rfl)
        ·
          have hc1071 := hb71; try simp only [Bool.and_eq_true, Bool.or_eq_true, Bool.and_eq_false_iff, Bool.or_eq_false_iff, decide_eq_true_eq, decide_eq_false_iff_not, Bool.not_eq_true', Bool.not_eq_false', Bool.not_eq_true, Bool.not_eq_false, Int.not_lt, Int.not_le, ge_iff_le, gt_iff_lt, ne_eq, Decidable.not_not] at hc1071
          refine Run.yes (v := .slice A15a_0 (((gMake ([(⟨(2 * (k : Int)) + 1, 5, [(if uCheck (⟨1, (2 * (k : Int)) + 1, 0, [(68 : UInt8)]⟩ : AUnit) = 0 then fMade (⟨1, (2 * (k : Int)) + 1, 0, [(68 : UInt8)]⟩ : AUnit) else [])], false⟩ : ATape)]) ([(⟨(2 * (k : Int)) + 2, 5, ([] : List (List UInt8)), false⟩ : ATape)]) (1 + (x61 % 2 ^ 3))).1).length) c15a_0) (y_move rfl rfl) rfl rfl rfl rfl (hb71) rfl (by decide) ?_
          refine Run.yes (v := .int .i64 (((gMake ([(⟨(2 * (k : Int)) + 1, 5, [(if uCheck (⟨1, (2 * (k : Int)) + 1, 0, [(68 : UInt8)]⟩ : AUnit) = 0 then fMade (⟨1, (2 * (k : Int)) + 1, 0, [(68 : UInt8)]⟩ : AUnit) else [])], false⟩ : ATape)]) ([(⟨(2 * (k : Int)) + 2, 5, ([] : List (List UInt8)), false⟩ : ATape)]) (1 + (x61 % 2 ^ 3))).1).length : Int)) (y_len rfl Try.runUnderlying29 rfl) rfl rfl rfl rfl (hb71) rfl (by decide) ?_
          refine Run.yes (v := .bool (decide ((((gMake ([(⟨(2 * (k : Int)) + 1, 5, [(if uCheck (⟨1, (2 * (k : Int)) + 1, 0, [(68 : UInt8)]⟩ : AUnit) = 0 then fMade (⟨1, (2 * (k : Int)) + 1, 0, [(68 : UInt8)]⟩ : AUnit) else [])], false⟩ : ATape)]) ([(⟨(2 * (k : Int)) + 2, 5, ([] : List (List UInt8)), false⟩ : ATape)]) (1 + (x61 % 2 ^ 3))).1).length : Int) ≠ 1))) (y_bin rfl rfl rfl bn_neq) rfl rfl rfl rfl (hb71) rfl (by decide) ?_
          refine Run.y (y_pickB rfl rfl (hb71) rfl) rfl rfl (by decide) ?_
          exact K71 _ _ _ (Imm.le.refl _) (by rw [hb71]; simp) (Sub.push (Sub.push (Sub.push Sub.refl rfl) rfl) rfl)
        refine Run.nil ?_
        refine RunQ.next ?_
        refine RunC.cond rfl (fun hc2 => ?_) (fun hc2 => ?_)
        ·
          try simp only [Bool.and_eq_true, Bool.or_eq_true, Bool.and_eq_false_iff, Bool.or_eq_false_iff, decide_eq_true_eq, decide_eq_false_iff_not, Bool.not_eq_true', Bool.not_eq_false', Bool.not_eq_true, Bool.not_eq_false, Int.not_lt, Int.not_le, ge_iff_le, gt_iff_lt, ne_eq, Decidable.not_not] at hc2
          exfalso
          rw [hgm2] at hc2; simp at hc2
        ·
          skip
          try simp only [Bool.and_eq_true, Bool.or_eq_true, Bool.and_eq_false_iff, Bool.or_eq_false_iff, decide_eq_true_eq, decide_eq_false_iff_not, Bool.not_eq_true', Bool.not_eq_false', Bool.not_eq_true, Bool.not_eq_false, Int.not_lt, Int.not_le, ge_iff_le, gt_iff_lt, ne_eq, Decidable.not_not] at hc2
          refine RunC.skip ?_
          refine RunQ.next ?_
          refine RunC.regionT [7] [] (by kernel_rfl) rfl ?_
          refine RunT.p (v := .slice Al l.length cl) (listed' := #[true, false, false, false, false, false, false, false]) 0 rfl (by kernel_rfl) (by kernel_rfl) (by kernel_rfl) rfl (fun _ => ⟨(Imm.le.refl _), (perm_nil _)⟩) (y_move rfl rfl) (.plain rfl) rfl (by decide) rfl ?_
          refine RunT.y (v := .agg [.int .i64 ((2 * (k : Int)) + 1), .int .i64 5, .slice (some ⟨g49, 0, none⟩) (([(if uCheck (⟨1, (2 * (k : Int)) + 1, 0, [(68 : UInt8)]⟩ : AUnit) = 0 then fMade (⟨1, (2 * (k : Int)) + 1, 0, [(68 : UInt8)]⟩ : AUnit) else [])]).length) 1, .bool false].toArray) (listed' := #[true, true, false, false, false, false, false, false]) 1 rfl (by kernel_rfl) (by kernel_rfl) (by kernel_rfl) (by kernel_rfl) rfl (Imm.le.refl _) (perm_nil _) (y_loadA (cs := [.int .i64 ((2 * (k : Int)) + 1), .int .i64 5, .slice (some ⟨g49, 0, none⟩) (([(if uCheck (⟨1, (2 * (k : Int)) + 1, 0, [(68 : UInt8)]⟩ : AUnit) = 0 then fMade (⟨1, (2 * (k : Int)) + 1, 0, [(68 : UInt8)]⟩ : AUnit) else [])]).length) 1, .bool false]) rfl Try.isAgg32 Try.sizeOf32 rfl (show RCells _ _ [.int .i64 ((2 * (k : Int)) + 1), .int .i64 5, .slice (some ⟨g49, 0, none⟩) (([(if uCheck (⟨1, (2 * (k : Int)) + 1, 0, [(68 : UInt8)]⟩ : AUnit) = 0 then fMade (⟨1, (2 * (k : Int)) + 1, 0, [(68 : UInt8)]⟩ : AUnit) else [])]).length) 1, .bool false] from (hfzJ9.mono ((hleJ12.trans hleJ14).trans hleJ15))) rfl) (.plain rfl) rfl (by decide) rfl ?_
          refine RunT.p (v := .slice A15a_0 (((gMake ([(⟨(2 * (k : Int)) + 1, 5, [(if uCheck (⟨1, (2 * (k : Int)) + 1, 0, [(68 : UInt8)]⟩ : AUnit) = 0 then fMade (⟨1, (2 * (k : Int)) + 1, 0, [(68 : UInt8)]⟩ : AUnit) else [])], false⟩ : ATape)]) ([(⟨(2 * (k : Int)) + 2, 5, ([] : List (List UInt8)), false⟩ : ATape)]) (1 + (x61 % 2 ^ 3))).1).length) c15a_0) (listed' := #[true, true, true, false, false, false, false, false]) 2 rfl (by kernel_rfl) (by kernel_rfl) (by kernel_rfl) rfl (fun _ => ⟨(Imm.le.refl _), (perm_nil _)⟩) (y_move rfl rfl) (.plain rfl) rfl (by decide) rfl ?_
          obtain ⟨x79, p79_17, cs79_17, hx79, hp79_17, hcs79_17, hrc79_17⟩ := Sl.at_ (P := Try.prog) (T := tTape) Try.runUnderlying29 Try.sizeOf32 f15a_0 (k := .i64) (i := 0) (by omega) (by rw [hgm2]; simp)
          replace hx79 : ((gMake ([(⟨(2 * (k : Int)) + 1, 5, [(if uCheck (⟨1, (2 * (k : Int)) + 1, 0, [(68 : UInt8)]⟩ : AUnit) = 0 then fMade (⟨1, (2 * (k : Int)) + 1, 0, [(68 : UInt8)]⟩ : AUnit) else [])], false⟩ : ATape)]) ([(⟨(2 * (k : Int)) + 2, 5, ([] : List (List UInt8)), false⟩ : ATape)]) (1 + (x61 % 2 ^ 3))).1)[0]? = some x79 := hx79
          obtain ⟨A79_17_2, c79_17_2, rfl, f79_17_0, f79_17_1, f79_17_2⟩ := hcs79_17
          have hsm79_17_2 := f79_17_2.small
          have hx79e : x79 = gOut (gnB k) (gnS ns k) r := by rw [hgm2] at hx79; exact (Option.some.inj hx79).symm
          refine RunT.p (v := .pointer (some p79_17)) (listed' := #[true, true, true, true, false, false, false, false]) 3 rfl (by kernel_rfl) (by kernel_rfl) (by kernel_rfl) rfl (fun _ => ⟨(Imm.le.refl _), (perm_nil _)⟩) (y_index rfl rfl rfl hp79_17) (.plain rfl) rfl (by decide) rfl ?_
          refine RunT.y (v := .agg [.int .i64 x79.label, .int .i64 x79.cap, .slice A79_17_2 x79.blocks.length c79_17_2, .bool x79.lost].toArray) (listed' := #[true, true, true, true, true, false, false, false]) 4 rfl (by kernel_rfl) (by kernel_rfl) (by kernel_rfl) (by kernel_rfl) rfl (Imm.le.refl _) (perm_nil _) (y_loadA (cs := [.int .i64 x79.label, .int .i64 x79.cap, .slice A79_17_2 x79.blocks.length c79_17_2, .bool x79.lost]) rfl Try.isAgg32 Try.sizeOf32 rfl hrc79_17 rfl) (.plain rfl) rfl (by decide) rfl ?_
          refine RunT.step (listed' := #[true, true, true, true, true, true, false, false]) 5 rfl (by kernel_rfl) rfl ?_
          refine Run.lit (vs := [(0, .agg [.int .i64 ((2 * (k : Int)) + 1), .int .i64 5, .slice (some ⟨g49, 0, none⟩) (([(if uCheck (⟨1, (2 * (k : Int)) + 1, 0, [(68 : UInt8)]⟩ : AUnit) = 0 then fMade (⟨1, (2 * (k : Int)) + 1, 0, [(68 : UInt8)]⟩ : AUnit) else [])]).length) 1, .bool false].toArray), (1, .agg [.int .i64 x79.label, .int .i64 x79.cap, .slice A79_17_2 x79.blocks.length c79_17_2, .bool x79.lost].toArray)]) (cs := [.int .i64 ((2 * (k : Int)) + 1), .int .i64 5, .slice (some ⟨g49, 0, none⟩) (([(if uCheck (⟨1, (2 * (k : Int)) + 1, 0, [(68 : UInt8)]⟩ : AUnit) = 0 then fMade (⟨1, (2 * (k : Int)) + 1, 0, [(68 : UInt8)]⟩ : AUnit) else [])]).length) 1, .bool false, .int .i64 x79.label, .int .i64 x79.cap, .slice A79_17_2 x79.blocks.length c79_17_2, .bool x79.lost]) (el := 32) (sz := 4) rfl rfl (fun w => by simp [Instr.buildSlice, Try.runUnderlying29, Try.sizeOf32, Try.zeroValue32, Instr.fill, Value.cells, newRow, (show Array.range 8 = #[0, 1, 2, 3, 4, 5, 6, 7] from rfl)]) rfl (by simp [maxLen]) rfl rfl (by decide) (fun g81 => ?_)
          refine Run.nil ?_
          refine RunQ.stepEnd (fun _ => ⟨(Imm.le.refl _), (perm_nil _)⟩) ?_
          refine RunT.step (listed' := #[true, true, true, true, true, true, true, false]) 6 rfl (by kernel_rfl) rfl ?_
          have hlit18 : tTape.all J15 [.int .i64 ((2 * (k : Int)) + 1), .int .i64 5, .slice (some ⟨g49, 0, none⟩) (([(if uCheck (⟨1, (2 * (k : Int)) + 1, 0, [(68 : UInt8)]⟩ : AUnit) = 0 then fMade (⟨1, (2 * (k : Int)) + 1, 0, [(68 : UInt8)]⟩ : AUnit) else [])]).length) 1, .bool false, .int .i64 x79.label, .int .i64 x79.cap, .slice A79_17_2 x79.blocks.length c79_17_2, .bool x79.lost] [(⟨(2 * (k : Int)) + 1, 5, [(if uCheck (⟨1, (2 * (k : Int)) + 1, 0, [(68 : UInt8)]⟩ : AUnit) = 0 then fMade (⟨1, (2 * (k : Int)) + 1, 0, [(68 : UInt8)]⟩ : AUnit) else [])], false⟩ : ATape), x79] := (all_snoc (T := tTape) (all_snoc (T := tTape) all_nil ⟨_, _, rfl, (by first | omega | (dsimp only; omega)), (by first | omega | (dsimp only; omega)), (hslJ8.mono (((hleJ9.trans hleJ12).trans hleJ14).trans hleJ15))⟩) ⟨_, _, rfl, f79_17_0, f79_17_1, f79_17_2⟩)
          have hall19 : tTape.all J15 (cll ++ ([.int .i64 ((2 * (k : Int)) + 1), .int .i64 5, .slice (some ⟨g49, 0, none⟩) (([(if uCheck (⟨1, (2 * (k : Int)) + 1, 0, [(68 : UInt8)]⟩ : AUnit) = 0 then fMade (⟨1, (2 * (k : Int)) + 1, 0, [(68 : UInt8)]⟩ : AUnit) else [])]).length) 1, .bool false, .int .i64 x79.label, .int .i64 x79.cap, .slice A79_17_2 x79.blocks.length c79_17_2, .bool x79.lost])) (l ++ ([(⟨(2 * (k : Int)) + 1, 5, [(if uCheck (⟨1, (2 * (k : Int)) + 1, 0, [(68 : UInt8)]⟩ : AUnit) = 0 then fMade (⟨1, (2 * (k : Int)) + 1, 0, [(68 : UInt8)]⟩ : AUnit) else [])], false⟩ : ATape), x79])) := all_append (hl.mono (((((((hleJ3.trans hleJ4).trans hleJ5).trans hleJ8).trans hleJ9).trans hleJ12).trans hleJ14).trans hleJ15)) hlit18
          refine Run.append (by_ := 48) (ys := [.int .i64 ((2 * (k : Int)) + 1), .int .i64 5, .slice (some ⟨g49, 0, none⟩) (([(if uCheck (⟨1, (2 * (k : Int)) + 1, 0, [(68 : UInt8)]⟩ : AUnit) = 0 then fMade (⟨1, (2 * (k : Int)) + 1, 0, [(68 : UInt8)]⟩ : AUnit) else [])]).length) 1, .bool false, .int .i64 x79.label, .int .i64 x79.cap, .slice A79_17_2 x79.blocks.length c79_17_2, .bool x79.lost]) (k := 2) (own' := [row (.slice (some ⟨g81, 0, none⟩) 2 2) 32 4 ([.int .i64 ((2 * (k : Int)) + 1), .int .i64 5, .slice (some ⟨g49, 0, none⟩) (([(if uCheck (⟨1, (2 * (k : Int)) + 1, 0, [(68 : UInt8)]⟩ : AUnit) = 0 then fMade (⟨1, (2 * (k : Int)) + 1, 0, [(68 : UInt8)]⟩ : AUnit) else [])]).length) 1, .bool false, .int .i64 x79.label, .int .i64 x79.cap, .slice A79_17_2 x79.blocks.length c79_17_2, .bool x79.lost])]) 1 rfl rfl rfl Try.runUnderlying29 (.inl Try.runUnderlying29) Try.sizeOf32 Try.typeInfo32 rfl Try.zeroValue32 rfl rfl rfl (fun w hS => src_own hS (i := 0) rfl) (row_len hlit18 (by first | rfl | (simp; done) | (simp; omega)) rfl) (all_one hlit18) ((l ++ ([(⟨(2 * (k : Int)) + 1, 5, [(if uCheck (⟨1, (2 * (k : Int)) + 1, 0, [(68 : UInt8)]⟩ : AUnit) = 0 then fMade (⟨1, (2 * (k : Int)) + 1, 0, [(68 : UInt8)]⟩ : AUnit) else [])], false⟩ : ATape), x79])).length) (by first | (simp; done) | (simp; omega)) (by simp; omega) (by simp [maxLen]; omega) rfl rfl (by decide) (fun A82_19 c82_19 => ?_)
          refine Run.weak Sub.refl (perm_take (i := 0) rfl (perm_nil _)) ?_
          refine Run.nil ?_
          refine RunQ.stepEnd (fun _ => ⟨(Imm.le.refl _), (perm_nil _)⟩) ?_
          refine RunT.step (listed' := #[true, true, true, true, true, true, true, true]) 7 rfl (by kernel_rfl) rfl ?_
          refine Run.y (v := .slice A82_19 ((l ++ ([(⟨(2 * (k : Int)) + 1, 5, [(if uCheck (⟨1, (2 * (k : Int)) + 1, 0, [(68 : UInt8)]⟩ : AUnit) = 0 then fMade (⟨1, (2 * (k : Int)) + 1, 0, [(68 : UInt8)]⟩ : AUnit) else [])], false⟩ : ATape), x79])).length) c82_19) (y_assign rfl rfl) rfl rfl (by decide) ?_
          refine Run.nil ?_
          refine RunQ.stepEnd (fun h => absurd (show false = true from h) Bool.false_ne_true) ?_
          refine RunT.done (by kernel_rfl) ?_
          refine RunQ.inB ?_
          refine RunQ.next ?_
          refine RunC.region ?_
          refine Run.y (v := .int .i64 (k : Int)) (y_move rfl rfl) rfl rfl (by decide) ?_
          refine Run.y (v := .int .i64 ((k : Int) + 1)) (y_bin rfl rfl rfl (bn_add (by omega) (by omega))) rfl rfl (by decide) ?_
          refine Run.y (v := .int .i64 ((k : Int) + 1)) (y_assign rfl rfl) rfl rfl (by decide) ?_
          refine Run.nil ?_
          exact RunQ.thenI (fun aa ww hF hS => ⟨_, (by omega), (hInv0 _ _ _).2 ⟨(k + 1), (l ++ ([(⟨(2 * (k : Int)) + 1, 5, [(if uCheck (⟨1, (2 * (k : Int)) + 1, 0, [(68 : UInt8)]⟩ : AUnit) = 0 then fMade (⟨1, (2 * (k : Int)) + 1, 0, [(68 : UInt8)]⟩ : AUnit) else [])], false⟩ : ATape), x79])), A82_19, c82_19, cll ++ ([.int .i64 ((2 * (k : Int)) + 1), .int .i64 5, .slice (some ⟨g49, 0, none⟩) (([(if uCheck (⟨1, (2 * (k : Int)) + 1, 0, [(68 : UInt8)]⟩ : AUnit) = 0 then fMade (⟨1, (2 * (k : Int)) + 1, 0, [(68 : UInt8)]⟩ : AUnit) else [])]).length) 1, .bool false, .int .i64 x79.label, .int .i64 x79.cap, .slice A79_17_2 x79.blocks.length c79_17_2, .bool x79.lost]), J15, ((((((((hJ_le.trans hleJ3).trans hleJ4).trans hleJ5).trans hleJ8).trans hleJ9).trans hleJ12).trans hleJ14).trans hleJ15), hall19, (by omega), (by rw [hx79e]; exact GnL.snoc hgn r hr), rfl, hF.sub (.cons rfl (.cons rfl (.cons rfl .nil))), hS.sub (perm_self _)⟩⟩)
      ·
        refine Run.lit (vs := [(0, .agg [.int .i64 ((2 * (k : Int)) + 2), .int .i64 5, .slice none 0 0, .bool false].toArray)]) (cs := [.int .i64 ((2 * (k : Int)) + 2), .int .i64 5, .slice none 0 0, .bool false]) (el := 32) (sz := 4) rfl rfl (fun w => by simp [Instr.buildSlice, Try.runUnderlying29, Try.sizeOf32, Try.zeroValue32, Instr.fill, Value.cells, newRow, (show Array.range 4 = #[0, 1, 2, 3] from rfl)]) rfl (by simp [maxLen]) rfl rfl (by decide) (fun g58 => ?_)
        refine Run.nil ?_
        refine RunQ.stepEnd (fun _ => ⟨(Imm.le.refl _), (perm_nil _)⟩) ?_
        refine RunT.step (listed' := #[true, true, true, true, true, true, true, true, true, true, true, true, true, false, false, false, false, false, false]) 1 rfl (by kernel_rfl) rfl ?_
        refine Run.lit (vs := [(0, .agg [.int .i64 ((2 * (k : Int)) + 1), .int .i64 5, .slice (some ⟨g49, 0, none⟩) (([(if uCheck (⟨1, (2 * (k : Int)) + 1, 0, [(68 : UInt8)]⟩ : AUnit) = 0 then fMade (⟨1, (2 * (k : Int)) + 1, 0, [(68 : UInt8)]⟩ : AUnit) else [])]).length) 1, .bool false].toArray)]) (cs := [.int .i64 ((2 * (k : Int)) + 1), .int .i64 5, .slice (some ⟨g49, 0, none⟩) (([(if uCheck (⟨1, (2 * (k : Int)) + 1, 0, [(68 : UInt8)]⟩ : AUnit) = 0 then fMade (⟨1, (2 * (k : Int)) + 1, 0, [(68 : UInt8)]⟩ : AUnit) else [])]).length) 1, .bool false]) (el := 32) (sz := 4) rfl rfl (fun w => by simp [Instr.buildSlice, Try.runUnderlying29, Try.sizeOf32, Try.zeroValue32, Instr.fill, Value.cells, newRow, (show Array.range 4 = #[0, 1, 2, 3] from rfl)]) rfl (by simp [maxLen]) rfl rfl (by decide) (fun g53 => ?_)
        refine Run.nil ?_
        refine RunQ.stepEnd (fun _ => ⟨(Imm.le.refl _), (perm_nil _)⟩) ?_
        refine RunT.step (listed' := #[true, true, true, true, true, true, true, true, true, true, true, true, true, true, false, false, false, false, false]) 13 rfl (by kernel_rfl) rfl ?_
        have hlit20 : tTape.all J9 [.int .i64 ((2 * (k : Int)) + 1), .int .i64 5, .slice (some ⟨g49, 0, none⟩) (([(if uCheck (⟨1, (2 * (k : Int)) + 1, 0, [(68 : UInt8)]⟩ : AUnit) = 0 then fMade (⟨1, (2 * (k : Int)) + 1, 0, [(68 : UInt8)]⟩ : AUnit) else [])]).length) 1, .bool false] [(⟨(2 * (k : Int)) + 1, 5, [(if uCheck (⟨1, (2 * (k : Int)) + 1, 0, [(68 : UInt8)]⟩ : AUnit) = 0 then fMade (⟨1, (2 * (k : Int)) + 1, 0, [(68 : UInt8)]⟩ : AUnit) else [])], false⟩ : ATape)] := (all_snoc (T := tTape) all_nil ⟨_, _, rfl, (by first | omega | (dsimp only; omega)), (by first | omega | (dsimp only; omega)), (hslJ8.mono hleJ9)⟩)
        refine Run.freezeR 0 rfl (own' := [row (.slice (some ⟨g58, 0, none⟩) 1 1) 32 4 ([.int .i64 ((2 * (k : Int)) + 2), .int .i64 5, .slice none 0 0, .bool false]), row (.slice Al l.length cl) 32 4 cll]) rfl (fun J21 hleJ21 hfzJ21 => ?_)
        have hslJ21 : Sl tTape J21 (some ⟨g53, 0, none⟩) 1 ([(⟨(2 * (k : Int)) + 1, 5, [(if uCheck (⟨1, (2 * (k : Int)) + 1, 0, [(68 : UInt8)]⟩ : AUnit) = 0 then fMade (⟨1, (2 * (k : Int)) + 1, 0, [(68 : UInt8)]⟩ : AUnit) else [])], false⟩ : ATape)]) := Sl.of_rowN hfzJ21 (by simp) rfl (hlit20.mono hleJ21)
        refine Run.cast (s := 53) (v' := .slice (some ⟨g53, 0, none⟩) ([(⟨(2 * (k : Int)) + 1, 5, [(if uCheck (⟨1, (2 * (k : Int)) + 1, 0, [(68 : UInt8)]⟩ : AUnit) = 0 then fMade (⟨1, (2 * (k : Int)) + 1, 0, [(68 : UInt8)]⟩ : AUnit) else [])], false⟩ : ATape)]).length 1) rfl (congrArg (fun n => Value.slice (some ⟨g53, 0, none⟩) n 1) (show 1 = _ from (show ([(⟨(2 * (k : Int)) + 1, 5, [(if uCheck (⟨1, (2 * (k : Int)) + 1, 0, [(68 : UInt8)]⟩ : AUnit) = 0 then fMade (⟨1, (2 * (k : Int)) + 1, 0, [(68 : UInt8)]⟩ : AUnit) else [])], false⟩ : ATape)]).length = 1 from (by simp)).symm)) ?_
        have hlit22 : tTape.all J21 [.int .i64 ((2 * (k : Int)) + 2), .int .i64 5, .slice none 0 0, .bool false] [(⟨(2 * (k : Int)) + 2, 5, ([] : List (List UInt8)), false⟩ : ATape)] := (all_snoc (T := tTape) all_nil ⟨_, _, rfl, (by first | omega | (dsimp only; omega)), (by first | omega | (dsimp only; omega)), sl_nil0⟩)
        refine Run.freezeR 0 rfl (own' := [row (.slice Al l.length cl) 32 4 cll]) rfl (fun J23 hleJ23 hfzJ23 => ?_)
        have hslJ23 : Sl tTape J23 (some ⟨g58, 0, none⟩) 1 ([(⟨(2 * (k : Int)) + 2, 5, ([] : List (List UInt8)), false⟩ : ATape)]) := Sl.of_rowN hfzJ23 (by simp) rfl (hlit22.mono hleJ23)
        refine Run.cast (s := 58) (v' := .slice (some ⟨g58, 0, none⟩) ([(⟨(2 * (k : Int)) + 2, 5, ([] : List (List UInt8)), false⟩ : ATape)]).length 1) rfl (congrArg (fun n => Value.slice (some ⟨g58, 0, none⟩) n 1) (show 1 = _ from (show ([(⟨(2 * (k : Int)) + 2, 5, ([] : List (List UInt8)), false⟩ : ATape)]).length = 1 from (by simp)).symm)) ?_
        refine Run.call0 (en_func rfl Try.call7 rfl) (c_group_Make _ ([(⟨(2 * (k : Int)) + 1, 5, [(if uCheck (⟨1, (2 * (k : Int)) + 1, 0, [(68 : UInt8)]⟩ : AUnit) = 0 then fMade (⟨1, (2 * (k : Int)) + 1, 0, [(68 : UInt8)]⟩ : AUnit) else [])], false⟩ : ATape)]) (hslJ21.mono hleJ23) ([(⟨(2 * (k : Int)) + 2, 5, ([] : List (List UInt8)), false⟩ : ATape)]) hslJ23 (1 + (x61 % 2 ^ 3)) (by omega) (by simp) (by simp) (gnD_blocks k) (gnD_tlen k)) rfl rfl (by decide) (fun J24 o24 v24 hleJ24 hq24 => ?_)
        obtain ⟨rfl, cs24a, cs24b, rfl, h24a, h24b⟩ := hq24
        replace h24a : (tSl tTape).rd J24 cs24a ((gMake ([(⟨(2 * (k : Int)) + 1, 5, [(if uCheck (⟨1, (2 * (k : Int)) + 1, 0, [(68 : UInt8)]⟩ : AUnit) = 0 then fMade (⟨1, (2 * (k : Int)) + 1, 0, [(68 : UInt8)]⟩ : AUnit) else [])], false⟩ : ATape)]) ([(⟨(2 * (k : Int)) + 2, 5, ([] : List (List UInt8)), false⟩ : ATape)]) (1 + (x61 % 2 ^ 3))).1) := h24a
        obtain ⟨A24a_0, c24a_0, rfl, f24a_0⟩ := h24a
        have hsm24a_0 := f24a_0.small
        replace h24b : tInt.rd J24 cs24b ((gMake ([(⟨(2 * (k : Int)) + 1, 5, [(if uCheck (⟨1, (2 * (k : Int)) + 1, 0, [(68 : UInt8)]⟩ : AUnit) = 0 then fMade (⟨1, (2 * (k : Int)) + 1, 0, [(68 : UInt8)]⟩ : AUnit) else [])], false⟩ : ATape)]) ([(⟨(2 * (k : Int)) + 2, 5, ([] : List (List UInt8)), false⟩ : ATape)]) (1 + (x61 % 2 ^ 3))).2) := h24b
        obtain ⟨rfl, f24b_0⟩ := h24b
        obtain ⟨r, hr, hgm⟩ := gn_make ns (i := k) (by omega)
        have hgm2 : (gMake ([(⟨(2 * (k : Int)) + 1, 5, [(if uCheck (⟨1, (2 * (k : Int)) + 1, 0, [(68 : UInt8)]⟩ : AUnit) = 0 then fMade (⟨1, (2 * (k : Int)) + 1, 0, [(68 : UInt8)]⟩ : AUnit) else [])], false⟩ : ATape)]) ([(⟨(2 * (k : Int)) + 2, 5, ([] : List (List UInt8)), false⟩ : ATape)]) (1 + (x61 % 2 ^ 3))) = ([gOut (gnB k) (gnS ns k) r], 0) := by rw [show (1 + x61 % 2 ^ 3 : Int) = gnNum ns k from by rw [gnNum, List.getD_eq_getElem?_getD, hx61]; rfl]; exact hgm
        refine Run.nil ?_
        refine RunQ.stepEnd (fun _ => ⟨((hleJ21.trans hleJ23).trans hleJ24), (perm_nil _)⟩) ?_
        refine RunT.p (v := .tuple #[.slice A24a_0 (((gMake ([(⟨(2 * (k : Int)) + 1, 5, [(if uCheck (⟨1, (2 * (k : Int)) + 1, 0, [(68 : UInt8)]⟩ : AUnit) = 0 then fMade (⟨1, (2 * (k : Int)) + 1, 0, [(68 : UInt8)]⟩ : AUnit) else [])], false⟩ : ATape)]) ([(⟨(2 * (k : Int)) + 2, 5, ([] : List (List UInt8)), false⟩ : ATape)]) (1 + (x61 % 2 ^ 3))).1).length) c24a_0, .int .i64 ((gMake ([(⟨(2 * (k : Int)) + 1, 5, [(if uCheck (⟨1, (2 * (k : Int)) + 1, 0, [(68 : UInt8)]⟩ : AUnit) = 0 then fMade (⟨1, (2 * (k : Int)) + 1, 0, [(68 : UInt8)]⟩ : AUnit) else [])], false⟩ : ATape)]) ([(⟨(2 * (k : Int)) + 2, 5, ([] : List (List UInt8)), false⟩ : ATape)]) (1 + (x61 % 2 ^ 3))).2)]) (listed' := #[true, true, true, true, true, true, true, true, true, true, true, true, true, true, true, false, false, false, false]) 14 rfl (by kernel_rfl) (by kernel_rfl) (by kernel_rfl) rfl (fun _ => ⟨((hleJ21.trans hleJ23).trans hleJ24), (perm_nil _)⟩) (y_move rfl rfl) (.plain rfl) rfl (by decide) rfl ?_
        refine RunT.p (v := .slice A24a_0 (((gMake ([(⟨(2 * (k : Int)) + 1, 5, [(if uCheck (⟨1, (2 * (k : Int)) + 1, 0, [(68 : UInt8)]⟩ : AUnit) = 0 then fMade (⟨1, (2 * (k : Int)) + 1, 0, [(68 : UInt8)]⟩ : AUnit) else [])], false⟩ : ATape)]) ([(⟨(2 * (k : Int)) + 2, 5, ([] : List (List UInt8)), false⟩ : ATape)]) (1 + (x61 % 2 ^ 3))).1).length) c24a_0) (listed' := #[true, true, true, true, true, true, true, true, true, true, true, true, true, true, true, true, false, false, false]) 15 rfl (by kernel_rfl) (by kernel_rfl) (by kernel_rfl) rfl (fun _ => ⟨((hleJ21.trans hleJ23).trans hleJ24), (perm_nil _)⟩) (y_extract rfl rfl rfl) (.plain rfl) rfl (by decide) rfl ?_
        refine RunT.p (v := .int .i64 ((gMake ([(⟨(2 * (k : Int)) + 1, 5, [(if uCheck (⟨1, (2 * (k : Int)) + 1, 0, [(68 : UInt8)]⟩ : AUnit) = 0 then fMade (⟨1, (2 * (k : Int)) + 1, 0, [(68 : UInt8)]⟩ : AUnit) else [])], false⟩ : ATape)]) ([(⟨(2 * (k : Int)) + 2, 5, ([] : List (List UInt8)), false⟩ : ATape)]) (1 + (x61 % 2 ^ 3))).2)) (listed' := #[true, true, true, true, true, true, true, true, true, true, true, true, true, true, true, true, true, false, false]) 16 rfl (by kernel_rfl) (by kernel_rfl) (by kernel_rfl) rfl (fun _ => ⟨((hleJ21.trans hleJ23).trans hleJ24), (perm_nil _)⟩) (y_extract rfl rfl rfl) (.plain rfl) rfl (by decide) rfl ?_
        refine RunT.step (listed' := #[true, true, true, true, true, true, true, true, true, true, true, true, true, true, true, true, true, true, false]) 17 rfl (by kernel_rfl) rfl ?_
        refine Run.y (v := .slice A24a_0 (((gMake ([(⟨(2 * (k : Int)) + 1, 5, [(if uCheck (⟨1, (2 * (k : Int)) + 1, 0, [(68 : UInt8)]⟩ : AUnit) = 0 then fMade (⟨1, (2 * (k : Int)) + 1, 0, [(68 : UInt8)]⟩ : AUnit) else [])], false⟩ : ATape)]) ([(⟨(2 * (k : Int)) + 2, 5, ([] : List (List UInt8)), false⟩ : ATape)]) (1 + (x61 % 2 ^ 3))).1).length) c24a_0) (y_assign rfl rfl) rfl rfl (by decide) ?_
        refine Run.nil ?_
        refine RunQ.stepEnd (fun h => absurd (show false = true from h) Bool.false_ne_true) ?_
        refine RunT.step (listed' := #[true, true, true, true, true, true, true, true, true, true, true, true, true, true, true, true, true, true, true]) 18 rfl (by kernel_rfl) rfl ?_
        refine Run.y (v := .int .i64 ((gMake ([(⟨(2 * (k : Int)) + 1, 5, [(if uCheck (⟨1, (2 * (k : Int)) + 1, 0, [(68 : UInt8)]⟩ : AUnit) = 0 then fMade (⟨1, (2 * (k : Int)) + 1, 0, [(68 : UInt8)]⟩ : AUnit) else [])], false⟩ : ATape)]) ([(⟨(2 * (k : Int)) + 2, 5, ([] : List (List UInt8)), false⟩ : ATape)]) (1 + (x61 % 2 ^ 3))).2)) (y_assign rfl rfl) rfl rfl (by decide) ?_
        refine Run.nil ?_
        refine RunQ.stepEnd (fun h => absurd (show false = true from h) Bool.false_ne_true) ?_
        refine RunT.done (by kernel_rfl) ?_
        refine RunQ.next ?_
        refine RunC.weak (L' := [(0, .slice Ans ns.length cns), (5, .int .i64 (k : Int)), (4, .slice Al l.length cl), (29, .int .i64 (k : Int)), (30, .slice Ans ns.length cns), (31, .int .i64 (ns.length : Int)), (32, .bool (decide ((k : Int) < (ns.length : Int)))), (36, .int .i64 (k : Int)), (37, .int .i64 (2 * (k : Int))), (38, .int .i64 ((2 * (k : Int)) + 1)), (39, .slice (some ⟨g39, 0, none⟩) 1 1), (40, .slice (some ⟨g39, 0, none⟩) 1 1), (41, .agg [.int .i64 1, .int .i64 ((2 * (k : Int)) + 1), .int .i64 0, .slice (some ⟨g39, 0, none⟩) 1 1].toArray), (42, .tuple #[.slice Ar4_0 ((if uCheck (⟨1, (2 * (k : Int)) + 1, 0, [(68 : UInt8)]⟩ : AUnit) = 0 then fMade (⟨1, (2 * (k : Int)) + 1, 0, [(68 : UInt8)]⟩ : AUnit) else []).length) cr4_0, .int .i64 (uCheck (⟨1, (2 * (k : Int)) + 1, 0, [(68 : UInt8)]⟩ : AUnit))]), (35, .tuple #[.slice Ar4_0 ((if uCheck (⟨1, (2 * (k : Int)) + 1, 0, [(68 : UInt8)]⟩ : AUnit) = 0 then fMade (⟨1, (2 * (k : Int)) + 1, 0, [(68 : UInt8)]⟩ : AUnit) else []).length) cr4_0, .int .i64 (uCheck (⟨1, (2 * (k : Int)) + 1, 0, [(68 : UInt8)]⟩ : AUnit))]), (43, .slice Ar4_0 ((if uCheck (⟨1, (2 * (k : Int)) + 1, 0, [(68 : UInt8)]⟩ : AUnit) = 0 then fMade (⟨1, (2 * (k : Int)) + 1, 0, [(68 : UInt8)]⟩ : AUnit) else []).length) cr4_0), (44, .int .i64 (uCheck (⟨1, (2 * (k : Int)) + 1, 0, [(68 : UInt8)]⟩ : AUnit))), (6, .slice Ar4_0 ((if uCheck (⟨1, (2 * (k : Int)) + 1, 0, [(68 : UInt8)]⟩ : AUnit) = 0 then fMade (⟨1, (2 * (k : Int)) + 1, 0, [(68 : UInt8)]⟩ : AUnit) else []).length) cr4_0), (45, .int .i64 (k : Int)), (46, .int .i64 (2 * (k : Int))), (47, .int .i64 ((2 * (k : Int)) + 1)), (48, .slice Ar4_0 ((if uCheck (⟨1, (2 * (k : Int)) + 1, 0, [(68 : UInt8)]⟩ : AUnit) = 0 then fMade (⟨1, (2 * (k : Int)) + 1, 0, [(68 : UInt8)]⟩ : AUnit) else []).length) cr4_0), (49, .slice (some ⟨g49, 0, none⟩) (([(if uCheck (⟨1, (2 * (k : Int)) + 1, 0, [(68 : UInt8)]⟩ : AUnit) = 0 then fMade (⟨1, (2 * (k : Int)) + 1, 0, [(68 : UInt8)]⟩ : AUnit) else [])]).length) 1), (50, .agg [.int .i64 ((2 * (k : Int)) + 1), .int .i64 5, .slice (some ⟨g49, 0, none⟩) (([(if uCheck (⟨1, (2 * (k : Int)) + 1, 0, [(68 : UInt8)]⟩ : AUnit) = 0 then fMade (⟨1, (2 * (k : Int)) + 1, 0, [(68 : UInt8)]⟩ : AUnit) else [])]).length) 1, .bool false].toArray), (8, .pointer (some ⟨g8_6, 0, none⟩)), (52, .agg [.int .i64 ((2 * (k : Int)) + 1), .int .i64 5, .slice (some ⟨g49, 0, none⟩) (([(if uCheck (⟨1, (2 * (k : Int)) + 1, 0, [(68 : UInt8)]⟩ : AUnit) = 0 then fMade (⟨1, (2 * (k : Int)) + 1, 0, [(68 : UInt8)]⟩ : AUnit) else [])]).length) 1, .bool false].toArray), (54, .int .i64 (k : Int)), (55, .int .i64 (2 * (k : Int))), (56, .int .i64 ((2 * (k : Int)) + 2)), (57, .agg [.int .i64 ((2 * (k : Int)) + 2), .int .i64 5, .slice none 0 0, .bool false].toArray), (59, .slice Ans ns.length cns), (60, .int .i64 (k : Int)), (61, .pointer (some p61_10)), (62, .int .i64 x61), (63, .int .i64 (x61 % 2 ^ 3)), (64, .int .i64 (1 + (x61 % 2 ^ 3))), (58, .slice (some ⟨g58, 0, none⟩) (([(⟨(2 * (k : Int)) + 2, 5, ([] : List (List UInt8)), false⟩ : ATape)]).length) 1), (53, .slice (some ⟨g53, 0, none⟩) (([(⟨(2 * (k : Int)) + 1, 5, [(if uCheck (⟨1, (2 * (k : Int)) + 1, 0, [(68 : UInt8)]⟩ : AUnit) = 0 then fMade (⟨1, (2 * (k : Int)) + 1, 0, [(68 : UInt8)]⟩ : AUnit) else [])], false⟩ : ATape)]).length) 1), (65, .tuple #[.slice A24a_0 (((gMake ([(⟨(2 * (k : Int)) + 1, 5, [(if uCheck (⟨1, (2 * (k : Int)) + 1, 0, [(68 : UInt8)]⟩ : AUnit) = 0 then fMade (⟨1, (2 * (k : Int)) + 1, 0, [(68 : UInt8)]⟩ : AUnit) else [])], false⟩ : ATape)]) ([(⟨(2 * (k : Int)) + 2, 5, ([] : List (List UInt8)), false⟩ : ATape)]) (1 + (x61 % 2 ^ 3))).1).length) c24a_0, .int .i64 ((gMake ([(⟨(2 * (k : Int)) + 1, 5, [(if uCheck (⟨1, (2 * (k : Int)) + 1, 0, [(68 : UInt8)]⟩ : AUnit) = 0 then fMade (⟨1, (2 * (k : Int)) + 1, 0, [(68 : UInt8)]⟩ : AUnit) else [])], false⟩ : ATape)]) ([(⟨(2 * (k : Int)) + 2, 5, ([] : List (List UInt8)), false⟩ : ATape)]) (1 + (x61 % 2 ^ 3))).2)]), (51, .tuple #[.slice A24a_0 (((gMake ([(⟨(2 * (k : Int)) + 1, 5, [(if uCheck (⟨1, (2 * (k : Int)) + 1, 0, [(68 : UInt8)]⟩ : AUnit) = 0 then fMade (⟨1, (2 * (k : Int)) + 1, 0, [(68 : UInt8)]⟩ : AUnit) else [])], false⟩ : ATape)]) ([(⟨(2 * (k : Int)) + 2, 5, ([] : List (List UInt8)), false⟩ : ATape)]) (1 + (x61 % 2 ^ 3))).1).length) c24a_0, .int .i64 ((gMake ([(⟨(2 * (k : Int)) + 1, 5, [(if uCheck (⟨1, (2 * (k : Int)) + 1, 0, [(68 : UInt8)]⟩ : AUnit) = 0 then fMade (⟨1, (2 * (k : Int)) + 1, 0, [(68 : UInt8)]⟩ : AUnit) else [])], false⟩ : ATape)]) ([(⟨(2 * (k : Int)) + 2, 5, ([] : List (List UInt8)), false⟩ : ATape)]) (1 + (x61 % 2 ^ 3))).2)]), (66, .slice A24a_0 (((gMake ([(⟨(2 * (k : Int)) + 1, 5, [(if uCheck (⟨1, (2 * (k : Int)) + 1, 0, [(68 : UInt8)]⟩ : AUnit) = 0 then fMade (⟨1, (2 * (k : Int)) + 1, 0, [(68 : UInt8)]⟩ : AUnit) else [])], false⟩ : ATape)]) ([(⟨(2 * (k : Int)) + 2, 5, ([] : List (List UInt8)), false⟩ : ATape)]) (1 + (x61 % 2 ^ 3))).1).length) c24a_0), (67, .int .i64 ((gMake ([(⟨(2 * (k : Int)) + 1, 5, [(if uCheck (⟨1, (2 * (k : Int)) + 1, 0, [(68 : UInt8)]⟩ : AUnit) = 0 then fMade (⟨1, (2 * (k : Int)) + 1, 0, [(68 : UInt8)]⟩ : AUnit) else [])], false⟩ : ATape)]) ([(⟨(2 * (k : Int)) + 2, 5, ([] : List (List UInt8)), false⟩ : ATape)]) (1 + (x61 % 2 ^ 3))).2)), (9, .slice A24a_0 (((gMake ([(⟨(2 * (k : Int)) + 1, 5, [(if uCheck (⟨1, (2 * (k : Int)) + 1, 0, [(68 : UInt8)]⟩ : AUnit) = 0 then fMade (⟨1, (2 * (k : Int)) + 1, 0, [(68 : UInt8)]⟩ : AUnit) else [])], false⟩ : ATape)]) ([(⟨(2 * (k : Int)) + 2, 5, ([] : List (List UInt8)), false⟩ : ATape)]) (1 + (x61 % 2 ^ 3))).1).length) c24a_0), (10, .int .i64 ((gMake ([(⟨(2 * (k : Int)) + 1, 5, [(if uCheck (⟨1, (2 * (k : Int)) + 1, 0, [(68 : UInt8)]⟩ : AUnit) = 0 then fMade (⟨1, (2 * (k : Int)) + 1, 0, [(68 : UInt8)]⟩ : AUnit) else [])], false⟩ : ATape)]) ([(⟨(2 * (k : Int)) + 2, 5, ([] : List (List UInt8)), false⟩ : ATape)]) (1 + (x61 % 2 ^ 3))).2))]) (.cons rfl (.cons rfl (.cons rfl (.cons rfl (.cons rfl (.cons rfl (.cons rfl (.cons rfl (.cons rfl (.cons rfl (.cons rfl (.cons rfl (.cons rfl (.cons rfl (.cons rfl (.cons rfl (.cons rfl (.cons rfl (.cons rfl (.cons rfl (.cons rfl (.cons rfl (.cons rfl (.cons rfl (.cons rfl (.cons rfl (.cons rfl (.cons rfl (.cons rfl (.cons rfl (.cons rfl (.cons rfl (.cons rfl (.cons rfl (.cons rfl (.cons rfl (.cons rfl (.cons rfl (.cons rfl (.cons rfl (.cons rfl (.cons rfl (.cons rfl (.cons rfl .nil)))))))))))))))))))))))))))))))))))))))))))) (perm_self _) ?_
        refine RunC.seq ?_
        refine RunC.seq ?_
        refine RunC.region ?_
        refine Run.y (v := .int .i64 ((gMake ([(⟨(2 * (k : Int)) + 1, 5, [(if uCheck (⟨1, (2 * (k : Int)) + 1, 0, [(68 : UInt8)]⟩ : AUnit) = 0 then fMade (⟨1, (2 * (k : Int)) + 1, 0, [(68 : UInt8)]⟩ : AUnit) else [])], false⟩ : ATape)]) ([(⟨(2 * (k : Int)) + 2, 5, ([] : List (List UInt8)), false⟩ : ATape)]) (1 + (x61 % 2 ^ 3))).2)) (y_move rfl rfl) rfl rfl (by decide) ?_
        refine Run.callV (en_func rfl Try.call8 rfl) (conv_int (c_cartridgelaw14_num _ ((gMake ([(⟨(2 * (k : Int)) + 1, 5, [(if uCheck (⟨1, (2 * (k : Int)) + 1, 0, [(68 : UInt8)]⟩ : AUnit) = 0 then fMade (⟨1, (2 * (k : Int)) + 1, 0, [(68 : UInt8)]⟩ : AUnit) else [])], false⟩ : ATape)]) ([(⟨(2 * (k : Int)) + 2, 5, ([] : List (List UInt8)), false⟩ : ATape)]) (1 + (x61 % 2 ^ 3))).2) f24b_0)) rfl rfl (by decide) (fun hI25 => ?_)
        refine Run.y (v := .bool (decide (((gMake ([(⟨(2 * (k : Int)) + 1, 5, [(if uCheck (⟨1, (2 * (k : Int)) + 1, 0, [(68 : UInt8)]⟩ : AUnit) = 0 then fMade (⟨1, (2 * (k : Int)) + 1, 0, [(68 : UInt8)]⟩ : AUnit) else [])], false⟩ : ATape)]) ([(⟨(2 * (k : Int)) + 2, 5, ([] : List (List UInt8)), false⟩ : ATape)]) (1 + (x61 % 2 ^ 3))).2) ≠ 0))) (y_bin rfl rfl rfl bn_neq) rfl rfl (by decide) ?_
        refine Run.y (v := .bool (decide (((gMake ([(⟨(2 * (k : Int)) + 1, 5, [(if uCheck (⟨1, (2 * (k : Int)) + 1, 0, [(68 : UInt8)]⟩ : AUnit) = 0 then fMade (⟨1, (2 * (k : Int)) + 1, 0, [(68 : UInt8)]⟩ : AUnit) else [])], false⟩ : ATape)]) ([(⟨(2 * (k : Int)) + 2, 5, ([] : List (List UInt8)), false⟩ : ATape)]) (1 + (x61 % 2 ^ 3))).2) ≠ 0))) (y_move rfl rfl) rfl rfl (by decide) ?_
        refine Run.split 4 rfl (b := decide (((gMake ([(⟨(2 * (k : Int)) + 1, 5, [(if uCheck (⟨1, (2 * (k : Int)) + 1, 0, [(68 : UInt8)]⟩ : AUnit) = 0 then fMade (⟨1, (2 * (k : Int)) + 1, 0, [(68 : UInt8)]⟩ : AUnit) else [])], false⟩ : ATape)]) ([(⟨(2 * (k : Int)) + 2, 5, ([] : List (List UInt8)), false⟩ : ATape)]) (1 + (x61 % 2 ^ 3))).2) ≠ 0)) (d := 75) (v := .bool ((decide (((gMake ([(⟨(2 * (k : Int)) + 1, 5, [(if uCheck (⟨1, (2 * (k : Int)) + 1, 0, [(68 : UInt8)]⟩ : AUnit) = 0 then fMade (⟨1, (2 * (k : Int)) + 1, 0, [(68 : UInt8)]⟩ : AUnit) else [])], false⟩ : ATape)]) ([(⟨(2 * (k : Int)) + 2, 5, ([] : List (List UInt8)), false⟩ : ATape)]) (1 + (x61 % 2 ^ 3))).2) ≠ 0)) || (decide ((((gMake ([(⟨(2 * (k : Int)) + 1, 5, [(if uCheck (⟨1, (2 * (k : Int)) + 1, 0, [(68 : UInt8)]⟩ : AUnit) = 0 then fMade (⟨1, (2 * (k : Int)) + 1, 0, [(68 : UInt8)]⟩ : AUnit) else [])], false⟩ : ATape)]) ([(⟨(2 * (k : Int)) + 2, 5, ([] : List (List UInt8)), false⟩ : ATape)]) (1 + (x61 % 2 ^ 3))).1).length : Int) ≠ 1)))) (fun hb71 K71 => ?_) (fun hb71 K71 => ?_) ?_
        ·
          have hc1071 := hb71; try simp only [Bool.and_eq_true, Bool.or_eq_true, Bool.and_eq_false_iff, Bool.or_eq_false_iff, decide_eq_true_eq, decide_eq_false_iff_not, Bool.not_eq_true', Bool.not_eq_false', Bool.not_eq_true, Bool.not_eq_false, Int.not_lt, Int.not_le, ge_iff_le, gt_iff_lt, ne_eq, Decidable.not_not] at hc1071
          refine Run.no rfl rfl rfl rfl (hb71) rfl (by decide) ?_
          refine Run.no rfl rfl rfl rfl (hb71) rfl (by decide) ?_
          refine Run.no rfl rfl rfl rfl (hb71) rfl (by decide) ?_
          refine Run.y (y_pickB rfl rfl (hb71) rfl) rfl rfl (by decide) ?_
          exact K71 _ _ _ (Imm.le.refl _) (by rw [hb71]; simp) (Sub.push (Sub.push (Sub.push Sub.refl rfl) rfl) rfl)
        ·
          have hc1071 := hb71; try simp only [Bool.and_eq_true, Bool.or_eq_true, Bool.and_eq_false_iff, Bool.or_eq_false_iff, decide_eq_true_eq, decide_eq_false_iff_not, Bool.not_eq_true', Bool.not_eq_false', Bool.not_eq_true, Bool.not_eq_false, Int.not_lt, Int.not_le, ge_iff_le, gt_iff_lt, ne_eq, Decidable.not_not] at hc1071
          refine Run.yes (v := .slice A24a_0 (((gMake ([(⟨(2 * (k : Int)) + 1, 5, [(if uCheck (⟨1, (2 * (k : Int)) + 1, 0, [(68 : UInt8)]⟩ : AUnit) = 0 then fMade (⟨1, (2 * (k : Int)) + 1, 0, [(68 : UInt8)]⟩ : AUnit) else [])], false⟩ : ATape)]) ([(⟨(2 * (k : Int)) + 2, 5, ([] : List (List UInt8)), false⟩ : ATape)]) (1 + (x61 % 2 ^ 3))).1).length) c24a_0) (y_move rfl rfl) rfl rfl rfl rfl (hb71) rfl (by decide) ?_
          refine Run.yes (v := .int .i64 (((gMake ([(⟨(2 * (k : Int)) + 1, 5, [(if uCheck (⟨1, (2 * (k : Int)) + 1, 0, [(68 : UInt8)]⟩ : AUnit) = 0 then fMade (⟨1, (2 * (k : Int)) + 1, 0, [(68 : UInt8)]⟩ : AUnit) else [])], false⟩ : ATape)]) ([(⟨(2 * (k : Int)) + 2, 5, ([] : List (List UInt8)), false⟩ : ATape)]) (1 + (x61 % 2 ^ 3))).1).length : Int)) (y_len rfl Try.runUnderlying29 rfl) rfl rfl rfl rfl (hb71) rfl (by decide) ?_
          refine Run.yes (v := .bool (decide ((((gMake ([(⟨(2 * (k : Int)) + 1, 5, [(if uCheck (⟨1, (2 * (k : Int)) + 1, 0, [(68 : UInt8)]⟩ : AUnit) = 0 then fMade (⟨1, (2 * (k : Int)) + 1, 0, [(68 : UInt8)]⟩ : AUnit) else [])], false⟩ : ATape)]) ([(⟨(2 * (k : Int)) + 2, 5, ([] : List (List UInt8)), false⟩ : ATape)]) (1 + (x61 % 2 ^ 3))).1).length : Int) ≠ 1))) (y_bin rfl rfl rfl bn_neq) rfl rfl rfl rfl (hb71) rfl (by decide) ?_
          refine Run.y (y_pickB rfl rfl (hb71) rfl) rfl rfl (by decide) ?_
          exact K71 _ _ _ (Imm.le.refl _) (by rw [hb71]; simp) (Sub.push (Sub.push (Sub.push Sub.refl rfl) rfl) rfl)
        refine Run.nil ?_
        refine RunQ.next ?_
        refine RunC.cond rfl (fun hc2 => ?_) (fun hc2 => ?_)
        ·
          try simp only [Bool.and_eq_true, Bool.or_eq_true, Bool.and_eq_false_iff, Bool.or_eq_false_iff, decide_eq_true_eq, decide_eq_false_iff_not, Bool.not_eq_true', Bool.not_eq_false', Bool.not_eq_true, Bool.not_eq_false, Int.not_lt, Int.not_le, ge_iff_le, gt_iff_lt, ne_eq, Decidable.not_not] at hc2
          exfalso
          rw [hgm2] at hc2; simp at hc2
        ·
          skip
          try simp only [Bool.and_eq_true, Bool.or_eq_true, Bool.and_eq_false_iff, Bool.or_eq_false_iff, decide_eq_true_eq, decide_eq_false_iff_not, Bool.not_eq_true', Bool.not_eq_false', Bool.not_eq_true, Bool.not_eq_false, Int.not_lt, Int.not_le, ge_iff_le, gt_iff_lt, ne_eq, Decidable.not_not] at hc2
          refine RunC.skip ?_
          refine RunQ.next ?_
          refine RunC.regionT [7] [] (by kernel_rfl) rfl ?_
          refine RunT.p (v := .slice Al l.length cl) (listed' := #[true, false, false, false, false, false, false, false]) 0 rfl (by kernel_rfl) (by kernel_rfl) (by kernel_rfl) rfl (fun _ => ⟨(Imm.le.refl _), (perm_nil _)⟩) (y_move rfl rfl) (.plain rfl) rfl (by decide) rfl ?_
          refine RunT.y (v := .agg [.int .i64 ((2 * (k : Int)) + 1), .int .i64 5, .slice (some ⟨g49, 0, none⟩) (([(if uCheck (⟨1, (2 * (k : Int)) + 1, 0, [(68 : UInt8)]⟩ : AUnit) = 0 then fMade (⟨1, (2 * (k : Int)) + 1, 0, [(68 : UInt8)]⟩ : AUnit) else [])]).length) 1, .bool false].toArray) (listed' := #[true, true, false, false, false, false, false, false]) 1 rfl (by kernel_rfl) (by kernel_rfl) (by kernel_rfl) (by kernel_rfl) rfl (Imm.le.refl _) (perm_nil _) (y_loadA (cs := [.int .i64 ((2 * (k : Int)) + 1), .int .i64 5, .slice (some ⟨g49, 0, none⟩) (([(if uCheck (⟨1, (2 * (k : Int)) + 1, 0, [(68 : UInt8)]⟩ : AUnit) = 0 then fMade (⟨1, (2 * (k : Int)) + 1, 0, [(68 : UInt8)]⟩ : AUnit) else [])]).length) 1, .bool false]) rfl Try.isAgg32 Try.sizeOf32 rfl (show RCells _ _ [.int .i64 ((2 * (k : Int)) + 1), .int .i64 5, .slice (some ⟨g49, 0, none⟩) (([(if uCheck (⟨1, (2 * (k : Int)) + 1, 0, [(68 : UInt8)]⟩ : AUnit) = 0 then fMade (⟨1, (2 * (k : Int)) + 1, 0, [(68 : UInt8)]⟩ : AUnit) else [])]).length) 1, .bool false] from (hfzJ9.mono ((hleJ21.trans hleJ23).trans hleJ24))) rfl) (.plain rfl) rfl (by decide) rfl ?_
          refine RunT.p (v := .slice A24a_0 (((gMake ([(⟨(2 * (k : Int)) + 1, 5, [(if uCheck (⟨1, (2 * (k : Int)) + 1, 0, [(68 : UInt8)]⟩ : AUnit) = 0 then fMade (⟨1, (2 * (k : Int)) + 1, 0, [(68 : UInt8)]⟩ : AUnit) else [])], false⟩ : ATape)]) ([(⟨(2 * (k : Int)) + 2, 5, ([] : List (List UInt8)), false⟩ : ATape)]) (1 + (x61 % 2 ^ 3))).1).length) c24a_0) (listed' := #[true, true, true, false, false, false, false, false]) 2 rfl (by kernel_rfl) (by kernel_rfl) (by kernel_rfl) rfl (fun _ => ⟨(Imm.le.refl _), (perm_nil _)⟩) (y_move rfl rfl) (.plain rfl) rfl (by decide) rfl ?_
          obtain ⟨x79, p79_26, cs79_26, hx79, hp79_26, hcs79_26, hrc79_26⟩ := Sl.at_ (P := Try.prog) (T := tTape) Try.runUnderlying29 Try.sizeOf32 f24a_0 (k := .i64) (i := 0) (by omega) (by rw [hgm2]; simp)
          replace hx79 : ((gMake ([(⟨(2 * (k : Int)) + 1, 5, [(if uCheck (⟨1, (2 * (k : Int)) + 1, 0, [(68 : UInt8)]⟩ : AUnit) = 0 then fMade (⟨1, (2 * (k : Int)) + 1, 0, [(68 : UInt8)]⟩ : AUnit) else [])], false⟩ : ATape)]) ([(⟨(2 * (k : Int)) + 2, 5, ([] : List (List UInt8)), false⟩ : ATape)]) (1 + (x61 % 2 ^ 3))).1)[0]? = some x79 := hx79
          obtain ⟨A79_26_2, c79_26_2, rfl, f79_26_0, f79_26_1, f79_26_2⟩ := hcs79_26
          have hsm79_26_2 := f79_26_2.small
          have hx79e : x79 = gOut (gnB k) (gnS ns k) r := by rw [hgm2] at hx79; exact (Option.some.inj hx79).symm
          refine RunT.p (v := .pointer (some p79_26)) (listed' := #[true, true, true, true, false, false, false, false]) 3 rfl (by kernel_rfl) (by kernel_rfl) (by kernel_rfl) rfl (fun _ => ⟨(Imm.le.refl _), (perm_nil _)⟩) (y_index rfl rfl rfl hp79_26) (.plain rfl) rfl (by decide) rfl ?_
          refine RunT.y (v := .agg [.int .i64 x79.label, .int .i64 x79.cap, .slice A79_26_2 x79.blocks.length c79_26_2, .bool x79.lost].toArray) (listed' := #[true, true, true, true, true, false, false, false]) 4 rfl (by kernel_rfl) (by kernel_rfl) (by kernel_rfl) (by kernel_rfl) rfl (Imm.le.refl _) (perm_nil _) (y_loadA (cs := [.int .i64 x79.label, .int .i64 x79.cap, .slice A79_26_2 x79.blocks.length c79_26_2, .bool x79.lost]) rfl Try.isAgg32 Try.sizeOf32 rfl hrc79_26 rfl) (.plain rfl) rfl (by decide) rfl ?_
          refine RunT.step (listed' := #[true, true, true, true, true, true, false, false]) 5 rfl (by kernel_rfl) rfl ?_
          refine Run.lit (vs := [(0, .agg [.int .i64 ((2 * (k : Int)) + 1), .int .i64 5, .slice (some ⟨g49, 0, none⟩) (([(if uCheck (⟨1, (2 * (k : Int)) + 1, 0, [(68 : UInt8)]⟩ : AUnit) = 0 then fMade (⟨1, (2 * (k : Int)) + 1, 0, [(68 : UInt8)]⟩ : AUnit) else [])]).length) 1, .bool false].toArray), (1, .agg [.int .i64 x79.label, .int .i64 x79.cap, .slice A79_26_2 x79.blocks.length c79_26_2, .bool x79.lost].toArray)]) (cs := [.int .i64 ((2 * (k : Int)) + 1), .int .i64 5, .slice (some ⟨g49, 0, none⟩) (([(if uCheck (⟨1, (2 * (k : Int)) + 1, 0, [(68 : UInt8)]⟩ : AUnit) = 0 then fMade (⟨1, (2 * (k : Int)) + 1, 0, [(68 : UInt8)]⟩ : AUnit) else [])]).length) 1, .bool false, .int .i64 x79.label, .int .i64 x79.cap, .slice A79_26_2 x79.blocks.length c79_26_2, .bool x79.lost]) (el := 32) (sz := 4) rfl rfl (fun w => by simp [Instr.buildSlice, Try.runUnderlying29, Try.sizeOf32, Try.zeroValue32, Instr.fill, Value.cells, newRow, (show Array.range 8 = #[0, 1, 2, 3, 4, 5, 6, 7] from rfl)]) rfl (by simp [maxLen]) rfl rfl (by decide) (fun g81 => ?_)
          refine Run.nil ?_
          refine RunQ.stepEnd (fun _ => ⟨(Imm.le.refl _), (perm_nil _)⟩) ?_
          refine RunT.step (listed' := #[true, true, true, true, true, true, true, false]) 6 rfl (by kernel_rfl) rfl ?_
          have hlit27 : tTape.all J24 [.int .i64 ((2 * (k : Int)) + 1), .int .i64 5, .slice (some ⟨g49, 0, none⟩) (([(if uCheck (⟨1, (2 * (k : Int)) + 1, 0, [(68 : UInt8)]⟩ : AUnit) = 0 then fMade (⟨1, (2 * (k : Int)) + 1, 0, [(68 : UInt8)]⟩ : AUnit) else [])]).length) 1, .bool false, .int .i64 x79.label, .int .i64 x79.cap, .slice A79_26_2 x79.blocks.length c79_26_2, .bool x79.lost] [(⟨(2 * (k : Int)) + 1, 5, [(if uCheck (⟨1, (2 * (k : Int)) + 1, 0, [(68 : UInt8)]⟩ : AUnit) = 0 then fMade (⟨1, (2 * (k : Int)) + 1, 0, [(68 : UInt8)]⟩ : AUnit) else [])], false⟩ : ATape), x79] := (all_snoc (T := tTape) (all_snoc (T := tTape) all_nil ⟨_, _, rfl, (by first | omega | (dsimp only; omega)), (by first | omega | (dsimp only; omega)), (hslJ8.mono (((hleJ9.trans hleJ21).trans hleJ23).trans hleJ24))⟩) ⟨_, _, rfl, f79_26_0, f79_26_1, f79_26_2⟩)
          have hall28 : tTape.all J24 (cll ++ ([.int .i64 ((2 * (k : Int)) + 1), .int .i64 5, .slice (some ⟨g49, 0, none⟩) (([(if uCheck (⟨1, (2 * (k : Int)) + 1, 0, [(68 : UInt8)]⟩ : AUnit) = 0 then fMade (⟨1, (2 * (k : Int)) + 1, 0, [(68 : UInt8)]⟩ : AUnit) else [])]).length) 1, .bool false, .int .i64 x79.label, .int .i64 x79.cap, .slice A79_26_2 x79.blocks.length c79_26_2, .bool x79.lost])) (l ++ ([(⟨(2 * (k : Int)) + 1, 5, [(if uCheck (⟨1, (2 * (k : Int)) + 1, 0, [(68 : UInt8)]⟩ : AUnit) = 0 then fMade (⟨1, (2 * (k : Int)) + 1, 0, [(68 : UInt8)]⟩ : AUnit) else [])], false⟩ : ATape), x79])) := all_append (hl.mono (((((((hleJ3.trans hleJ4).trans hleJ5).trans hleJ8).trans hleJ9).trans hleJ21).trans hleJ23).trans hleJ24)) hlit27
          refine Run.append (by_ := 48) (ys := [.int .i64 ((2 * (k : Int)) + 1), .int .i64 5, .slice (some ⟨g49, 0, none⟩) (([(if uCheck (⟨1, (2 * (k : Int)) + 1, 0, [(68 : UInt8)]⟩ : AUnit) = 0 then fMade (⟨1, (2 * (k : Int)) + 1, 0, [(68 : UInt8)]⟩ : AUnit) else [])]).length) 1, .bool false, .int .i64 x79.label, .int .i64 x79.cap, .slice A79_26_2 x79.blocks.length c79_26_2, .bool x79.lost]) (k := 2) (own' := [row (.slice (some ⟨g81, 0, none⟩) 2 2) 32 4 ([.int .i64 ((2 * (k : Int)) + 1), .int .i64 5, .slice (some ⟨g49, 0, none⟩) (([(if uCheck (⟨1, (2 * (k : Int)) + 1, 0, [(68 : UInt8)]⟩ : AUnit) = 0 then fMade (⟨1, (2 * (k : Int)) + 1, 0, [(68 : UInt8)]⟩ : AUnit) else [])]).length) 1, .bool false, .int .i64 x79.label, .int .i64 x79.cap, .slice A79_26_2 x79.blocks.length c79_26_2, .bool x79.lost])]) 1 rfl rfl rfl Try.runUnderlying29 (.inl Try.runUnderlying29) Try.sizeOf32 Try.typeInfo32 rfl Try.zeroValue32 rfl rfl rfl (fun w hS => src_own hS (i := 0) rfl) (row_len hlit27 (by first | rfl | (simp; done) | (simp; omega)) rfl) (all_one hlit27) ((l ++ ([(⟨(2 * (k : Int)) + 1, 5, [(if uCheck (⟨1, (2 * (k : Int)) + 1, 0, [(68 : UInt8)]⟩ : AUnit) = 0 then fMade (⟨1, (2 * (k : Int)) + 1, 0, [(68 : UInt8)]⟩ : AUnit) else [])], false⟩ : ATape), x79])).length) (by first | (simp; done) | (simp; omega)) (by simp; omega) (by simp [maxLen]; omega) rfl rfl (by decide) (fun A82_28 c82_28 => ?_)
          refine Run.weak Sub.refl (perm_take (i := 0) rfl (perm_nil _)) ?_
          refine Run.nil ?_
          refine RunQ.stepEnd (fun _ => ⟨(Imm.le.refl _), (perm_nil _)⟩) ?_
          refine RunT.step (listed' := #[true, true, true, true, true, true, true, true]) 7 rfl (by kernel_rfl) rfl ?_
          refine Run.y (v := .slice A82_28 ((l ++ ([(⟨(2 * (k : Int)) + 1, 5, [(if uCheck (⟨1, (2 * (k : Int)) + 1, 0, [(68 : UInt8)]⟩ : AUnit) = 0 then fMade (⟨1, (2 * (k : Int)) + 1, 0, [(68 : UInt8)]⟩ : AUnit) else [])], false⟩ : ATape), x79])).length) c82_28) (y_assign rfl rfl) rfl rfl (by decide) ?_
          refine Run.nil ?_
          refine RunQ.stepEnd (fun h => absurd (show false = true from h) Bool.false_ne_true) ?_
          refine RunT.done (by kernel_rfl) ?_
          refine RunQ.inB ?_
          refine RunQ.next ?_
          refine RunC.region ?_
          refine Run.y (v := .int .i64 (k : Int)) (y_move rfl rfl) rfl rfl (by decide) ?_
          refine Run.y (v := .int .i64 ((k : Int) + 1)) (y_bin rfl rfl rfl (bn_add (by omega) (by omega))) rfl rfl (by decide) ?_
          refine Run.y (v := .int .i64 ((k : Int) + 1)) (y_assign rfl rfl) rfl rfl (by decide) ?_
          refine Run.nil ?_
          exact RunQ.thenI (fun aa ww hF hS => ⟨_, (by omega), (hInv0 _ _ _).2 ⟨(k + 1), (l ++ ([(⟨(2 * (k : Int)) + 1, 5, [(if uCheck (⟨1, (2 * (k : Int)) + 1, 0, [(68 : UInt8)]⟩ : AUnit) = 0 then fMade (⟨1, (2 * (k : Int)) + 1, 0, [(68 : UInt8)]⟩ : AUnit) else [])], false⟩ : ATape), x79])), A82_28, c82_28, cll ++ ([.int .i64 ((2 * (k : Int)) + 1), .int .i64 5, .slice (some ⟨g49, 0, none⟩) (([(if uCheck (⟨1, (2 * (k : Int)) + 1, 0, [(68 : UInt8)]⟩ : AUnit) = 0 then fMade (⟨1, (2 * (k : Int)) + 1, 0, [(68 : UInt8)]⟩ : AUnit) else [])]).length) 1, .bool false, .int .i64 x79.label, .int .i64 x79.cap, .slice A79_26_2 x79.blocks.length c79_26_2, .bool x79.lost]), J24, ((((((((hJ_le.trans hleJ3).trans hleJ4).trans hleJ5).trans hleJ8).trans hleJ9).trans hleJ21).trans hleJ23).trans hleJ24), hall28, (by omega), (by rw [hx79e]; exact GnL.snoc hgn r hr), rfl, hF.sub (.cons rfl (.cons rfl (.cons rfl .nil))), hS.sub (perm_self _)⟩⟩)
    ·
      try simp only [Bool.and_eq_true, Bool.or_eq_true, Bool.and_eq_false_iff, Bool.or_eq_false_iff, decide_eq_true_eq, decide_eq_false_iff_not, Bool.not_eq_true', Bool.not_eq_false', Bool.not_eq_true, Bool.not_eq_false, Int.not_lt, Int.not_le, ge_iff_le, gt_iff_lt, ne_eq, Decidable.not_not] at hc1
      have hgl := hgn.len
      refine RunC.exit ?_
      refine RunQ.pass (fun h => by cases h) ?_
      refine RunQ.pass (fun h => by cases h) ?_
      refine RunQ.out ?_
      refine RunQ.next ?_
      refine RunC.seq ?_
      refine RunC.region ?_
      refine Run.y (v := .slice Al l.length cl) (y_move rfl rfl) rfl rfl (by decide) ?_
      refine Run.freezeR 0 rfl (own' := []) rfl (fun J29 hleJ29 hfzJ29 => ?_)
      have hslJ29 : Sl tTape J29 Al cl l := Sl.of_rowN hfzJ29 rfl rfl (hl.mono hleJ29)
      refine Run.call0 (en_func rfl Try.call9 rfl) (c_group_Find _ l hslJ29 (hgn.blocks (by omega)) (by have := hgn.len; omega)) rfl rfl (by decide) (fun J30 o30 v30 hleJ30 hq30 => ?_)
      obtain ⟨rfl, cs30a, rfl, h30a⟩ := hq30
      replace h30a : (tSl tSeal).rd J30 cs30a (gFind l) := h30a
      obtain ⟨A30a_0, c30a_0, rfl, f30a_0⟩ := h30a
      have hsm30a_0 := f30a_0.small
      refine Run.y (v := .slice A30a_0 ((gFind l).length) c30a_0) (y_assign rfl rfl) rfl rfl (by decide) ?_
      refine Run.nil ?_
      refine RunQ.next ?_
      refine RunC.seq ?_
      refine RunC.seq ?_
      refine RunC.region ?_
      refine Run.y (v := .int .i64 1) (y_assign rfl rfl) rfl rfl (by decide) ?_
      refine Run.nil ?_
      refine RunQ.next ?_
      refine RunC.block ?_
      obtain ⟨Inv1, hInv1⟩ : ∃ Inv : Nat → Act → World → Prop, ∀ mm aa ww, Inv mm aa ww ↔ (∃ (j : Nat), (1 ≤ j) ∧ (j ≤ (gFind l).length ∨ j = 1) ∧ (mm = ((gFind l).length - j)) ∧ Frm aa 173 [(0, .slice Ans ns.length cns), (11, .slice A30a_0 ((gFind l).length) c30a_0), (12, .int .i64 (j : Int))] ∧ S E ww J30 []) := ⟨_, fun _ _ _ => Iff.rfl⟩
      refine RunC.loopX Inv1 (fun aa ww hF hS => ⟨_, (hInv1 _ _ _).2 ⟨1, (by omega), (by omega), rfl, hF.sub (.cons rfl (.cons rfl (.cons rfl .nil))), hS.sub (perm_self _)⟩⟩) ?_
      intro mm1 aa ww hv
      obtain ⟨j, hj1, hj2, hmm_, hF, hS⟩ := (hInv1 _ _ _).1 hv
      clear hv
      refine RunC.go ?_ hF hS
      clear hF hS aa ww
      refine RunC.seq ?_
      refine RunC.seq ?_
      refine RunC.region ?_
      refine Run.y (v := .int .i64 (j : Int)) (y_move rfl rfl) rfl rfl (by decide) ?_
      refine Run.y (v := .slice A30a_0 ((gFind l).length) c30a_0) (y_move rfl rfl) rfl rfl (by decide) ?_
      refine Run.y (v := .int .i64 ((gFind l).length : Int)) (y_len rfl Try.runUnderlying38 rfl) rfl rfl (by decide) ?_
      refine Run.y (v := .bool (decide ((j : Int) < ((gFind l).length : Int)))) (y_bin rfl rfl rfl bn_lss) rfl rfl (by decide) ?_
      refine Run.nil ?_
      refine RunQ.next ?_
      refine RunC.cond rfl (fun hc3 => ?_) (fun hc3 => ?_)
      ·
        try simp only [Bool.and_eq_true, Bool.or_eq_true, Bool.and_eq_false_iff, Bool.or_eq_false_iff, decide_eq_true_eq, decide_eq_false_iff_not, Bool.not_eq_true', Bool.not_eq_false', Bool.not_eq_true, Bool.not_eq_false, Int.not_lt, Int.not_le, ge_iff_le, gt_iff_lt, ne_eq, Decidable.not_not] at hc3
        refine RunC.skip ?_
        refine RunQ.next ?_
        refine RunC.seq ?_
        refine RunC.block ?_
        refine RunC.seq ?_
        refine RunC.regionD (by kernel_rfl) (by kernel_rfl) ?_
        refine RunZ.y (v := .slice A30a_0 ((gFind l).length) c30a_0) (y_move rfl rfl) rfl rfl (by decide) ?_
        refine RunZ.y (v := .int .i64 (j : Int)) (y_move rfl rfl) rfl rfl (by decide) ?_
        obtain ⟨x93, p93_31, cs93_31, hx93, hp93_31, hcs93_31, hrc93_31⟩ := Sl.at_ (P := Try.prog) (T := tSeal) Try.runUnderlying38 Try.sizeOf41 f30a_0 (k := .i64) (i := (j : Int)) (by omega) (by omega)
        replace hx93 : (gFind l)[j]? = some x93 := hx93
        obtain ⟨A93_31_4, c93_31_4, rfl, f93_31_0, f93_31_1, f93_31_2, f93_31_3, f93_31_4⟩ := hcs93_31
        have hsm93_31_4 := f93_31_4.small
        refine RunZ.y (v := .pointer (some p93_31)) (y_index rfl rfl rfl hp93_31) rfl rfl (by decide) ?_
        refine RunZ.y (v := .pointer (some p93_31)) (y_fieldAddr rfl rfl Try.runUnderlying41 rfl Try.sizeOf3 (by decide) (add_zero' _)) rfl rfl (by decide) ?_
        refine RunZ.y (v := .int .i64 x93.number) (y_load1 rfl Try.isAgg3 rfl (RCells.hd hrc93_31)) rfl rfl (by decide) ?_
        refine RunZ.y (v := .slice A30a_0 ((gFind l).length) c30a_0) (y_move rfl rfl) rfl rfl (by decide) ?_
        refine RunZ.y (v := .int .i64 (j : Int)) (y_move rfl rfl) rfl rfl (by decide) ?_
        refine RunZ.y (v := .int .i64 ((j : Int) - 1)) (y_bin rfl rfl rfl (bn_sub (by omega) (by omega))) rfl rfl (by decide) ?_
        obtain ⟨x99, p99_32, cs99_32, hx99, hp99_32, hcs99_32, hrc99_32⟩ := Sl.at_ (P := Try.prog) (T := tSeal) Try.runUnderlying38 Try.sizeOf41 f30a_0 (k := .i64) (i := (j : Int) - 1) (by omega) (by omega)
        obtain ⟨A99_32_4, c99_32_4, rfl, f99_32_0, f99_32_1, f99_32_2, f99_32_3, f99_32_4⟩ := hcs99_32
        have hsm99_32_4 := f99_32_4.small
        refine RunZ.y (v := .pointer (some p99_32)) (y_index rfl rfl rfl hp99_32) rfl rfl (by decide) ?_
        refine RunZ.y (v := .pointer (some p99_32)) (y_fieldAddr rfl rfl Try.runUnderlying41 rfl Try.sizeOf3 (by decide) (add_zero' _)) rfl rfl (by decide) ?_
        refine RunZ.y (v := .int .i64 x99.number) (y_load1 rfl Try.isAgg3 rfl (RCells.hd hrc99_32)) rfl rfl (by decide) ?_
        refine RunZ.y (v := .bool (decide (x93.number ≤ x99.number))) (y_bin rfl rfl rfl bn_leq) rfl rfl (by decide) ?_
        refine RunZ.nil ?_
        refine RunQ.next ?_
        refine RunC.cond rfl (fun hc4 => ?_) (fun hc4 => ?_)
        ·
          try simp only [Bool.and_eq_true, Bool.or_eq_true, Bool.and_eq_false_iff, Bool.or_eq_false_iff, decide_eq_true_eq, decide_eq_false_iff_not, Bool.not_eq_true', Bool.not_eq_false', Bool.not_eq_true, Bool.not_eq_false, Int.not_lt, Int.not_le, ge_iff_le, gt_iff_lt, ne_eq, Decidable.not_not] at hc4
          exfalso
          have h9 := gn_steps (T := l) (i := j - 1) (by rw [show j - 1 = ((j : Int) - 1).toNat from by omega]; exact hx99) (by rw [show j - 1 + 1 = j from by omega]; exact hx93)
          omega
        ·
          skip
          try simp only [Bool.and_eq_true, Bool.or_eq_true, Bool.and_eq_false_iff, Bool.or_eq_false_iff, decide_eq_true_eq, decide_eq_false_iff_not, Bool.not_eq_true', Bool.not_eq_false', Bool.not_eq_true, Bool.not_eq_false, Int.not_lt, Int.not_le, ge_iff_le, gt_iff_lt, ne_eq, Decidable.not_not] at hc4
          refine RunC.skip ?_
          refine RunQ.inB ?_
          refine RunQ.next ?_
          refine RunC.region ?_
          refine Run.y (v := .int .i64 (j : Int)) (y_move rfl rfl) rfl rfl (by decide) ?_
          refine Run.y (v := .int .i64 ((j : Int) + 1)) (y_bin rfl rfl rfl (bn_add (by omega) (by omega))) rfl rfl (by decide) ?_
          refine Run.y (v := .int .i64 ((j : Int) + 1)) (y_assign rfl rfl) rfl rfl (by decide) ?_
          refine Run.nil ?_
          exact RunQ.thenI (fun aa ww hF hS => ⟨_, (by omega), (hInv1 _ _ _).2 ⟨(j + 1), (by omega), (by omega), rfl, hF.sub (.cons rfl (.cons rfl (.cons rfl .nil))), hS.sub (perm_self _)⟩⟩)
      ·
        try simp only [Bool.and_eq_true, Bool.or_eq_true, Bool.and_eq_false_iff, Bool.or_eq_false_iff, decide_eq_true_eq, decide_eq_false_iff_not, Bool.not_eq_true', Bool.not_eq_false', Bool.not_eq_true, Bool.not_eq_false, Int.not_lt, Int.not_le, ge_iff_le, gt_iff_lt, ne_eq, Decidable.not_not] at hc3
        refine RunC.exit ?_
        refine RunQ.pass (fun h => by cases h) ?_
        refine RunQ.pass (fun h => by cases h) ?_
        refine RunQ.out ?_
        refine RunQ.next ?_
        refine RunC.seq ?_
        refine RunC.seq ?_
        refine RunC.region ?_
        refine Run.y (v := .int .i64 0) (y_assign rfl rfl) rfl rfl (by decide) ?_
        refine Run.nil ?_
        refine RunQ.next ?_
        refine RunC.block ?_
        obtain ⟨Inv2, hInv2⟩ : ∃ Inv : Nat → Act → World → Prop, ∀ mm aa ww, Inv mm aa ww ↔ (∃ (i : Nat) (J4 : Imm), (J30.le J4) ∧ (i ≤ ns.length) ∧ (mm = (ns.length - i)) ∧ Frm aa 173 [(0, .slice Ans ns.length cns), (11, .slice A30a_0 ((gFind l).length) c30a_0), (13, .int .i64 (i : Int))] ∧ S E ww J4 []) := ⟨_, fun _ _ _ => Iff.rfl⟩
        refine RunC.loopX Inv2 (fun aa ww hF hS => ⟨_, (hInv2 _ _ _).2 ⟨0, J30, (Imm.le.refl _), (by omega), rfl, hF.sub (.cons rfl (.cons rfl (.cons rfl .nil))), hS.sub (perm_self _)⟩⟩) ?_
        intro mm2 aa ww hv
        obtain ⟨i, J4, hJ4_le, hi, hmm_, hF, hS⟩ := (hInv2 _ _ _).1 hv
        clear hv
        refine RunC.go ?_ hF hS
        clear hF hS aa ww
        refine RunC.seq ?_
        refine RunC.seq ?_
        refine RunC.region ?_
        refine Run.y (v := .int .i64 (i : Int)) (y_move rfl rfl) rfl rfl (by decide) ?_
        refine Run.y (v := .slice Ans ns.length cns) (y_move rfl rfl) rfl rfl (by decide) ?_
        refine Run.y (v := .int .i64 (ns.length : Int)) (y_len rfl Try.runUnderlying22 rfl) rfl rfl (by decide) ?_
        refine Run.y (v := .bool (decide ((i : Int) < (ns.length : Int)))) (y_bin rfl rfl rfl bn_lss) rfl rfl (by decide) ?_
        refine Run.nil ?_
        refine RunQ.next ?_
        refine RunC.cond rfl (fun hc5 => ?_) (fun hc5 => ?_)
        ·
          try simp only [Bool.and_eq_true, Bool.or_eq_true, Bool.and_eq_false_iff, Bool.or_eq_false_iff, decide_eq_true_eq, decide_eq_false_iff_not, Bool.not_eq_true', Bool.not_eq_false', Bool.not_eq_true, Bool.not_eq_false, Int.not_lt, Int.not_le, ge_iff_le, gt_iff_lt, ne_eq, Decidable.not_not] at hc5
          refine RunC.skip ?_
          refine RunQ.next ?_
          refine RunC.seq ?_
          refine RunC.block ?_
          refine RunC.seq ?_
          refine RunC.region ?_
          refine Run.y (v := .bool true) (y_assign rfl rfl) rfl rfl (by decide) ?_
          refine Run.nil ?_
          refine RunQ.next ?_
          refine RunC.seq ?_
          refine RunC.seq ?_
          refine RunC.region ?_
          refine Run.y (v := .int .i64 0) (y_assign rfl rfl) rfl rfl (by decide) ?_
          refine Run.nil ?_
          refine RunQ.next ?_
          refine RunC.block ?_
          obtain ⟨Inv3, hInv3⟩ : ∃ Inv : Nat → Act → World → Prop, ∀ mm aa ww, Inv mm aa ww ↔ (∃ (q : Nat) (fs : Bool), (q ≤ i) ∧ (fs = firstB ns i q) ∧ (mm = (i - q)) ∧ Frm aa 173 [(0, .slice Ans ns.length cns), (11, .slice A30a_0 ((gFind l).length) c30a_0), (13, .int .i64 (i : Int)), (103, .int .i64 (i : Int)), (104, .slice Ans ns.length cns), (105, .int .i64 (ns.length : Int)), (106, .bool (decide ((i : Int) < (ns.length : Int)))), (15, .int .i64 (q : Int)), (14, .bool fs)] ∧ S E ww J4 []) := ⟨_, fun _ _ _ => Iff.rfl⟩
          refine RunC.loopX Inv3 (fun aa ww hF hS => ⟨_, (hInv3 _ _ _).2 ⟨0, true, (by omega), rfl, rfl, hF.sub (.cons rfl (.cons rfl (.cons rfl (.cons rfl (.cons rfl (.cons rfl (.cons rfl (.cons rfl (.cons rfl .nil))))))))), hS.sub (perm_self _)⟩⟩) ?_
          intro mm3 aa ww hv
          obtain ⟨q, fs, hq, hfs, hmm_, hF, hS⟩ := (hInv3 _ _ _).1 hv
          clear hv
          refine RunC.go ?_ hF hS
          clear hF hS aa ww
          refine RunC.seq ?_
          refine RunC.seq ?_
          refine RunC.region ?_
          refine Run.y (v := .int .i64 (q : Int)) (y_move rfl rfl) rfl rfl (by decide) ?_
          refine Run.y (v := .int .i64 (i : Int)) (y_move rfl rfl) rfl rfl (by decide) ?_
          refine Run.y (v := .bool (decide ((q : Int) < (i : Int)))) (y_bin rfl rfl rfl bn_lss) rfl rfl (by decide) ?_
          refine Run.nil ?_
          refine RunQ.next ?_
          refine RunC.cond rfl (fun hc6 => ?_) (fun hc6 => ?_)
          ·
            try simp only [Bool.and_eq_true, Bool.or_eq_true, Bool.and_eq_false_iff, Bool.or_eq_false_iff, decide_eq_true_eq, decide_eq_false_iff_not, Bool.not_eq_true', Bool.not_eq_false', Bool.not_eq_true, Bool.not_eq_false, Int.not_lt, Int.not_le, ge_iff_le, gt_iff_lt, ne_eq, Decidable.not_not] at hc6
            refine RunC.skip ?_
            refine RunQ.next ?_
            refine RunC.seq ?_
            refine RunC.block ?_
            refine RunC.regionD (by kernel_rfl) (by kernel_rfl) ?_
            refine RunZ.y (v := .bool fs) (y_move rfl rfl) rfl rfl (by decide) ?_
            refine RunZ.y (v := .bool fs) (y_move rfl rfl) rfl rfl (by decide) ?_
            refine RunZ.split 12 rfl (b := fs) (d := 127) (v := .bool (fs && (decide (gnNum ns q ≠ gnNum ns i)))) (fun hb115 K115 => ?_) (fun hb115 K115 => ?_) ?_
            ·
              have hc1115 := hb115; try simp only [Bool.and_eq_true, Bool.or_eq_true, Bool.and_eq_false_iff, Bool.or_eq_false_iff, decide_eq_true_eq, decide_eq_false_iff_not, Bool.not_eq_true', Bool.not_eq_false', Bool.not_eq_true, Bool.not_eq_false, Int.not_lt, Int.not_le, ge_iff_le, gt_iff_lt, ne_eq, Decidable.not_not] at hc1115
              refine RunZ.yes (v := .slice Ans ns.length cns) (y_move rfl rfl) rfl rfl rfl rfl (hb115) rfl (by decide) ?_
              refine RunZ.yes (v := .int .i64 (q : Int)) (y_move rfl rfl) rfl rfl rfl rfl (hb115) rfl (by decide) ?_
              obtain ⟨x118, p118_33, cs118_33, hx118, hp118_33, hcs118_33, hrc118_33⟩ := Sl.at_ (P := Try.prog) (T := tInt) Try.runUnderlying22 Try.sizeOf3 (hns.mono (((hJ_le.trans hleJ29).trans hleJ30).trans hJ4_le)) (k := .i64) (i := (q : Int)) (by omega) (by omega)
              replace hx118 : ns[q]? = some x118 := hx118
              obtain ⟨rfl, f118_33_0⟩ := hcs118_33
              refine RunZ.yes (v := .pointer (some p118_33)) (y_index rfl rfl rfl hp118_33) rfl rfl rfl rfl (hb115) rfl (by decide) ?_
              refine RunZ.yes (v := .int .i64 x118) (y_load1 rfl Try.isAgg3 rfl (RCells.hd hrc118_33)) rfl rfl rfl rfl (hb115) rfl (by decide) ?_
              refine RunZ.yes (v := .int .i64 (x118 % 2 ^ 3)) (y_bin rfl rfl rfl (bn_mask 3 (by decide) rfl)) rfl rfl rfl rfl (hb115) rfl (by decide) ?_
              refine RunZ.yes (v := .slice Ans ns.length cns) (y_move rfl rfl) rfl rfl rfl rfl (hb115) rfl (by decide) ?_
              refine RunZ.yes (v := .int .i64 (i : Int)) (y_move rfl rfl) rfl rfl rfl rfl (hb115) rfl (by decide) ?_
              obtain ⟨x123, p123_34, cs123_34, hx123, hp123_34, hcs123_34, hrc123_34⟩ := Sl.at_ (P := Try.prog) (T := tInt) Try.runUnderlying22 Try.sizeOf3 (hns.mono (((hJ_le.trans hleJ29).trans hleJ30).trans hJ4_le)) (k := .i64) (i := (i : Int)) (by omega) (by omega)
              replace hx123 : ns[i]? = some x123 := hx123
              obtain ⟨rfl, f123_34_0⟩ := hcs123_34
              refine RunZ.yes (v := .pointer (some p123_34)) (y_index rfl rfl rfl hp123_34) rfl rfl rfl rfl (hb115) rfl (by decide) ?_
              refine RunZ.yes (v := .int .i64 x123) (y_load1 rfl Try.isAgg3 rfl (RCells.hd hrc123_34)) rfl rfl rfl rfl (hb115) rfl (by decide) ?_
              refine RunZ.yes (v := .int .i64 (x123 % 2 ^ 3)) (y_bin rfl rfl rfl (bn_mask 3 (by decide) rfl)) rfl rfl rfl rfl (hb115) rfl (by decide) ?_
              refine RunZ.yes (v := .bool (decide (x118 % 2 ^ 3 ≠ x123 % 2 ^ 3))) (y_bin rfl rfl rfl bn_neq) rfl rfl rfl rfl (hb115) rfl (by decide) ?_
              refine RunZ.y (y_pickB rfl rfl (hb115) rfl) rfl rfl (by decide) ?_
              exact K115 _ _ (by rw [hb115]; first | (simp; done) | (rw [gn_ne hx118 hx123]; simp)) (Sub.push (Sub.push (Sub.push (Sub.push (Sub.push (Sub.push (Sub.push (Sub.push (Sub.push (Sub.push (Sub.push Sub.refl rfl) rfl) rfl) rfl) rfl) rfl) rfl) rfl) rfl) rfl) rfl)
            ·
              have hc1115 := hb115; try simp only [Bool.and_eq_true, Bool.or_eq_true, Bool.and_eq_false_iff, Bool.or_eq_false_iff, decide_eq_true_eq, decide_eq_false_iff_not, Bool.not_eq_true', Bool.not_eq_false', Bool.not_eq_true, Bool.not_eq_false, Int.not_lt, Int.not_le, ge_iff_le, gt_iff_lt, ne_eq, Decidable.not_not] at hc1115
              refine RunZ.no rfl rfl rfl rfl (hb115) rfl (by decide) ?_
              refine RunZ.no rfl rfl rfl rfl (hb115) rfl (by decide) ?_
              refine RunZ.no rfl rfl rfl rfl (hb115) rfl (by decide) ?_
              refine RunZ.no rfl rfl rfl rfl (hb115) rfl (by decide) ?_
              refine RunZ.no rfl rfl rfl rfl (hb115) rfl (by decide) ?_
              refine RunZ.no rfl rfl rfl rfl (hb115) rfl (by decide) ?_
              refine RunZ.no rfl rfl rfl rfl (hb115) rfl (by decide) ?_
              refine RunZ.no rfl rfl rfl rfl (hb115) rfl (by decide) ?_
              refine RunZ.no rfl rfl rfl rfl (hb115) rfl (by decide) ?_
              refine RunZ.no rfl rfl rfl rfl (hb115) rfl (by decide) ?_
              refine RunZ.no rfl rfl rfl rfl (hb115) rfl (by decide) ?_
              refine RunZ.y (y_pickB rfl rfl (hb115) rfl) rfl rfl (by decide) ?_
              exact K115 _ _ (by rw [hb115]; first | (simp; done) | (rw [gn_ne hx118 hx123]; simp)) (Sub.push (Sub.push (Sub.push (Sub.push (Sub.push (Sub.push (Sub.push (Sub.push (Sub.push (Sub.push (Sub.push Sub.refl rfl) rfl) rfl) rfl) rfl) rfl) rfl) rfl) rfl) rfl) rfl)
            refine RunZ.y (v := .bool (fs && (decide (gnNum ns q ≠ gnNum ns i)))) (y_assign rfl rfl) rfl rfl (by decide) ?_
            refine RunZ.nil ?_
            refine RunQ.inB ?_
            refine RunQ.next ?_
            refine RunC.region ?_
            refine Run.y (v := .int .i64 (q : Int)) (y_move rfl rfl) rfl rfl (by decide) ?_
            refine Run.y (v := .int .i64 ((q : Int) + 1)) (y_bin rfl rfl rfl (bn_add (by omega) (by omega))) rfl rfl (by decide) ?_
            refine Run.y (v := .int .i64 ((q : Int) + 1)) (y_assign rfl rfl) rfl rfl (by decide) ?_
            refine Run.nil ?_
            exact RunQ.thenI (fun aa ww hF hS => ⟨_, (by omega), (hInv3 _ _ _).2 ⟨(q + 1), (fs && (decide (gnNum ns q ≠ gnNum ns i))), (by omega), (by rw [firstB_succ, hfs]), rfl, hF.sub (.cons rfl (.cons rfl (.cons rfl (.cons rfl (.cons rfl (.cons rfl (.cons rfl (.cons rfl (.cons rfl .nil))))))))), hS.sub (perm_self _)⟩⟩)
          ·
            try simp only [Bool.and_eq_true, Bool.or_eq_true, Bool.and_eq_false_iff, Bool.or_eq_false_iff, decide_eq_true_eq, decide_eq_false_iff_not, Bool.not_eq_true', Bool.not_eq_false', Bool.not_eq_true, Bool.not_eq_false, Int.not_lt, Int.not_le, ge_iff_le, gt_iff_lt, ne_eq, Decidable.not_not] at hc6
            have hff : fs = firstB ns i i := by rw [hfs, show q = i from by omega]
            refine RunC.exit ?_
            refine RunQ.pass (fun h => by cases h) ?_
            refine RunQ.pass (fun h => by cases h) ?_
            refine RunQ.out ?_
            refine RunQ.next ?_
            refine RunC.seq ?_
            refine RunC.region ?_
            refine Run.y (v := .slice A30a_0 ((gFind l).length) c30a_0) (y_move rfl rfl) rfl rfl (by decide) ?_
            refine Run.y (v := .int .i64 (i : Int)) (y_move rfl rfl) rfl rfl (by decide) ?_
            refine Run.y (v := .int .i64 (2 * (i : Int))) (y_bin rfl rfl rfl (bn_mul (by omega) (by omega))) rfl rfl (by decide) ?_
            refine Run.y (v := .int .i64 ((2 * (i : Int)) + 1)) (y_bin rfl rfl rfl (bn_add (by omega) (by omega))) rfl rfl (by decide) ?_
            refine Run.call0 (en_func rfl Try.call10 rfl) (c_group_Of _ (gFind l) (f30a_0.mono hJ4_le) ((2 * (i : Int)) + 1) (by omega) (gn_lbls hgn (by omega))) rfl rfl (by decide) (fun J35 o35 v35 hleJ35 hq35 => ?_)
            obtain ⟨rfl, cs35a, cs35b, rfl, h35a, h35b⟩ := hq35
            replace h35a : tSeal.rd J35 cs35a ((gOf (gFind l) ((2 * (i : Int)) + 1)).1) := h35a
            obtain ⟨A35a_4, c35a_4, rfl, f35a_0, f35a_1, f35a_2, f35a_3, f35a_4⟩ := h35a
            have hsm35a_4 := f35a_4.small
            replace h35b : tBool.rd J35 cs35b ((gOf (gFind l) ((2 * (i : Int)) + 1)).2) := h35b
            obtain rfl := h35b
            have ho1 := gn_of hgn (by omega) (i := i) (lab := 2 * (i : Int) + 1) (by omega) (.inl rfl)
            refine Run.y (v := .tuple #[.agg [.int .i64 (((gOf (gFind l) ((2 * (i : Int)) + 1)).1).number), .int .i64 (((gOf (gFind l) ((2 * (i : Int)) + 1)).1).index), .int .i64 (((gOf (gFind l) ((2 * (i : Int)) + 1)).1).data), .int .i64 (((gOf (gFind l) ((2 * (i : Int)) + 1)).1).parity), .slice A35a_4 ((((gOf (gFind l) ((2 * (i : Int)) + 1)).1).labels).length) c35a_4].toArray, .bool ((gOf (gFind l) ((2 * (i : Int)) + 1)).2)]) (y_move rfl rfl) rfl rfl (by decide) ?_
            refine Run.y (v := .agg [.int .i64 (((gOf (gFind l) ((2 * (i : Int)) + 1)).1).number), .int .i64 (((gOf (gFind l) ((2 * (i : Int)) + 1)).1).index), .int .i64 (((gOf (gFind l) ((2 * (i : Int)) + 1)).1).data), .int .i64 (((gOf (gFind l) ((2 * (i : Int)) + 1)).1).parity), .slice A35a_4 ((((gOf (gFind l) ((2 * (i : Int)) + 1)).1).labels).length) c35a_4].toArray) (y_extract rfl rfl rfl) rfl rfl (by decide) ?_
            refine Run.y (v := .bool ((gOf (gFind l) ((2 * (i : Int)) + 1)).2)) (y_extract rfl rfl rfl) rfl rfl (by decide) ?_
            refine Run.alloc (cs := [.int .i64 0, .int .i64 0, .int .i64 0, .int .i64 0, .slice none 0 0]) rfl Try.zeroValue41 rfl rfl rfl (by decide) (fun g16_36 => ?_)
            refine Run.storeB (vs := [.int .i64 (((gOf (gFind l) ((2 * (i : Int)) + 1)).1).number), .int .i64 (((gOf (gFind l) ((2 * (i : Int)) + 1)).1).index), .int .i64 (((gOf (gFind l) ((2 * (i : Int)) + 1)).1).data), .int .i64 (((gOf (gFind l) ((2 * (i : Int)) + 1)).1).parity), .slice A35a_4 ((((gOf (gFind l) ((2 * (i : Int)) + 1)).1).labels).length) c35a_4]) (cs' := [.int .i64 (((gOf (gFind l) ((2 * (i : Int)) + 1)).1).number), .int .i64 (((gOf (gFind l) ((2 * (i : Int)) + 1)).1).index), .int .i64 (((gOf (gFind l) ((2 * (i : Int)) + 1)).1).data), .int .i64 (((gOf (gFind l) ((2 * (i : Int)) + 1)).1).parity), .slice A35a_4 ((((gOf (gFind l) ((2 * (i : Int)) + 1)).1).labels).length) c35a_4]) (own' := []) 0 rfl rfl rfl Try.sizeOf41 rfl rfl rfl rfl rfl (Nat.le_of_ble_eq_true rfl) rfl rfl rfl ?_
            refine Run.y (v := .bool ((gOf (gFind l) ((2 * (i : Int)) + 1)).2)) (y_assign rfl rfl) rfl rfl (by decide) ?_
            refine Run.nil ?_
            refine RunQ.next ?_
            refine RunC.seq ?_
            refine RunC.region ?_
            refine Run.y (v := .slice A30a_0 ((gFind l).length) c30a_0) (y_move rfl rfl) rfl rfl (by decide) ?_
            refine Run.y (v := .int .i64 (i : Int)) (y_move rfl rfl) rfl rfl (by decide) ?_
            refine Run.y (v := .int .i64 (2 * (i : Int))) (y_bin rfl rfl rfl (bn_mul (by omega) (by omega))) rfl rfl (by decide) ?_
            refine Run.y (v := .int .i64 ((2 * (i : Int)) + 2)) (y_bin rfl rfl rfl (bn_add (by omega) (by omega))) rfl rfl (by decide) ?_
            refine Run.call0 (en_func rfl Try.call10 rfl) (c_group_Of _ (gFind l) (f30a_0.mono (hJ4_le.trans hleJ35)) ((2 * (i : Int)) + 2) (by omega) (gn_lbls hgn (by omega))) rfl rfl (by decide) (fun J37 o37 v37 hleJ37 hq37 => ?_)
            obtain ⟨rfl, cs37a, cs37b, rfl, h37a, h37b⟩ := hq37
            replace h37a : tSeal.rd J37 cs37a ((gOf (gFind l) ((2 * (i : Int)) + 2)).1) := h37a
            obtain ⟨A37a_4, c37a_4, rfl, f37a_0, f37a_1, f37a_2, f37a_3, f37a_4⟩ := h37a
            have hsm37a_4 := f37a_4.small
            replace h37b : tBool.rd J37 cs37b ((gOf (gFind l) ((2 * (i : Int)) + 2)).2) := h37b
            obtain rfl := h37b
            have ho2 := gn_of hgn (by omega) (i := i) (lab := 2 * (i : Int) + 2) (by omega) (.inr rfl)
            refine Run.y (v := .tuple #[.agg [.int .i64 (((gOf (gFind l) ((2 * (i : Int)) + 2)).1).number), .int .i64 (((gOf (gFind l) ((2 * (i : Int)) + 2)).1).index), .int .i64 (((gOf (gFind l) ((2 * (i : Int)) + 2)).1).data), .int .i64 (((gOf (gFind l) ((2 * (i : Int)) + 2)).1).parity), .slice A37a_4 ((((gOf (gFind l) ((2 * (i : Int)) + 2)).1).labels).length) c37a_4].toArray, .bool ((gOf (gFind l) ((2 * (i : Int)) + 2)).2)]) (y_move rfl rfl) rfl rfl (by decide) ?_
            refine Run.y (v := .agg [.int .i64 (((gOf (gFind l) ((2 * (i : Int)) + 2)).1).number), .int .i64 (((gOf (gFind l) ((2 * (i : Int)) + 2)).1).index), .int .i64 (((gOf (gFind l) ((2 * (i : Int)) + 2)).1).data), .int .i64 (((gOf (gFind l) ((2 * (i : Int)) + 2)).1).parity), .slice A37a_4 ((((gOf (gFind l) ((2 * (i : Int)) + 2)).1).labels).length) c37a_4].toArray) (y_extract rfl rfl rfl) rfl rfl (by decide) ?_
            refine Run.y (v := .bool ((gOf (gFind l) ((2 * (i : Int)) + 2)).2)) (y_extract rfl rfl rfl) rfl rfl (by decide) ?_
            refine Run.alloc (cs := [.int .i64 0, .int .i64 0, .int .i64 0, .int .i64 0, .slice none 0 0]) rfl Try.zeroValue41 rfl rfl rfl (by decide) (fun g18_38 => ?_)
            refine Run.storeB (vs := [.int .i64 (((gOf (gFind l) ((2 * (i : Int)) + 2)).1).number), .int .i64 (((gOf (gFind l) ((2 * (i : Int)) + 2)).1).index), .int .i64 (((gOf (gFind l) ((2 * (i : Int)) + 2)).1).data), .int .i64 (((gOf (gFind l) ((2 * (i : Int)) + 2)).1).parity), .slice A37a_4 ((((gOf (gFind l) ((2 * (i : Int)) + 2)).1).labels).length) c37a_4]) (cs' := [.int .i64 (((gOf (gFind l) ((2 * (i : Int)) + 2)).1).number), .int .i64 (((gOf (gFind l) ((2 * (i : Int)) + 2)).1).index), .int .i64 (((gOf (gFind l) ((2 * (i : Int)) + 2)).1).data), .int .i64 (((gOf (gFind l) ((2 * (i : Int)) + 2)).1).parity), .slice A37a_4 ((((gOf (gFind l) ((2 * (i : Int)) + 2)).1).labels).length) c37a_4]) (own' := [blk g16_36 [.int .i64 (((gOf (gFind l) ((2 * (i : Int)) + 1)).1).number), .int .i64 (((gOf (gFind l) ((2 * (i : Int)) + 1)).1).index), .int .i64 (((gOf (gFind l) ((2 * (i : Int)) + 1)).1).data), .int .i64 (((gOf (gFind l) ((2 * (i : Int)) + 1)).1).parity), .slice A35a_4 ((((gOf (gFind l) ((2 * (i : Int)) + 1)).1).labels).length) c35a_4] 41]) 0 rfl rfl rfl Try.sizeOf41 rfl rfl rfl rfl rfl (Nat.le_of_ble_eq_true rfl) rfl rfl rfl ?_
            refine Run.y (v := .bool ((gOf (gFind l) ((2 * (i : Int)) + 2)).2)) (y_assign rfl rfl) rfl rfl (by decide) ?_
            refine Run.nil ?_
            refine RunQ.next ?_
            refine RunC.seq ?_
            refine RunC.regionD (by kernel_rfl) (by kernel_rfl) ?_
            refine RunZ.y (v := .bool ((gOf (gFind l) ((2 * (i : Int)) + 1)).2)) (y_move rfl rfl) rfl rfl (by decide) ?_
            refine RunZ.y (v := .bool fs) (y_move rfl rfl) rfl rfl (by decide) ?_
            refine RunZ.y (v := .bool false) (y_bin rfl rfl rfl (bn_cast (bn_neqB Try.underlying4) (by rw [ho1, hff]; cases firstB ns i i <;> rfl))) rfl rfl (by decide) ?_
            refine RunZ.y (v := .bool false) (y_move rfl rfl) rfl rfl (by decide) ?_
            refine RunZ.yes (v := .bool ((gOf (gFind l) ((2 * (i : Int)) + 2)).2)) (y_move rfl rfl) rfl rfl rfl rfl (rfl) rfl (by decide) ?_
            refine RunZ.yes (v := .bool fs) (y_move rfl rfl) rfl rfl rfl rfl (rfl) rfl (by decide) ?_
            refine RunZ.yes (v := .bool false) (y_bin rfl rfl rfl (bn_cast (bn_neqB Try.underlying4) (by rw [ho2, hff]; cases firstB ns i i <;> rfl))) rfl rfl rfl rfl (rfl) rfl (by decide) ?_
            refine RunZ.y (v := .bool false) (y_pick rfl rfl rfl) rfl rfl (by decide) ?_
            refine RunZ.y (v := .bool false) (y_move rfl rfl) rfl rfl (by decide) ?_
            refine RunZ.yes (v := .bool ((gOf (gFind l) ((2 * (i : Int)) + 1)).2)) (y_move rfl rfl) rfl rfl rfl rfl (rfl) rfl (by decide) ?_
            refine RunZ.yes (v := .bool ((gOf (gFind l) ((2 * (i : Int)) + 1)).2)) (y_move rfl rfl) rfl rfl rfl rfl (rfl) rfl (by decide) ?_
            refine RunZ.split 17 rfl (b := (gOf (gFind l) ((2 * (i : Int)) + 1)).2) (d := 171) (v := .bool (((gOf (gFind l) ((2 * (i : Int)) + 1)).2) && false)) (fun hb154 K154 => ?_) (fun hb154 K154 => ?_) ?_
            ·
              have hc1154 := hb154; try simp only [Bool.and_eq_true, Bool.or_eq_true, Bool.and_eq_false_iff, Bool.or_eq_false_iff, decide_eq_true_eq, decide_eq_false_iff_not, Bool.not_eq_true', Bool.not_eq_false', Bool.not_eq_true, Bool.not_eq_false, Int.not_lt, Int.not_le, ge_iff_le, gt_iff_lt, ne_eq, Decidable.not_not] at hc1154
              refine RunZ.yes (v := .pointer (some ⟨g16_36, 0, none⟩)) (y_fieldAddr rfl rfl Try.runUnderlying41 rfl Try.sizeOf3 (by decide) rfl) rfl rfl rfl rfl (hb154) rfl (by decide) ?_
              refine RunZ.yes (v := .int .i64 (((gOf (gFind l) ((2 * (i : Int)) + 1)).1).number)) (y_loadB1 1 rfl Try.isAgg3 rfl rfl rfl) rfl rfl rfl rfl (hb154) rfl (by decide) ?_
              refine RunZ.yes (v := .slice Ans ns.length cns) (y_move rfl rfl) rfl rfl rfl rfl (hb154) rfl (by decide) ?_
              refine RunZ.yes (v := .int .i64 (i : Int)) (y_move rfl rfl) rfl rfl rfl rfl (hb154) rfl (by decide) ?_
              obtain ⟨x159, p159_39, cs159_39, hx159, hp159_39, hcs159_39, hrc159_39⟩ := Sl.at_ (P := Try.prog) (T := tInt) Try.runUnderlying22 Try.sizeOf3 (hns.mono (((((hJ_le.trans hleJ29).trans hleJ30).trans hJ4_le).trans hleJ35).trans hleJ37)) (k := .i64) (i := (i : Int)) (by omega) (by omega)
              replace hx159 : ns[i]? = some x159 := hx159
              obtain ⟨rfl, f159_39_0⟩ := hcs159_39
              refine RunZ.yes (v := .pointer (some p159_39)) (y_index rfl rfl rfl hp159_39) rfl rfl rfl rfl (hb154) rfl (by decide) ?_
              refine RunZ.yes (v := .int .i64 x159) (y_load1 rfl Try.isAgg3 rfl (RCells.hd hrc159_39)) rfl rfl rfl rfl (hb154) rfl (by decide) ?_
              refine RunZ.yes (v := .int .i64 (x159 % 2 ^ 3)) (y_bin rfl rfl rfl (bn_mask 3 (by decide) rfl)) rfl rfl rfl rfl (hb154) rfl (by decide) ?_
              refine RunZ.yes (v := .int .i64 (1 + (x159 % 2 ^ 3))) (y_bin rfl rfl rfl (bn_add (by omega) (by omega))) rfl rfl rfl rfl (hb154) rfl (by decide) ?_
              refine RunZ.yes (v := .bool false) (y_bin rfl rfl rfl (bn_cast bn_neq (by have hft : firstB ns i i = true := (by rw [ho1] at hb154; cases h9 : firstB ns i i <;> simp_all); rw [ho1, hft]; simp [gnS, gnNum, hx159]))) rfl rfl rfl rfl (hb154) rfl (by decide) ?_
              refine RunZ.yes (v := .bool false) (y_move rfl rfl) rfl rfl rfl rfl (hb154) rfl (by decide) ?_
              refine RunZ.yes (v := .pointer (some ⟨g18_38, 0, none⟩)) (y_fieldAddr rfl rfl Try.runUnderlying41 rfl Try.sizeOf3 (by decide) rfl) rfl rfl rfl rfl (rfl) rfl (by decide) ?_
              refine RunZ.yes (v := .int .i64 (((gOf (gFind l) ((2 * (i : Int)) + 2)).1).number)) (y_loadB1 0 rfl Try.isAgg3 rfl rfl rfl) rfl rfl rfl rfl (rfl) rfl (by decide) ?_
              refine RunZ.yes (v := .pointer (some ⟨g16_36, 0, none⟩)) (y_fieldAddr rfl rfl Try.runUnderlying41 rfl Try.sizeOf3 (by decide) rfl) rfl rfl rfl rfl (rfl) rfl (by decide) ?_
              refine RunZ.yes (v := .int .i64 (((gOf (gFind l) ((2 * (i : Int)) + 1)).1).number)) (y_loadB1 1 rfl Try.isAgg3 rfl rfl rfl) rfl rfl rfl rfl (rfl) rfl (by decide) ?_
              refine RunZ.yes (v := .bool false) (y_bin rfl rfl rfl (bn_cast bn_neq (by have hft : firstB ns i i = true := (by rw [ho1] at hb154; cases h9 : firstB ns i i <;> simp_all); rw [ho1, ho2, hft]; simp))) rfl rfl rfl rfl (rfl) rfl (by decide) ?_
              refine RunZ.yes (v := .bool false) (y_pick rfl rfl rfl) rfl rfl rfl rfl (hb154) rfl (by decide) ?_
              refine RunZ.yes (v := .bool false) (y_pickB rfl rfl (hb154) rfl) rfl rfl rfl rfl (rfl) rfl (by decide) ?_
              exact K154 _ _ (by rw [hb154]; simp) (Sub.push (Sub.push (Sub.push (Sub.push (Sub.push (Sub.push (Sub.push (Sub.push (Sub.push (Sub.push (Sub.push (Sub.push (Sub.push (Sub.push (Sub.push (Sub.push Sub.refl rfl) rfl) rfl) rfl) rfl) rfl) rfl) rfl) rfl) rfl) rfl) rfl) rfl) rfl) rfl) rfl)
            ·
              have hc1154 := hb154; try simp only [Bool.and_eq_true, Bool.or_eq_true, Bool.and_eq_false_iff, Bool.or_eq_false_iff, decide_eq_true_eq, decide_eq_false_iff_not, Bool.not_eq_true', Bool.not_eq_false', Bool.not_eq_true, Bool.not_eq_false, Int.not_lt, Int.not_le, ge_iff_le, gt_iff_lt, ne_eq, Decidable.not_not] at hc1154
              refine RunZ.no rfl rfl rfl rfl (hb154) rfl (by decide) ?_
              refine RunZ.no rfl rfl rfl rfl (hb154) rfl (by decide) ?_
              refine RunZ.no rfl rfl rfl rfl (hb154) rfl (by decide) ?_
              refine RunZ.no rfl rfl rfl rfl (hb154) rfl (by decide) ?_
              refine RunZ.no rfl rfl rfl rfl (hb154) rfl (by decide) ?_
              refine RunZ.no rfl rfl rfl rfl (hb154) rfl (by decide) ?_
              refine RunZ.no rfl rfl rfl rfl (hb154) rfl (by decide) ?_
              refine RunZ.no rfl rfl rfl rfl (hb154) rfl (by decide) ?_
              refine RunZ.no rfl rfl rfl rfl (hb154) rfl (by decide) ?_
              refine RunZ.no rfl rfl rfl rfl (hb154) rfl (by decide) ?_
              refine RunZ.noU rfl rfl rfl rfl rfl (by decide) ?_
              refine RunZ.noU rfl rfl rfl rfl rfl (by decide) ?_
              refine RunZ.noU rfl rfl rfl rfl rfl (by decide) ?_
              refine RunZ.noU rfl rfl rfl rfl rfl (by decide) ?_
              refine RunZ.noU rfl rfl rfl rfl rfl (by decide) ?_
              refine RunZ.no rfl rfl rfl rfl (hb154) rfl (by decide) ?_
              refine RunZ.yes (v := .bool false) (y_pickB rfl rfl (hb154) rfl) rfl rfl rfl rfl (rfl) rfl (by decide) ?_
              exact K154 _ _ (by rw [hb154]; simp) (Sub.push (Sub.push (Sub.push (Sub.push (Sub.push (Sub.push (Sub.push (Sub.push (Sub.push (Sub.push (Sub.push (Sub.push (Sub.push (Sub.push (Sub.push (Sub.push Sub.refl rfl) rfl) rfl) rfl) rfl) rfl) rfl) rfl) rfl) rfl) rfl) rfl) rfl) rfl) rfl) rfl)
            refine RunZ.y (v := .bool (((gOf (gFind l) ((2 * (i : Int)) + 1)).2) && false)) (y_pick rfl rfl rfl) rfl rfl (by decide) ?_
            refine RunZ.nil ?_
            refine RunQ.next ?_
            refine RunC.cond rfl (fun hc7 => ?_) (fun hc7 => ?_)
            ·
              try simp only [Bool.and_eq_true, Bool.or_eq_true, Bool.and_eq_false_iff, Bool.or_eq_false_iff, decide_eq_true_eq, decide_eq_false_iff_not, Bool.not_eq_true', Bool.not_eq_false', Bool.not_eq_true, Bool.not_eq_false, Int.not_lt, Int.not_le, ge_iff_le, gt_iff_lt, ne_eq, Decidable.not_not] at hc7
              exfalso
              simp at hc7
            ·
              skip
              try simp only [Bool.and_eq_true, Bool.or_eq_true, Bool.and_eq_false_iff, Bool.or_eq_false_iff, decide_eq_true_eq, decide_eq_false_iff_not, Bool.not_eq_true', Bool.not_eq_false', Bool.not_eq_true, Bool.not_eq_false, Int.not_lt, Int.not_le, ge_iff_le, gt_iff_lt, ne_eq, Decidable.not_not] at hc7
              refine RunC.skip ?_
              refine RunQ.inB ?_
              refine RunQ.next ?_
              refine RunC.region ?_
              refine Run.y (v := .int .i64 (i : Int)) (y_move rfl rfl) rfl rfl (by decide) ?_
              refine Run.y (v := .int .i64 ((i : Int) + 1)) (y_bin rfl rfl rfl (bn_add (by omega) (by omega))) rfl rfl (by decide) ?_
              refine Run.y (v := .int .i64 ((i : Int) + 1)) (y_assign rfl rfl) rfl rfl (by decide) ?_
              refine Run.nil ?_
              exact RunQ.thenI (fun aa ww hF hS => ⟨_, (by omega), (hInv2 _ _ _).2 ⟨(i + 1), J37, ((hJ4_le.trans hleJ35).trans hleJ37), (by omega), rfl, hF.sub (.cons rfl (.cons rfl (.cons rfl .nil))), hS.sub (perm_nil _)⟩⟩)
        ·
          try simp only [Bool.and_eq_true, Bool.or_eq_true, Bool.and_eq_false_iff, Bool.or_eq_false_iff, decide_eq_true_eq, decide_eq_false_iff_not, Bool.not_eq_true', Bool.not_eq_false', Bool.not_eq_true, Bool.not_eq_false, Int.not_lt, Int.not_le, ge_iff_le, gt_iff_lt, ne_eq, Decidable.not_not] at hc5
          refine RunC.exit ?_
          refine RunQ.pass (fun h => by cases h) ?_
          refine RunQ.pass (fun h => by cases h) ?_
          refine RunQ.out ?_
          refine RunQ.next ?_
          refine RunC.seq ?_
          refine RunC.region ?_
          refine Run.y (v := .bool true) (y_assign rfl rfl) rfl rfl (by decide) ?_
          refine Run.nil ?_
          refine RunQ.next ?_
          refine RunC.ret ?_
          refine RunQ.weak Sub.refl (perm_nil _) ?_
          refine RunQ.fin1 (.inl rfl) Try.results4 (rv_tmp rfl) ?_
          exact ⟨rfl, _, rfl, (rd_eq (T := tBool) (x := true) rfl (by first | rfl | simp))⟩
end Go.Proofs.Ytmelbclhkkbmiaa.K
