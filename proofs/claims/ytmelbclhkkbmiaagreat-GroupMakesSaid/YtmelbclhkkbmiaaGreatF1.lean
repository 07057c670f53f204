/- Contracts of functions of the program, each proved by a walk through its operations, for all memory and all arguments that the theorem names. Printed by a program of mine. -/
import Derived.Test.YtmelbclhkkbmiaaGreatF0
import Derived.Test.YtmelbclhkkbmiaaGreatK9
import Derived.Test.YtmelbclhkkbmiaaGreatSp1
set_option linter.unusedVariables false
set_option linter.unusedSimpArgs false
set_option maxRecDepth 100000
namespace Go.Proofs.YtmelbclhkkbmiaaGreat.K
open Go Go.RowKit

theorem c_code_NewReader (I : Imm) {Ab : Option Addr} {cb : Nat} (b : List UInt8) (hb : Sl tU8 I Ab cb b) (hsz : b.length ≤ 1000000) : Con Tryz.prog 118 [.slice Ab b.length cb].toArray I [] (fun J o v => ∃ (gr0 : Nat) (r0_b : List UInt8) (Ar0_b : Option Addr) (cr0_b : Nat), r0_b = b ∧ o = [blk gr0 [.slice Ar0_b r0_b.length cr0_b, .bool false] 208] ∧ v = .pointer (some ⟨gr0, 0, none⟩) ∧ Sl tU8 J Ar0_b cr0_b r0_b) := by
 have hsmb := hb.small
 refine Con.enter (n := 7) (L := [(0, .slice Ab b.length cb)]) Tryz.func118 rfl rfl (Nat.le_of_ble_eq_true rfl) rfl (fun E => ?_)
 refine RunC.sr ?_
 refine Run.as ?_
 refine Run.nx ?_
 refine RunC.sr ?_
 refine Run.mv ?_
 refine Run.call (own1 := []) (own2 := []) (en_func rfl Tryz.call143 rfl) (c_slices_Clone_byte_byte _ b hb (by omega)) (List.Perm.refl _) rfl rfl (by decide) (fun J1 o1 v1 hleJ1 hq1 => ?_)
 obtain ⟨yr1_0, Ar1_0, cr1_0, clr1_0, er1_0, rfl, rfl, hr1_0⟩ := hq1
 obtain rfl : b = yr1_0 := er1_0.symm
 refine Run.m (v := .agg [.slice Ar1_0 b.length cr1_0, .bool false].toArray) (y_build (vs := [(0, .slice Ar1_0 b.length cr1_0)]) rfl rfl (fun w => by simp [Instr.build, Tryz.zeroValue208, Tryz.runUnderlying208, Tryz.sizeOf4, Tryz.sizeOf42, Instr.fill, Value.cells])) ?_
 refine Run.box (cs := [.slice Ar1_0 b.length cr1_0, .bool false]) rfl rfl rfl rfl rfl (by decide) (fun g6 => ?_)
 refine Run.as ?_
 refine Run.nx ?_
 refine RunC.ret ?_
 refine RunQ.freezeR 1 rfl (own' := [blk g6 [.slice Ar1_0 b.length cr1_0, .bool false] 208]) rfl (fun J2 hleJ2 hfzJ2 => ?_)
 have hslJ2 : Sl tU8 J2 Ar1_0 cr1_0 b := Sl.of_rowN hfzJ2 rfl rfl (hr1_0.mono hleJ2)
 refine RunQ.weak Sub.refl (perm_self _) ?_
 refine RunQ.fin1 (.inl rfl) Tryz.results118 (rv_tmp rfl) ?_
 exact ⟨g6, b, Ar1_0, cr1_0, (by first | rfl | (simp; done)), rfl, rfl, hslJ2⟩

theorem c_frame_made (I : Imm) {csu : List Value} (u : AUnit) (hu : tUnit.rd I csu u) (hb : u.load.length ≤ roomOf u.kind) : Con Tryz.prog 114 [.agg csu.toArray].toArray I [] (fun J o v => ∃ (yr0 : List UInt8) (Ar0 : Option Addr) (cr0 : Nat) (clr0 : List Value), yr0 = (fMade u) ∧ o = [row (.slice Ar0 yr0.length cr0) 5 1 clr0] ∧ v = .slice Ar0 yr0.length cr0 ∧ tU8.all J clr0 yr0) := by
 obtain ⟨Au_3, cu_3, rfl, fu_0, fu_1, fu_2, fu_3⟩ := hu
 have hsmu_3 := fu_3.small
 have hrl := roomOf_le u.kind
 refine Con.enter (n := 57) (L := [(0, .agg [.int .i64 u.kind, .int .i64 u.label, .int .i64 u.number, .slice Au_3 u.load.length cu_3].toArray)]) Tryz.func114 rfl rfl (Nat.le_of_ble_eq_true rfl) rfl (fun E => ?_)
 refine RunC.sr ?_
 refine Run.box (cs := [.int .i64 u.kind, .int .i64 u.label, .int .i64 u.number, .slice Au_3 u.load.length cu_3]) rfl rfl rfl rfl rfl (by decide) (fun g1 => ?_)
 refine Run.as ?_
 refine Run.nx ?_
 refine RunC.sr ?_
 refine Run.m (v := .agg [.slice none 0 0].toArray) (y_build (vs := []) rfl rfl (fun w => by simp [Instr.build, Tryz.zeroValue174, Tryz.runUnderlying174, Tryz.sizeOf42, Instr.fill, Value.cells])) ?_
 refine Run.box (cs := [.slice none 0 0]) rfl rfl rfl rfl rfl (by decide) (fun g7 => ?_)
 refine Run.as ?_
 refine Run.nx ?_
 refine RunC.sr ?_
 refine Run.mv ?_
 refine Run.m (v := .pointer (some ⟨g1, 0, none⟩)) (y_fieldAddr rfl rfl Tryz.runUnderlying63 rfl Tryz.sizeOf3 (by decide) rfl) ?_
 refine Run.m (v := .int .i64 u.kind) (y_loadB1 1 rfl Tryz.isAgg3 rfl rfl rfl) ?_
 refine Run.m (v := .int .u8 ((b8 u.kind).toNat : Int)) (y_conv rfl rfl (cv_int Tryz.underlying3 Tryz.underlying5 (wrapu8 _))) ?_
 refine Run.nilrow none 5 1 ?_
 refine Run.call (own1 := [blk g7 [.slice none 0 0] 174, row (.slice none 0 0) 5 1 ([])]) (own2 := [blk g1 [.int .i64 u.kind, .int .i64 u.label, .int .i64 u.number, .slice Au_3 u.load.length cu_3] 63]) (en_func rfl Tryz.call111 rfl) (c_code_Writer_Byte _ g7 none 0 ([]) ([] : List UInt8) all_nil (b8 u.kind) (by first | omega | (simp [be4_len, roomOf_le]; done) | (simp [be4_len]; omega))) (permC (i := 1) rfl rfl (permC (i := 0) rfl rfl (List.Perm.refl _))) rfl rfl (by decide) (fun J1 o1 v1 hleJ1 hq1 => ?_)
 obtain ⟨y1b, A1b, c1b, cl1b, e1b, rfl, rfl, h1b⟩ := hq1
 obtain rfl : (([] : List UInt8) ++ [(b8 u.kind)]) = y1b := e1b.symm
 refine Run.nx ?_
 refine RunC.sr ?_
 refine Run.mv ?_
 refine Run.m (v := .pointer (some ⟨g1, 1, none⟩)) (y_fieldAddr rfl rfl Tryz.runUnderlying63 rfl Tryz.sizeOf3 (by decide) rfl) ?_
 refine Run.m (v := .int .i64 u.label) (y_loadB1 2 rfl Tryz.isAgg3 rfl rfl rfl) ?_
 refine Run.call (own1 := [blk g7 [.slice A1b ((([] : List UInt8) ++ [(b8 u.kind)]).length) c1b] 174, row (.slice A1b ((([] : List UInt8) ++ [(b8 u.kind)]).length) c1b) 5 1 cl1b]) (own2 := [blk g1 [.int .i64 u.kind, .int .i64 u.label, .int .i64 u.number, .slice Au_3 u.load.length cu_3] 63]) (en_func rfl Tryz.call110 rfl) (c_code_Writer_Int _ g7 A1b c1b cl1b (([] : List UInt8) ++ [(b8 u.kind)]) h1b u.label (by first | omega | (simp [be4_len, roomOf_le]; done) | (simp [be4_len]; omega))) (permC (i := 0) rfl rfl (permC (i := 0) rfl rfl (List.Perm.refl _))) rfl rfl (by decide) (fun J2 o2 v2 hleJ2 hq2 => ?_)
 obtain ⟨y2b, A2b, c2b, cl2b, e2b, rfl, rfl, h2b⟩ := hq2
 obtain rfl : ((([] : List UInt8) ++ [(b8 u.kind)]) ++ be4 (b32 u.label)) = y2b := e2b.symm
 refine Run.nx ?_
 refine RunC.sr ?_
 refine Run.mv ?_
 refine Run.m (v := .pointer (some ⟨g1, 2, none⟩)) (y_fieldAddr rfl rfl Tryz.runUnderlying63 rfl Tryz.sizeOf3 (by decide) rfl) ?_
 refine Run.m (v := .int .i64 u.number) (y_loadB1 2 rfl Tryz.isAgg3 rfl rfl rfl) ?_
 refine Run.call (own1 := [blk g7 [.slice A2b (((([] : List UInt8) ++ [(b8 u.kind)]) ++ be4 (b32 u.label)).length) c2b] 174, row (.slice A2b (((([] : List UInt8) ++ [(b8 u.kind)]) ++ be4 (b32 u.label)).length) c2b) 5 1 cl2b]) (own2 := [blk g1 [.int .i64 u.kind, .int .i64 u.label, .int .i64 u.number, .slice Au_3 u.load.length cu_3] 63]) (en_func rfl Tryz.call110 rfl) (c_code_Writer_Int _ g7 A2b c2b cl2b ((([] : List UInt8) ++ [(b8 u.kind)]) ++ be4 (b32 u.label)) h2b u.number (by first | omega | (simp [be4_len, roomOf_le]; done) | (simp [be4_len]; omega))) (permC (i := 0) rfl rfl (permC (i := 0) rfl rfl (List.Perm.refl _))) rfl rfl (by decide) (fun J3 o3 v3 hleJ3 hq3 => ?_)
 obtain ⟨y3b, A3b, c3b, cl3b, e3b, rfl, rfl, h3b⟩ := hq3
 obtain rfl : (((([] : List UInt8) ++ [(b8 u.kind)]) ++ be4 (b32 u.label)) ++ be4 (b32 u.number)) = y3b := e3b.symm
 refine Run.nx ?_
 refine RunC.sr ?_
 refine Run.mv ?_
 refine Run.m (v := .pointer (some ⟨g1, 3, none⟩)) (y_fieldAddr rfl rfl Tryz.runUnderlying63 rfl Tryz.sizeOf42 (by decide) rfl) ?_
 refine Run.m (v := .slice Au_3 u.load.length cu_3) (y_loadB1 2 rfl Tryz.isAgg42 rfl rfl rfl) ?_
 refine Run.m (y_len rfl Tryz.runUnderlying42 rfl) ?_
 refine Run.m (v := .int .i64 ((u.load.length : Int) / 2 ^ 8)) (y_bin rfl rfl rfl (bn_shr (c := 8) (by decide))) ?_
 refine Run.m (v := .int .u8 ((b8 ((u.load.length : Int) / 2 ^ 8)).toNat : Int)) (y_conv rfl rfl (cv_int Tryz.underlying3 Tryz.underlying5 (wrapu8 _))) ?_
 refine Run.call (own1 := [blk g7 [.slice A3b ((((([] : List UInt8) ++ [(b8 u.kind)]) ++ be4 (b32 u.label)) ++ be4 (b32 u.number)).length) c3b] 174, row (.slice A3b ((((([] : List UInt8) ++ [(b8 u.kind)]) ++ be4 (b32 u.label)) ++ be4 (b32 u.number)).length) c3b) 5 1 cl3b]) (own2 := [blk g1 [.int .i64 u.kind, .int .i64 u.label, .int .i64 u.number, .slice Au_3 u.load.length cu_3] 63]) (en_func rfl Tryz.call111 rfl) (c_code_Writer_Byte _ g7 A3b c3b cl3b (((([] : List UInt8) ++ [(b8 u.kind)]) ++ be4 (b32 u.label)) ++ be4 (b32 u.number)) h3b (b8 ((u.load.length : Int) / 2 ^ 8)) (by first | omega | (simp [be4_len, roomOf_le]; done) | (simp [be4_len]; omega))) (permC (i := 0) rfl rfl (permC (i := 0) rfl rfl (List.Perm.refl _))) rfl rfl (by decide) (fun J4 o4 v4 hleJ4 hq4 => ?_)
 obtain ⟨y4b, A4b, c4b, cl4b, e4b, rfl, rfl, h4b⟩ := hq4
 obtain rfl : ((((([] : List UInt8) ++ [(b8 u.kind)]) ++ be4 (b32 u.label)) ++ be4 (b32 u.number)) ++ [(b8 ((u.load.length : Int) / 2 ^ 8))]) = y4b := e4b.symm
 refine Run.nx ?_
 refine RunC.sr ?_
 refine Run.mv ?_
 refine Run.m (v := .pointer (some ⟨g1, 3, none⟩)) (y_fieldAddr rfl rfl Tryz.runUnderlying63 rfl Tryz.sizeOf42 (by decide) rfl) ?_
 refine Run.m (v := .slice Au_3 u.load.length cu_3) (y_loadB1 2 rfl Tryz.isAgg42 rfl rfl rfl) ?_
 refine Run.m (y_len rfl Tryz.runUnderlying42 rfl) ?_
 refine Run.m (v := .int .u8 ((b8 (u.load.length : Int)).toNat : Int)) (y_conv rfl rfl (cv_int Tryz.underlying3 Tryz.underlying5 (wrapu8 _))) ?_
 refine Run.call (own1 := [blk g7 [.slice A4b (((((([] : List UInt8) ++ [(b8 u.kind)]) ++ be4 (b32 u.label)) ++ be4 (b32 u.number)) ++ [(b8 ((u.load.length : Int) / 2 ^ 8))]).length) c4b] 174, row (.slice A4b (((((([] : List UInt8) ++ [(b8 u.kind)]) ++ be4 (b32 u.label)) ++ be4 (b32 u.number)) ++ [(b8 ((u.load.length : Int) / 2 ^ 8))]).length) c4b) 5 1 cl4b]) (own2 := [blk g1 [.int .i64 u.kind, .int .i64 u.label, .int .i64 u.number, .slice Au_3 u.load.length cu_3] 63]) (en_func rfl Tryz.call111 rfl) (c_code_Writer_Byte _ g7 A4b c4b cl4b ((((([] : List UInt8) ++ [(b8 u.kind)]) ++ be4 (b32 u.label)) ++ be4 (b32 u.number)) ++ [(b8 ((u.load.length : Int) / 2 ^ 8))]) h4b (b8 (u.load.length : Int)) (by first | omega | (simp [be4_len, roomOf_le]; done) | (simp [be4_len]; omega))) (permC (i := 0) rfl rfl (permC (i := 0) rfl rfl (List.Perm.refl _))) rfl rfl (by decide) (fun J5 o5 v5 hleJ5 hq5 => ?_)
 obtain ⟨y5b, A5b, c5b, cl5b, e5b, rfl, rfl, h5b⟩ := hq5
 obtain rfl : (((((([] : List UInt8) ++ [(b8 u.kind)]) ++ be4 (b32 u.label)) ++ be4 (b32 u.number)) ++ [(b8 ((u.load.length : Int) / 2 ^ 8))]) ++ [(b8 (u.load.length : Int))]) = y5b := e5b.symm
 refine Run.nx ?_
 refine RunC.sr ?_
 refine Run.m (v := .pointer (some ⟨g1, 0, none⟩)) (y_fieldAddr rfl rfl Tryz.runUnderlying63 rfl Tryz.sizeOf3 (by decide) rfl) ?_
 refine Run.m (v := .int .i64 u.kind) (y_loadB1 2 rfl Tryz.isAgg3 rfl rfl rfl) ?_
 refine Run.callV (en_func rfl Tryz.call144 rfl) (conv_int (c_frame_room _ u.kind)) rfl rfl (by decide) (fun hI6 => ?_)
 refine Run.cast (s := 36) (v' := .int .i64 (roomOf u.kind : Int)) rfl (by rw [room_of]) ?_
 refine Run.make (m := (roomOf u.kind)) (k := .i64) rfl rfl rfl (mk_run Tryz.runUnderlying42 Tryz.typeInfo5 (by_ := 1) rfl Tryz.sizeOf5 Tryz.zeroValue5 rfl (by omega) (by omega)) (by simp only [maxLen]; omega) rfl rfl (by decide) (fun g37 => ?_)
 have hall7 : tU8.all J5 (List.replicate (roomOf u.kind) (.int .u8 ((0 : UInt8).toNat : Int))) (List.replicate (roomOf u.kind) ((0 : UInt8) : UInt8)) := all_replicate (by rfl) _
 refine Run.as ?_
 refine Run.nx ?_
 refine RunC.weak (L' := [(1, .pointer (some ⟨g1, 0, none⟩)), (2, .slice none 0 0), (3, .pointer (some ⟨g7, 0, none⟩)), (4, .slice (some ⟨g37, 0, none⟩) (roomOf u.kind) (roomOf u.kind))]) (Sub.of rfl) (perm_self _) ?_
 refine RunC.sr ?_
 refine Run.mv ?_
 refine Run.m (v := .pointer (some ⟨g1, 3, none⟩)) (y_fieldAddr rfl rfl Tryz.runUnderlying63 rfl Tryz.sizeOf42 (by decide) rfl) ?_
 refine Run.m (v := .slice Au_3 u.load.length cu_3) (y_loadB1 3 rfl Tryz.isAgg42 rfl rfl rfl) ?_
 obtain ⟨ys8, hraw8, hya8⟩ := Sl.raw (fu_3.mono ((((hleJ1.trans hleJ2).trans hleJ3).trans hleJ4).trans hleJ5))
 have hall8 := all_copy hall7 hya8 (n := u.load.length) rfl (by first | omega | (simp; omega))
 refine Run.copy (ys := ys8) (k := u.load.length) (xs' := (ys8 ++ (List.replicate (roomOf u.kind) (.int .u8 ((0 : UInt8).toNat : Int))).drop ys8.length)) (own' := [blk g7 [.slice A5b ((((((([] : List UInt8) ++ [(b8 u.kind)]) ++ be4 (b32 u.label)) ++ be4 (b32 u.number)) ++ [(b8 ((u.load.length : Int) / 2 ^ 8))]) ++ [(b8 (u.load.length : Int))]).length) c5b] 174, row (.slice A5b ((((((([] : List UInt8) ++ [(b8 u.kind)]) ++ be4 (b32 u.label)) ++ be4 (b32 u.number)) ++ [(b8 ((u.load.length : Int) / 2 ^ 8))]) ++ [(b8 (u.load.length : Int))]).length) c5b) 5 1 cl5b, blk g1 [.int .i64 u.kind, .int .i64 u.label, .int .i64 u.number, .slice Au_3 u.load.length cu_3] 63]) 0 rfl rfl rfl Tryz.runUnderlying42 Tryz.sizeOf5 rfl rfl hraw8 (all_one hya8) (hya8).1 (by first | omega | (simp; omega)) (copy_fit hall7 hya8 (by first | omega | (simp; omega))) rfl rfl rfl (by decide) ?_
 refine Run.nx ?_
 refine RunC.sr ?_
 refine Run.mv ?_
 refine Run.freezeR 2 rfl (own' := [row (.slice (some ⟨g37, 0, none⟩) (roomOf u.kind) (roomOf u.kind)) 5 1 (ys8 ++ (List.replicate (roomOf u.kind) (.int .u8 ((0 : UInt8).toNat : Int))).drop ys8.length), blk g7 [.slice A5b ((((((([] : List UInt8) ++ [(b8 u.kind)]) ++ be4 (b32 u.label)) ++ be4 (b32 u.number)) ++ [(b8 ((u.load.length : Int) / 2 ^ 8))]) ++ [(b8 (u.load.length : Int))]).length) c5b] 174, blk g1 [.int .i64 u.kind, .int .i64 u.label, .int .i64 u.number, .slice Au_3 u.load.length cu_3] 63]) rfl (fun J10 hleJ10 hfzJ10 => ?_)
 have hslJ10 : Sl tU8 J10 A5b c5b (((((([] : List UInt8) ++ [(b8 u.kind)]) ++ be4 (b32 u.label)) ++ be4 (b32 u.number)) ++ [(b8 ((u.load.length : Int) / 2 ^ 8))]) ++ [(b8 (u.load.length : Int))]) := Sl.of_rowN hfzJ10 rfl rfl (h5b.mono hleJ10)
 refine Run.call (own1 := [blk g7 [.slice A5b ((((((([] : List UInt8) ++ [(b8 u.kind)]) ++ be4 (b32 u.label)) ++ be4 (b32 u.number)) ++ [(b8 ((u.load.length : Int) / 2 ^ 8))]) ++ [(b8 (u.load.length : Int))]).length) c5b] 174]) (own2 := [row (.slice (some ⟨g37, 0, none⟩) (roomOf u.kind) (roomOf u.kind)) 5 1 (ys8 ++ (List.replicate (roomOf u.kind) (.int .u8 ((0 : UInt8).toNat : Int))).drop ys8.length), blk g1 [.int .i64 u.kind, .int .i64 u.label, .int .i64 u.number, .slice Au_3 u.load.length cu_3] 63]) (en_func rfl Tryz.call112 rfl) (c_code_Writer_Bytes _ g7 A5b c5b (((((([] : List UInt8) ++ [(b8 u.kind)]) ++ be4 (b32 u.label)) ++ be4 (b32 u.number)) ++ [(b8 ((u.load.length : Int) / 2 ^ 8))]) ++ [(b8 (u.load.length : Int))]) hslJ10 (by first | omega | (simp [be4_len, roomOf_le]; done) | (simp [be4_len]; omega))) (permC (i := 1) rfl rfl (List.Perm.refl _)) rfl rfl (by decide) (fun J9 o9 v9 hleJ9 hq9 => ?_)
 obtain ⟨y9b, A9b, c9b, yr9_0, Ar9_0, cr9_0, clr9_0, e9b, er9_0, rfl, rfl, h9b, hr9_0⟩ := hq9
 obtain rfl : (((((([] : List UInt8) ++ [(b8 u.kind)]) ++ be4 (b32 u.label)) ++ be4 (b32 u.number)) ++ [(b8 ((u.load.length : Int) / 2 ^ 8))]) ++ [(b8 (u.load.length : Int))]) = y9b := e9b.symm
 obtain rfl : (((((([] : List UInt8) ++ [(b8 u.kind)]) ++ be4 (b32 u.label)) ++ be4 (b32 u.number)) ++ [(b8 ((u.load.length : Int) / 2 ^ 8))]) ++ [(b8 (u.load.length : Int))]) = yr9_0 := er9_0.symm
 refine Run.mv ?_
 have hall11 : tU8.all J9 (clr9_0 ++ (ys8 ++ (List.replicate (roomOf u.kind) (.int .u8 ((0 : UInt8).toNat : Int))).drop ys8.length)) ((((((([] : List UInt8) ++ [(b8 u.kind)]) ++ be4 (b32 u.label)) ++ be4 (b32 u.number)) ++ [(b8 ((u.load.length : Int) / 2 ^ 8))]) ++ [(b8 (u.load.length : Int))]) ++ (u.load ++ (List.replicate (roomOf u.kind) ((0 : UInt8) : UInt8)).drop u.load.length)) := all_append hr9_0 (hall8.mono (hleJ10.trans hleJ9))
 refine Run.append (by_ := 1) (ys := (ys8 ++ (List.replicate (roomOf u.kind) (.int .u8 ((0 : UInt8).toNat : Int))).drop ys8.length)) (k := roomOf u.kind) (own' := [blk g7 [.slice A9b ((((((([] : List UInt8) ++ [(b8 u.kind)]) ++ be4 (b32 u.label)) ++ be4 (b32 u.number)) ++ [(b8 ((u.load.length : Int) / 2 ^ 8))]) ++ [(b8 (u.load.length : Int))]).length) c9b] 174, row (.slice (some ⟨g37, 0, none⟩) (roomOf u.kind) (roomOf u.kind)) 5 1 (ys8 ++ (List.replicate (roomOf u.kind) (.int .u8 ((0 : UInt8).toNat : Int))).drop ys8.length), blk g1 [.int .i64 u.kind, .int .i64 u.label, .int .i64 u.number, .slice Au_3 u.load.length cu_3] 63]) 1 rfl rfl rfl Tryz.runUnderlying42 (.inl Tryz.runUnderlying42) Tryz.sizeOf5 Tryz.typeInfo5 rfl Tryz.zeroValue5 rfl rfl rfl (fun w hS => src_own hS (i := 2) rfl) (row_len (hall8.mono (hleJ10.trans hleJ9)) (by first | rfl | (simp; done) | (simp; omega)) rfl) (all_one (hall8.mono (hleJ10.trans hleJ9))) (((((((([] : List UInt8) ++ [(b8 u.kind)]) ++ be4 (b32 u.label)) ++ be4 (b32 u.number)) ++ [(b8 ((u.load.length : Int) / 2 ^ 8))]) ++ [(b8 (u.load.length : Int))]) ++ (u.load ++ (List.replicate (roomOf u.kind) ((0 : UInt8) : UInt8)).drop u.load.length)).length) (by first | (simp; done) | (simp; omega)) (by first | omega | (simp [be4_len, roomOf_le]; done) | (simp [be4_len]; omega)) (by simp [maxLen]; omega) rfl rfl (by decide) (fun A45_11 c45_11 => ?_)
 refine Run.as ?_
 refine Run.nx ?_
 refine RunC.sr ?_
 refine Run.m (v := .agg [.slice none 0 0].toArray) (y_build (vs := []) rfl rfl (fun w => by simp [Instr.build, Tryz.zeroValue174, Tryz.runUnderlying174, Tryz.sizeOf42, Instr.fill, Value.cells])) ?_
 refine Run.box (cs := [.slice none 0 0]) rfl rfl rfl rfl rfl (by decide) (fun g47 => ?_)
 refine Run.as ?_
 refine Run.nx ?_
 refine RunC.sr ?_
 refine Run.mv ?_
 refine Run.mv ?_
 refine Run.callVB (en_func rfl Tryz.call59 rfl) (Bor.row (own' := [blk g47 [.slice none 0 0] 174, blk g7 [.slice A9b ((((((([] : List UInt8) ++ [(b8 u.kind)]) ++ be4 (b32 u.label)) ++ be4 (b32 u.number)) ++ [(b8 ((u.load.length : Int) / 2 ^ 8))]) ++ [(b8 (u.load.length : Int))]).length) c9b] 174, row (.slice (some ⟨g37, 0, none⟩) (roomOf u.kind) (roomOf u.kind)) 5 1 (ys8 ++ (List.replicate (roomOf u.kind) (.int .u8 ((0 : UInt8).toNat : Int))).drop ys8.length), blk g1 [.int .i64 u.kind, .int .i64 u.label, .int .i64 u.number, .slice Au_3 u.load.length cu_3] 63]) 1 rfl rfl (fun Jb12_0 hleJb12_0 hb12_0 => Bor.base (conv_u32 (c_castagnoli_Sum _ ((((((([] : List UInt8) ++ [(b8 u.kind)]) ++ be4 (b32 u.label)) ++ be4 (b32 u.number)) ++ [(b8 ((u.load.length : Int) / 2 ^ 8))]) ++ [(b8 (u.load.length : Int))]) ++ (u.load ++ (List.replicate (roomOf u.kind) ((0 : UInt8) : UInt8)).drop u.load.length)) (Sl.of_rowN hb12_0 rfl rfl (hall11.mono hleJb12_0)))))) rfl rfl (by decide) (fun hI12 => ?_)
 refine Run.m (v := .int .i64 ((crc ((((((([] : List UInt8) ++ [(b8 u.kind)]) ++ be4 (b32 u.label)) ++ be4 (b32 u.number)) ++ [(b8 ((u.load.length : Int) / 2 ^ 8))]) ++ [(b8 (u.load.length : Int))]) ++ (u.load ++ (List.replicate (roomOf u.kind) ((0 : UInt8) : UInt8)).drop u.load.length))).toNat : Int)) (y_conv rfl rfl (cv_int Tryz.underlying100 Tryz.underlying3 (wrap64_u32 _))) ?_
 refine Run.nilrow none 5 1 ?_
 refine Run.call (own1 := [blk g47 [.slice none 0 0] 174, row (.slice none 0 0) 5 1 ([])]) (own2 := [row (.slice A45_11 (((((((([] : List UInt8) ++ [(b8 u.kind)]) ++ be4 (b32 u.label)) ++ be4 (b32 u.number)) ++ [(b8 ((u.load.length : Int) / 2 ^ 8))]) ++ [(b8 (u.load.length : Int))]) ++ (u.load ++ (List.replicate (roomOf u.kind) ((0 : UInt8) : UInt8)).drop u.load.length)).length) c45_11) 5 1 (clr9_0 ++ (ys8 ++ (List.replicate (roomOf u.kind) (.int .u8 ((0 : UInt8).toNat : Int))).drop ys8.length)), blk g7 [.slice A9b ((((((([] : List UInt8) ++ [(b8 u.kind)]) ++ be4 (b32 u.label)) ++ be4 (b32 u.number)) ++ [(b8 ((u.load.length : Int) / 2 ^ 8))]) ++ [(b8 (u.load.length : Int))]).length) c9b] 174, row (.slice (some ⟨g37, 0, none⟩) (roomOf u.kind) (roomOf u.kind)) 5 1 (ys8 ++ (List.replicate (roomOf u.kind) (.int .u8 ((0 : UInt8).toNat : Int))).drop ys8.length), blk g1 [.int .i64 u.kind, .int .i64 u.label, .int .i64 u.number, .slice Au_3 u.load.length cu_3] 63]) (en_func rfl Tryz.call110 rfl) (c_code_Writer_Int _ g47 none 0 ([]) ([] : List UInt8) all_nil ((crc ((((((([] : List UInt8) ++ [(b8 u.kind)]) ++ be4 (b32 u.label)) ++ be4 (b32 u.number)) ++ [(b8 ((u.load.length : Int) / 2 ^ 8))]) ++ [(b8 (u.load.length : Int))]) ++ (u.load ++ (List.replicate (roomOf u.kind) ((0 : UInt8) : UInt8)).drop u.load.length))).toNat : Int) (by first | omega | (simp [be4_len, roomOf_le]; done) | (simp [be4_len]; omega))) (permC (i := 1) rfl rfl (permC (i := 0) rfl rfl (List.Perm.refl _))) rfl rfl (by decide) (fun J13 o13 v13 hleJ13 hq13 => ?_)
 obtain ⟨y13b, A13b, c13b, cl13b, e13b, rfl, rfl, h13b⟩ := hq13
 obtain rfl : (([] : List UInt8) ++ be4 (b32 ((crc ((((((([] : List UInt8) ++ [(b8 u.kind)]) ++ be4 (b32 u.label)) ++ be4 (b32 u.number)) ++ [(b8 ((u.load.length : Int) / 2 ^ 8))]) ++ [(b8 (u.load.length : Int))]) ++ (u.load ++ (List.replicate (roomOf u.kind) ((0 : UInt8) : UInt8)).drop u.load.length))).toNat : Int))) = y13b := e13b.symm
 refine Run.nx ?_
 refine RunC.sr ?_
 refine Run.mv ?_
 refine Run.mv ?_
 refine Run.freezeR 1 rfl (own' := [blk g47 [.slice A13b ((([] : List UInt8) ++ be4 (b32 ((crc ((((((([] : List UInt8) ++ [(b8 u.kind)]) ++ be4 (b32 u.label)) ++ be4 (b32 u.number)) ++ [(b8 ((u.load.length : Int) / 2 ^ 8))]) ++ [(b8 (u.load.length : Int))]) ++ (u.load ++ (List.replicate (roomOf u.kind) ((0 : UInt8) : UInt8)).drop u.load.length))).toNat : Int))).length) c13b] 174, row (.slice A45_11 (((((((([] : List UInt8) ++ [(b8 u.kind)]) ++ be4 (b32 u.label)) ++ be4 (b32 u.number)) ++ [(b8 ((u.load.length : Int) / 2 ^ 8))]) ++ [(b8 (u.load.length : Int))]) ++ (u.load ++ (List.replicate (roomOf u.kind) ((0 : UInt8) : UInt8)).drop u.load.length)).length) c45_11) 5 1 (clr9_0 ++ (ys8 ++ (List.replicate (roomOf u.kind) (.int .u8 ((0 : UInt8).toNat : Int))).drop ys8.length)), blk g7 [.slice A9b ((((((([] : List UInt8) ++ [(b8 u.kind)]) ++ be4 (b32 u.label)) ++ be4 (b32 u.number)) ++ [(b8 ((u.load.length : Int) / 2 ^ 8))]) ++ [(b8 (u.load.length : Int))]).length) c9b] 174, row (.slice (some ⟨g37, 0, none⟩) (roomOf u.kind) (roomOf u.kind)) 5 1 (ys8 ++ (List.replicate (roomOf u.kind) (.int .u8 ((0 : UInt8).toNat : Int))).drop ys8.length), blk g1 [.int .i64 u.kind, .int .i64 u.label, .int .i64 u.number, .slice Au_3 u.load.length cu_3] 63]) rfl (fun J15 hleJ15 hfzJ15 => ?_)
 have hslJ15 : Sl tU8 J15 A13b c13b (([] : List UInt8) ++ be4 (b32 ((crc ((((((([] : List UInt8) ++ [(b8 u.kind)]) ++ be4 (b32 u.label)) ++ be4 (b32 u.number)) ++ [(b8 ((u.load.length : Int) / 2 ^ 8))]) ++ [(b8 (u.load.length : Int))]) ++ (u.load ++ (List.replicate (roomOf u.kind) ((0 : UInt8) : UInt8)).drop u.load.length))).toNat : Int))) := Sl.of_rowN hfzJ15 rfl rfl (h13b.mono hleJ15)
 refine Run.call (own1 := [blk g47 [.slice A13b ((([] : List UInt8) ++ be4 (b32 ((crc ((((((([] : List UInt8) ++ [(b8 u.kind)]) ++ be4 (b32 u.label)) ++ be4 (b32 u.number)) ++ [(b8 ((u.load.length : Int) / 2 ^ 8))]) ++ [(b8 (u.load.length : Int))]) ++ (u.load ++ (List.replicate (roomOf u.kind) ((0 : UInt8) : UInt8)).drop u.load.length))).toNat : Int))).length) c13b] 174]) (own2 := [row (.slice A45_11 (((((((([] : List UInt8) ++ [(b8 u.kind)]) ++ be4 (b32 u.label)) ++ be4 (b32 u.number)) ++ [(b8 ((u.load.length : Int) / 2 ^ 8))]) ++ [(b8 (u.load.length : Int))]) ++ (u.load ++ (List.replicate (roomOf u.kind) ((0 : UInt8) : UInt8)).drop u.load.length)).length) c45_11) 5 1 (clr9_0 ++ (ys8 ++ (List.replicate (roomOf u.kind) (.int .u8 ((0 : UInt8).toNat : Int))).drop ys8.length)), blk g7 [.slice A9b ((((((([] : List UInt8) ++ [(b8 u.kind)]) ++ be4 (b32 u.label)) ++ be4 (b32 u.number)) ++ [(b8 ((u.load.length : Int) / 2 ^ 8))]) ++ [(b8 (u.load.length : Int))]).length) c9b] 174, row (.slice (some ⟨g37, 0, none⟩) (roomOf u.kind) (roomOf u.kind)) 5 1 (ys8 ++ (List.replicate (roomOf u.kind) (.int .u8 ((0 : UInt8).toNat : Int))).drop ys8.length), blk g1 [.int .i64 u.kind, .int .i64 u.label, .int .i64 u.number, .slice Au_3 u.load.length cu_3] 63]) (en_func rfl Tryz.call112 rfl) (c_code_Writer_Bytes _ g47 A13b c13b (([] : List UInt8) ++ be4 (b32 ((crc ((((((([] : List UInt8) ++ [(b8 u.kind)]) ++ be4 (b32 u.label)) ++ be4 (b32 u.number)) ++ [(b8 ((u.load.length : Int) / 2 ^ 8))]) ++ [(b8 (u.load.length : Int))]) ++ (u.load ++ (List.replicate (roomOf u.kind) ((0 : UInt8) : UInt8)).drop u.load.length))).toNat : Int))) hslJ15 (by first | omega | (simp [be4_len, roomOf_le]; done) | (simp [be4_len]; omega))) (permC (i := 0) rfl rfl (List.Perm.refl _)) rfl rfl (by decide) (fun J14 o14 v14 hleJ14 hq14 => ?_)
 obtain ⟨y14b, A14b, c14b, yr14_0, Ar14_0, cr14_0, clr14_0, e14b, er14_0, rfl, rfl, h14b, hr14_0⟩ := hq14
 obtain rfl : (([] : List UInt8) ++ be4 (b32 ((crc ((((((([] : List UInt8) ++ [(b8 u.kind)]) ++ be4 (b32 u.label)) ++ be4 (b32 u.number)) ++ [(b8 ((u.load.length : Int) / 2 ^ 8))]) ++ [(b8 (u.load.length : Int))]) ++ (u.load ++ (List.replicate (roomOf u.kind) ((0 : UInt8) : UInt8)).drop u.load.length))).toNat : Int))) = y14b := e14b.symm
 obtain rfl : (([] : List UInt8) ++ be4 (b32 ((crc ((((((([] : List UInt8) ++ [(b8 u.kind)]) ++ be4 (b32 u.label)) ++ be4 (b32 u.number)) ++ [(b8 ((u.load.length : Int) / 2 ^ 8))]) ++ [(b8 (u.load.length : Int))]) ++ (u.load ++ (List.replicate (roomOf u.kind) ((0 : UInt8) : UInt8)).drop u.load.length))).toNat : Int))) = yr14_0 := er14_0.symm
 have hall16 : tU8.all J14 ((clr9_0 ++ (ys8 ++ (List.replicate (roomOf u.kind) (.int .u8 ((0 : UInt8).toNat : Int))).drop ys8.length)) ++ clr14_0) (((((((([] : List UInt8) ++ [(b8 u.kind)]) ++ be4 (b32 u.label)) ++ be4 (b32 u.number)) ++ [(b8 ((u.load.length : Int) / 2 ^ 8))]) ++ [(b8 (u.load.length : Int))]) ++ (u.load ++ (List.replicate (roomOf u.kind) ((0 : UInt8) : UInt8)).drop u.load.length)) ++ (([] : List UInt8) ++ be4 (b32 ((crc ((((((([] : List UInt8) ++ [(b8 u.kind)]) ++ be4 (b32 u.label)) ++ be4 (b32 u.number)) ++ [(b8 ((u.load.length : Int) / 2 ^ 8))]) ++ [(b8 (u.load.length : Int))]) ++ (u.load ++ (List.replicate (roomOf u.kind) ((0 : UInt8) : UInt8)).drop u.load.length))).toNat : Int)))) := all_append (hall11.mono ((hleJ13.trans hleJ15).trans hleJ14)) hr14_0
 refine Run.append (by_ := 1) (ys := clr14_0) (k := (([] : List UInt8) ++ be4 (b32 ((crc ((((((([] : List UInt8) ++ [(b8 u.kind)]) ++ be4 (b32 u.label)) ++ be4 (b32 u.number)) ++ [(b8 ((u.load.length : Int) / 2 ^ 8))]) ++ [(b8 (u.load.length : Int))]) ++ (u.load ++ (List.replicate (roomOf u.kind) ((0 : UInt8) : UInt8)).drop u.load.length))).toNat : Int))).length) (own' := [blk g47 [.slice A14b ((([] : List UInt8) ++ be4 (b32 ((crc ((((((([] : List UInt8) ++ [(b8 u.kind)]) ++ be4 (b32 u.label)) ++ be4 (b32 u.number)) ++ [(b8 ((u.load.length : Int) / 2 ^ 8))]) ++ [(b8 (u.load.length : Int))]) ++ (u.load ++ (List.replicate (roomOf u.kind) ((0 : UInt8) : UInt8)).drop u.load.length))).toNat : Int))).length) c14b] 174, row (.slice Ar14_0 ((([] : List UInt8) ++ be4 (b32 ((crc ((((((([] : List UInt8) ++ [(b8 u.kind)]) ++ be4 (b32 u.label)) ++ be4 (b32 u.number)) ++ [(b8 ((u.load.length : Int) / 2 ^ 8))]) ++ [(b8 (u.load.length : Int))]) ++ (u.load ++ (List.replicate (roomOf u.kind) ((0 : UInt8) : UInt8)).drop u.load.length))).toNat : Int))).length) cr14_0) 5 1 clr14_0, blk g7 [.slice A9b ((((((([] : List UInt8) ++ [(b8 u.kind)]) ++ be4 (b32 u.label)) ++ be4 (b32 u.number)) ++ [(b8 ((u.load.length : Int) / 2 ^ 8))]) ++ [(b8 (u.load.length : Int))]).length) c9b] 174, row (.slice (some ⟨g37, 0, none⟩) (roomOf u.kind) (roomOf u.kind)) 5 1 (ys8 ++ (List.replicate (roomOf u.kind) (.int .u8 ((0 : UInt8).toNat : Int))).drop ys8.length), blk g1 [.int .i64 u.kind, .int .i64 u.label, .int .i64 u.number, .slice Au_3 u.load.length cu_3] 63]) 2 rfl rfl rfl Tryz.runUnderlying42 (.inl Tryz.runUnderlying42) Tryz.sizeOf5 Tryz.typeInfo5 rfl Tryz.zeroValue5 rfl rfl rfl (fun w hS => src_own hS (i := 1) rfl) (row_len hr14_0 rfl rfl) (all_one hr14_0) ((((((((([] : List UInt8) ++ [(b8 u.kind)]) ++ be4 (b32 u.label)) ++ be4 (b32 u.number)) ++ [(b8 ((u.load.length : Int) / 2 ^ 8))]) ++ [(b8 (u.load.length : Int))]) ++ (u.load ++ (List.replicate (roomOf u.kind) ((0 : UInt8) : UInt8)).drop u.load.length)) ++ (([] : List UInt8) ++ be4 (b32 ((crc ((((((([] : List UInt8) ++ [(b8 u.kind)]) ++ be4 (b32 u.label)) ++ be4 (b32 u.number)) ++ [(b8 ((u.load.length : Int) / 2 ^ 8))]) ++ [(b8 (u.load.length : Int))]) ++ (u.load ++ (List.replicate (roomOf u.kind) ((0 : UInt8) : UInt8)).drop u.load.length))).toNat : Int)))).length) (by first | (simp; done) | (simp; omega)) (by first | omega | (simp [be4_len, roomOf_le]; done) | (simp [be4_len]; omega)) (by simp [maxLen]; omega) rfl rfl (by decide) (fun A56_16 c56_16 => ?_)
 refine Run.as ?_
 refine Run.nx ?_
 refine RunC.ret ?_
 refine RunQ.weak Sub.refl (perm_take (i := 0) rfl (perm_nil _)) ?_
 refine RunQ.fin1 (.inl rfl) Tryz.results114 (rv_tmp rfl) ?_
 exact ⟨(((((((([] : List UInt8) ++ [(b8 u.kind)]) ++ be4 (b32 u.label)) ++ be4 (b32 u.number)) ++ [(b8 ((u.load.length : Int) / 2 ^ 8))]) ++ [(b8 (u.load.length : Int))]) ++ (u.load ++ (List.replicate (roomOf u.kind) ((0 : UInt8) : UInt8)).drop u.load.length)) ++ (([] : List UInt8) ++ be4 (b32 ((crc ((((((([] : List UInt8) ++ [(b8 u.kind)]) ++ be4 (b32 u.label)) ++ be4 (b32 u.number)) ++ [(b8 ((u.load.length : Int) / 2 ^ 8))]) ++ [(b8 (u.load.length : Int))]) ++ (u.load ++ (List.replicate (roomOf u.kind) ((0 : UInt8) : UInt8)).drop u.load.length))).toNat : Int)))), A56_16, c56_16, (clr9_0 ++ (ys8 ++ (List.replicate (roomOf u.kind) (.int .u8 ((0 : UInt8).toNat : Int))).drop ys8.length)) ++ clr14_0, (by rfl), rfl, rfl, hall16⟩

theorem c_frame_Put (I : Imm) {csu : List Value} (u : AUnit) (hu : tUnit.rd I csu u) : Con Tryz.prog 82 [.agg csu.toArray].toArray I [] (fun J o v => ∃ (yr0 : List UInt8) (Ar0 : Option Addr) (cr0 : Nat) (clr0 : List Value) (csr1 : List Value), yr0 = (if uCheck u = 0 then fMade u else []) ∧ o = [row (.slice Ar0 yr0.length cr0) 5 1 clr0] ∧ v = .tuple #[.slice Ar0 yr0.length cr0, (tInt.o).v csr1] ∧ tU8.all J clr0 yr0 ∧ tInt.rd J csr1 (uCheck u)) := by
 obtain ⟨Au_3, cu_3, rfl, fu_0, fu_1, fu_2, fu_3⟩ := hu
 have hsmu_3 := fu_3.small
 refine Con.enter (n := 12) (L := [(0, .agg [.int .i64 u.kind, .int .i64 u.label, .int .i64 u.number, .slice Au_3 u.load.length cu_3].toArray)]) Tryz.func82 rfl rfl (Nat.le_of_ble_eq_true rfl) rfl (fun E => ?_)
 refine RunC.sr ?_
 refine Run.box (cs := [.int .i64 u.kind, .int .i64 u.label, .int .i64 u.number, .slice Au_3 u.load.length cu_3]) rfl rfl rfl rfl rfl (by decide) (fun g1 => ?_)
 refine Run.as ?_
 refine Run.as ?_
 refine Run.nx ?_
 refine RunC.seq ?_
 refine RunC.sr ?_
 refine Run.m (v := .agg [.int .i64 u.kind, .int .i64 u.label, .int .i64 u.number, .slice Au_3 u.load.length cu_3].toArray) (y_loadBA 0 rfl Tryz.isAgg63 Tryz.sizeOf63 rfl rfl rfl rfl) ?_
 refine Run.callV (en_func rfl Tryz.call113 rfl) (conv_int (c_frame_check _ u ⟨_, _, rfl, fu_0, fu_1, fu_2, fu_3⟩)) rfl rfl (by decide) (fun hI1 => ?_)
 refine Run.as ?_
 refine Run.nx ?_
 refine RunC.sr ?_
 refine Run.mv ?_
 refine Run.m (v := .bool (decide ((uCheck u) ≠ 0))) (y_bin rfl rfl rfl bn_neq) ?_
 refine Run.nx ?_
 refine RunC.cond rfl (fun hc0 => ?_) (fun hc0 => ?_)
 ·
  try simp only [z1, z2, z3, z4, z5, z6, z7, z8, z9, z10, z11, z12, z13, z14, z15, z16] at hc0
  refine RunC.sr ?_
  refine Run.mv ?_
  refine Run.as ?_
  refine Run.as ?_
  refine Run.nx ?_
  refine RunC.ret ?_
  refine RunQ.pass (fun h => by cases h) ?_
  refine RunQ.nilrow none 5 1 ?_
  refine RunQ.weak Sub.refl (perm_take (i := 0) rfl (perm_nil _)) ?_
  refine RunQ.fin2 (.inl rfl) Tryz.results82 (rv_tmp rfl) (rv_tmp rfl) ?_
  exact ⟨([] : List UInt8), none, 0, [], _, (by simp_all), rfl, rfl, all_nil, (rd_eq (T := tInt) (x := (uCheck u)) ⟨rfl, hI1⟩ (by simp_all))⟩
 ·
  try simp only [z1, z2, z3, z4, z5, z6, z7, z8, z9, z10, z11, z12, z13, z14, z15, z16] at hc0
  refine RunC.skip ?_
  refine RunQ.next ?_
  refine RunC.sr ?_
  refine Run.m (v := .agg [.int .i64 u.kind, .int .i64 u.label, .int .i64 u.number, .slice Au_3 u.load.length cu_3].toArray) (y_loadBA 0 rfl Tryz.isAgg63 Tryz.sizeOf63 rfl rfl rfl rfl) ?_
  refine Run.call (own1 := []) (own2 := [blk g1 [.int .i64 u.kind, .int .i64 u.label, .int .i64 u.number, .slice Au_3 u.load.length cu_3] 63]) (en_func rfl Tryz.call114 rfl) (c_frame_made _ u ⟨_, _, rfl, fu_0, fu_1, fu_2, fu_3⟩ (by exact uCheck_le (by omega))) (List.Perm.refl _) rfl rfl (by decide) (fun J2 o2 v2 hleJ2 hq2 => ?_)
  obtain ⟨yr2_0, Ar2_0, cr2_0, clr2_0, er2_0, rfl, rfl, hr2_0⟩ := hq2
  obtain rfl : (fMade u) = yr2_0 := er2_0.symm
  refine Run.as ?_
  refine Run.as ?_
  refine Run.nx ?_
  refine RunC.ret ?_
  refine RunQ.weak Sub.refl (perm_take (i := 0) rfl (perm_nil _)) ?_
  refine RunQ.fin2 (.inl rfl) Tryz.results82 (rv_tmp rfl) (rv_tmp rfl) ?_
  exact ⟨(fMade u), Ar2_0, cr2_0, clr2_0, _, (by simp_all), rfl, rfl, hr2_0, (rd_eq (T := tInt) (x := 0) ⟨rfl, (by first | omega | (dsimp only; omega))⟩ (by simp_all))⟩

theorem c_frame_Get (I : Imm) {Ab : Option Addr} {cb : Nat} (b : List UInt8) (hb : Sl tU8 I Ab cb b) (hsz : b.length ≤ 1000000) : Con Tryz.prog 117 [.slice Ab b.length cb].toArray I [] (Ret2 (tUnit.g) (tInt.o) ((fGet b).1) ((fGet b).2)) := by
 have hsmb := hb.small
 refine Con.enter (n := 47) (L := [(0, .slice Ab b.length cb)]) Tryz.func117 rfl rfl (Nat.le_of_ble_eq_true rfl) rfl (fun E => ?_)
 refine RunC.sr ?_
 refine Run.alloc (cs := [.int .i64 0, .int .i64 0, .int .i64 0, .slice none 0 0]) rfl Tryz.zeroValue63 rfl rfl rfl (by decide) (fun g2_1 => ?_)
 refine Run.as ?_
 refine Run.nx ?_
 refine RunC.sr ?_
 refine Run.mv ?_
 refine Run.call (own1 := []) (own2 := [blk g2_1 [.int .i64 0, .int .i64 0, .int .i64 0, .slice none 0 0] 63]) (en_func rfl Tryz.call118 rfl) (c_code_NewReader _ b hb (by omega)) (List.Perm.refl _) rfl rfl (by decide) (fun J2 o2 v2 hleJ2 hq2 => ?_)
 obtain ⟨gr2_0, yr2_0_b, Ar2_0_b, cr2_0_b, er2_0_b, rfl, rfl, hr2_0_b⟩ := hq2
 obtain rfl : b = yr2_0_b := er2_0_b.symm
 refine Run.as ?_
 refine Run.nx ?_
 refine RunC.sr ?_
 refine Run.mv ?_
 refine Run.call (own1 := [blk gr2_0 [.slice Ar2_0_b b.length cr2_0_b, .bool false] 208]) (own2 := [blk g2_1 [.int .i64 0, .int .i64 0, .int .i64 0, .slice none 0 0] 63]) (en_func rfl Tryz.call120 rfl) (c_code_Reader_Byte _ gr2_0 Ar2_0_b cr2_0_b b hr2_0_b false hsz) (permC (i := 0) rfl rfl (List.Perm.refl _)) rfl rfl (by decide) (fun J3 o3 v3 hleJ3 hq3 => ?_)
 obtain ⟨y3b, A3b, c3b, y3bad, csr3_0, e3b, e3bad, rfl, rfl, h3b, hr3_0⟩ := hq3
 obtain rfl : (rdB 1 (b, false)).1 = y3b := e3b.symm
 obtain rfl : (rdB 1 (b, false)).2 = y3bad := e3bad.symm
 replace hr3_0 : tU8.rd J3 csr3_0 (u8at (rdV 1 (b, false))) := hr3_0
 obtain rfl := hr3_0
 refine Run.m (v := .int .i64 ((u8at (rdV 1 (b, false))).toNat : Int)) (y_conv rfl rfl (cv_int Tryz.underlying5 Tryz.underlying3 (wrap64_u8 _))) ?_
 refine Run.m (v := .agg [.int .i64 ((u8at (rdV 1 (b, false))).toNat : Int), .int .i64 0, .int .i64 0, .slice none 0 0].toArray) (y_build (vs := [(0, .int .i64 ((u8at (rdV 1 (b, false))).toNat : Int))]) rfl rfl (fun w => by simp [Instr.build, Tryz.zeroValue63, Tryz.runUnderlying63, Tryz.sizeOf3, Tryz.sizeOf42, Instr.fill, Value.cells])) ?_
 refine Run.alloc (cs := [.int .i64 0, .int .i64 0, .int .i64 0, .slice none 0 0]) rfl Tryz.zeroValue63 rfl rfl rfl (by decide) (fun g5_4 => ?_)
 refine Run.storeB (vs := [.int .i64 ((u8at (rdV 1 (b, false))).toNat : Int), .int .i64 0, .int .i64 0, .slice none 0 0]) (cs' := [.int .i64 ((u8at (rdV 1 (b, false))).toNat : Int), .int .i64 0, .int .i64 0, .slice none 0 0]) (own' := [blk gr2_0 [.slice A3b (((rdB 1 (b, false)).1).length) c3b, .bool ((rdB 1 (b, false)).2)] 208, blk g2_1 [.int .i64 0, .int .i64 0, .int .i64 0, .slice none 0 0] 63]) 0 rfl rfl rfl Tryz.sizeOf63 rfl rfl rfl rfl rfl (Nat.le_of_ble_eq_true rfl) rfl rfl rfl ?_
 refine Run.nx ?_
 refine RunC.sr ?_
 refine Run.mv ?_
 refine Run.call (own1 := [blk gr2_0 [.slice A3b (((rdB 1 (b, false)).1).length) c3b, .bool ((rdB 1 (b, false)).2)] 208]) (own2 := [blk g5_4 [.int .i64 ((u8at (rdV 1 (b, false))).toNat : Int), .int .i64 0, .int .i64 0, .slice none 0 0] 63, blk g2_1 [.int .i64 0, .int .i64 0, .int .i64 0, .slice none 0 0] 63]) (en_func rfl Tryz.call119 rfl) (c_code_Reader_Int _ gr2_0 A3b c3b ((rdB 1 (b, false)).1) h3b ((rdB 1 (b, false)).2) (Nat.le_trans (rdB_len _ _) (show (b, false).1.length ≤ 1000000 from hsz))) (permC (i := 1) rfl rfl (List.Perm.refl _)) rfl rfl (by decide) (fun J5 o5 v5 hleJ5 hq5 => ?_)
 obtain ⟨y5b, A5b, c5b, y5bad, csr5_0, e5b, e5bad, rfl, rfl, h5b, hr5_0⟩ := hq5
 obtain rfl : (rdB 4 (rdB 1 (b, false))).1 = y5b := e5b.symm
 obtain rfl : (rdB 4 (rdB 1 (b, false))).2 = y5bad := e5bad.symm
 replace hr5_0 : tInt.rd J5 csr5_0 ((rd4 (rdV 4 (rdB 1 (b, false)))).toNat : Int) := hr5_0
 obtain ⟨rfl, f5_0_0⟩ := hr5_0
 refine Run.m (v := .pointer (some ⟨g5_4, 1, none⟩)) (y_fieldAddr rfl rfl Tryz.runUnderlying63 rfl Tryz.sizeOf3 (by decide) rfl) ?_
 refine Run.storeB (vs := [.int .i64 ((rd4 (rdV 4 (rdB 1 (b, false)))).toNat : Int)]) (cs' := [.int .i64 ((u8at (rdV 1 (b, false))).toNat : Int), .int .i64 ((rd4 (rdV 4 (rdB 1 (b, false)))).toNat : Int), .int .i64 0, .slice none 0 0]) (own' := [blk gr2_0 [.slice A5b (((rdB 4 (rdB 1 (b, false))).1).length) c5b, .bool ((rdB 4 (rdB 1 (b, false))).2)] 208, blk g2_1 [.int .i64 0, .int .i64 0, .int .i64 0, .slice none 0 0] 63]) 1 rfl rfl rfl Tryz.sizeOf3 rfl rfl rfl rfl rfl (Nat.le_of_ble_eq_true rfl) rfl rfl rfl ?_
 refine Run.nx ?_
 refine RunC.sr ?_
 refine Run.mv ?_
 refine Run.call (own1 := [blk gr2_0 [.slice A5b (((rdB 4 (rdB 1 (b, false))).1).length) c5b, .bool ((rdB 4 (rdB 1 (b, false))).2)] 208]) (own2 := [blk g5_4 [.int .i64 ((u8at (rdV 1 (b, false))).toNat : Int), .int .i64 ((rd4 (rdV 4 (rdB 1 (b, false)))).toNat : Int), .int .i64 0, .slice none 0 0] 63, blk g2_1 [.int .i64 0, .int .i64 0, .int .i64 0, .slice none 0 0] 63]) (en_func rfl Tryz.call119 rfl) (c_code_Reader_Int _ gr2_0 A5b c5b ((rdB 4 (rdB 1 (b, false))).1) h5b ((rdB 4 (rdB 1 (b, false))).2) (Nat.le_trans (rdB_len _ _) (Nat.le_trans (rdB_len _ _) (show (b, false).1.length ≤ 1000000 from hsz)))) (permC (i := 1) rfl rfl (List.Perm.refl _)) rfl rfl (by decide) (fun J6 o6 v6 hleJ6 hq6 => ?_)
 obtain ⟨y6b, A6b, c6b, y6bad, csr6_0, e6b, e6bad, rfl, rfl, h6b, hr6_0⟩ := hq6
 obtain rfl : (rdB 4 (rdB 4 (rdB 1 (b, false)))).1 = y6b := e6b.symm
 obtain rfl : (rdB 4 (rdB 4 (rdB 1 (b, false)))).2 = y6bad := e6bad.symm
 replace hr6_0 : tInt.rd J6 csr6_0 ((rd4 (rdV 4 (rdB 4 (rdB 1 (b, false))))).toNat : Int) := hr6_0
 obtain ⟨rfl, f6_0_0⟩ := hr6_0
 refine Run.m (v := .pointer (some ⟨g5_4, 2, none⟩)) (y_fieldAddr rfl rfl Tryz.runUnderlying63 rfl Tryz.sizeOf3 (by decide) rfl) ?_
 refine Run.storeB (vs := [.int .i64 ((rd4 (rdV 4 (rdB 4 (rdB 1 (b, false))))).toNat : Int)]) (cs' := [.int .i64 ((u8at (rdV 1 (b, false))).toNat : Int), .int .i64 ((rd4 (rdV 4 (rdB 1 (b, false)))).toNat : Int), .int .i64 ((rd4 (rdV 4 (rdB 4 (rdB 1 (b, false))))).toNat : Int), .slice none 0 0]) (own' := [blk gr2_0 [.slice A6b (((rdB 4 (rdB 4 (rdB 1 (b, false)))).1).length) c6b, .bool ((rdB 4 (rdB 4 (rdB 1 (b, false)))).2)] 208, blk g2_1 [.int .i64 0, .int .i64 0, .int .i64 0, .slice none 0 0] 63]) 1 rfl rfl rfl Tryz.sizeOf3 rfl rfl rfl rfl rfl (Nat.le_of_ble_eq_true rfl) rfl rfl rfl ?_
 refine Run.nx ?_
 refine RunC.sr ?_
 refine Run.mv ?_
 refine Run.call (own1 := [blk gr2_0 [.slice A6b (((rdB 4 (rdB 4 (rdB 1 (b, false)))).1).length) c6b, .bool ((rdB 4 (rdB 4 (rdB 1 (b, false)))).2)] 208]) (own2 := [blk g5_4 [.int .i64 ((u8at (rdV 1 (b, false))).toNat : Int), .int .i64 ((rd4 (rdV 4 (rdB 1 (b, false)))).toNat : Int), .int .i64 ((rd4 (rdV 4 (rdB 4 (rdB 1 (b, false))))).toNat : Int), .slice none 0 0] 63, blk g2_1 [.int .i64 0, .int .i64 0, .int .i64 0, .slice none 0 0] 63]) (en_func rfl Tryz.call120 rfl) (c_code_Reader_Byte _ gr2_0 A6b c6b ((rdB 4 (rdB 4 (rdB 1 (b, false)))).1) h6b ((rdB 4 (rdB 4 (rdB 1 (b, false)))).2) (Nat.le_trans (rdB_len _ _) (Nat.le_trans (rdB_len _ _) (Nat.le_trans (rdB_len _ _) (show (b, false).1.length ≤ 1000000 from hsz))))) (permC (i := 1) rfl rfl (List.Perm.refl _)) rfl rfl (by decide) (fun J7 o7 v7 hleJ7 hq7 => ?_)
 obtain ⟨y7b, A7b, c7b, y7bad, csr7_0, e7b, e7bad, rfl, rfl, h7b, hr7_0⟩ := hq7
 obtain rfl : (rdB 1 (rdB 4 (rdB 4 (rdB 1 (b, false))))).1 = y7b := e7b.symm
 obtain rfl : (rdB 1 (rdB 4 (rdB 4 (rdB 1 (b, false))))).2 = y7bad := e7bad.symm
 replace hr7_0 : tU8.rd J7 csr7_0 (u8at (rdV 1 (rdB 4 (rdB 4 (rdB 1 (b, false)))))) := hr7_0
 obtain rfl := hr7_0
 refine Run.m (v := .int .i64 ((u8at (rdV 1 (rdB 4 (rdB 4 (rdB 1 (b, false)))))).toNat : Int)) (y_conv rfl rfl (cv_int Tryz.underlying5 Tryz.underlying3 (wrap64_u8 _))) ?_
 refine Run.m (v := .int .i64 (((u8at (rdV 1 (rdB 4 (rdB 4 (rdB 1 (b, false)))))).toNat * 256 : Nat) : Int)) (y_bin rfl rfl rfl (bn_shlB (a := (u8at (rdV 1 (rdB 4 (rdB 4 (rdB 1 (b, false))))))))) ?_
 refine Run.mv ?_
 refine Run.call (own1 := [blk gr2_0 [.slice A7b (((rdB 1 (rdB 4 (rdB 4 (rdB 1 (b, false))))).1).length) c7b, .bool ((rdB 1 (rdB 4 (rdB 4 (rdB 1 (b, false))))).2)] 208]) (own2 := [blk g5_4 [.int .i64 ((u8at (rdV 1 (b, false))).toNat : Int), .int .i64 ((rd4 (rdV 4 (rdB 1 (b, false)))).toNat : Int), .int .i64 ((rd4 (rdV 4 (rdB 4 (rdB 1 (b, false))))).toNat : Int), .slice none 0 0] 63, blk g2_1 [.int .i64 0, .int .i64 0, .int .i64 0, .slice none 0 0] 63]) (en_func rfl Tryz.call120 rfl) (c_code_Reader_Byte _ gr2_0 A7b c7b ((rdB 1 (rdB 4 (rdB 4 (rdB 1 (b, false))))).1) h7b ((rdB 1 (rdB 4 (rdB 4 (rdB 1 (b, false))))).2) (Nat.le_trans (rdB_len _ _) (Nat.le_trans (rdB_len _ _) (Nat.le_trans (rdB_len _ _) (Nat.le_trans (rdB_len _ _) (show (b, false).1.length ≤ 1000000 from hsz)))))) (permC (i := 0) rfl rfl (List.Perm.refl _)) rfl rfl (by decide) (fun J8 o8 v8 hleJ8 hq8 => ?_)
 obtain ⟨y8b, A8b, c8b, y8bad, csr8_0, e8b, e8bad, rfl, rfl, h8b, hr8_0⟩ := hq8
 obtain rfl : (rdB 1 (rdB 1 (rdB 4 (rdB 4 (rdB 1 (b, false)))))).1 = y8b := e8b.symm
 obtain rfl : (rdB 1 (rdB 1 (rdB 4 (rdB 4 (rdB 1 (b, false)))))).2 = y8bad := e8bad.symm
 replace hr8_0 : tU8.rd J8 csr8_0 (u8at (rdV 1 (rdB 1 (rdB 4 (rdB 4 (rdB 1 (b, false))))))) := hr8_0
 obtain rfl := hr8_0
 refine Run.m (v := .int .i64 ((u8at (rdV 1 (rdB 1 (rdB 4 (rdB 4 (rdB 1 (b, false))))))).toNat : Int)) (y_conv rfl rfl (cv_int Tryz.underlying5 Tryz.underlying3 (wrap64_u8 _))) ?_
 refine Run.m (v := .int .i64 (((u8at (rdV 1 (rdB 4 (rdB 4 (rdB 1 (b, false)))))).toNat * 256 + (u8at (rdV 1 (rdB 1 (rdB 4 (rdB 4 (rdB 1 (b, false))))))).toNat : Nat) : Int)) (y_bin rfl rfl rfl (bn_orB (a := (u8at (rdV 1 (rdB 4 (rdB 4 (rdB 1 (b, false))))))) (b := (u8at (rdV 1 (rdB 1 (rdB 4 (rdB 4 (rdB 1 (b, false)))))))))) ?_
 refine Run.as ?_
 refine Run.nx ?_
 refine RunC.sr ?_
 refine Run.mv ?_
 refine Run.mv ?_
 refine Run.call (own1 := [blk gr2_0 [.slice A8b (((rdB 1 (rdB 1 (rdB 4 (rdB 4 (rdB 1 (b, false)))))).1).length) c8b, .bool ((rdB 1 (rdB 1 (rdB 4 (rdB 4 (rdB 1 (b, false)))))).2)] 208]) (own2 := [blk g5_4 [.int .i64 ((u8at (rdV 1 (b, false))).toNat : Int), .int .i64 ((rd4 (rdV 4 (rdB 1 (b, false)))).toNat : Int), .int .i64 ((rd4 (rdV 4 (rdB 4 (rdB 1 (b, false))))).toNat : Int), .slice none 0 0] 63, blk g2_1 [.int .i64 0, .int .i64 0, .int .i64 0, .slice none 0 0] 63]) (en_func rfl Tryz.call146 rfl) (c_code_Reader_Raw _ gr2_0 A8b c8b ((rdB 1 (rdB 1 (rdB 4 (rdB 4 (rdB 1 (b, false)))))).1) h8b ((rdB 1 (rdB 1 (rdB 4 (rdB 4 (rdB 1 (b, false)))))).2) (((u8at (rdV 1 (rdB 4 (rdB 4 (rdB 1 (b, false)))))).toNat * 256 + (u8at (rdV 1 (rdB 1 (rdB 4 (rdB 4 (rdB 1 (b, false))))))).toNat : Nat) : Int) (Nat.le_trans (rdB_len _ _) (Nat.le_trans (rdB_len _ _) (Nat.le_trans (rdB_len _ _) (Nat.le_trans (rdB_len _ _) (Nat.le_trans (rdB_len _ _) (show (b, false).1.length ≤ 1000000 from hsz))))))) (permC (i := 0) rfl rfl (List.Perm.refl _)) rfl rfl (by decide) (fun J9 o9 v9 hleJ9 hq9 => ?_)
 obtain ⟨y9b, A9b, c9b, y9bad, csr9_0, e9b, e9bad, rfl, rfl, h9b, hr9_0⟩ := hq9
 obtain rfl : (rdB (((u8at (rdV 1 (rdB 4 (rdB 4 (rdB 1 (b, false)))))).toNat * 256 + (u8at (rdV 1 (rdB 1 (rdB 4 (rdB 4 (rdB 1 (b, false))))))).toNat : Nat) : Int).toNat (rdB 1 (rdB 1 (rdB 4 (rdB 4 (rdB 1 (b, false))))))).1 = y9b := e9b.symm
 obtain rfl : (rdB (((u8at (rdV 1 (rdB 4 (rdB 4 (rdB 1 (b, false)))))).toNat * 256 + (u8at (rdV 1 (rdB 1 (rdB 4 (rdB 4 (rdB 1 (b, false))))))).toNat : Nat) : Int).toNat (rdB 1 (rdB 1 (rdB 4 (rdB 4 (rdB 1 (b, false))))))).2 = y9bad := e9bad.symm
 replace hr9_0 : (tSl tU8).rd J9 csr9_0 (rdV (((u8at (rdV 1 (rdB 4 (rdB 4 (rdB 1 (b, false)))))).toNat * 256 + (u8at (rdV 1 (rdB 1 (rdB 4 (rdB 4 (rdB 1 (b, false))))))).toNat : Nat) : Int).toNat (rdB 1 (rdB 1 (rdB 4 (rdB 4 (rdB 1 (b, false))))))) := hr9_0
 obtain ⟨A9_0_0, c9_0_0, rfl, f9_0_0⟩ := hr9_0
 have hsm9_0_0 := f9_0_0.small
 refine Run.m (v := .pointer (some ⟨g5_4, 3, none⟩)) (y_fieldAddr rfl rfl Tryz.runUnderlying63 rfl Tryz.sizeOf42 (by decide) rfl) ?_
 refine Run.storeB (vs := [.slice A9_0_0 ((rdV (((u8at (rdV 1 (rdB 4 (rdB 4 (rdB 1 (b, false)))))).toNat * 256 + (u8at (rdV 1 (rdB 1 (rdB 4 (rdB 4 (rdB 1 (b, false))))))).toNat : Nat) : Int).toNat (rdB 1 (rdB 1 (rdB 4 (rdB 4 (rdB 1 (b, false))))))).length) c9_0_0]) (cs' := [.int .i64 ((u8at (rdV 1 (b, false))).toNat : Int), .int .i64 ((rd4 (rdV 4 (rdB 1 (b, false)))).toNat : Int), .int .i64 ((rd4 (rdV 4 (rdB 4 (rdB 1 (b, false))))).toNat : Int), .slice A9_0_0 ((rdV (((u8at (rdV 1 (rdB 4 (rdB 4 (rdB 1 (b, false)))))).toNat * 256 + (u8at (rdV 1 (rdB 1 (rdB 4 (rdB 4 (rdB 1 (b, false))))))).toNat : Nat) : Int).toNat (rdB 1 (rdB 1 (rdB 4 (rdB 4 (rdB 1 (b, false))))))).length) c9_0_0]) (own' := [blk gr2_0 [.slice A9b (((rdB (((u8at (rdV 1 (rdB 4 (rdB 4 (rdB 1 (b, false)))))).toNat * 256 + (u8at (rdV 1 (rdB 1 (rdB 4 (rdB 4 (rdB 1 (b, false))))))).toNat : Nat) : Int).toNat (rdB 1 (rdB 1 (rdB 4 (rdB 4 (rdB 1 (b, false))))))).1).length) c9b, .bool ((rdB (((u8at (rdV 1 (rdB 4 (rdB 4 (rdB 1 (b, false)))))).toNat * 256 + (u8at (rdV 1 (rdB 1 (rdB 4 (rdB 4 (rdB 1 (b, false))))))).toNat : Nat) : Int).toNat (rdB 1 (rdB 1 (rdB 4 (rdB 4 (rdB 1 (b, false))))))).2)] 208, blk g2_1 [.int .i64 0, .int .i64 0, .int .i64 0, .slice none 0 0] 63]) 1 rfl rfl rfl Tryz.sizeOf42 rfl rfl rfl rfl rfl (Nat.le_of_ble_eq_true rfl) rfl rfl rfl ?_
 refine Run.nx ?_
 refine RunC.seq ?_
 refine RunC.sr ?_
 refine Run.mv ?_
 refine Run.call (own1 := [blk gr2_0 [.slice A9b (((rdB (((u8at (rdV 1 (rdB 4 (rdB 4 (rdB 1 (b, false)))))).toNat * 256 + (u8at (rdV 1 (rdB 1 (rdB 4 (rdB 4 (rdB 1 (b, false))))))).toNat : Nat) : Int).toNat (rdB 1 (rdB 1 (rdB 4 (rdB 4 (rdB 1 (b, false))))))).1).length) c9b, .bool ((rdB (((u8at (rdV 1 (rdB 4 (rdB 4 (rdB 1 (b, false)))))).toNat * 256 + (u8at (rdV 1 (rdB 1 (rdB 4 (rdB 4 (rdB 1 (b, false))))))).toNat : Nat) : Int).toNat (rdB 1 (rdB 1 (rdB 4 (rdB 4 (rdB 1 (b, false))))))).2)] 208]) (own2 := [blk g5_4 [.int .i64 ((u8at (rdV 1 (b, false))).toNat : Int), .int .i64 ((rd4 (rdV 4 (rdB 1 (b, false)))).toNat : Int), .int .i64 ((rd4 (rdV 4 (rdB 4 (rdB 1 (b, false))))).toNat : Int), .slice A9_0_0 ((rdV (((u8at (rdV 1 (rdB 4 (rdB 4 (rdB 1 (b, false)))))).toNat * 256 + (u8at (rdV 1 (rdB 1 (rdB 4 (rdB 4 (rdB 1 (b, false))))))).toNat : Nat) : Int).toNat (rdB 1 (rdB 1 (rdB 4 (rdB 4 (rdB 1 (b, false))))))).length) c9_0_0] 63, blk g2_1 [.int .i64 0, .int .i64 0, .int .i64 0, .slice none 0 0] 63]) (en_func rfl Tryz.call122 rfl) (c_code_Reader_Bad _ gr2_0 A9b c9b ((rdB (((u8at (rdV 1 (rdB 4 (rdB 4 (rdB 1 (b, false)))))).toNat * 256 + (u8at (rdV 1 (rdB 1 (rdB 4 (rdB 4 (rdB 1 (b, false))))))).toNat : Nat) : Int).toNat (rdB 1 (rdB 1 (rdB 4 (rdB 4 (rdB 1 (b, false))))))).1) h9b ((rdB (((u8at (rdV 1 (rdB 4 (rdB 4 (rdB 1 (b, false)))))).toNat * 256 + (u8at (rdV 1 (rdB 1 (rdB 4 (rdB 4 (rdB 1 (b, false))))))).toNat : Nat) : Int).toNat (rdB 1 (rdB 1 (rdB 4 (rdB 4 (rdB 1 (b, false))))))).2) (Nat.le_trans (rdB_len _ _) (Nat.le_trans (rdB_len _ _) (Nat.le_trans (rdB_len _ _) (Nat.le_trans (rdB_len _ _) (Nat.le_trans (rdB_len _ _) (Nat.le_trans (rdB_len _ _) (show (b, false).1.length ≤ 1000000 from hsz)))))))) (permC (i := 1) rfl rfl (List.Perm.refl _)) rfl rfl (by decide) (fun J10 o10 v10 hleJ10 hq10 => ?_)
 obtain ⟨y10b, A10b, c10b, y10bad, csr10_0, e10b, e10bad, rfl, rfl, h10b, hr10_0⟩ := hq10
 obtain rfl : (rdB (((u8at (rdV 1 (rdB 4 (rdB 4 (rdB 1 (b, false)))))).toNat * 256 + (u8at (rdV 1 (rdB 1 (rdB 4 (rdB 4 (rdB 1 (b, false))))))).toNat : Nat) : Int).toNat (rdB 1 (rdB 1 (rdB 4 (rdB 4 (rdB 1 (b, false))))))).1 = y10b := e10b.symm
 obtain rfl : (rdB (((u8at (rdV 1 (rdB 4 (rdB 4 (rdB 1 (b, false)))))).toNat * 256 + (u8at (rdV 1 (rdB 1 (rdB 4 (rdB 4 (rdB 1 (b, false))))))).toNat : Nat) : Int).toNat (rdB 1 (rdB 1 (rdB 4 (rdB 4 (rdB 1 (b, false))))))).2 = y10bad := e10bad.symm
 replace hr10_0 : tBool.rd J10 csr10_0 ((rdB (((u8at (rdV 1 (rdB 4 (rdB 4 (rdB 1 (b, false)))))).toNat * 256 + (u8at (rdV 1 (rdB 1 (rdB 4 (rdB 4 (rdB 1 (b, false))))))).toNat : Nat) : Int).toNat (rdB 1 (rdB 1 (rdB 4 (rdB 4 (rdB 1 (b, false))))))).2) := hr10_0
 obtain rfl := hr10_0
 refine Run.mv ?_
 refine Run.split 4 rfl (b := ((rdB (((u8at (rdV 1 (rdB 4 (rdB 4 (rdB 1 (b, false)))))).toNat * 256 + (u8at (rdV 1 (rdB 1 (rdB 4 (rdB 4 (rdB 1 (b, false))))))).toNat : Nat) : Int).toNat (rdB 1 (rdB 1 (rdB 4 (rdB 4 (rdB 1 (b, false))))))).2)) (d := 37) (v := .bool (((rdB (((u8at (rdV 1 (rdB 4 (rdB 4 (rdB 1 (b, false)))))).toNat * 256 + (u8at (rdV 1 (rdB 1 (rdB 4 (rdB 4 (rdB 1 (b, false))))))).toNat : Nat) : Int).toNat (rdB 1 (rdB 1 (rdB 4 (rdB 4 (rdB 1 (b, false))))))).2) || (decide ((uCheck (⟨((u8at (rdV 1 (b, false))).toNat : Int), ((rd4 (rdV 4 (rdB 1 (b, false)))).toNat : Int), ((rd4 (rdV 4 (rdB 4 (rdB 1 (b, false))))).toNat : Int), (rdV (((u8at (rdV 1 (rdB 4 (rdB 4 (rdB 1 (b, false)))))).toNat * 256 + (u8at (rdV 1 (rdB 1 (rdB 4 (rdB 4 (rdB 1 (b, false))))))).toNat : Nat) : Int).toNat (rdB 1 (rdB 1 (rdB 4 (rdB 4 (rdB 1 (b, false)))))))⟩ : AUnit)) ≠ 0)))) (fun hb33 K33 => ?_) (fun hb33 K33 => ?_) ?_
 ·
  have hc1033 := hb33; try simp only [z1, z2, z3, z4, z5, z6, z7, z8, z9, z10, z11, z12, z13, z14, z15, z16] at hc1033
  refine Run.no rfl rfl rfl rfl (hb33) rfl (by decide) ?_
  refine Run.no rfl rfl rfl rfl (hb33) rfl (by decide) ?_
  refine Run.no rfl rfl rfl rfl (hb33) rfl (by decide) ?_
  refine Run.y (y_pickB rfl rfl (hb33) rfl) rfl rfl (by decide) ?_
  exact K33 _ _ _ (Imm.le.refl _) (by rw [hb33]; simp) (Sub.tl 3 rfl rfl)
 ·
  have hc1033 := hb33; try simp only [z1, z2, z3, z4, z5, z6, z7, z8, z9, z10, z11, z12, z13, z14, z15, z16] at hc1033
  refine Run.yes (v := .agg [.int .i64 ((u8at (rdV 1 (b, false))).toNat : Int), .int .i64 ((rd4 (rdV 4 (rdB 1 (b, false)))).toNat : Int), .int .i64 ((rd4 (rdV 4 (rdB 4 (rdB 1 (b, false))))).toNat : Int), .slice A9_0_0 ((rdV (((u8at (rdV 1 (rdB 4 (rdB 4 (rdB 1 (b, false)))))).toNat * 256 + (u8at (rdV 1 (rdB 1 (rdB 4 (rdB 4 (rdB 1 (b, false))))))).toNat : Nat) : Int).toNat (rdB 1 (rdB 1 (rdB 4 (rdB 4 (rdB 1 (b, false))))))).length) c9_0_0].toArray) (y_loadBA 1 rfl Tryz.isAgg63 Tryz.sizeOf63 rfl rfl rfl rfl) rfl rfl rfl rfl (hb33) rfl (by decide) ?_
  refine Run.callVYes (en_func rfl Tryz.call113 rfl) (conv_int (c_frame_check _ (⟨((u8at (rdV 1 (b, false))).toNat : Int), ((rd4 (rdV 4 (rdB 1 (b, false)))).toNat : Int), ((rd4 (rdV 4 (rdB 4 (rdB 1 (b, false))))).toNat : Int), (rdV (((u8at (rdV 1 (rdB 4 (rdB 4 (rdB 1 (b, false)))))).toNat * 256 + (u8at (rdV 1 (rdB 1 (rdB 4 (rdB 4 (rdB 1 (b, false))))))).toNat : Nat) : Int).toNat (rdB 1 (rdB 1 (rdB 4 (rdB 4 (rdB 1 (b, false)))))))⟩ : AUnit) ⟨_, _, rfl, (i64_u8 _), f5_0_0, f6_0_0, (f9_0_0.mono hleJ10)⟩)) rfl rfl rfl rfl (hb33) rfl (by decide) (fun hI11 => ?_)
  refine Run.yes (v := .bool (decide ((uCheck (⟨((u8at (rdV 1 (b, false))).toNat : Int), ((rd4 (rdV 4 (rdB 1 (b, false)))).toNat : Int), ((rd4 (rdV 4 (rdB 4 (rdB 1 (b, false))))).toNat : Int), (rdV (((u8at (rdV 1 (rdB 4 (rdB 4 (rdB 1 (b, false)))))).toNat * 256 + (u8at (rdV 1 (rdB 1 (rdB 4 (rdB 4 (rdB 1 (b, false))))))).toNat : Nat) : Int).toNat (rdB 1 (rdB 1 (rdB 4 (rdB 4 (rdB 1 (b, false)))))))⟩ : AUnit)) ≠ 0))) (y_bin rfl rfl rfl bn_neq) rfl rfl rfl rfl (hb33) rfl (by decide) ?_
  refine Run.y (y_pickB rfl rfl (hb33) rfl) rfl rfl (by decide) ?_
  exact K33 _ _ _ (Imm.le.refl _) (by rw [hb33]; simp) (Sub.tl 3 rfl rfl)
 refine Run.mv ?_
 refine Run.split 6 rfl (b := (((rdB (((u8at (rdV 1 (rdB 4 (rdB 4 (rdB 1 (b, false)))))).toNat * 256 + (u8at (rdV 1 (rdB 1 (rdB 4 (rdB 4 (rdB 1 (b, false))))))).toNat : Nat) : Int).toNat (rdB 1 (rdB 1 (rdB 4 (rdB 4 (rdB 1 (b, false))))))).2) || (decide ((uCheck (⟨((u8at (rdV 1 (b, false))).toNat : Int), ((rd4 (rdV 4 (rdB 1 (b, false)))).toNat : Int), ((rd4 (rdV 4 (rdB 4 (rdB 1 (b, false))))).toNat : Int), (rdV (((u8at (rdV 1 (rdB 4 (rdB 4 (rdB 1 (b, false)))))).toNat * 256 + (u8at (rdV 1 (rdB 1 (rdB 4 (rdB 4 (rdB 1 (b, false))))))).toNat : Nat) : Int).toNat (rdB 1 (rdB 1 (rdB 4 (rdB 4 (rdB 1 (b, false)))))))⟩ : AUnit)) ≠ 0)))) (d := 44) (v := .bool ((((rdB (((u8at (rdV 1 (rdB 4 (rdB 4 (rdB 1 (b, false)))))).toNat * 256 + (u8at (rdV 1 (rdB 1 (rdB 4 (rdB 4 (rdB 1 (b, false))))))).toNat : Nat) : Int).toNat (rdB 1 (rdB 1 (rdB 4 (rdB 4 (rdB 1 (b, false))))))).2) || (decide ((uCheck (⟨((u8at (rdV 1 (b, false))).toNat : Int), ((rd4 (rdV 4 (rdB 1 (b, false)))).toNat : Int), ((rd4 (rdV 4 (rdB 4 (rdB 1 (b, false))))).toNat : Int), (rdV (((u8at (rdV 1 (rdB 4 (rdB 4 (rdB 1 (b, false)))))).toNat * 256 + (u8at (rdV 1 (rdB 1 (rdB 4 (rdB 4 (rdB 1 (b, false))))))).toNat : Nat) : Int).toNat (rdB 1 (rdB 1 (rdB 4 (rdB 4 (rdB 1 (b, false)))))))⟩ : AUnit)) ≠ 0))) || (!(decide (b = (fMade (⟨((u8at (rdV 1 (b, false))).toNat : Int), ((rd4 (rdV 4 (rdB 1 (b, false)))).toNat : Int), ((rd4 (rdV 4 (rdB 4 (rdB 1 (b, false))))).toNat : Int), (rdV (((u8at (rdV 1 (rdB 4 (rdB 4 (rdB 1 (b, false)))))).toNat * 256 + (u8at (rdV 1 (rdB 1 (rdB 4 (rdB 4 (rdB 1 (b, false))))))).toNat : Nat) : Int).toNat (rdB 1 (rdB 1 (rdB 4 (rdB 4 (rdB 1 (b, false)))))))⟩ : AUnit))))))) (fun hb38 K38 => ?_) (fun hb38 K38 => ?_) ?_
 ·
  have hc1038 := hb38; try simp only [z1, z2, z3, z4, z5, z6, z7, z8, z9, z10, z11, z12, z13, z14, z15, z16] at hc1038
  refine Run.no rfl rfl rfl rfl (hb38) rfl (by decide) ?_
  refine Run.no rfl rfl rfl rfl (hb38) rfl (by decide) ?_
  refine Run.no rfl rfl rfl rfl (hb38) rfl (by decide) ?_
  refine Run.no rfl rfl rfl rfl (hb38) rfl (by decide) ?_
  refine Run.no rfl rfl rfl rfl (hb38) rfl (by decide) ?_
  refine Run.y (y_pickB rfl rfl (hb38) rfl) rfl rfl (by decide) ?_
  exact K38 _ _ _ (Imm.le.refl _) (by rw [hb38]; simp) (Sub.tl 5 rfl rfl)
 ·
  have hc1038 := hb38; try simp only [z1, z2, z3, z4, z5, z6, z7, z8, z9, z10, z11, z12, z13, z14, z15, z16] at hc1038
  refine Run.yes (v := .slice Ab b.length cb) (y_move rfl rfl) rfl rfl rfl rfl (hb38) rfl (by decide) ?_
  refine Run.yes (v := .agg [.int .i64 ((u8at (rdV 1 (b, false))).toNat : Int), .int .i64 ((rd4 (rdV 4 (rdB 1 (b, false)))).toNat : Int), .int .i64 ((rd4 (rdV 4 (rdB 4 (rdB 1 (b, false))))).toNat : Int), .slice A9_0_0 ((rdV (((u8at (rdV 1 (rdB 4 (rdB 4 (rdB 1 (b, false)))))).toNat * 256 + (u8at (rdV 1 (rdB 1 (rdB 4 (rdB 4 (rdB 1 (b, false))))))).toNat : Nat) : Int).toNat (rdB 1 (rdB 1 (rdB 4 (rdB 4 (rdB 1 (b, false))))))).length) c9_0_0].toArray) (y_loadBA 1 rfl Tryz.isAgg63 Tryz.sizeOf63 rfl rfl rfl rfl) rfl rfl rfl rfl (hb38) rfl (by decide) ?_
  refine Run.callGY (own1 := []) (own2 := [blk gr2_0 [.slice A10b (((rdB (((u8at (rdV 1 (rdB 4 (rdB 4 (rdB 1 (b, false)))))).toNat * 256 + (u8at (rdV 1 (rdB 1 (rdB 4 (rdB 4 (rdB 1 (b, false))))))).toNat : Nat) : Int).toNat (rdB 1 (rdB 1 (rdB 4 (rdB 4 (rdB 1 (b, false))))))).1).length) c10b, .bool ((rdB (((u8at (rdV 1 (rdB 4 (rdB 4 (rdB 1 (b, false)))))).toNat * 256 + (u8at (rdV 1 (rdB 1 (rdB 4 (rdB 4 (rdB 1 (b, false))))))).toNat : Nat) : Int).toNat (rdB 1 (rdB 1 (rdB 4 (rdB 4 (rdB 1 (b, false))))))).2)] 208, blk g5_4 [.int .i64 ((u8at (rdV 1 (b, false))).toNat : Int), .int .i64 ((rd4 (rdV 4 (rdB 1 (b, false)))).toNat : Int), .int .i64 ((rd4 (rdV 4 (rdB 4 (rdB 1 (b, false))))).toNat : Int), .slice A9_0_0 ((rdV (((u8at (rdV 1 (rdB 4 (rdB 4 (rdB 1 (b, false)))))).toNat * 256 + (u8at (rdV 1 (rdB 1 (rdB 4 (rdB 4 (rdB 1 (b, false))))))).toNat : Nat) : Int).toNat (rdB 1 (rdB 1 (rdB 4 (rdB 4 (rdB 1 (b, false))))))).length) c9_0_0] 63, blk g2_1 [.int .i64 0, .int .i64 0, .int .i64 0, .slice none 0 0] 63]) (en_func rfl Tryz.call114 rfl) (c_frame_made _ (⟨((u8at (rdV 1 (b, false))).toNat : Int), ((rd4 (rdV 4 (rdB 1 (b, false)))).toNat : Int), ((rd4 (rdV 4 (rdB 4 (rdB 1 (b, false))))).toNat : Int), (rdV (((u8at (rdV 1 (rdB 4 (rdB 4 (rdB 1 (b, false)))))).toNat * 256 + (u8at (rdV 1 (rdB 1 (rdB 4 (rdB 4 (rdB 1 (b, false))))))).toNat : Nat) : Int).toNat (rdB 1 (rdB 1 (rdB 4 (rdB 4 (rdB 1 (b, false)))))))⟩ : AUnit) ⟨_, _, rfl, (i64_u8 _), f5_0_0, f6_0_0, (f9_0_0.mono hleJ10)⟩ (uCheck_le hc1038.2)) (List.Perm.refl _) rfl rfl rfl rfl (hb38) rfl (by decide) (fun J12 o12 v12 hleJ12 hq12 => ?_)
  obtain ⟨yr12_0, Ar12_0, cr12_0, clr12_0, er12_0, rfl, rfl, hr12_0⟩ := hq12
  obtain rfl : (fMade (⟨((u8at (rdV 1 (b, false))).toNat : Int), ((rd4 (rdV 4 (rdB 1 (b, false)))).toNat : Int), ((rd4 (rdV 4 (rdB 4 (rdB 1 (b, false))))).toNat : Int), (rdV (((u8at (rdV 1 (rdB 4 (rdB 4 (rdB 1 (b, false)))))).toNat * 256 + (u8at (rdV 1 (rdB 1 (rdB 4 (rdB 4 (rdB 1 (b, false))))))).toNat : Nat) : Int).toNat (rdB 1 (rdB 1 (rdB 4 (rdB 4 (rdB 1 (b, false)))))))⟩ : AUnit)) = yr12_0 := er12_0.symm
  refine Run.callVBYes (en_func rfl Tryz.call147 rfl) (Bor.row (own' := [blk gr2_0 [.slice A10b (((rdB (((u8at (rdV 1 (rdB 4 (rdB 4 (rdB 1 (b, false)))))).toNat * 256 + (u8at (rdV 1 (rdB 1 (rdB 4 (rdB 4 (rdB 1 (b, false))))))).toNat : Nat) : Int).toNat (rdB 1 (rdB 1 (rdB 4 (rdB 4 (rdB 1 (b, false))))))).1).length) c10b, .bool ((rdB (((u8at (rdV 1 (rdB 4 (rdB 4 (rdB 1 (b, false)))))).toNat * 256 + (u8at (rdV 1 (rdB 1 (rdB 4 (rdB 4 (rdB 1 (b, false))))))).toNat : Nat) : Int).toNat (rdB 1 (rdB 1 (rdB 4 (rdB 4 (rdB 1 (b, false))))))).2)] 208, blk g5_4 [.int .i64 ((u8at (rdV 1 (b, false))).toNat : Int), .int .i64 ((rd4 (rdV 4 (rdB 1 (b, false)))).toNat : Int), .int .i64 ((rd4 (rdV 4 (rdB 4 (rdB 1 (b, false))))).toNat : Int), .slice A9_0_0 ((rdV (((u8at (rdV 1 (rdB 4 (rdB 4 (rdB 1 (b, false)))))).toNat * 256 + (u8at (rdV 1 (rdB 1 (rdB 4 (rdB 4 (rdB 1 (b, false))))))).toNat : Nat) : Int).toNat (rdB 1 (rdB 1 (rdB 4 (rdB 4 (rdB 1 (b, false))))))).length) c9_0_0] 63, blk g2_1 [.int .i64 0, .int .i64 0, .int .i64 0, .slice none 0 0] 63]) 0 rfl rfl (fun Jb13_0 hleJb13_0 hb13_0 => Bor.base (conv_bool (c_slices_Equal_byte_byte _ b (hb.mono (((((((((hleJ2.trans hleJ3).trans hleJ5).trans hleJ6).trans hleJ7).trans hleJ8).trans hleJ9).trans hleJ10).trans hleJ12).trans hleJb13_0)) (fMade (⟨((u8at (rdV 1 (b, false))).toNat : Int), ((rd4 (rdV 4 (rdB 1 (b, false)))).toNat : Int), ((rd4 (rdV 4 (rdB 4 (rdB 1 (b, false))))).toNat : Int), (rdV (((u8at (rdV 1 (rdB 4 (rdB 4 (rdB 1 (b, false)))))).toNat * 256 + (u8at (rdV 1 (rdB 1 (rdB 4 (rdB 4 (rdB 1 (b, false))))))).toNat : Nat) : Int).toNat (rdB 1 (rdB 1 (rdB 4 (rdB 4 (rdB 1 (b, false)))))))⟩ : AUnit)) (Sl.of_rowN hb13_0 rfl rfl (hr12_0.mono hleJb13_0)))))) rfl rfl rfl rfl (hb38) rfl (by decide) (fun hI13 => ?_)
  refine Run.yes (v := .bool (!(decide (b = (fMade (⟨((u8at (rdV 1 (b, false))).toNat : Int), ((rd4 (rdV 4 (rdB 1 (b, false)))).toNat : Int), ((rd4 (rdV 4 (rdB 4 (rdB 1 (b, false))))).toNat : Int), (rdV (((u8at (rdV 1 (rdB 4 (rdB 4 (rdB 1 (b, false)))))).toNat * 256 + (u8at (rdV 1 (rdB 1 (rdB 4 (rdB 4 (rdB 1 (b, false))))))).toNat : Nat) : Int).toNat (rdB 1 (rdB 1 (rdB 4 (rdB 4 (rdB 1 (b, false)))))))⟩ : AUnit)))))) (y_not (b := (decide (b = (fMade (⟨((u8at (rdV 1 (b, false))).toNat : Int), ((rd4 (rdV 4 (rdB 1 (b, false)))).toNat : Int), ((rd4 (rdV 4 (rdB 4 (rdB 1 (b, false))))).toNat : Int), (rdV (((u8at (rdV 1 (rdB 4 (rdB 4 (rdB 1 (b, false)))))).toNat * 256 + (u8at (rdV 1 (rdB 1 (rdB 4 (rdB 4 (rdB 1 (b, false))))))).toNat : Nat) : Int).toNat (rdB 1 (rdB 1 (rdB 4 (rdB 4 (rdB 1 (b, false)))))))⟩ : AUnit))))) rfl rfl) rfl rfl rfl rfl (hb38) rfl (by decide) ?_
  refine Run.y (y_pickB rfl rfl (hb38) rfl) rfl rfl (by decide) ?_
  refine Run.weak Sub.refl (perm_take (i := 1) rfl (perm_take (i := 1) rfl (perm_take (i := 1) rfl (perm_nil _)))) ?_
  exact K38 _ _ _ hleJ12 (by rw [hb38]; simp) (Sub.tl 5 rfl rfl)
 refine Run.nx ?_
 refine RunC.cond rfl (fun hc0 => ?_) (fun hc0 => ?_)
 ·
  try simp only [z1, z2, z3, z4, z5, z6, z7, z8, z9, z10, z11, z12, z13, z14, z15, z16] at hc0
  refine RunC.sr ?_
  refine Run.m (v := .agg [.int .i64 0, .int .i64 0, .int .i64 0, .slice none 0 0].toArray) (y_build (vs := []) rfl rfl (fun w => by simp [Instr.build, Tryz.zeroValue63, Tryz.runUnderlying63, Tryz.sizeOf3, Tryz.sizeOf42, Instr.fill, Value.cells])) ?_
  refine Run.storeB (vs := [.int .i64 0, .int .i64 0, .int .i64 0, .slice none 0 0]) (cs' := [.int .i64 0, .int .i64 0, .int .i64 0, .slice none 0 0]) (own' := [blk gr2_0 [.slice A10b (((rdB (((u8at (rdV 1 (rdB 4 (rdB 4 (rdB 1 (b, false)))))).toNat * 256 + (u8at (rdV 1 (rdB 1 (rdB 4 (rdB 4 (rdB 1 (b, false))))))).toNat : Nat) : Int).toNat (rdB 1 (rdB 1 (rdB 4 (rdB 4 (rdB 1 (b, false))))))).1).length) c10b, .bool ((rdB (((u8at (rdV 1 (rdB 4 (rdB 4 (rdB 1 (b, false)))))).toNat * 256 + (u8at (rdV 1 (rdB 1 (rdB 4 (rdB 4 (rdB 1 (b, false))))))).toNat : Nat) : Int).toNat (rdB 1 (rdB 1 (rdB 4 (rdB 4 (rdB 1 (b, false))))))).2)] 208, blk g5_4 [.int .i64 ((u8at (rdV 1 (b, false))).toNat : Int), .int .i64 ((rd4 (rdV 4 (rdB 1 (b, false)))).toNat : Int), .int .i64 ((rd4 (rdV 4 (rdB 4 (rdB 1 (b, false))))).toNat : Int), .slice A9_0_0 ((rdV (((u8at (rdV 1 (rdB 4 (rdB 4 (rdB 1 (b, false)))))).toNat * 256 + (u8at (rdV 1 (rdB 1 (rdB 4 (rdB 4 (rdB 1 (b, false))))))).toNat : Nat) : Int).toNat (rdB 1 (rdB 1 (rdB 4 (rdB 4 (rdB 1 (b, false))))))).length) c9_0_0] 63]) 2 rfl rfl rfl Tryz.sizeOf63 rfl rfl rfl rfl rfl (Nat.le_of_ble_eq_true rfl) rfl rfl rfl ?_
  refine Run.as ?_
  refine Run.nx ?_
  refine RunC.weak (L' := [(2, .pointer (some ⟨g2_1, 0, none⟩)), (5, .pointer (some ⟨g5_4, 0, none⟩)), (3, .int .i64 2)]) (Sub.of rfl) (perm_self _) ?_
  refine RunC.ret ?_
  refine RunQ.pass (fun h => by cases h) ?_
  refine RunQ.end2 (.inl rfl) Tryz.results117 (rv_cellA (i := 0) rfl Tryz.isAgg63 Tryz.sizeOf63 rfl rfl) (rv_tmp rfl) ?_
  exact ⟨rfl, _, _, rfl, (rd_eq (T := tUnit) (x := (⟨0, 0, 0, ([] : List UInt8)⟩ : AUnit)) ⟨_, _, rfl, (by first | omega | (dsimp only; omega)), (by first | omega | (dsimp only; omega)), (by first | omega | (dsimp only; omega)), sl_nil0⟩ (by first | (rw [fGet_bad hc0] <;> rfl) | (rw [fGet_ok hc0] <;> rfl))), (rd_eq (T := tInt) (x := 2) ⟨rfl, (by first | omega | (dsimp only; omega))⟩ (by first | (rw [fGet_bad hc0] <;> rfl) | (rw [fGet_ok hc0] <;> rfl)))⟩
 ·
  try simp only [z1, z2, z3, z4, z5, z6, z7, z8, z9, z10, z11, z12, z13, z14, z15, z16] at hc0
  refine RunC.skip ?_
  refine RunQ.next ?_
  refine RunC.sr ?_
  refine Run.m (v := .agg [.int .i64 ((u8at (rdV 1 (b, false))).toNat : Int), .int .i64 ((rd4 (rdV 4 (rdB 1 (b, false)))).toNat : Int), .int .i64 ((rd4 (rdV 4 (rdB 4 (rdB 1 (b, false))))).toNat : Int), .slice A9_0_0 ((rdV (((u8at (rdV 1 (rdB 4 (rdB 4 (rdB 1 (b, false)))))).toNat * 256 + (u8at (rdV 1 (rdB 1 (rdB 4 (rdB 4 (rdB 1 (b, false))))))).toNat : Nat) : Int).toNat (rdB 1 (rdB 1 (rdB 4 (rdB 4 (rdB 1 (b, false))))))).length) c9_0_0].toArray) (y_loadBA 1 rfl Tryz.isAgg63 Tryz.sizeOf63 rfl rfl rfl rfl) ?_
  refine Run.storeB (vs := [.int .i64 ((u8at (rdV 1 (b, false))).toNat : Int), .int .i64 ((rd4 (rdV 4 (rdB 1 (b, false)))).toNat : Int), .int .i64 ((rd4 (rdV 4 (rdB 4 (rdB 1 (b, false))))).toNat : Int), .slice A9_0_0 ((rdV (((u8at (rdV 1 (rdB 4 (rdB 4 (rdB 1 (b, false)))))).toNat * 256 + (u8at (rdV 1 (rdB 1 (rdB 4 (rdB 4 (rdB 1 (b, false))))))).toNat : Nat) : Int).toNat (rdB 1 (rdB 1 (rdB 4 (rdB 4 (rdB 1 (b, false))))))).length) c9_0_0]) (cs' := [.int .i64 ((u8at (rdV 1 (b, false))).toNat : Int), .int .i64 ((rd4 (rdV 4 (rdB 1 (b, false)))).toNat : Int), .int .i64 ((rd4 (rdV 4 (rdB 4 (rdB 1 (b, false))))).toNat : Int), .slice A9_0_0 ((rdV (((u8at (rdV 1 (rdB 4 (rdB 4 (rdB 1 (b, false)))))).toNat * 256 + (u8at (rdV 1 (rdB 1 (rdB 4 (rdB 4 (rdB 1 (b, false))))))).toNat : Nat) : Int).toNat (rdB 1 (rdB 1 (rdB 4 (rdB 4 (rdB 1 (b, false))))))).length) c9_0_0]) (own' := [blk gr2_0 [.slice A10b (((rdB (((u8at (rdV 1 (rdB 4 (rdB 4 (rdB 1 (b, false)))))).toNat * 256 + (u8at (rdV 1 (rdB 1 (rdB 4 (rdB 4 (rdB 1 (b, false))))))).toNat : Nat) : Int).toNat (rdB 1 (rdB 1 (rdB 4 (rdB 4 (rdB 1 (b, false))))))).1).length) c10b, .bool ((rdB (((u8at (rdV 1 (rdB 4 (rdB 4 (rdB 1 (b, false)))))).toNat * 256 + (u8at (rdV 1 (rdB 1 (rdB 4 (rdB 4 (rdB 1 (b, false))))))).toNat : Nat) : Int).toNat (rdB 1 (rdB 1 (rdB 4 (rdB 4 (rdB 1 (b, false))))))).2)] 208, blk g5_4 [.int .i64 ((u8at (rdV 1 (b, false))).toNat : Int), .int .i64 ((rd4 (rdV 4 (rdB 1 (b, false)))).toNat : Int), .int .i64 ((rd4 (rdV 4 (rdB 4 (rdB 1 (b, false))))).toNat : Int), .slice A9_0_0 ((rdV (((u8at (rdV 1 (rdB 4 (rdB 4 (rdB 1 (b, false)))))).toNat * 256 + (u8at (rdV 1 (rdB 1 (rdB 4 (rdB 4 (rdB 1 (b, false))))))).toNat : Nat) : Int).toNat (rdB 1 (rdB 1 (rdB 4 (rdB 4 (rdB 1 (b, false))))))).length) c9_0_0] 63]) 2 rfl rfl rfl Tryz.sizeOf63 rfl rfl rfl rfl rfl (Nat.le_of_ble_eq_true rfl) rfl rfl rfl ?_
  refine Run.as ?_
  refine Run.nx ?_
  refine RunC.weak (L' := [(2, .pointer (some ⟨g2_1, 0, none⟩)), (3, .int .i64 0)]) (Sub.of rfl) (perm_self _) ?_
  refine RunC.ret ?_
  refine RunQ.end2 (.inl rfl) Tryz.results117 (rv_cellA (i := 0) rfl Tryz.isAgg63 Tryz.sizeOf63 rfl rfl) (rv_tmp rfl) ?_
  exact ⟨rfl, _, _, rfl, (rd_eq (T := tUnit) (x := (⟨((u8at (rdV 1 (b, false))).toNat : Int), ((rd4 (rdV 4 (rdB 1 (b, false)))).toNat : Int), ((rd4 (rdV 4 (rdB 4 (rdB 1 (b, false))))).toNat : Int), (rdV (((u8at (rdV 1 (rdB 4 (rdB 4 (rdB 1 (b, false)))))).toNat * 256 + (u8at (rdV 1 (rdB 1 (rdB 4 (rdB 4 (rdB 1 (b, false))))))).toNat : Nat) : Int).toNat (rdB 1 (rdB 1 (rdB 4 (rdB 4 (rdB 1 (b, false)))))))⟩ : AUnit)) ⟨_, _, rfl, (i64_u8 _), f5_0_0, f6_0_0, (f9_0_0.mono hleJ10)⟩ (by first | (rw [fGet_bad hc0] <;> rfl) | (rw [fGet_ok hc0] <;> rfl))), (rd_eq (T := tInt) (x := 0) ⟨rfl, (by first | omega | (dsimp only; omega))⟩ (by first | (rw [fGet_bad hc0] <;> rfl) | (rw [fGet_ok hc0] <;> rfl)))⟩
end Go.Proofs.YtmelbclhkkbmiaaGreat.K
