/- Contracts of functions of the program, each proved by a walk through its operations, for all memory and all arguments that the theorem names. Printed by a program of mine. -/
import Derived.Test.YtmelbclhkkbmiaaGreatF7
import Derived.Test.YtmelbclhkkbmiaaGreatSp5
set_option linter.unusedVariables false
set_option linter.unusedSimpArgs false
set_option maxRecDepth 100000
namespace Go.Proofs.YtmelbclhkkbmiaaGreat.K
open Go Go.RowKit

theorem c_cartridgeref1_Writer_Byte (I : Imm) (gw : Nat) (Aw_B : Option Addr) (cw_B : Nat) (clw_B : List Value) (w_B : List UInt8) (hw_B : tU8.all I clw_B w_B) (c : UInt8) (hb : w_B.length ≤ 1000000) : Con Tryz.prog 66 [.pointer (some ⟨gw, 0, none⟩), .int .u8 (c.toNat : Int)].toArray I [blk gw [.slice Aw_B w_B.length cw_B] 128, row (.slice Aw_B w_B.length cw_B) 5 1 clw_B] (fun J o v => ∃ (w_B' : List UInt8) (Aw_B' : Option Addr) (cw_B' : Nat) (clw_B' : List Value), w_B' = (w_B ++ [c]) ∧ o = [blk gw [.slice Aw_B' w_B'.length cw_B'] 128, row (.slice Aw_B' w_B'.length cw_B') 5 1 clw_B'] ∧ v = .tuple #[] ∧ tU8.all J clw_B' w_B') := by
 refine Con.enter (n := 14) (L := [(0, .pointer (some ⟨gw, 0, none⟩)), (1, .int .u8 (c.toNat : Int))]) Tryz.func66 rfl rfl (Nat.le_of_ble_eq_true rfl) rfl (fun E => ?_)
 refine RunC.region ?_
 refine Run.mv ?_
 refine Run.mv ?_
 refine Run.m (y_nilCheck rfl rfl) ?_
 refine Run.m (v := .pointer (some ⟨gw, 0, none⟩)) (y_fieldAddr rfl rfl Tryz.runUnderlying128 rfl Tryz.sizeOf42 (by decide) rfl) ?_
 refine Run.m (v := .slice Aw_B w_B.length cw_B) (y_loadB1 0 rfl Tryz.isAgg42 rfl rfl rfl) ?_
 refine Run.mv ?_
 refine Run.lit (vs := [(0, .int .u8 (c.toNat : Int))]) (cs := [.int .u8 (c.toNat : Int)]) (el := 5) (sz := 1) rfl rfl (fun w => by simp [Instr.buildSlice, Tryz.runUnderlying42, Tryz.sizeOf5, Tryz.zeroValue5, Instr.fill, Value.cells, newRow, (show Array.range 1 = #[0] from rfl)]) rfl (by simp [maxLen]) rfl rfl (by decide) (fun g10 => ?_)
 have hlit1 : tU8.all I [.int .u8 (c.toNat : Int)] [c] := (all_snoc (T := tU8) all_nil rfl)
 have hall2 : tU8.all I (clw_B ++ ([.int .u8 (c.toNat : Int)])) (w_B ++ ([c])) := all_append hw_B hlit1
 refine Run.append (by_ := 1) (ys := [.int .u8 (c.toNat : Int)]) (k := 1) (own' := [row (.slice (some ⟨g10, 0, none⟩) 1 1) 5 1 ([.int .u8 (c.toNat : Int)]), blk gw [.slice Aw_B w_B.length cw_B] 128]) 2 rfl rfl rfl Tryz.runUnderlying42 (.inl Tryz.runUnderlying42) Tryz.sizeOf5 Tryz.typeInfo5 rfl Tryz.zeroValue5 rfl rfl rfl (fun w hS => src_own hS (i := 0) rfl) (row_len hlit1 (by first | rfl | (simp; done) | (simp; omega)) rfl) (all_one hlit1) ((w_B ++ ([c])).length) (by first | (simp; done) | (simp; omega)) (by simp; omega) (by simp [maxLen]; omega) rfl rfl (by decide) (fun A11_2 c11_2 => ?_)
 refine Run.weak Sub.refl (perm_take (i := 0) rfl (perm_take (i := 1) rfl (perm_nil _))) ?_
 refine Run.m (y_nilCheck rfl rfl) ?_
 refine Run.m (v := .pointer (some ⟨gw, 0, none⟩)) (y_fieldAddr rfl rfl Tryz.runUnderlying128 rfl Tryz.sizeOf42 (by decide) rfl) ?_
 refine Run.storeB (vs := [.slice A11_2 ((w_B ++ ([c])).length) c11_2]) (cs' := [.slice A11_2 ((w_B ++ ([c])).length) c11_2]) (own' := [row (.slice A11_2 ((w_B ++ ([c])).length) c11_2) 5 1 (clw_B ++ ([.int .u8 (c.toNat : Int)]))]) 1 rfl rfl rfl Tryz.sizeOf42 rfl rfl rfl rfl rfl (Nat.le_of_ble_eq_true rfl) rfl rfl rfl ?_
 refine Run.nil ?_
 refine RunQ.weak Sub.refl (perm_self _) ?_
 refine RunQ.fin0 (.inr rfl) Tryz.results66  ?_
 exact ⟨(w_B ++ ([c])), A11_2, c11_2, clw_B ++ ([.int .u8 (c.toNat : Int)]), (by first | rfl | (simp; done)), rfl, rfl, hall2⟩

theorem c_cartridgeref1_Writer_Int (I : Imm) (gw : Nat) (Aw_B : Option Addr) (cw_B : Nat) (clw_B : List Value) (w_B : List UInt8) (hw_B : tU8.all I clw_B w_B) (n : Int) (hb : w_B.length ≤ 1000000) : Con Tryz.prog 67 [.pointer (some ⟨gw, 0, none⟩), .int .i64 n].toArray I [blk gw [.slice Aw_B w_B.length cw_B] 128, row (.slice Aw_B w_B.length cw_B) 5 1 clw_B] (fun J o v => ∃ (w_B' : List UInt8) (Aw_B' : Option Addr) (cw_B' : Nat) (clw_B' : List Value), w_B' = (w_B ++ be4 (b32 n)) ∧ o = [blk gw [.slice Aw_B' w_B'.length cw_B'] 128, row (.slice Aw_B' w_B'.length cw_B') 5 1 clw_B'] ∧ v = .tuple #[] ∧ tU8.all J clw_B' w_B') := by
 refine Con.enter (n := 31) (L := [(0, .pointer (some ⟨gw, 0, none⟩)), (1, .int .i64 n)]) Tryz.func67 rfl rfl (Nat.le_of_ble_eq_true rfl) rfl (fun E => ?_)
 refine RunC.sr ?_
 refine Run.mv ?_
 refine Run.m (v := .int .u64 (IntKind.u64.wrap n)) (y_conv rfl rfl (cv_int Tryz.underlying3 Tryz.underlying164 rfl)) ?_
 refine Run.as ?_
 refine Run.nx ?_
 refine RunC.region ?_
 refine Run.mv ?_
 refine Run.mv ?_
 refine Run.m (y_nilCheck rfl rfl) ?_
 refine Run.m (v := .pointer (some ⟨gw, 0, none⟩)) (y_fieldAddr rfl rfl Tryz.runUnderlying128 rfl Tryz.sizeOf42 (by decide) rfl) ?_
 refine Run.m (v := .slice Aw_B w_B.length cw_B) (y_loadB1 0 rfl Tryz.isAgg42 rfl rfl rfl) ?_
 refine Run.mv ?_
 refine Run.m (v := .int .u64 ((IntKind.u64.wrap n) / 2 ^ 24)) (y_bin rfl rfl rfl (bn_shr (c := 24) (by decide))) ?_
 refine Run.m (v := .int .u64 (((IntKind.u64.wrap n) / 2 ^ 24) % 256)) (y_bin rfl rfl rfl (bn_maskU (a := ((IntKind.u64.wrap n) / 2 ^ 24)))) ?_
 refine Run.m (v := .int .u8 ((b8 (((IntKind.u64.wrap n) / 2 ^ 24) % 256)).toNat : Int)) (y_conv rfl rfl (cv_int Tryz.underlying164 Tryz.underlying5 (wrapu8 _))) ?_
 refine Run.mv ?_
 refine Run.m (v := .int .u64 ((IntKind.u64.wrap n) / 2 ^ 16)) (y_bin rfl rfl rfl (bn_shr (c := 16) (by decide))) ?_
 refine Run.m (v := .int .u64 (((IntKind.u64.wrap n) / 2 ^ 16) % 256)) (y_bin rfl rfl rfl (bn_maskU (a := ((IntKind.u64.wrap n) / 2 ^ 16)))) ?_
 refine Run.m (v := .int .u8 ((b8 (((IntKind.u64.wrap n) / 2 ^ 16) % 256)).toNat : Int)) (y_conv rfl rfl (cv_int Tryz.underlying164 Tryz.underlying5 (wrapu8 _))) ?_
 refine Run.mv ?_
 refine Run.m (v := .int .u64 ((IntKind.u64.wrap n) / 2 ^ 8)) (y_bin rfl rfl rfl (bn_shr (c := 8) (by decide))) ?_
 refine Run.m (v := .int .u64 (((IntKind.u64.wrap n) / 2 ^ 8) % 256)) (y_bin rfl rfl rfl (bn_maskU (a := ((IntKind.u64.wrap n) / 2 ^ 8)))) ?_
 refine Run.m (v := .int .u8 ((b8 (((IntKind.u64.wrap n) / 2 ^ 8) % 256)).toNat : Int)) (y_conv rfl rfl (cv_int Tryz.underlying164 Tryz.underlying5 (wrapu8 _))) ?_
 refine Run.mv ?_
 refine Run.m (v := .int .u64 ((IntKind.u64.wrap n) % 256)) (y_bin rfl rfl rfl (bn_maskU (a := (IntKind.u64.wrap n)))) ?_
 refine Run.m (v := .int .u8 ((b8 ((IntKind.u64.wrap n) % 256)).toNat : Int)) (y_conv rfl rfl (cv_int Tryz.underlying164 Tryz.underlying5 (wrapu8 _))) ?_
 refine Run.lit (vs := [(0, .int .u8 ((b8 (((IntKind.u64.wrap n) / 2 ^ 24) % 256)).toNat : Int)), (1, .int .u8 ((b8 (((IntKind.u64.wrap n) / 2 ^ 16) % 256)).toNat : Int)), (2, .int .u8 ((b8 (((IntKind.u64.wrap n) / 2 ^ 8) % 256)).toNat : Int)), (3, .int .u8 ((b8 ((IntKind.u64.wrap n) % 256)).toNat : Int))]) (cs := [.int .u8 ((b8 (((IntKind.u64.wrap n) / 2 ^ 24) % 256)).toNat : Int), .int .u8 ((b8 (((IntKind.u64.wrap n) / 2 ^ 16) % 256)).toNat : Int), .int .u8 ((b8 (((IntKind.u64.wrap n) / 2 ^ 8) % 256)).toNat : Int), .int .u8 ((b8 ((IntKind.u64.wrap n) % 256)).toNat : Int)]) (el := 5) (sz := 1) rfl rfl (fun w => by simp [Instr.buildSlice, Tryz.runUnderlying42, Tryz.sizeOf5, Tryz.zeroValue5, Instr.fill, Value.cells, newRow, (show Array.range 4 = #[0, 1, 2, 3] from rfl)]) rfl (by simp [maxLen]) rfl rfl (by decide) (fun g27 => ?_)
 have hlit1 : tU8.all I [.int .u8 ((b8 (((IntKind.u64.wrap n) / 2 ^ 24) % 256)).toNat : Int), .int .u8 ((b8 (((IntKind.u64.wrap n) / 2 ^ 16) % 256)).toNat : Int), .int .u8 ((b8 (((IntKind.u64.wrap n) / 2 ^ 8) % 256)).toNat : Int), .int .u8 ((b8 ((IntKind.u64.wrap n) % 256)).toNat : Int)] [b8 (((IntKind.u64.wrap n) / 2 ^ 24) % 256), b8 (((IntKind.u64.wrap n) / 2 ^ 16) % 256), b8 (((IntKind.u64.wrap n) / 2 ^ 8) % 256), b8 ((IntKind.u64.wrap n) % 256)] := (all_snoc (T := tU8) (all_snoc (T := tU8) (all_snoc (T := tU8) (all_snoc (T := tU8) all_nil rfl) rfl) rfl) rfl)
 have hall2 : tU8.all I (clw_B ++ ([.int .u8 ((b8 (((IntKind.u64.wrap n) / 2 ^ 24) % 256)).toNat : Int), .int .u8 ((b8 (((IntKind.u64.wrap n) / 2 ^ 16) % 256)).toNat : Int), .int .u8 ((b8 (((IntKind.u64.wrap n) / 2 ^ 8) % 256)).toNat : Int), .int .u8 ((b8 ((IntKind.u64.wrap n) % 256)).toNat : Int)])) (w_B ++ ([b8 (((IntKind.u64.wrap n) / 2 ^ 24) % 256), b8 (((IntKind.u64.wrap n) / 2 ^ 16) % 256), b8 (((IntKind.u64.wrap n) / 2 ^ 8) % 256), b8 ((IntKind.u64.wrap n) % 256)])) := all_append hw_B hlit1
 refine Run.append (by_ := 1) (ys := [.int .u8 ((b8 (((IntKind.u64.wrap n) / 2 ^ 24) % 256)).toNat : Int), .int .u8 ((b8 (((IntKind.u64.wrap n) / 2 ^ 16) % 256)).toNat : Int), .int .u8 ((b8 (((IntKind.u64.wrap n) / 2 ^ 8) % 256)).toNat : Int), .int .u8 ((b8 ((IntKind.u64.wrap n) % 256)).toNat : Int)]) (k := 4) (own' := [row (.slice (some ⟨g27, 0, none⟩) 4 4) 5 1 ([.int .u8 ((b8 (((IntKind.u64.wrap n) / 2 ^ 24) % 256)).toNat : Int), .int .u8 ((b8 (((IntKind.u64.wrap n) / 2 ^ 16) % 256)).toNat : Int), .int .u8 ((b8 (((IntKind.u64.wrap n) / 2 ^ 8) % 256)).toNat : Int), .int .u8 ((b8 ((IntKind.u64.wrap n) % 256)).toNat : Int)]), blk gw [.slice Aw_B w_B.length cw_B] 128]) 2 rfl rfl rfl Tryz.runUnderlying42 (.inl Tryz.runUnderlying42) Tryz.sizeOf5 Tryz.typeInfo5 rfl Tryz.zeroValue5 rfl rfl rfl (fun w hS => src_own hS (i := 0) rfl) (row_len hlit1 (by first | rfl | (simp; done) | (simp; omega)) rfl) (all_one hlit1) ((w_B ++ ([b8 (((IntKind.u64.wrap n) / 2 ^ 24) % 256), b8 (((IntKind.u64.wrap n) / 2 ^ 16) % 256), b8 (((IntKind.u64.wrap n) / 2 ^ 8) % 256), b8 ((IntKind.u64.wrap n) % 256)])).length) (by first | (simp; done) | (simp; omega)) (by simp; omega) (by simp [maxLen]; omega) rfl rfl (by decide) (fun A28_2 c28_2 => ?_)
 refine Run.weak Sub.refl (perm_take (i := 0) rfl (perm_take (i := 1) rfl (perm_nil _))) ?_
 refine Run.m (y_nilCheck rfl rfl) ?_
 refine Run.m (v := .pointer (some ⟨gw, 0, none⟩)) (y_fieldAddr rfl rfl Tryz.runUnderlying128 rfl Tryz.sizeOf42 (by decide) rfl) ?_
 refine Run.storeB (vs := [.slice A28_2 ((w_B ++ ([b8 (((IntKind.u64.wrap n) / 2 ^ 24) % 256), b8 (((IntKind.u64.wrap n) / 2 ^ 16) % 256), b8 (((IntKind.u64.wrap n) / 2 ^ 8) % 256), b8 ((IntKind.u64.wrap n) % 256)])).length) c28_2]) (cs' := [.slice A28_2 ((w_B ++ ([b8 (((IntKind.u64.wrap n) / 2 ^ 24) % 256), b8 (((IntKind.u64.wrap n) / 2 ^ 16) % 256), b8 (((IntKind.u64.wrap n) / 2 ^ 8) % 256), b8 ((IntKind.u64.wrap n) % 256)])).length) c28_2]) (own' := [row (.slice A28_2 ((w_B ++ ([b8 (((IntKind.u64.wrap n) / 2 ^ 24) % 256), b8 (((IntKind.u64.wrap n) / 2 ^ 16) % 256), b8 (((IntKind.u64.wrap n) / 2 ^ 8) % 256), b8 ((IntKind.u64.wrap n) % 256)])).length) c28_2) 5 1 (clw_B ++ ([.int .u8 ((b8 (((IntKind.u64.wrap n) / 2 ^ 24) % 256)).toNat : Int), .int .u8 ((b8 (((IntKind.u64.wrap n) / 2 ^ 16) % 256)).toNat : Int), .int .u8 ((b8 (((IntKind.u64.wrap n) / 2 ^ 8) % 256)).toNat : Int), .int .u8 ((b8 ((IntKind.u64.wrap n) % 256)).toNat : Int)]))]) 1 rfl rfl rfl Tryz.sizeOf42 rfl rfl rfl rfl rfl (Nat.le_of_ble_eq_true rfl) rfl rfl rfl ?_
 refine Run.nil ?_
 refine RunQ.weak Sub.refl (perm_self _) ?_
 refine RunQ.fin0 (.inr rfl) Tryz.results67  ?_
 exact ⟨(w_B ++ ([b8 (((IntKind.u64.wrap n) / 2 ^ 24) % 256), b8 (((IntKind.u64.wrap n) / 2 ^ 16) % 256), b8 (((IntKind.u64.wrap n) / 2 ^ 8) % 256), b8 ((IntKind.u64.wrap n) % 256)])), A28_2, c28_2, clw_B ++ ([.int .u8 ((b8 (((IntKind.u64.wrap n) / 2 ^ 24) % 256)).toNat : Int), .int .u8 ((b8 (((IntKind.u64.wrap n) / 2 ^ 16) % 256)).toNat : Int), .int .u8 ((b8 (((IntKind.u64.wrap n) / 2 ^ 8) % 256)).toNat : Int), .int .u8 ((b8 ((IntKind.u64.wrap n) % 256)).toNat : Int)]), (by rw [u64_byte n 24 24 rfl (by omega), u64_byte n 16 16 rfl (by omega), u64_byte n 8 8 rfl (by omega), u64_byte0]; rfl), rfl, rfl, hall2⟩

theorem c_cartridgeref1_More (I : Imm) (sum : UInt32) {Ab : Option Addr} {cb : Nat} (b : List UInt8) (hb : Sl tU8 I Ab cb b) : Con Tryz.prog 95 [.int .u32 (sum.toNat : Int), .slice Ab b.length cb].toArray I [] (Ret1 (tU32.o) (crcL (sum ^^^ 0xffffffff) b ^^^ 0xffffffff)) := by
 have hsmb := hb.small
 refine Con.enter (n := 37) (L := [(0, .int .u32 (sum.toNat : Int)), (1, .slice Ab b.length cb)]) Tryz.func95 rfl rfl (Nat.le_of_ble_eq_true rfl) rfl (fun E => ?_)
 refine RunC.sr ?_
 refine Run.as ?_
 refine Run.nx ?_
 refine RunC.sr ?_
 refine Run.mv ?_
 refine Run.m (v := .int .u32 ((sum ^^^ (4294967295 : UInt32)).toNat : Int)) (y_bin rfl rfl rfl (bn_xor32 (a := sum) (b := (4294967295 : UInt32)))) ?_
 refine Run.as ?_
 refine Run.nx ?_
 refine RunC.seq ?_
 refine RunC.sr ?_
 refine Run.as ?_
 refine Run.nx ?_
 refine RunC.block ?_
 obtain ⟨Inv0, hInv0⟩ : ∃ Inv : Nat → Act → World → Prop, ∀ mm aa ww, Inv mm aa ww ↔ (∃ (k : Nat) (x1 : UInt32), (k ≤ b.length) ∧ (x1 = crcL (sum ^^^ 0xffffffff) (b.take k)) ∧ (mm = (b.length - k)) ∧ Frm aa 37 [(1, .slice Ab b.length cb), (4, .int .u32 ((0 : UInt32).toNat : Int)), (6, .int .i64 (k : Int)), (5, .int .u32 (x1.toNat : Int))] ∧ S E ww I []) := ⟨_, fun _ _ _ => Iff.rfl⟩
 refine RunC.loopX Inv0 (fun aa ww hF hS => ⟨_, (hInv0 _ _ _).2 ⟨0, sum ^^^ (4294967295 : UInt32), (by simp), rfl, rfl, hF.sub (Sub.of rfl), hS.sub (perm_self _)⟩⟩) ?_
 intro mm0 aa ww hv
 obtain ⟨k, x1, hk, hx1, hmm_, hF, hS⟩ := (hInv0 _ _ _).1 hv
 clear hv
 refine RunC.go ?_ hF hS
 clear hF hS aa ww
 refine RunC.seq ?_
 refine RunC.sr ?_
 refine Run.mv ?_
 refine Run.mv ?_
 refine Run.m (y_len rfl Tryz.runUnderlying42 rfl) ?_
 refine Run.m (v := .bool (decide ((k : Int) < (b.length : Int)))) (y_bin rfl rfl rfl bn_lss) ?_
 refine Run.nx ?_
 refine RunC.cond rfl (fun hc0 => ?_) (fun hc0 => ?_)
 ·
  try simp only [z1, z2, z3, z4, z5, z6, z7, z8, z9, z10, z11, z12, z13, z14, z15, z16] at hc0
  refine RunC.skip ?_
  refine RunQ.next ?_
  refine RunC.seq ?_
  refine RunC.block ?_
  refine RunC.sr ?_
  refine Run.mv ?_
  refine Run.mv ?_
  refine Run.mv ?_
  obtain ⟨x19, p19_1, cs19_1, hx19, hp19_1, hcs19_1, hrc19_1⟩ := Sl.at_ (P := Tryz.prog) (T := tU8) Tryz.runUnderlying42 Tryz.sizeOf5 hb (k := .i64) (i := (k : Int)) (by omega) (by omega)
  replace hx19 : b[k]? = some x19 := hx19
  obtain rfl := hcs19_1
  refine Run.m (v := .pointer (some p19_1)) (y_index rfl rfl rfl hp19_1) ?_
  refine Run.m (v := .int .u8 (x19.toNat : Int)) (y_load1 rfl Tryz.isAgg5 rfl (RCells.hd hrc19_1)) ?_
  refine Run.m (v := .int .u32 (x19.toUInt32.toNat : Int)) (y_conv rfl rfl (cv_int Tryz.underlying5 Tryz.underlying100 (wrap32_u8 _))) ?_
  refine Run.m (v := .int .u32 ((x1 ^^^ x19.toUInt32).toNat : Int)) (y_bin rfl rfl rfl (bn_xor32 (a := x1) (b := x19.toUInt32))) ?_
  refine Run.as ?_
  refine Run.nx ?_
  refine RunC.sr ?_
  refine Run.as ?_
  refine Run.nx ?_
  refine RunC.block ?_
  obtain ⟨Inv1, hInv1⟩ : ∃ Inv : Nat → Act → World → Prop, ∀ mm aa ww, Inv mm aa ww ↔ (∃ (j : Nat) (y1 : UInt32), (j ≤ 8) ∧ (y1 = crcBits j (x1 ^^^ x19.toUInt32)) ∧ (mm = (8 - j)) ∧ Frm aa 37 [(1, .slice Ab b.length cb), (4, .int .u32 ((0 : UInt32).toNat : Int)), (6, .int .i64 (k : Int)), (10, .int .i64 (k : Int)), (11, .slice Ab b.length cb), (12, .int .i64 (b.length : Int)), (13, .bool (decide ((k : Int) < (b.length : Int)))), (16, .int .u32 (x1.toNat : Int)), (17, .slice Ab b.length cb), (18, .int .i64 (k : Int)), (19, .pointer (some p19_1)), (20, .int .u8 (x19.toNat : Int)), (21, .int .u32 (x19.toUInt32.toNat : Int)), (22, .int .u32 ((x1 ^^^ x19.toUInt32).toNat : Int)), (7, .int .i64 (j : Int)), (5, .int .u32 (y1.toNat : Int))] ∧ S E ww I []) := ⟨_, fun _ _ _ => Iff.rfl⟩
  refine RunC.loopX Inv1 (fun aa ww hF hS => ⟨_, (hInv1 _ _ _).2 ⟨0, x1 ^^^ x19.toUInt32, (by omega), rfl, rfl, hF.sub (Sub.of rfl), hS.sub (perm_self _)⟩⟩) ?_
  intro mm1 aa ww hv
  obtain ⟨j, y1, hj, hy1, hmm_, hF, hS⟩ := (hInv1 _ _ _).1 hv
  clear hv
  refine RunC.go ?_ hF hS
  clear hF hS aa ww
  refine RunC.seq ?_
  refine RunC.sr ?_
  refine Run.mv ?_
  refine Run.m (v := .bool (decide ((j : Int) < 8))) (y_bin rfl rfl rfl bn_lss) ?_
  refine Run.nx ?_
  refine RunC.cond rfl (fun hc1 => ?_) (fun hc1 => ?_)
  ·
   try simp only [z1, z2, z3, z4, z5, z6, z7, z8, z9, z10, z11, z12, z13, z14, z15, z16] at hc1
   refine RunC.skip ?_
   refine RunQ.next ?_
   refine RunC.seq ?_
   refine RunC.block ?_
   refine RunC.sr ?_
   refine Run.mv ?_
   refine Run.m (v := .int .u32 ((y1 &&& (1 : UInt32)).toNat : Int)) (y_bin rfl rfl rfl (bn_and32 (a := y1) (b := (1 : UInt32)))) ?_
   refine Run.m (v := .bool (decide (y1 &&& (1 : UInt32) = (1 : UInt32)))) (y_bin rfl rfl rfl (bn_eql32 (a := y1 &&& (1 : UInt32)) (b := (1 : UInt32)))) ?_
   refine Run.nx ?_
   refine RunC.cond rfl (fun hc2 => ?_) (fun hc2 => ?_)
   ·
    try simp only [z1, z2, z3, z4, z5, z6, z7, z8, z9, z10, z11, z12, z13, z14, z15, z16] at hc2
    refine RunC.region ?_
    refine Run.mv ?_
    refine Run.m (v := .int .u32 ((y1 >>> 1).toNat : Int)) (y_bin rfl rfl rfl (bn_shr32 (a := y1))) ?_
    refine Run.m (v := .int .u32 (((y1 >>> 1) ^^^ (2197175160 : UInt32)).toNat : Int)) (y_bin rfl rfl rfl (bn_xor32 (a := y1 >>> 1) (b := (2197175160 : UInt32)))) ?_
    refine Run.as ?_
    refine Run.nil ?_
    refine RunQ.inB ?_
    refine RunQ.next ?_
    refine RunC.region ?_
    refine Run.mv ?_
    refine Run.m (v := .int .i64 ((j : Int) + 1)) (y_bin rfl rfl rfl (bn_add (by omega) (by omega))) ?_
    refine Run.as ?_
    refine Run.nil ?_
    exact RunQ.thenI (fun aa ww hF hS => ⟨_, (by omega), (hInv1 _ _ _).2 ⟨(j + 1), (y1 >>> 1) ^^^ (2197175160 : UInt32), (by omega), (by rw [crcBits_succ, ← hy1, crcBit]; simp [hc2]), rfl, hF.sub (Sub.of rfl), hS.sub (perm_self _)⟩⟩)
   ·
    try simp only [z1, z2, z3, z4, z5, z6, z7, z8, z9, z10, z11, z12, z13, z14, z15, z16] at hc2
    refine RunC.region ?_
    refine Run.mv ?_
    refine Run.m (v := .int .u32 ((y1 >>> 1).toNat : Int)) (y_bin rfl rfl rfl (bn_shr32 (a := y1))) ?_
    refine Run.as ?_
    refine Run.nil ?_
    refine RunQ.inB ?_
    refine RunQ.next ?_
    refine RunC.region ?_
    refine Run.mv ?_
    refine Run.m (v := .int .i64 ((j : Int) + 1)) (y_bin rfl rfl rfl (bn_add (by omega) (by omega))) ?_
    refine Run.as ?_
    refine Run.nil ?_
    exact RunQ.thenI (fun aa ww hF hS => ⟨_, (by omega), (hInv1 _ _ _).2 ⟨(j + 1), y1 >>> 1, (by omega), (by rw [crcBits_succ, ← hy1, crcBit]; simp [hc2]), rfl, hF.sub (Sub.of rfl), hS.sub (perm_self _)⟩⟩)
  ·
   try simp only [z1, z2, z3, z4, z5, z6, z7, z8, z9, z10, z11, z12, z13, z14, z15, z16] at hc1
   refine RunC.exit ?_
   refine RunQ.pass (fun h => by cases h) ?_
   refine RunQ.pass (fun h => by cases h) ?_
   refine RunQ.out ?_
   refine RunQ.inB ?_
   refine RunQ.next ?_
   refine RunC.region ?_
   refine Run.mv ?_
   refine Run.m (v := .int .i64 ((k : Int) + 1)) (y_bin rfl rfl rfl (bn_add (by omega) (by omega))) ?_
   refine Run.as ?_
   refine Run.nil ?_
   exact RunQ.thenI (fun aa ww hF hS => ⟨_, (by omega), (hInv0 _ _ _).2 ⟨(k + 1), y1, (by omega), (by rw [take_snoc' hx19, crcL_snoc, ← hx1, hy1, show j = 8 from by omega]), rfl, hF.sub (Sub.of rfl), hS.sub (perm_self _)⟩⟩)
 ·
  try simp only [z1, z2, z3, z4, z5, z6, z7, z8, z9, z10, z11, z12, z13, z14, z15, z16] at hc0
  refine RunC.exit ?_
  refine RunQ.pass (fun h => by cases h) ?_
  refine RunQ.pass (fun h => by cases h) ?_
  refine RunQ.out ?_
  refine RunQ.next ?_
  refine RunC.sr ?_
  refine Run.mv ?_
  refine Run.m (v := .int .u32 ((x1 ^^^ (4294967295 : UInt32)).toNat : Int)) (y_bin rfl rfl rfl (bn_xor32 (a := x1) (b := (4294967295 : UInt32)))) ?_
  refine Run.as ?_
  refine Run.nx ?_
  refine RunC.ret ?_
  refine RunQ.weak Sub.refl (perm_nil _) ?_
  refine RunQ.fin1 (.inl rfl) Tryz.results95 (rv_tmp rfl) ?_
  exact ⟨rfl, _, rfl, (rd_eq (T := tU32) (x := x1 ^^^ (4294967295 : UInt32)) rfl (by rw [hx1, List.take_of_length_le (by omega)]))⟩

theorem c_cartridgeref1_Crc (I : Imm) {Ab : Option Addr} {cb : Nat} (b : List UInt8) (hb : Sl tU8 I Ab cb b) : Con Tryz.prog 49 [.slice Ab b.length cb].toArray I [] (Ret1 (tU32.o) (crc b)) := by
 have hsmb := hb.small
 refine Con.enter (n := 5) (L := [(0, .slice Ab b.length cb)]) Tryz.func49 rfl rfl (Nat.le_of_ble_eq_true rfl) rfl (fun E => ?_)
 refine RunC.sr ?_
 refine Run.as ?_
 refine Run.nx ?_
 refine RunC.sr ?_
 refine Run.mv ?_
 refine Run.callV (en_func rfl Tryz.call95 rfl) (conv_u32 (c_cartridgeref1_More _ (0 : UInt32) b hb)) rfl rfl (by decide) (fun hI1 => ?_)
 refine Run.as ?_
 refine Run.nx ?_
 refine RunC.ret ?_
 refine RunQ.weak Sub.refl (perm_nil _) ?_
 refine RunQ.fin1 (.inl rfl) Tryz.results49 (rv_tmp rfl) ?_
 exact ⟨rfl, _, rfl, (rd_eq (T := tU32) (x := (crcL ((0 : UInt32) ^^^ 0xffffffff) b ^^^ 0xffffffff)) rfl (by rfl))⟩

theorem c_cartridgeref1_PutFrame (I : Imm) {csu : List Value} (u : AUnit) (hu : tUnit.rd I csu u) : Con Tryz.prog 24 [.agg csu.toArray].toArray I [] (fun J o v => ∃ (yr0 : List UInt8) (Ar0 : Option Addr) (cr0 : Nat) (clr0 : List Value) (csr1 : List Value), yr0 = (if uCheck u = 0 then fMade u else []) ∧ o = [row (.slice Ar0 yr0.length cr0) 5 1 clr0] ∧ v = .tuple #[.slice Ar0 yr0.length cr0, (tInt.o).v csr1] ∧ tU8.all J clr0 yr0 ∧ tInt.rd J csr1 (uCheck u)) := by
 obtain ⟨Au_3, cu_3, rfl, fu_0, fu_1, fu_2, fu_3⟩ := hu
 have hsmu_3 := fu_3.small
 have hrl := roomOf_le u.kind
 refine Con.enter (n := 113) (L := [(0, .agg [.int .i64 u.kind, .int .i64 u.label, .int .i64 u.number, .slice Au_3 u.load.length cu_3].toArray)]) Tryz.func24 rfl rfl (Nat.le_of_ble_eq_true rfl) rfl (fun E => ?_)
 refine RunC.sr ?_
 refine Run.box (cs := [.int .i64 u.kind, .int .i64 u.label, .int .i64 u.number, .slice Au_3 u.load.length cu_3]) rfl rfl rfl rfl rfl (by decide) (fun g1 => ?_)
 refine Run.as ?_
 refine Run.as ?_
 refine Run.nx ?_
 refine RunC.sr ?_
 refine Run.as ?_
 refine Run.nx ?_
 refine RunC.seq ?_
 obtain ⟨Jn1, hJn1⟩ : ∃ Jn : Act → World → Prop, ∀ aa ww, Jn aa ww ↔ (∃ (m : Nat), (m = roomOf u.kind) ∧ Frm aa 113 [(1, .pointer (some ⟨g1, 0, none⟩)), (2, .slice none 0 0), (3, .int .i64 0), (4, .int .i64 (m : Int))] ∧ S E ww I [blk g1 [.int .i64 u.kind, .int .i64 u.label, .int .i64 u.number, .slice Au_3 u.load.length cu_3] 63]) := ⟨_, fun _ _ => Iff.rfl⟩
 refine RunC.cut Jn1 (fun aa ww hv => ?_) ?_
 ·
  obtain ⟨m, hm, hF, hS⟩ := (hJn1 _ _).1 hv
  clear hv
  refine RunC.go ?_ hF hS
  clear hF hS aa ww
  refine RunC.seq ?_
  refine RunC.block ?_
  refine RunC.sr ?_
  refine Run.m (v := .pointer (some ⟨g1, 0, none⟩)) (y_fieldAddr rfl rfl Tryz.runUnderlying63 rfl Tryz.sizeOf3 (by decide) rfl) ?_
  refine Run.m (v := .int .i64 u.kind) (y_loadB1 0 rfl Tryz.isAgg3 rfl rfl rfl) ?_
  refine Run.m (v := .bool (decide (u.kind < 1))) (y_bin rfl rfl rfl bn_lss) ?_
  refine Run.mv ?_
  refine Run.split 4 rfl (b := decide (u.kind < 1)) (d := 17) (v := .bool ((decide (u.kind < 1)) || (decide (u.kind > 6)))) (fun hb13 K13 => ?_) (fun hb13 K13 => ?_) ?_
  ·
   have hc1013 := hb13; try simp only [z1, z2, z3, z4, z5, z6, z7, z8, z9, z10, z11, z12, z13, z14, z15, z16] at hc1013
   refine Run.no rfl rfl rfl rfl (hb13) rfl (by decide) ?_
   refine Run.no rfl rfl rfl rfl (hb13) rfl (by decide) ?_
   refine Run.no rfl rfl rfl rfl (hb13) rfl (by decide) ?_
   refine Run.y (y_pickB rfl rfl (hb13) rfl) rfl rfl (by decide) ?_
   exact K13 _ _ _ (Imm.le.refl _) (by rw [hb13]; simp) (Sub.tl 3 rfl rfl)
  ·
   have hc1013 := hb13; try simp only [z1, z2, z3, z4, z5, z6, z7, z8, z9, z10, z11, z12, z13, z14, z15, z16] at hc1013
   refine Run.yes (v := .pointer (some ⟨g1, 0, none⟩)) (y_fieldAddr rfl rfl Tryz.runUnderlying63 rfl Tryz.sizeOf3 (by decide) rfl) rfl rfl rfl rfl (hb13) rfl (by decide) ?_
   refine Run.yes (v := .int .i64 u.kind) (y_loadB1 0 rfl Tryz.isAgg3 rfl rfl rfl) rfl rfl rfl rfl (hb13) rfl (by decide) ?_
   refine Run.yes (v := .bool (decide (u.kind > 6))) (y_bin rfl rfl rfl bn_gtr) rfl rfl rfl rfl (hb13) rfl (by decide) ?_
   refine Run.y (y_pickB rfl rfl (hb13) rfl) rfl rfl (by decide) ?_
   exact K13 _ _ _ (Imm.le.refl _) (by rw [hb13]; simp) (Sub.tl 3 rfl rfl)
  refine Run.mv ?_
  refine Run.split 4 rfl (b := ((decide (u.kind < 1)) || (decide (u.kind > 6)))) (d := 22) (v := .bool (((decide (u.kind < 1)) || (decide (u.kind > 6))) || (decide (u.label < 1)))) (fun hb18 K18 => ?_) (fun hb18 K18 => ?_) ?_
  ·
   have hc1018 := hb18; try simp only [z1, z2, z3, z4, z5, z6, z7, z8, z9, z10, z11, z12, z13, z14, z15, z16] at hc1018
   refine Run.no rfl rfl rfl rfl (hb18) rfl (by decide) ?_
   refine Run.no rfl rfl rfl rfl (hb18) rfl (by decide) ?_
   refine Run.no rfl rfl rfl rfl (hb18) rfl (by decide) ?_
   refine Run.y (y_pickB rfl rfl (hb18) rfl) rfl rfl (by decide) ?_
   exact K18 _ _ _ (Imm.le.refl _) (by rw [hb18]; simp) (Sub.tl 3 rfl rfl)
  ·
   have hc1018 := hb18; try simp only [z1, z2, z3, z4, z5, z6, z7, z8, z9, z10, z11, z12, z13, z14, z15, z16] at hc1018
   refine Run.yes (v := .pointer (some ⟨g1, 1, none⟩)) (y_fieldAddr rfl rfl Tryz.runUnderlying63 rfl Tryz.sizeOf3 (by decide) rfl) rfl rfl rfl rfl (hb18) rfl (by decide) ?_
   refine Run.yes (v := .int .i64 u.label) (y_loadB1 0 rfl Tryz.isAgg3 rfl rfl rfl) rfl rfl rfl rfl (hb18) rfl (by decide) ?_
   refine Run.yes (v := .bool (decide (u.label < 1))) (y_bin rfl rfl rfl bn_lss) rfl rfl rfl rfl (hb18) rfl (by decide) ?_
   refine Run.y (y_pickB rfl rfl (hb18) rfl) rfl rfl (by decide) ?_
   exact K18 _ _ _ (Imm.le.refl _) (by rw [hb18]; simp) (Sub.tl 3 rfl rfl)
  refine Run.mv ?_
  refine Run.split 4 rfl (b := (((decide (u.kind < 1)) || (decide (u.kind > 6))) || (decide (u.label < 1)))) (d := 27) (v := .bool ((((decide (u.kind < 1)) || (decide (u.kind > 6))) || (decide (u.label < 1))) || (decide (u.label > 2147483647)))) (fun hb23 K23 => ?_) (fun hb23 K23 => ?_) ?_
  ·
   have hc1023 := hb23; try simp only [z1, z2, z3, z4, z5, z6, z7, z8, z9, z10, z11, z12, z13, z14, z15, z16] at hc1023
   refine Run.no rfl rfl rfl rfl (hb23) rfl (by decide) ?_
   refine Run.no rfl rfl rfl rfl (hb23) rfl (by decide) ?_
   refine Run.no rfl rfl rfl rfl (hb23) rfl (by decide) ?_
   refine Run.y (y_pickB rfl rfl (hb23) rfl) rfl rfl (by decide) ?_
   exact K23 _ _ _ (Imm.le.refl _) (by rw [hb23]; simp) (Sub.tl 3 rfl rfl)
  ·
   have hc1023 := hb23; try simp only [z1, z2, z3, z4, z5, z6, z7, z8, z9, z10, z11, z12, z13, z14, z15, z16] at hc1023
   refine Run.yes (v := .pointer (some ⟨g1, 1, none⟩)) (y_fieldAddr rfl rfl Tryz.runUnderlying63 rfl Tryz.sizeOf3 (by decide) rfl) rfl rfl rfl rfl (hb23) rfl (by decide) ?_
   refine Run.yes (v := .int .i64 u.label) (y_loadB1 0 rfl Tryz.isAgg3 rfl rfl rfl) rfl rfl rfl rfl (hb23) rfl (by decide) ?_
   refine Run.yes (v := .bool (decide (u.label > 2147483647))) (y_bin rfl rfl rfl bn_gtr) rfl rfl rfl rfl (hb23) rfl (by decide) ?_
   refine Run.y (y_pickB rfl rfl (hb23) rfl) rfl rfl (by decide) ?_
   exact K23 _ _ _ (Imm.le.refl _) (by rw [hb23]; simp) (Sub.tl 3 rfl rfl)
  refine Run.mv ?_
  refine Run.split 4 rfl (b := ((((decide (u.kind < 1)) || (decide (u.kind > 6))) || (decide (u.label < 1))) || (decide (u.label > 2147483647)))) (d := 32) (v := .bool (((((decide (u.kind < 1)) || (decide (u.kind > 6))) || (decide (u.label < 1))) || (decide (u.label > 2147483647))) || (decide (u.number < 0)))) (fun hb28 K28 => ?_) (fun hb28 K28 => ?_) ?_
  ·
   have hc1028 := hb28; try simp only [z1, z2, z3, z4, z5, z6, z7, z8, z9, z10, z11, z12, z13, z14, z15, z16] at hc1028
   refine Run.no rfl rfl rfl rfl (hb28) rfl (by decide) ?_
   refine Run.no rfl rfl rfl rfl (hb28) rfl (by decide) ?_
   refine Run.no rfl rfl rfl rfl (hb28) rfl (by decide) ?_
   refine Run.y (y_pickB rfl rfl (hb28) rfl) rfl rfl (by decide) ?_
   exact K28 _ _ _ (Imm.le.refl _) (by rw [hb28]; simp) (Sub.tl 3 rfl rfl)
  ·
   have hc1028 := hb28; try simp only [z1, z2, z3, z4, z5, z6, z7, z8, z9, z10, z11, z12, z13, z14, z15, z16] at hc1028
   refine Run.yes (v := .pointer (some ⟨g1, 2, none⟩)) (y_fieldAddr rfl rfl Tryz.runUnderlying63 rfl Tryz.sizeOf3 (by decide) rfl) rfl rfl rfl rfl (hb28) rfl (by decide) ?_
   refine Run.yes (v := .int .i64 u.number) (y_loadB1 0 rfl Tryz.isAgg3 rfl rfl rfl) rfl rfl rfl rfl (hb28) rfl (by decide) ?_
   refine Run.yes (v := .bool (decide (u.number < 0))) (y_bin rfl rfl rfl bn_lss) rfl rfl rfl rfl (hb28) rfl (by decide) ?_
   refine Run.y (y_pickB rfl rfl (hb28) rfl) rfl rfl (by decide) ?_
   exact K28 _ _ _ (Imm.le.refl _) (by rw [hb28]; simp) (Sub.tl 3 rfl rfl)
  refine Run.mv ?_
  refine Run.split 4 rfl (b := (((((decide (u.kind < 1)) || (decide (u.kind > 6))) || (decide (u.label < 1))) || (decide (u.label > 2147483647))) || (decide (u.number < 0)))) (d := 37) (v := .bool ((((((decide (u.kind < 1)) || (decide (u.kind > 6))) || (decide (u.label < 1))) || (decide (u.label > 2147483647))) || (decide (u.number < 0))) || (decide (u.number > 2147483647)))) (fun hb33 K33 => ?_) (fun hb33 K33 => ?_) ?_
  ·
   have hc1033 := hb33; try simp only [z1, z2, z3, z4, z5, z6, z7, z8, z9, z10, z11, z12, z13, z14, z15, z16] at hc1033
   refine Run.no rfl rfl rfl rfl (hb33) rfl (by decide) ?_
   refine Run.no rfl rfl rfl rfl (hb33) rfl (by decide) ?_
   refine Run.no rfl rfl rfl rfl (hb33) rfl (by decide) ?_
   refine Run.y (y_pickB rfl rfl (hb33) rfl) rfl rfl (by decide) ?_
   exact K33 _ _ _ (Imm.le.refl _) (by rw [hb33]; simp) (Sub.tl 3 rfl rfl)
  ·
   have hc1033 := hb33; try simp only [z1, z2, z3, z4, z5, z6, z7, z8, z9, z10, z11, z12, z13, z14, z15, z16] at hc1033
   refine Run.yes (v := .pointer (some ⟨g1, 2, none⟩)) (y_fieldAddr rfl rfl Tryz.runUnderlying63 rfl Tryz.sizeOf3 (by decide) rfl) rfl rfl rfl rfl (hb33) rfl (by decide) ?_
   refine Run.yes (v := .int .i64 u.number) (y_loadB1 0 rfl Tryz.isAgg3 rfl rfl rfl) rfl rfl rfl rfl (hb33) rfl (by decide) ?_
   refine Run.yes (v := .bool (decide (u.number > 2147483647))) (y_bin rfl rfl rfl bn_gtr) rfl rfl rfl rfl (hb33) rfl (by decide) ?_
   refine Run.y (y_pickB rfl rfl (hb33) rfl) rfl rfl (by decide) ?_
   exact K33 _ _ _ (Imm.le.refl _) (by rw [hb33]; simp) (Sub.tl 3 rfl rfl)
  refine Run.as ?_
  refine Run.nx ?_
  refine RunC.cond rfl (fun hc1 => ?_) (fun hc1 => ?_)
  ·
   try simp only [z1, z2, z3, z4, z5, z6, z7, z8, z9, z10, z11, z12, z13, z14, z15, z16] at hc1
   refine RunC.sr ?_
   refine Run.as ?_
   refine Run.as ?_
   refine Run.nx ?_
   refine RunC.ret ?_
   refine RunQ.inR ?_
   refine RunQ.pass (fun h => by cases h) ?_
   refine RunQ.nilrow none 5 1 ?_
   refine RunQ.weak Sub.refl (perm_take (i := 0) rfl (perm_nil _)) ?_
   refine RunQ.fin2 (.inl rfl) Tryz.results24 (rv_tmp rfl) (rv_tmp rfl) ?_
   exact ⟨([] : List UInt8), none, 0, [], _, (by first | (rw [uRef_1 hc1]; done) | (rw [uRef_1 hc1, if_neg (by decide)]; done) | (rw [uRef_4 hc1 (by omega)]; done) | (rw [uRef_4 hc1 (by omega), if_neg (by decide)]; done) | (rw [uRef_0 hc1 (by omega)]; done) | (rw [if_pos (uRef_0 hc1 (by omega))]; exact uRef_made hm hz)), rfl, rfl, all_nil, (rd_eq (T := tInt) (x := 1) ⟨rfl, (by first | omega | (dsimp only; omega))⟩ (by first | (rw [uRef_1 hc1]; done) | (rw [uRef_1 hc1, if_neg (by decide)]; done) | (rw [uRef_4 hc1 (by omega)]; done) | (rw [uRef_4 hc1 (by omega), if_neg (by decide)]; done) | (rw [uRef_0 hc1 (by omega)]; done) | (rw [if_pos (uRef_0 hc1 (by omega))]; exact uRef_made hm hz)))⟩
  ·
   try simp only [z1, z2, z3, z4, z5, z6, z7, z8, z9, z10, z11, z12, z13, z14, z15, z16] at hc1
   refine RunC.sr ?_
   refine Run.m (v := .pointer (some ⟨g1, 3, none⟩)) (y_fieldAddr rfl rfl Tryz.runUnderlying63 rfl Tryz.sizeOf42 (by decide) rfl) ?_
   refine Run.m (v := .slice Au_3 u.load.length cu_3) (y_loadB1 0 rfl Tryz.isAgg42 rfl rfl rfl) ?_
   refine Run.m (y_len rfl Tryz.runUnderlying42 rfl) ?_
   refine Run.mv ?_
   refine Run.m (v := .bool (decide ((u.load.length : Int) > (m : Int)))) (y_bin rfl rfl rfl bn_gtr) ?_
   refine Run.as ?_
   refine Run.nx ?_
   refine RunC.cond rfl (fun hc2 => ?_) (fun hc2 => ?_)
   ·
    try simp only [z1, z2, z3, z4, z5, z6, z7, z8, z9, z10, z11, z12, z13, z14, z15, z16] at hc2
    refine RunC.sr ?_
    refine Run.as ?_
    refine Run.as ?_
    refine Run.nx ?_
    refine RunC.ret ?_
    refine RunQ.inR ?_
    refine RunQ.pass (fun h => by cases h) ?_
    refine RunQ.nilrow none 5 1 ?_
    refine RunQ.weak Sub.refl (perm_take (i := 0) rfl (perm_nil _)) ?_
    refine RunQ.fin2 (.inl rfl) Tryz.results24 (rv_tmp rfl) (rv_tmp rfl) ?_
    exact ⟨([] : List UInt8), none, 0, [], _, (by first | (rw [uRef_1 hc1]; done) | (rw [uRef_1 hc1, if_neg (by decide)]; done) | (rw [uRef_4 hc1 (by omega)]; done) | (rw [uRef_4 hc1 (by omega), if_neg (by decide)]; done) | (rw [uRef_0 hc1 (by omega)]; done) | (rw [if_pos (uRef_0 hc1 (by omega))]; exact uRef_made hm hz)), rfl, rfl, all_nil, (rd_eq (T := tInt) (x := 4) ⟨rfl, (by first | omega | (dsimp only; omega))⟩ (by first | (rw [uRef_1 hc1]; done) | (rw [uRef_1 hc1, if_neg (by decide)]; done) | (rw [uRef_4 hc1 (by omega)]; done) | (rw [uRef_4 hc1 (by omega), if_neg (by decide)]; done) | (rw [uRef_0 hc1 (by omega)]; done) | (rw [if_pos (uRef_0 hc1 (by omega))]; exact uRef_made hm hz)))⟩
   ·
    try simp only [z1, z2, z3, z4, z5, z6, z7, z8, z9, z10, z11, z12, z13, z14, z15, z16] at hc2
    refine RunC.skip ?_
    refine RunQ.inB ?_
    refine RunQ.next ?_
    refine RunC.sr ?_
    refine Run.m (v := .agg [.slice none 0 0].toArray) (y_build (vs := []) rfl rfl (fun w => by simp [Instr.build, Tryz.zeroValue128, Tryz.runUnderlying128, Tryz.sizeOf42, Instr.fill, Value.cells])) ?_
    refine Run.box (cs := [.slice none 0 0]) rfl rfl rfl rfl rfl (by decide) (fun g45 => ?_)
    refine Run.as ?_
    refine Run.nx ?_
    refine RunC.sr ?_
    refine Run.mv ?_
    refine Run.m (v := .pointer (some ⟨g1, 0, none⟩)) (y_fieldAddr rfl rfl Tryz.runUnderlying63 rfl Tryz.sizeOf3 (by decide) rfl) ?_
    refine Run.m (v := .int .i64 u.kind) (y_loadB1 1 rfl Tryz.isAgg3 rfl rfl rfl) ?_
    refine Run.m (v := .int .u8 ((b8 u.kind).toNat : Int)) (y_conv rfl rfl (cv_int Tryz.underlying3 Tryz.underlying5 (wrapu8 _))) ?_
    refine Run.nilrow none 5 1 ?_
    refine Run.call (own1 := [blk g45 [.slice none 0 0] 128, row (.slice none 0 0) 5 1 ([])]) (own2 := [blk g1 [.int .i64 u.kind, .int .i64 u.label, .int .i64 u.number, .slice Au_3 u.load.length cu_3] 63]) (en_func rfl Tryz.call66 rfl) (c_cartridgeref1_Writer_Byte _ g45 none 0 ([]) ([] : List UInt8) all_nil (b8 u.kind) (by first | omega | (simp [be4_len]; done) | (simp [be4_len]; omega))) (permC (i := 1) rfl rfl (permC (i := 0) rfl rfl (List.Perm.refl _))) rfl rfl (by decide) (fun J1 o1 v1 hleJ1 hq1 => ?_)
    obtain ⟨y1B, A1B, c1B, cl1B, e1B, rfl, rfl, h1B⟩ := hq1
    obtain rfl : (([] : List UInt8) ++ [(b8 u.kind)]) = y1B := e1B.symm
    refine Run.nx ?_
    refine RunC.sr ?_
    refine Run.mv ?_
    refine Run.m (v := .pointer (some ⟨g1, 1, none⟩)) (y_fieldAddr rfl rfl Tryz.runUnderlying63 rfl Tryz.sizeOf3 (by decide) rfl) ?_
    refine Run.m (v := .int .i64 u.label) (y_loadB1 2 rfl Tryz.isAgg3 rfl rfl rfl) ?_
    refine Run.call (own1 := [blk g45 [.slice A1B ((([] : List UInt8) ++ [(b8 u.kind)]).length) c1B] 128, row (.slice A1B ((([] : List UInt8) ++ [(b8 u.kind)]).length) c1B) 5 1 cl1B]) (own2 := [blk g1 [.int .i64 u.kind, .int .i64 u.label, .int .i64 u.number, .slice Au_3 u.load.length cu_3] 63]) (en_func rfl Tryz.call67 rfl) (c_cartridgeref1_Writer_Int _ g45 A1B c1B cl1B (([] : List UInt8) ++ [(b8 u.kind)]) h1B u.label (by first | omega | (simp [be4_len]; done) | (simp [be4_len]; omega))) (permC (i := 0) rfl rfl (permC (i := 0) rfl rfl (List.Perm.refl _))) rfl rfl (by decide) (fun J2 o2 v2 hleJ2 hq2 => ?_)
    obtain ⟨y2B, A2B, c2B, cl2B, e2B, rfl, rfl, h2B⟩ := hq2
    obtain rfl : ((([] : List UInt8) ++ [(b8 u.kind)]) ++ be4 (b32 u.label)) = y2B := e2B.symm
    refine Run.nx ?_
    refine RunC.sr ?_
    refine Run.mv ?_
    refine Run.m (v := .pointer (some ⟨g1, 2, none⟩)) (y_fieldAddr rfl rfl Tryz.runUnderlying63 rfl Tryz.sizeOf3 (by decide) rfl) ?_
    refine Run.m (v := .int .i64 u.number) (y_loadB1 2 rfl Tryz.isAgg3 rfl rfl rfl) ?_
    refine Run.call (own1 := [blk g45 [.slice A2B (((([] : List UInt8) ++ [(b8 u.kind)]) ++ be4 (b32 u.label)).length) c2B] 128, row (.slice A2B (((([] : List UInt8) ++ [(b8 u.kind)]) ++ be4 (b32 u.label)).length) c2B) 5 1 cl2B]) (own2 := [blk g1 [.int .i64 u.kind, .int .i64 u.label, .int .i64 u.number, .slice Au_3 u.load.length cu_3] 63]) (en_func rfl Tryz.call67 rfl) (c_cartridgeref1_Writer_Int _ g45 A2B c2B cl2B ((([] : List UInt8) ++ [(b8 u.kind)]) ++ be4 (b32 u.label)) h2B u.number (by first | omega | (simp [be4_len]; done) | (simp [be4_len]; omega))) (permC (i := 0) rfl rfl (permC (i := 0) rfl rfl (List.Perm.refl _))) rfl rfl (by decide) (fun J3 o3 v3 hleJ3 hq3 => ?_)
    obtain ⟨y3B, A3B, c3B, cl3B, e3B, rfl, rfl, h3B⟩ := hq3
    obtain rfl : (((([] : List UInt8) ++ [(b8 u.kind)]) ++ be4 (b32 u.label)) ++ be4 (b32 u.number)) = y3B := e3B.symm
    refine Run.nx ?_
    refine RunC.weak (L' := [(1, .pointer (some ⟨g1, 0, none⟩)), (2, .slice none 0 0), (3, .int .i64 0), (4, .int .i64 (m : Int)), (5, .pointer (some ⟨g45, 0, none⟩))]) (Sub.of rfl) (perm_self _) ?_
    refine RunC.seq ?_
    have hwl : (fHead u).length = 11 := rfl
    refine RunC.regionT [19] [blk g1 [.int .i64 u.kind, .int .i64 u.label, .int .i64 u.number, .slice Au_3 u.load.length cu_3] 63, blk g45 [.slice A3B ((((([] : List UInt8) ++ [(b8 u.kind)]) ++ be4 (b32 u.label)) ++ be4 (b32 u.number)).length) c3B] 128] (by kernel_rfl) rfl ?_
    refine RunT.p (v := .pointer (some ⟨g45, 0, none⟩)) (listed' := #[true, false, false, false, false, false, false, false, false, false, false, false, false, false, false, false, false, false, false, false]) 0 rfl (by kernel_rfl) (by kernel_rfl) (by kernel_rfl) rfl (fun _ => ⟨(Imm.le.refl _), (perm_take (i := 2) rfl (perm_take (i := 0) rfl (perm_nil _)))⟩) (y_move rfl rfl) (.plain rfl) rfl (by decide) rfl ?_
    refine RunT.p (v := .pointer (some ⟨g45, 0, none⟩)) (listed' := #[true, true, false, false, false, false, false, false, false, false, false, false, false, false, false, false, false, false, false, false]) 1 rfl (by kernel_rfl) (by kernel_rfl) (by kernel_rfl) rfl (fun _ => ⟨(Imm.le.refl _), (perm_take (i := 2) rfl (perm_take (i := 0) rfl (perm_nil _)))⟩) (y_move rfl rfl) (.plain rfl) rfl (by decide) rfl ?_
    refine RunT.p (v := .pointer (some ⟨g45, 0, none⟩)) (listed' := #[true, true, true, false, false, false, false, false, false, false, false, false, false, false, false, false, false, false, false, false]) 2 rfl (by kernel_rfl) (by kernel_rfl) (by kernel_rfl) rfl (fun _ => ⟨(Imm.le.refl _), (perm_take (i := 2) rfl (perm_take (i := 0) rfl (perm_nil _)))⟩) (y_nilCheck rfl rfl) (.plain rfl) rfl (by decide) rfl ?_
    refine RunT.p (v := .pointer (some ⟨g45, 0, none⟩)) (listed' := #[true, true, true, true, false, false, false, false, false, false, false, false, false, false, false, false, false, false, false, false]) 3 rfl (by kernel_rfl) (by kernel_rfl) (by kernel_rfl) rfl (fun _ => ⟨(Imm.le.refl _), (perm_take (i := 2) rfl (perm_take (i := 0) rfl (perm_nil _)))⟩) (y_fieldAddr rfl rfl Tryz.runUnderlying128 rfl Tryz.sizeOf42 (by decide) rfl) (.plain rfl) rfl (by decide) rfl ?_
    refine RunT.y (v := .slice A3B ((((([] : List UInt8) ++ [(b8 u.kind)]) ++ be4 (b32 u.label)) ++ be4 (b32 u.number)).length) c3B) (listed' := #[true, true, true, true, true, false, false, false, false, false, false, false, false, false, false, false, false, false, false, false]) 4 rfl (by kernel_rfl) (by kernel_rfl) (by kernel_rfl) (by kernel_rfl) rfl (Imm.le.refl _) (perm_take (i := 2) rfl (perm_take (i := 0) rfl (perm_nil _))) (y_loadB1 1 rfl Tryz.isAgg42 rfl rfl rfl) (.plain rfl) rfl (by decide) rfl ?_
    refine RunT.p (v := .pointer (some ⟨g1, 3, none⟩)) (listed' := #[true, true, true, true, true, true, false, false, false, false, false, false, false, false, false, false, false, false, false, false]) 5 rfl (by kernel_rfl) (by kernel_rfl) (by kernel_rfl) rfl (fun _ => ⟨(Imm.le.refl _), (perm_take (i := 2) rfl (perm_take (i := 0) rfl (perm_nil _)))⟩) (y_fieldAddr rfl rfl Tryz.runUnderlying63 rfl Tryz.sizeOf42 (by decide) rfl) (.plain rfl) rfl (by decide) rfl ?_
    refine RunT.y (v := .slice Au_3 u.load.length cu_3) (listed' := #[true, true, true, true, true, true, true, false, false, false, false, false, false, false, false, false, false, false, false, false]) 6 rfl (by kernel_rfl) (by kernel_rfl) (by kernel_rfl) (by kernel_rfl) rfl (Imm.le.refl _) (perm_take (i := 2) rfl (perm_take (i := 0) rfl (perm_nil _))) (y_loadB1 0 rfl Tryz.isAgg42 rfl rfl rfl) (.plain rfl) rfl (by decide) rfl ?_
    refine RunT.p (v := .int .i64 (u.load.length : Int)) (listed' := #[true, true, true, true, true, true, true, true, false, false, false, false, false, false, false, false, false, false, false, false]) 7 rfl (by kernel_rfl) (by kernel_rfl) (by kernel_rfl) rfl (fun _ => ⟨(Imm.le.refl _), (perm_take (i := 2) rfl (perm_take (i := 0) rfl (perm_nil _)))⟩) (y_len rfl Tryz.runUnderlying42 rfl) (.plain rfl) rfl (by decide) rfl ?_
    refine RunT.p (v := .int .i64 ((u.load.length : Int) / 2 ^ 8)) (listed' := #[true, true, true, true, true, true, true, true, true, false, false, false, false, false, false, false, false, false, false, false]) 8 rfl (by kernel_rfl) (by kernel_rfl) (by kernel_rfl) rfl (fun _ => ⟨(Imm.le.refl _), (perm_take (i := 2) rfl (perm_take (i := 0) rfl (perm_nil _)))⟩) (y_bin rfl rfl rfl (bn_shr (c := 8) (by decide))) (.plain rfl) rfl (by decide) rfl ?_
    refine RunT.p (v := .int .u8 ((b8 ((u.load.length : Int) / 2 ^ 8)).toNat : Int)) (listed' := #[true, true, true, true, true, true, true, true, true, true, false, false, false, false, false, false, false, false, false, false]) 9 rfl (by kernel_rfl) (by kernel_rfl) (by kernel_rfl) rfl (fun _ => ⟨(Imm.le.refl _), (perm_take (i := 2) rfl (perm_take (i := 0) rfl (perm_nil _)))⟩) (y_conv rfl rfl (cv_int Tryz.underlying3 Tryz.underlying5 (wrapu8 _))) (.plain rfl) rfl (by decide) rfl ?_
    refine RunT.p (v := .pointer (some ⟨g1, 3, none⟩)) (listed' := #[true, true, true, true, true, true, true, true, true, true, true, false, false, false, false, false, false, false, false, false]) 10 rfl (by kernel_rfl) (by kernel_rfl) (by kernel_rfl) rfl (fun _ => ⟨(Imm.le.refl _), (perm_take (i := 2) rfl (perm_take (i := 0) rfl (perm_nil _)))⟩) (y_fieldAddr rfl rfl Tryz.runUnderlying63 rfl Tryz.sizeOf42 (by decide) rfl) (.plain rfl) rfl (by decide) rfl ?_
    refine RunT.y (v := .slice Au_3 u.load.length cu_3) (listed' := #[true, true, true, true, true, true, true, true, true, true, true, true, false, false, false, false, false, false, false, false]) 11 rfl (by kernel_rfl) (by kernel_rfl) (by kernel_rfl) (by kernel_rfl) rfl (Imm.le.refl _) (perm_take (i := 2) rfl (perm_take (i := 0) rfl (perm_nil _))) (y_loadB1 0 rfl Tryz.isAgg42 rfl rfl rfl) (.plain rfl) rfl (by decide) rfl ?_
    refine RunT.p (v := .int .i64 (u.load.length : Int)) (listed' := #[true, true, true, true, true, true, true, true, true, true, true, true, true, false, false, false, false, false, false, false]) 12 rfl (by kernel_rfl) (by kernel_rfl) (by kernel_rfl) rfl (fun _ => ⟨(Imm.le.refl _), (perm_take (i := 2) rfl (perm_take (i := 0) rfl (perm_nil _)))⟩) (y_len rfl Tryz.runUnderlying42 rfl) (.plain rfl) rfl (by decide) rfl ?_
    refine RunT.p (v := .int .i64 ((u.load.length : Int) % 2 ^ 8)) (listed' := #[true, true, true, true, true, true, true, true, true, true, true, true, true, true, false, false, false, false, false, false]) 13 rfl (by kernel_rfl) (by kernel_rfl) (by kernel_rfl) rfl (fun _ => ⟨(Imm.le.refl _), (perm_take (i := 2) rfl (perm_take (i := 0) rfl (perm_nil _)))⟩) (y_bin rfl rfl rfl (bn_mask 8 (by decide) rfl)) (.plain rfl) rfl (by decide) rfl ?_
    refine RunT.p (v := .int .u8 ((b8 ((u.load.length : Int) % 2 ^ 8)).toNat : Int)) (listed' := #[true, true, true, true, true, true, true, true, true, true, true, true, true, true, true, false, false, false, false, false]) 14 rfl (by kernel_rfl) (by kernel_rfl) (by kernel_rfl) rfl (fun _ => ⟨(Imm.le.refl _), (perm_take (i := 2) rfl (perm_take (i := 0) rfl (perm_nil _)))⟩) (y_conv rfl rfl (cv_int Tryz.underlying3 Tryz.underlying5 (wrapu8 _))) (.plain rfl) rfl (by decide) rfl ?_
    refine RunT.step (listed' := #[true, true, true, true, true, true, true, true, true, true, true, true, true, true, true, true, false, false, false, false]) 15 rfl (by kernel_rfl) rfl ?_
    refine Run.lit (vs := [(0, .int .u8 ((b8 ((u.load.length : Int) / 2 ^ 8)).toNat : Int)), (1, .int .u8 ((b8 ((u.load.length : Int) % 2 ^ 8)).toNat : Int))]) (cs := [.int .u8 ((b8 ((u.load.length : Int) / 2 ^ 8)).toNat : Int), .int .u8 ((b8 ((u.load.length : Int) % 2 ^ 8)).toNat : Int)]) (el := 5) (sz := 1) rfl rfl (fun w => by simp [Instr.buildSlice, Tryz.runUnderlying42, Tryz.sizeOf5, Tryz.zeroValue5, Instr.fill, Value.cells, newRow, (show Array.range 2 = #[0, 1] from rfl)]) rfl (by simp [maxLen]) rfl rfl (by decide) (fun g74 => ?_)
    refine Run.nil ?_
    refine RunQ.stepEnd (fun _ => ⟨(Imm.le.refl _), (perm_take (i := 3) rfl (perm_take (i := 1) rfl (perm_nil _)))⟩) ?_
    refine RunT.step (listed' := #[true, true, true, true, true, true, true, true, true, true, true, true, true, true, true, true, true, false, false, false]) 16 rfl (by kernel_rfl) rfl ?_
    have hlit4 : tU8.all J3 [.int .u8 ((b8 ((u.load.length : Int) / 2 ^ 8)).toNat : Int), .int .u8 ((b8 ((u.load.length : Int) % 2 ^ 8)).toNat : Int)] [b8 ((u.load.length : Int) / 2 ^ 8), b8 ((u.load.length : Int) % 2 ^ 8)] := (all_snoc (T := tU8) (all_snoc (T := tU8) all_nil rfl) rfl)
    have hall5 : tU8.all J3 (cl3B ++ ([.int .u8 ((b8 ((u.load.length : Int) / 2 ^ 8)).toNat : Int), .int .u8 ((b8 ((u.load.length : Int) % 2 ^ 8)).toNat : Int)])) ((((([] : List UInt8) ++ [(b8 u.kind)]) ++ be4 (b32 u.label)) ++ be4 (b32 u.number)) ++ ([b8 ((u.load.length : Int) / 2 ^ 8), b8 ((u.load.length : Int) % 2 ^ 8)])) := all_append h3B hlit4
    refine Run.append (by_ := 1) (ys := [.int .u8 ((b8 ((u.load.length : Int) / 2 ^ 8)).toNat : Int), .int .u8 ((b8 ((u.load.length : Int) % 2 ^ 8)).toNat : Int)]) (k := 2) (own' := [row (.slice (some ⟨g74, 0, none⟩) 2 2) 5 1 ([.int .u8 ((b8 ((u.load.length : Int) / 2 ^ 8)).toNat : Int), .int .u8 ((b8 ((u.load.length : Int) % 2 ^ 8)).toNat : Int)]), blk g45 [.slice A3B ((((([] : List UInt8) ++ [(b8 u.kind)]) ++ be4 (b32 u.label)) ++ be4 (b32 u.number)).length) c3B] 128, blk g1 [.int .i64 u.kind, .int .i64 u.label, .int .i64 u.number, .slice Au_3 u.load.length cu_3] 63]) 2 rfl rfl rfl Tryz.runUnderlying42 (.inl Tryz.runUnderlying42) Tryz.sizeOf5 Tryz.typeInfo5 rfl Tryz.zeroValue5 rfl rfl rfl (fun w hS => src_own hS (i := 0) rfl) (row_len hlit4 (by first | rfl | (simp; done) | (simp; omega)) rfl) (all_one hlit4) (((((([] : List UInt8) ++ [(b8 u.kind)]) ++ be4 (b32 u.label)) ++ be4 (b32 u.number)) ++ ([b8 ((u.load.length : Int) / 2 ^ 8), b8 ((u.load.length : Int) % 2 ^ 8)])).length) (by first | (simp; done) | (simp; omega)) (by first | omega | (simp [be4_len]; done) | (simp [be4_len]; omega)) (by first | (simp [maxLen, be4_len]; done) | (simp [maxLen, be4_len]; omega)) rfl rfl (by decide) (fun A75_5 c75_5 => ?_)
    refine Run.weak Sub.refl (perm_take (i := 0) rfl (perm_take (i := 1) rfl (perm_take (i := 1) rfl (perm_nil _)))) ?_
    refine Run.nil ?_
    refine RunQ.stepEnd (fun _ => ⟨(Imm.le.refl _), (perm_take (i := 2) rfl (perm_take (i := 1) rfl (perm_nil _)))⟩) ?_
    refine RunT.p (v := .pointer (some ⟨g45, 0, none⟩)) (listed' := #[true, true, true, true, true, true, true, true, true, true, true, true, true, true, true, true, true, true, false, false]) 17 rfl (by kernel_rfl) (by kernel_rfl) (by kernel_rfl) rfl (fun _ => ⟨(Imm.le.refl _), (perm_take (i := 2) rfl (perm_take (i := 1) rfl (perm_nil _)))⟩) (y_nilCheck rfl rfl) (.plain rfl) rfl (by decide) rfl ?_
    refine RunT.p (v := .pointer (some ⟨g45, 0, none⟩)) (listed' := #[true, true, true, true, true, true, true, true, true, true, true, true, true, true, true, true, true, true, true, false]) 18 rfl (by kernel_rfl) (by kernel_rfl) (by kernel_rfl) rfl (fun _ => ⟨(Imm.le.refl _), (perm_take (i := 2) rfl (perm_take (i := 1) rfl (perm_nil _)))⟩) (y_fieldAddr rfl rfl Tryz.runUnderlying128 rfl Tryz.sizeOf42 (by decide) rfl) (.plain rfl) rfl (by decide) rfl ?_
    refine RunT.step (listed' := #[true, true, true, true, true, true, true, true, true, true, true, true, true, true, true, true, true, true, true, true]) 19 rfl (by kernel_rfl) rfl ?_
    refine Run.storeB (vs := [.slice A75_5 (((((([] : List UInt8) ++ [(b8 u.kind)]) ++ be4 (b32 u.label)) ++ be4 (b32 u.number)) ++ ([b8 ((u.load.length : Int) / 2 ^ 8), b8 ((u.load.length : Int) % 2 ^ 8)])).length) c75_5]) (cs' := [.slice A75_5 (((((([] : List UInt8) ++ [(b8 u.kind)]) ++ be4 (b32 u.label)) ++ be4 (b32 u.number)) ++ ([b8 ((u.load.length : Int) / 2 ^ 8), b8 ((u.load.length : Int) % 2 ^ 8)])).length) c75_5]) (own' := [row (.slice A75_5 (((((([] : List UInt8) ++ [(b8 u.kind)]) ++ be4 (b32 u.label)) ++ be4 (b32 u.number)) ++ ([b8 ((u.load.length : Int) / 2 ^ 8), b8 ((u.load.length : Int) % 2 ^ 8)])).length) c75_5) 5 1 (cl3B ++ ([.int .u8 ((b8 ((u.load.length : Int) / 2 ^ 8)).toNat : Int), .int .u8 ((b8 ((u.load.length : Int) % 2 ^ 8)).toNat : Int)])), blk g1 [.int .i64 u.kind, .int .i64 u.label, .int .i64 u.number, .slice Au_3 u.load.length cu_3] 63]) 1 rfl rfl rfl Tryz.sizeOf42 rfl rfl rfl rfl rfl (Nat.le_of_ble_eq_true rfl) rfl rfl rfl ?_
    refine Run.nil ?_
    refine RunQ.stepEnd (fun h => absurd (show false = true from h) Bool.false_ne_true) ?_
    refine RunT.done (by kernel_rfl) ?_
    refine RunQ.next ?_
    refine RunC.seq ?_
    refine RunC.regionT [10] [blk g1 [.int .i64 u.kind, .int .i64 u.label, .int .i64 u.number, .slice Au_3 u.load.length cu_3] 63, blk g45 [.slice A75_5 (((((([] : List UInt8) ++ [(b8 u.kind)]) ++ be4 (b32 u.label)) ++ be4 (b32 u.number)) ++ ([b8 ((u.load.length : Int) / 2 ^ 8), b8 ((u.load.length : Int) % 2 ^ 8)])).length) c75_5] 128] (by kernel_rfl) rfl ?_
    refine RunT.p (v := .pointer (some ⟨g45, 0, none⟩)) (listed' := #[true, false, false, false, false, false, false, false, false, false, false]) 0 rfl (by kernel_rfl) (by kernel_rfl) (by kernel_rfl) rfl (fun _ => ⟨(Imm.le.refl _), (perm_take (i := 2) rfl (perm_take (i := 0) rfl (perm_nil _)))⟩) (y_move rfl rfl) (.plain rfl) rfl (by decide) rfl ?_
    refine RunT.p (v := .pointer (some ⟨g45, 0, none⟩)) (listed' := #[true, true, false, false, false, false, false, false, false, false, false]) 1 rfl (by kernel_rfl) (by kernel_rfl) (by kernel_rfl) rfl (fun _ => ⟨(Imm.le.refl _), (perm_take (i := 2) rfl (perm_take (i := 0) rfl (perm_nil _)))⟩) (y_move rfl rfl) (.plain rfl) rfl (by decide) rfl ?_
    refine RunT.p (v := .pointer (some ⟨g45, 0, none⟩)) (listed' := #[true, true, true, false, false, false, false, false, false, false, false]) 2 rfl (by kernel_rfl) (by kernel_rfl) (by kernel_rfl) rfl (fun _ => ⟨(Imm.le.refl _), (perm_take (i := 2) rfl (perm_take (i := 0) rfl (perm_nil _)))⟩) (y_nilCheck rfl rfl) (.plain rfl) rfl (by decide) rfl ?_
    refine RunT.p (v := .pointer (some ⟨g45, 0, none⟩)) (listed' := #[true, true, true, true, false, false, false, false, false, false, false]) 3 rfl (by kernel_rfl) (by kernel_rfl) (by kernel_rfl) rfl (fun _ => ⟨(Imm.le.refl _), (perm_take (i := 2) rfl (perm_take (i := 0) rfl (perm_nil _)))⟩) (y_fieldAddr rfl rfl Tryz.runUnderlying128 rfl Tryz.sizeOf42 (by decide) rfl) (.plain rfl) rfl (by decide) rfl ?_
    refine RunT.y (v := .slice A75_5 (((((([] : List UInt8) ++ [(b8 u.kind)]) ++ be4 (b32 u.label)) ++ be4 (b32 u.number)) ++ ([b8 ((u.load.length : Int) / 2 ^ 8), b8 ((u.load.length : Int) % 2 ^ 8)])).length) c75_5) (listed' := #[true, true, true, true, true, false, false, false, false, false, false]) 4 rfl (by kernel_rfl) (by kernel_rfl) (by kernel_rfl) (by kernel_rfl) rfl (Imm.le.refl _) (perm_take (i := 2) rfl (perm_take (i := 0) rfl (perm_nil _))) (y_loadB1 1 rfl Tryz.isAgg42 rfl rfl rfl) (.plain rfl) rfl (by decide) rfl ?_
    refine RunT.p (v := .pointer (some ⟨g1, 3, none⟩)) (listed' := #[true, true, true, true, true, true, false, false, false, false, false]) 5 rfl (by kernel_rfl) (by kernel_rfl) (by kernel_rfl) rfl (fun _ => ⟨(Imm.le.refl _), (perm_take (i := 2) rfl (perm_take (i := 0) rfl (perm_nil _)))⟩) (y_fieldAddr rfl rfl Tryz.runUnderlying63 rfl Tryz.sizeOf42 (by decide) rfl) (.plain rfl) rfl (by decide) rfl ?_
    refine RunT.y (v := .slice Au_3 u.load.length cu_3) (listed' := #[true, true, true, true, true, true, true, false, false, false, false]) 6 rfl (by kernel_rfl) (by kernel_rfl) (by kernel_rfl) (by kernel_rfl) rfl (Imm.le.refl _) (perm_take (i := 2) rfl (perm_take (i := 0) rfl (perm_nil _))) (y_loadB1 0 rfl Tryz.isAgg42 rfl rfl rfl) (.plain rfl) rfl (by decide) rfl ?_
    refine RunT.step (listed' := #[true, true, true, true, true, true, true, true, false, false, false]) 7 rfl (by kernel_rfl) rfl ?_
    obtain ⟨ys6, hraw6, hya6⟩ := Sl.raw (fu_3.mono ((hleJ1.trans hleJ2).trans hleJ3))
    have hall7 : tU8.all J3 ((cl3B ++ ([.int .u8 ((b8 ((u.load.length : Int) / 2 ^ 8)).toNat : Int), .int .u8 ((b8 ((u.load.length : Int) % 2 ^ 8)).toNat : Int)])) ++ ys6) (((((([] : List UInt8) ++ [(b8 u.kind)]) ++ be4 (b32 u.label)) ++ be4 (b32 u.number)) ++ ([b8 ((u.load.length : Int) / 2 ^ 8), b8 ((u.load.length : Int) % 2 ^ 8)])) ++ u.load) := all_append hall5 hya6
    refine Run.append (by_ := 1) (ys := ys6) (k := u.load.length) (own' := [blk g45 [.slice A75_5 (((((([] : List UInt8) ++ [(b8 u.kind)]) ++ be4 (b32 u.label)) ++ be4 (b32 u.number)) ++ ([b8 ((u.load.length : Int) / 2 ^ 8), b8 ((u.load.length : Int) % 2 ^ 8)])).length) c75_5] 128, blk g1 [.int .i64 u.kind, .int .i64 u.label, .int .i64 u.number, .slice Au_3 u.load.length cu_3] 63]) 1 rfl rfl rfl Tryz.runUnderlying42 (.inl Tryz.runUnderlying42) Tryz.sizeOf5 Tryz.typeInfo5 rfl Tryz.zeroValue5 rfl rfl rfl (fun w hS => src_raw hS hraw6) (hya6).1 (all_one hya6) ((((((([] : List UInt8) ++ [(b8 u.kind)]) ++ be4 (b32 u.label)) ++ be4 (b32 u.number)) ++ ([b8 ((u.load.length : Int) / 2 ^ 8), b8 ((u.load.length : Int) % 2 ^ 8)])) ++ u.load).length) (by first | (simp; done) | (simp; omega)) (by first | omega | (simp [be4_len]; done) | (simp [be4_len]; omega)) (by first | (simp [maxLen, be4_len]; done) | (simp [maxLen, be4_len]; omega)) rfl rfl (by decide) (fun A85_7 c85_7 => ?_)
    refine Run.nil ?_
    refine RunQ.stepEnd (fun _ => ⟨(Imm.le.refl _), (perm_take (i := 2) rfl (perm_take (i := 1) rfl (perm_nil _)))⟩) ?_
    refine RunT.p (v := .pointer (some ⟨g45, 0, none⟩)) (listed' := #[true, true, true, true, true, true, true, true, true, false, false]) 8 rfl (by kernel_rfl) (by kernel_rfl) (by kernel_rfl) rfl (fun _ => ⟨(Imm.le.refl _), (perm_take (i := 2) rfl (perm_take (i := 1) rfl (perm_nil _)))⟩) (y_nilCheck rfl rfl) (.plain rfl) rfl (by decide) rfl ?_
    refine RunT.p (v := .pointer (some ⟨g45, 0, none⟩)) (listed' := #[true, true, true, true, true, true, true, true, true, true, false]) 9 rfl (by kernel_rfl) (by kernel_rfl) (by kernel_rfl) rfl (fun _ => ⟨(Imm.le.refl _), (perm_take (i := 2) rfl (perm_take (i := 1) rfl (perm_nil _)))⟩) (y_fieldAddr rfl rfl Tryz.runUnderlying128 rfl Tryz.sizeOf42 (by decide) rfl) (.plain rfl) rfl (by decide) rfl ?_
    refine RunT.step (listed' := #[true, true, true, true, true, true, true, true, true, true, true]) 10 rfl (by kernel_rfl) rfl ?_
    refine Run.storeB (vs := [.slice A85_7 ((((((([] : List UInt8) ++ [(b8 u.kind)]) ++ be4 (b32 u.label)) ++ be4 (b32 u.number)) ++ ([b8 ((u.load.length : Int) / 2 ^ 8), b8 ((u.load.length : Int) % 2 ^ 8)])) ++ u.load).length) c85_7]) (cs' := [.slice A85_7 ((((((([] : List UInt8) ++ [(b8 u.kind)]) ++ be4 (b32 u.label)) ++ be4 (b32 u.number)) ++ ([b8 ((u.load.length : Int) / 2 ^ 8), b8 ((u.load.length : Int) % 2 ^ 8)])) ++ u.load).length) c85_7]) (own' := [row (.slice A85_7 ((((((([] : List UInt8) ++ [(b8 u.kind)]) ++ be4 (b32 u.label)) ++ be4 (b32 u.number)) ++ ([b8 ((u.load.length : Int) / 2 ^ 8), b8 ((u.load.length : Int) % 2 ^ 8)])) ++ u.load).length) c85_7) 5 1 ((cl3B ++ ([.int .u8 ((b8 ((u.load.length : Int) / 2 ^ 8)).toNat : Int), .int .u8 ((b8 ((u.load.length : Int) % 2 ^ 8)).toNat : Int)])) ++ ys6), blk g1 [.int .i64 u.kind, .int .i64 u.label, .int .i64 u.number, .slice Au_3 u.load.length cu_3] 63]) 1 rfl rfl rfl Tryz.sizeOf42 rfl rfl rfl rfl rfl (Nat.le_of_ble_eq_true rfl) rfl rfl rfl ?_
    refine Run.nil ?_
    refine RunQ.stepEnd (fun h => absurd (show false = true from h) Bool.false_ne_true) ?_
    refine RunT.done (by kernel_rfl) ?_
    refine RunQ.next ?_
    refine RunC.seq ?_
    refine RunC.regionT [13] [blk g1 [.int .i64 u.kind, .int .i64 u.label, .int .i64 u.number, .slice Au_3 u.load.length cu_3] 63, blk g45 [.slice A85_7 ((((((([] : List UInt8) ++ [(b8 u.kind)]) ++ be4 (b32 u.label)) ++ be4 (b32 u.number)) ++ ([b8 ((u.load.length : Int) / 2 ^ 8), b8 ((u.load.length : Int) % 2 ^ 8)])) ++ u.load).length) c85_7] 128] (by kernel_rfl) rfl ?_
    refine RunT.p (v := .pointer (some ⟨g45, 0, none⟩)) (listed' := #[true, false, false, false, false, false, false, false, false, false, false, false, false, false]) 0 rfl (by kernel_rfl) (by kernel_rfl) (by kernel_rfl) rfl (fun _ => ⟨(Imm.le.refl _), (perm_take (i := 2) rfl (perm_take (i := 0) rfl (perm_nil _)))⟩) (y_move rfl rfl) (.plain rfl) rfl (by decide) rfl ?_
    refine RunT.p (v := .pointer (some ⟨g45, 0, none⟩)) (listed' := #[true, true, false, false, false, false, false, false, false, false, false, false, false, false]) 1 rfl (by kernel_rfl) (by kernel_rfl) (by kernel_rfl) rfl (fun _ => ⟨(Imm.le.refl _), (perm_take (i := 2) rfl (perm_take (i := 0) rfl (perm_nil _)))⟩) (y_move rfl rfl) (.plain rfl) rfl (by decide) rfl ?_
    refine RunT.p (v := .pointer (some ⟨g45, 0, none⟩)) (listed' := #[true, true, true, false, false, false, false, false, false, false, false, false, false, false]) 2 rfl (by kernel_rfl) (by kernel_rfl) (by kernel_rfl) rfl (fun _ => ⟨(Imm.le.refl _), (perm_take (i := 2) rfl (perm_take (i := 0) rfl (perm_nil _)))⟩) (y_nilCheck rfl rfl) (.plain rfl) rfl (by decide) rfl ?_
    refine RunT.p (v := .pointer (some ⟨g45, 0, none⟩)) (listed' := #[true, true, true, true, false, false, false, false, false, false, false, false, false, false]) 3 rfl (by kernel_rfl) (by kernel_rfl) (by kernel_rfl) rfl (fun _ => ⟨(Imm.le.refl _), (perm_take (i := 2) rfl (perm_take (i := 0) rfl (perm_nil _)))⟩) (y_fieldAddr rfl rfl Tryz.runUnderlying128 rfl Tryz.sizeOf42 (by decide) rfl) (.plain rfl) rfl (by decide) rfl ?_
    refine RunT.y (v := .slice A85_7 ((((((([] : List UInt8) ++ [(b8 u.kind)]) ++ be4 (b32 u.label)) ++ be4 (b32 u.number)) ++ ([b8 ((u.load.length : Int) / 2 ^ 8), b8 ((u.load.length : Int) % 2 ^ 8)])) ++ u.load).length) c85_7) (listed' := #[true, true, true, true, true, false, false, false, false, false, false, false, false, false]) 4 rfl (by kernel_rfl) (by kernel_rfl) (by kernel_rfl) (by kernel_rfl) rfl (Imm.le.refl _) (perm_take (i := 2) rfl (perm_take (i := 0) rfl (perm_nil _))) (y_loadB1 1 rfl Tryz.isAgg42 rfl rfl rfl) (.plain rfl) rfl (by decide) rfl ?_
    refine RunT.p (v := .int .i64 (m : Int)) (listed' := #[true, true, true, true, true, true, false, false, false, false, false, false, false, false]) 5 rfl (by kernel_rfl) (by kernel_rfl) (by kernel_rfl) rfl (fun _ => ⟨(Imm.le.refl _), (perm_take (i := 2) rfl (perm_take (i := 0) rfl (perm_nil _)))⟩) (y_move rfl rfl) (.plain rfl) rfl (by decide) rfl ?_
    refine RunT.p (v := .pointer (some ⟨g1, 3, none⟩)) (listed' := #[true, true, true, true, true, true, true, false, false, false, false, false, false, false]) 6 rfl (by kernel_rfl) (by kernel_rfl) (by kernel_rfl) rfl (fun _ => ⟨(Imm.le.refl _), (perm_take (i := 2) rfl (perm_take (i := 0) rfl (perm_nil _)))⟩) (y_fieldAddr rfl rfl Tryz.runUnderlying63 rfl Tryz.sizeOf42 (by decide) rfl) (.plain rfl) rfl (by decide) rfl ?_
    refine RunT.y (v := .slice Au_3 u.load.length cu_3) (listed' := #[true, true, true, true, true, true, true, true, false, false, false, false, false, false]) 7 rfl (by kernel_rfl) (by kernel_rfl) (by kernel_rfl) (by kernel_rfl) rfl (Imm.le.refl _) (perm_take (i := 2) rfl (perm_take (i := 0) rfl (perm_nil _))) (y_loadB1 0 rfl Tryz.isAgg42 rfl rfl rfl) (.plain rfl) rfl (by decide) rfl ?_
    refine RunT.p (v := .int .i64 (u.load.length : Int)) (listed' := #[true, true, true, true, true, true, true, true, true, false, false, false, false, false]) 8 rfl (by kernel_rfl) (by kernel_rfl) (by kernel_rfl) rfl (fun _ => ⟨(Imm.le.refl _), (perm_take (i := 2) rfl (perm_take (i := 0) rfl (perm_nil _)))⟩) (y_len rfl Tryz.runUnderlying42 rfl) (.plain rfl) rfl (by decide) rfl ?_
    refine RunT.p (v := .int .i64 ((m : Int) - (u.load.length : Int))) (listed' := #[true, true, true, true, true, true, true, true, true, true, false, false, false, false]) 9 rfl (by kernel_rfl) (by kernel_rfl) (by kernel_rfl) rfl (fun _ => ⟨(Imm.le.refl _), (perm_take (i := 2) rfl (perm_take (i := 0) rfl (perm_nil _)))⟩) (y_bin rfl rfl rfl (bn_sub (by omega) (by omega))) (.plain rfl) rfl (by decide) rfl ?_
    refine RunT.step (listed' := #[true, true, true, true, true, true, true, true, true, true, true, false, false, false]) 10 rfl (by kernel_rfl) rfl ?_
    obtain ⟨z, hz⟩ : ∃ z : Nat, z = m - u.load.length := ⟨_, rfl⟩
    refine Run.cast (s := 97) (v' := .int .i64 (z : Int)) rfl (by rw [show (m : Int) - (u.load.length : Int) = (z : Int) from by omega]) ?_
    have hall8 : tU8.all J3 (((cl3B ++ ([.int .u8 ((b8 ((u.load.length : Int) / 2 ^ 8)).toNat : Int), .int .u8 ((b8 ((u.load.length : Int) % 2 ^ 8)).toNat : Int)])) ++ ys6) ++ List.replicate z (.int .u8 ((0 : UInt8).toNat : Int))) ((((((([] : List UInt8) ++ [(b8 u.kind)]) ++ be4 (b32 u.label)) ++ be4 (b32 u.number)) ++ ([b8 ((u.load.length : Int) / 2 ^ 8), b8 ((u.load.length : Int) % 2 ^ 8)])) ++ u.load) ++ (List.replicate z ((0 : UInt8) : UInt8))) := all_append hall7 (all_replicate (by rfl) _)
    refine Run.appendZ (by_ := 1) (k := z) (own' := [blk g45 [.slice A85_7 ((((((([] : List UInt8) ++ [(b8 u.kind)]) ++ be4 (b32 u.label)) ++ be4 (b32 u.number)) ++ ([b8 ((u.load.length : Int) / 2 ^ 8), b8 ((u.load.length : Int) % 2 ^ 8)])) ++ u.load).length) c85_7] 128, blk g1 [.int .i64 u.kind, .int .i64 u.label, .int .i64 u.number, .slice Au_3 u.load.length cu_3] 63]) 1 rfl rfl rfl Tryz.runUnderlying42 Tryz.runUnderlying3 Tryz.sizeOf5 Tryz.typeInfo5 rfl Tryz.zeroValue5 rfl rfl rfl rfl (((((((([] : List UInt8) ++ [(b8 u.kind)]) ++ be4 (b32 u.label)) ++ be4 (b32 u.number)) ++ ([b8 ((u.load.length : Int) / 2 ^ 8), b8 ((u.load.length : Int) % 2 ^ 8)])) ++ u.load) ++ (List.replicate z ((0 : UInt8) : UInt8))).length) (by first | (simp; done) | (simp; omega)) (by first | omega | (simp [be4_len]; done) | (simp [be4_len]; omega)) (by first | (simp [maxLen, be4_len]; done) | (simp [maxLen, be4_len]; omega)) rfl rfl (by decide) (fun A98_8 c98_8 => ?_)
    refine Run.nil ?_
    refine RunQ.stepEnd (fun _ => ⟨(Imm.le.refl _), (perm_take (i := 2) rfl (perm_take (i := 1) rfl (perm_nil _)))⟩) ?_
    refine RunT.p (v := .pointer (some ⟨g45, 0, none⟩)) (listed' := #[true, true, true, true, true, true, true, true, true, true, true, true, false, false]) 11 rfl (by kernel_rfl) (by kernel_rfl) (by kernel_rfl) rfl (fun _ => ⟨(Imm.le.refl _), (perm_take (i := 2) rfl (perm_take (i := 1) rfl (perm_nil _)))⟩) (y_nilCheck rfl rfl) (.plain rfl) rfl (by decide) rfl ?_
    refine RunT.p (v := .pointer (some ⟨g45, 0, none⟩)) (listed' := #[true, true, true, true, true, true, true, true, true, true, true, true, true, false]) 12 rfl (by kernel_rfl) (by kernel_rfl) (by kernel_rfl) rfl (fun _ => ⟨(Imm.le.refl _), (perm_take (i := 2) rfl (perm_take (i := 1) rfl (perm_nil _)))⟩) (y_fieldAddr rfl rfl Tryz.runUnderlying128 rfl Tryz.sizeOf42 (by decide) rfl) (.plain rfl) rfl (by decide) rfl ?_
    refine RunT.step (listed' := #[true, true, true, true, true, true, true, true, true, true, true, true, true, true]) 13 rfl (by kernel_rfl) rfl ?_
    refine Run.storeB (vs := [.slice A98_8 (((((((([] : List UInt8) ++ [(b8 u.kind)]) ++ be4 (b32 u.label)) ++ be4 (b32 u.number)) ++ ([b8 ((u.load.length : Int) / 2 ^ 8), b8 ((u.load.length : Int) % 2 ^ 8)])) ++ u.load) ++ (List.replicate z ((0 : UInt8) : UInt8))).length) c98_8]) (cs' := [.slice A98_8 (((((((([] : List UInt8) ++ [(b8 u.kind)]) ++ be4 (b32 u.label)) ++ be4 (b32 u.number)) ++ ([b8 ((u.load.length : Int) / 2 ^ 8), b8 ((u.load.length : Int) % 2 ^ 8)])) ++ u.load) ++ (List.replicate z ((0 : UInt8) : UInt8))).length) c98_8]) (own' := [row (.slice A98_8 (((((((([] : List UInt8) ++ [(b8 u.kind)]) ++ be4 (b32 u.label)) ++ be4 (b32 u.number)) ++ ([b8 ((u.load.length : Int) / 2 ^ 8), b8 ((u.load.length : Int) % 2 ^ 8)])) ++ u.load) ++ (List.replicate z ((0 : UInt8) : UInt8))).length) c98_8) 5 1 (((cl3B ++ ([.int .u8 ((b8 ((u.load.length : Int) / 2 ^ 8)).toNat : Int), .int .u8 ((b8 ((u.load.length : Int) % 2 ^ 8)).toNat : Int)])) ++ ys6) ++ List.replicate z (.int .u8 ((0 : UInt8).toNat : Int))), blk g1 [.int .i64 u.kind, .int .i64 u.label, .int .i64 u.number, .slice Au_3 u.load.length cu_3] 63]) 1 rfl rfl rfl Tryz.sizeOf42 rfl rfl rfl rfl rfl (Nat.le_of_ble_eq_true rfl) rfl rfl rfl ?_
    refine Run.nil ?_
    refine RunQ.stepEnd (fun h => absurd (show false = true from h) Bool.false_ne_true) ?_
    refine RunT.done (by kernel_rfl) ?_
    refine RunQ.next ?_
    refine RunC.weak (L' := [(2, .slice none 0 0), (3, .int .i64 0), (5, .pointer (some ⟨g45, 0, none⟩))]) (Sub.of rfl) (perm_self _) ?_
    refine RunC.sr ?_
    refine Run.mv ?_
    refine Run.mv ?_
    refine Run.m (y_nilCheck rfl rfl) ?_
    refine Run.m (v := .pointer (some ⟨g45, 0, none⟩)) (y_fieldAddr rfl rfl Tryz.runUnderlying128 rfl Tryz.sizeOf42 (by decide) rfl) ?_
    refine Run.m (v := .slice A98_8 (((((((([] : List UInt8) ++ [(b8 u.kind)]) ++ be4 (b32 u.label)) ++ be4 (b32 u.number)) ++ ([b8 ((u.load.length : Int) / 2 ^ 8), b8 ((u.load.length : Int) % 2 ^ 8)])) ++ u.load) ++ (List.replicate z ((0 : UInt8) : UInt8))).length) c98_8) (y_loadB1 0 rfl Tryz.isAgg42 rfl rfl rfl) ?_
    refine Run.callVB (en_func rfl Tryz.call49 rfl) (Bor.row (own' := [blk g45 [.slice A98_8 (((((((([] : List UInt8) ++ [(b8 u.kind)]) ++ be4 (b32 u.label)) ++ be4 (b32 u.number)) ++ ([b8 ((u.load.length : Int) / 2 ^ 8), b8 ((u.load.length : Int) % 2 ^ 8)])) ++ u.load) ++ (List.replicate z ((0 : UInt8) : UInt8))).length) c98_8] 128, blk g1 [.int .i64 u.kind, .int .i64 u.label, .int .i64 u.number, .slice Au_3 u.load.length cu_3] 63]) 1 rfl rfl (fun Jb9_0 hleJb9_0 hb9_0 => Bor.base (conv_u32 (c_cartridgeref1_Crc _ ((((((([] : List UInt8) ++ [(b8 u.kind)]) ++ be4 (b32 u.label)) ++ be4 (b32 u.number)) ++ ([b8 ((u.load.length : Int) / 2 ^ 8), b8 ((u.load.length : Int) % 2 ^ 8)])) ++ u.load) ++ (List.replicate z ((0 : UInt8) : UInt8))) (Sl.of_rowN hb9_0 rfl rfl (hall8.mono hleJb9_0)))))) rfl rfl (by decide) (fun hI9 => ?_)
    refine Run.m (v := .int .i64 ((crc ((((((([] : List UInt8) ++ [(b8 u.kind)]) ++ be4 (b32 u.label)) ++ be4 (b32 u.number)) ++ ([b8 ((u.load.length : Int) / 2 ^ 8), b8 ((u.load.length : Int) % 2 ^ 8)])) ++ u.load) ++ (List.replicate z ((0 : UInt8) : UInt8)))).toNat : Int)) (y_conv rfl rfl (cv_int Tryz.underlying100 Tryz.underlying3 (wrap64_u32 _))) ?_
    refine Run.call (own1 := [blk g45 [.slice A98_8 (((((((([] : List UInt8) ++ [(b8 u.kind)]) ++ be4 (b32 u.label)) ++ be4 (b32 u.number)) ++ ([b8 ((u.load.length : Int) / 2 ^ 8), b8 ((u.load.length : Int) % 2 ^ 8)])) ++ u.load) ++ (List.replicate z ((0 : UInt8) : UInt8))).length) c98_8] 128, row (.slice A98_8 (((((((([] : List UInt8) ++ [(b8 u.kind)]) ++ be4 (b32 u.label)) ++ be4 (b32 u.number)) ++ ([b8 ((u.load.length : Int) / 2 ^ 8), b8 ((u.load.length : Int) % 2 ^ 8)])) ++ u.load) ++ (List.replicate z ((0 : UInt8) : UInt8))).length) c98_8) 5 1 (((cl3B ++ ([.int .u8 ((b8 ((u.load.length : Int) / 2 ^ 8)).toNat : Int), .int .u8 ((b8 ((u.load.length : Int) % 2 ^ 8)).toNat : Int)])) ++ ys6) ++ List.replicate z (.int .u8 ((0 : UInt8).toNat : Int)))]) (own2 := [blk g1 [.int .i64 u.kind, .int .i64 u.label, .int .i64 u.number, .slice Au_3 u.load.length cu_3] 63]) (en_func rfl Tryz.call67 rfl) (c_cartridgeref1_Writer_Int _ g45 A98_8 c98_8 (((cl3B ++ ([.int .u8 ((b8 ((u.load.length : Int) / 2 ^ 8)).toNat : Int), .int .u8 ((b8 ((u.load.length : Int) % 2 ^ 8)).toNat : Int)])) ++ ys6) ++ List.replicate z (.int .u8 ((0 : UInt8).toNat : Int))) ((((((([] : List UInt8) ++ [(b8 u.kind)]) ++ be4 (b32 u.label)) ++ be4 (b32 u.number)) ++ ([b8 ((u.load.length : Int) / 2 ^ 8), b8 ((u.load.length : Int) % 2 ^ 8)])) ++ u.load) ++ (List.replicate z ((0 : UInt8) : UInt8))) hall8 ((crc ((((((([] : List UInt8) ++ [(b8 u.kind)]) ++ be4 (b32 u.label)) ++ be4 (b32 u.number)) ++ ([b8 ((u.load.length : Int) / 2 ^ 8), b8 ((u.load.length : Int) % 2 ^ 8)])) ++ u.load) ++ (List.replicate z ((0 : UInt8) : UInt8)))).toNat : Int) (by first | omega | (simp [be4_len]; done) | (simp [be4_len]; omega))) (permC (i := 0) rfl rfl (permC (i := 0) rfl rfl (List.Perm.refl _))) rfl rfl (by decide) (fun J10 o10 v10 hleJ10 hq10 => ?_)
    obtain ⟨y10B, A10B, c10B, cl10B, e10B, rfl, rfl, h10B⟩ := hq10
    obtain rfl : (((((((([] : List UInt8) ++ [(b8 u.kind)]) ++ be4 (b32 u.label)) ++ be4 (b32 u.number)) ++ ([b8 ((u.load.length : Int) / 2 ^ 8), b8 ((u.load.length : Int) % 2 ^ 8)])) ++ u.load) ++ (List.replicate z ((0 : UInt8) : UInt8))) ++ be4 (b32 ((crc ((((((([] : List UInt8) ++ [(b8 u.kind)]) ++ be4 (b32 u.label)) ++ be4 (b32 u.number)) ++ ([b8 ((u.load.length : Int) / 2 ^ 8), b8 ((u.load.length : Int) % 2 ^ 8)])) ++ u.load) ++ (List.replicate z ((0 : UInt8) : UInt8)))).toNat : Int))) = y10B := e10B.symm
    refine Run.nx ?_
    refine RunC.sr ?_
    refine Run.mv ?_
    refine Run.m (y_nilCheck rfl rfl) ?_
    refine Run.m (v := .pointer (some ⟨g45, 0, none⟩)) (y_fieldAddr rfl rfl Tryz.runUnderlying128 rfl Tryz.sizeOf42 (by decide) rfl) ?_
    refine Run.m (v := .slice A10B ((((((((([] : List UInt8) ++ [(b8 u.kind)]) ++ be4 (b32 u.label)) ++ be4 (b32 u.number)) ++ ([b8 ((u.load.length : Int) / 2 ^ 8), b8 ((u.load.length : Int) % 2 ^ 8)])) ++ u.load) ++ (List.replicate z ((0 : UInt8) : UInt8))) ++ be4 (b32 ((crc ((((((([] : List UInt8) ++ [(b8 u.kind)]) ++ be4 (b32 u.label)) ++ be4 (b32 u.number)) ++ ([b8 ((u.load.length : Int) / 2 ^ 8), b8 ((u.load.length : Int) % 2 ^ 8)])) ++ u.load) ++ (List.replicate z ((0 : UInt8) : UInt8)))).toNat : Int))).length) c10B) (y_loadB1 0 rfl Tryz.isAgg42 rfl rfl rfl) ?_
    refine Run.as ?_
    refine Run.as ?_
    refine Run.nx ?_
    refine RunC.ret ?_
    refine RunQ.weak Sub.refl (perm_take (i := 1) rfl (perm_nil _)) ?_
    refine RunQ.fin2 (.inl rfl) Tryz.results24 (rv_tmp rfl) (rv_tmp rfl) ?_
    exact ⟨(((((((([] : List UInt8) ++ [(b8 u.kind)]) ++ be4 (b32 u.label)) ++ be4 (b32 u.number)) ++ ([b8 ((u.load.length : Int) / 2 ^ 8), b8 ((u.load.length : Int) % 2 ^ 8)])) ++ u.load) ++ (List.replicate z ((0 : UInt8) : UInt8))) ++ be4 (b32 ((crc ((((((([] : List UInt8) ++ [(b8 u.kind)]) ++ be4 (b32 u.label)) ++ be4 (b32 u.number)) ++ ([b8 ((u.load.length : Int) / 2 ^ 8), b8 ((u.load.length : Int) % 2 ^ 8)])) ++ u.load) ++ (List.replicate z ((0 : UInt8) : UInt8)))).toNat : Int))), A10B, c10B, cl10B, _, (by first | (rw [uRef_1 hc1]; done) | (rw [uRef_1 hc1, if_neg (by decide)]; done) | (rw [uRef_4 hc1 (by omega)]; done) | (rw [uRef_4 hc1 (by omega), if_neg (by decide)]; done) | (rw [uRef_0 hc1 (by omega)]; done) | (rw [if_pos (uRef_0 hc1 (by omega))]; exact uRef_made hm hz)), rfl, rfl, h10B, (rd_eq (T := tInt) (x := 0) ⟨rfl, (by first | omega | (dsimp only; omega))⟩ (by first | (rw [uRef_1 hc1]; done) | (rw [uRef_1 hc1, if_neg (by decide)]; done) | (rw [uRef_4 hc1 (by omega)]; done) | (rw [uRef_4 hc1 (by omega), if_neg (by decide)]; done) | (rw [uRef_0 hc1 (by omega)]; done) | (rw [if_pos (uRef_0 hc1 (by omega))]; exact uRef_made hm hz)))⟩
 ·
  refine RunC.sr ?_
  refine Run.m (v := .pointer (some ⟨g1, 0, none⟩)) (y_fieldAddr rfl rfl Tryz.runUnderlying63 rfl Tryz.sizeOf3 (by decide) rfl) ?_
  refine Run.m (v := .int .i64 u.kind) (y_loadB1 0 rfl Tryz.isAgg3 rfl rfl rfl) ?_
  refine Run.m (v := .bool (decide (u.kind = 6))) (y_bin rfl rfl rfl bn_eql) ?_
  refine Run.nx ?_
  refine RunC.cond rfl (fun hc0 => ?_) (fun hc0 => ?_)
  ·
   try simp only [z1, z2, z3, z4, z5, z6, z7, z8, z9, z10, z11, z12, z13, z14, z15, z16] at hc0
   refine RunC.region ?_
   refine Run.as ?_
   refine Run.nil ?_
   exact RunQ.thenI (fun aa ww hF hS => (hJn1 _ _).2 ⟨79, (by simp [roomOf, hc0]), hF.sub (Sub.of rfl), hS.sub (perm_self _)⟩)
  ·
   try simp only [z1, z2, z3, z4, z5, z6, z7, z8, z9, z10, z11, z12, z13, z14, z15, z16] at hc0
   refine RunC.skip ?_
   exact RunQ.thenI (fun aa ww hF hS => (hJn1 _ _).2 ⟨64, (by simp [roomOf, hc0]), hF.sub (Sub.of rfl), hS.sub (perm_self _)⟩)

theorem c_cartridgelaw14_num (I : Imm) (e : Int) (he : I64 e) : Con Tryz.prog 11 [.int .i64 e].toArray I [] (Ret1 (tInt.o) e) := by
 refine Con.enter (n := 4) (L := [(0, .int .i64 e)]) Tryz.func11 rfl rfl (Nat.le_of_ble_eq_true rfl) rfl (fun E => ?_)
 refine RunC.sr ?_
 refine Run.as ?_
 refine Run.nx ?_
 refine RunC.sr ?_
 refine Run.mv ?_
 refine Run.as ?_
 refine Run.nx ?_
 refine RunC.ret ?_
 refine RunQ.weak Sub.refl (perm_nil _) ?_
 refine RunQ.fin1 (.inl rfl) Tryz.results11 (rv_tmp rfl) ?_
 exact ⟨rfl, _, rfl, (rd_eq (T := tInt) (x := e) ⟨rfl, he⟩ (by rfl))⟩
end Go.Proofs.YtmelbclhkkbmiaaGreat.K
