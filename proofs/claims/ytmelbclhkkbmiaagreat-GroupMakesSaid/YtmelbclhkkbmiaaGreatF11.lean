/- Contracts of functions of the program, each proved by a walk through its operations, for all memory and all arguments that the theorem names. Printed by a program of mine. -/
import Derived.Test.YtmelbclhkkbmiaaGreatF10
set_option linter.unusedVariables false
set_option linter.unusedSimpArgs false
set_option maxRecDepth 100000
namespace Go.Proofs.YtmelbclhkkbmiaaGreat.K
open Go Go.RowKit

theorem c_cartridgeref1_GetFrame (I : Imm) {Ab : Option Addr} {cb : Nat} (b : List UInt8) (hb : Sl tU8 I Ab cb b) (hsz : b.length ≤ 1000000) : Con Tryz.prog 23 [.slice Ab b.length cb].toArray I [] (Ret2 (tUnit.g) (tInt.o) ((fGet b).1) ((fGet b).2)) := by
 have hsmb := hb.small
 refine Con.enter (n := 57) (L := [(0, .slice Ab b.length cb)]) Tryz.func23 rfl rfl (Nat.le_of_ble_eq_true rfl) rfl (fun E => ?_)
 refine RunC.sr ?_
 refine Run.alloc (cs := [.int .i64 0, .int .i64 0, .int .i64 0, .slice none 0 0]) rfl Tryz.zeroValue63 rfl rfl rfl (by decide) (fun g2_1 => ?_)
 refine Run.as ?_
 refine Run.nx ?_
 refine RunC.sr ?_
 refine Run.mv ?_
 refine Run.call (own1 := []) (own2 := [blk g2_1 [.int .i64 0, .int .i64 0, .int .i64 0, .slice none 0 0] 63]) (en_func rfl Tryz.call60 rfl) (c_cartridgeref1_NewReader _ b hb (by omega)) (List.Perm.refl _) rfl rfl (by decide) (fun J2 o2 v2 hleJ2 hq2 => ?_)
 obtain ⟨gr2_0, yr2_0_b, Ar2_0_b, cr2_0_b, er2_0_b, rfl, rfl, hr2_0_b⟩ := hq2
 obtain rfl : b = yr2_0_b := er2_0_b.symm
 refine Run.as ?_
 refine Run.nx ?_
 refine RunC.sr ?_
 refine Run.mv ?_
 refine Run.call (own1 := [blk gr2_0 [.slice Ar2_0_b b.length cr2_0_b, .bool false] 163]) (own2 := [blk g2_1 [.int .i64 0, .int .i64 0, .int .i64 0, .slice none 0 0] 63]) (en_func rfl Tryz.call61 rfl) (c_cartridgeref1_Reader_Byte _ gr2_0 Ar2_0_b cr2_0_b b hr2_0_b false (show (b, false).1.length ≤ 1000000 from hsz)) (permC (i := 0) rfl rfl (List.Perm.refl _)) rfl rfl (by decide) (fun J3 o3 v3 hleJ3 hq3 => ?_)
 obtain ⟨y3b, A3b, c3b, y3bad, csr3_0, e3b, e3bad, rfl, rfl, h3b, hr3_0⟩ := hq3
 obtain rfl : (rrB 1 (b, false)).1 = y3b := e3b.symm
 obtain rfl : (rrB 1 (b, false)).2 = y3bad := e3bad.symm
 replace hr3_0 : tU8.rd J3 csr3_0 (u8at (rrV 1 (b, false))) := hr3_0
 obtain rfl := hr3_0
 refine Run.m (v := .int .i64 ((u8at (rrV 1 (b, false))).toNat : Int)) (y_conv rfl rfl (cv_int Tryz.underlying5 Tryz.underlying3 (wrap64_u8 _))) ?_
 refine Run.mv ?_
 refine Run.call (own1 := [blk gr2_0 [.slice A3b (((rrB 1 (b, false)).1).length) c3b, .bool ((rrB 1 (b, false)).2)] 163]) (own2 := [blk g2_1 [.int .i64 0, .int .i64 0, .int .i64 0, .slice none 0 0] 63]) (en_func rfl Tryz.call62 rfl) (c_cartridgeref1_Reader_Int _ gr2_0 A3b c3b ((rrB 1 (b, false)).1) h3b ((rrB 1 (b, false)).2) (Nat.le_trans (rrB_len _ _) (show (b, false).1.length ≤ 1000000 from hsz))) (permC (i := 0) rfl rfl (List.Perm.refl _)) rfl rfl (by decide) (fun J4 o4 v4 hleJ4 hq4 => ?_)
 obtain ⟨y4b, A4b, c4b, y4bad, csr4_0, e4b, e4bad, rfl, rfl, h4b, hr4_0⟩ := hq4
 obtain rfl : (rrB 4 (rrB 1 (b, false))).1 = y4b := e4b.symm
 obtain rfl : (rrB 4 (rrB 1 (b, false))).2 = y4bad := e4bad.symm
 replace hr4_0 : tInt.rd J4 csr4_0 ((rdN (rrV 4 (rrB 1 (b, false))) : Nat) : Int) := hr4_0
 obtain ⟨rfl, f4_0_0⟩ := hr4_0
 refine Run.mv ?_
 refine Run.call (own1 := [blk gr2_0 [.slice A4b (((rrB 4 (rrB 1 (b, false))).1).length) c4b, .bool ((rrB 4 (rrB 1 (b, false))).2)] 163]) (own2 := [blk g2_1 [.int .i64 0, .int .i64 0, .int .i64 0, .slice none 0 0] 63]) (en_func rfl Tryz.call62 rfl) (c_cartridgeref1_Reader_Int _ gr2_0 A4b c4b ((rrB 4 (rrB 1 (b, false))).1) h4b ((rrB 4 (rrB 1 (b, false))).2) (Nat.le_trans (rrB_len _ _) (Nat.le_trans (rrB_len _ _) (show (b, false).1.length ≤ 1000000 from hsz)))) (permC (i := 0) rfl rfl (List.Perm.refl _)) rfl rfl (by decide) (fun J5 o5 v5 hleJ5 hq5 => ?_)
 obtain ⟨y5b, A5b, c5b, y5bad, csr5_0, e5b, e5bad, rfl, rfl, h5b, hr5_0⟩ := hq5
 obtain rfl : (rrB 4 (rrB 4 (rrB 1 (b, false)))).1 = y5b := e5b.symm
 obtain rfl : (rrB 4 (rrB 4 (rrB 1 (b, false)))).2 = y5bad := e5bad.symm
 replace hr5_0 : tInt.rd J5 csr5_0 ((rdN (rrV 4 (rrB 4 (rrB 1 (b, false)))) : Nat) : Int) := hr5_0
 obtain ⟨rfl, f5_0_0⟩ := hr5_0
 refine Run.m (v := .agg [.int .i64 ((u8at (rrV 1 (b, false))).toNat : Int), .int .i64 ((rdN (rrV 4 (rrB 1 (b, false))) : Nat) : Int), .int .i64 ((rdN (rrV 4 (rrB 4 (rrB 1 (b, false)))) : Nat) : Int), .slice none 0 0].toArray) (y_build (vs := [(0, .int .i64 ((u8at (rrV 1 (b, false))).toNat : Int)), (1, .int .i64 ((rdN (rrV 4 (rrB 1 (b, false))) : Nat) : Int)), (2, .int .i64 ((rdN (rrV 4 (rrB 4 (rrB 1 (b, false)))) : Nat) : Int))]) rfl rfl (fun w => by simp [Instr.build, Tryz.zeroValue63, Tryz.runUnderlying63, Tryz.sizeOf3, Tryz.sizeOf42, Instr.fill, Value.cells])) ?_
 refine Run.alloc (cs := [.int .i64 0, .int .i64 0, .int .i64 0, .slice none 0 0]) rfl Tryz.zeroValue63 rfl rfl rfl (by decide) (fun g5_6 => ?_)
 refine Run.storeB (vs := [.int .i64 ((u8at (rrV 1 (b, false))).toNat : Int), .int .i64 ((rdN (rrV 4 (rrB 1 (b, false))) : Nat) : Int), .int .i64 ((rdN (rrV 4 (rrB 4 (rrB 1 (b, false)))) : Nat) : Int), .slice none 0 0]) (cs' := [.int .i64 ((u8at (rrV 1 (b, false))).toNat : Int), .int .i64 ((rdN (rrV 4 (rrB 1 (b, false))) : Nat) : Int), .int .i64 ((rdN (rrV 4 (rrB 4 (rrB 1 (b, false)))) : Nat) : Int), .slice none 0 0]) (own' := [blk gr2_0 [.slice A5b (((rrB 4 (rrB 4 (rrB 1 (b, false)))).1).length) c5b, .bool ((rrB 4 (rrB 4 (rrB 1 (b, false)))).2)] 163, blk g2_1 [.int .i64 0, .int .i64 0, .int .i64 0, .slice none 0 0] 63]) 0 rfl rfl rfl Tryz.sizeOf63 rfl rfl rfl rfl rfl (Nat.le_of_ble_eq_true rfl) rfl rfl rfl ?_
 refine Run.nx ?_
 refine RunC.sr ?_
 refine Run.mv ?_
 refine Run.call (own1 := [blk gr2_0 [.slice A5b (((rrB 4 (rrB 4 (rrB 1 (b, false)))).1).length) c5b, .bool ((rrB 4 (rrB 4 (rrB 1 (b, false)))).2)] 163]) (own2 := [blk g5_6 [.int .i64 ((u8at (rrV 1 (b, false))).toNat : Int), .int .i64 ((rdN (rrV 4 (rrB 1 (b, false))) : Nat) : Int), .int .i64 ((rdN (rrV 4 (rrB 4 (rrB 1 (b, false)))) : Nat) : Int), .slice none 0 0] 63, blk g2_1 [.int .i64 0, .int .i64 0, .int .i64 0, .slice none 0 0] 63]) (en_func rfl Tryz.call61 rfl) (c_cartridgeref1_Reader_Byte _ gr2_0 A5b c5b ((rrB 4 (rrB 4 (rrB 1 (b, false)))).1) h5b ((rrB 4 (rrB 4 (rrB 1 (b, false)))).2) (Nat.le_trans (rrB_len _ _) (Nat.le_trans (rrB_len _ _) (Nat.le_trans (rrB_len _ _) (show (b, false).1.length ≤ 1000000 from hsz))))) (permC (i := 1) rfl rfl (List.Perm.refl _)) rfl rfl (by decide) (fun J7 o7 v7 hleJ7 hq7 => ?_)
 obtain ⟨y7b, A7b, c7b, y7bad, csr7_0, e7b, e7bad, rfl, rfl, h7b, hr7_0⟩ := hq7
 obtain rfl : (rrB 1 (rrB 4 (rrB 4 (rrB 1 (b, false))))).1 = y7b := e7b.symm
 obtain rfl : (rrB 1 (rrB 4 (rrB 4 (rrB 1 (b, false))))).2 = y7bad := e7bad.symm
 replace hr7_0 : tU8.rd J7 csr7_0 (u8at (rrV 1 (rrB 4 (rrB 4 (rrB 1 (b, false)))))) := hr7_0
 obtain rfl := hr7_0
 have hu20 := UInt8.toNat_lt ((u8at (rrV 1 (rrB 4 (rrB 4 (rrB 1 (b, false)))))))
 refine Run.m (v := .int .i64 ((u8at (rrV 1 (rrB 4 (rrB 4 (rrB 1 (b, false)))))).toNat : Int)) (y_conv rfl rfl (cv_int Tryz.underlying5 Tryz.underlying3 (wrap64_u8 _))) ?_
 refine Run.m (v := .int .i64 (256 * ((u8at (rrV 1 (rrB 4 (rrB 4 (rrB 1 (b, false)))))).toNat : Int))) (y_bin rfl rfl rfl (bn_mul (by omega) (by omega))) ?_
 refine Run.mv ?_
 refine Run.call (own1 := [blk gr2_0 [.slice A7b (((rrB 1 (rrB 4 (rrB 4 (rrB 1 (b, false))))).1).length) c7b, .bool ((rrB 1 (rrB 4 (rrB 4 (rrB 1 (b, false))))).2)] 163]) (own2 := [blk g5_6 [.int .i64 ((u8at (rrV 1 (b, false))).toNat : Int), .int .i64 ((rdN (rrV 4 (rrB 1 (b, false))) : Nat) : Int), .int .i64 ((rdN (rrV 4 (rrB 4 (rrB 1 (b, false)))) : Nat) : Int), .slice none 0 0] 63, blk g2_1 [.int .i64 0, .int .i64 0, .int .i64 0, .slice none 0 0] 63]) (en_func rfl Tryz.call61 rfl) (c_cartridgeref1_Reader_Byte _ gr2_0 A7b c7b ((rrB 1 (rrB 4 (rrB 4 (rrB 1 (b, false))))).1) h7b ((rrB 1 (rrB 4 (rrB 4 (rrB 1 (b, false))))).2) (Nat.le_trans (rrB_len _ _) (Nat.le_trans (rrB_len _ _) (Nat.le_trans (rrB_len _ _) (Nat.le_trans (rrB_len _ _) (show (b, false).1.length ≤ 1000000 from hsz)))))) (permC (i := 0) rfl rfl (List.Perm.refl _)) rfl rfl (by decide) (fun J8 o8 v8 hleJ8 hq8 => ?_)
 obtain ⟨y8b, A8b, c8b, y8bad, csr8_0, e8b, e8bad, rfl, rfl, h8b, hr8_0⟩ := hq8
 obtain rfl : (rrB 1 (rrB 1 (rrB 4 (rrB 4 (rrB 1 (b, false)))))).1 = y8b := e8b.symm
 obtain rfl : (rrB 1 (rrB 1 (rrB 4 (rrB 4 (rrB 1 (b, false)))))).2 = y8bad := e8bad.symm
 replace hr8_0 : tU8.rd J8 csr8_0 (u8at (rrV 1 (rrB 1 (rrB 4 (rrB 4 (rrB 1 (b, false))))))) := hr8_0
 obtain rfl := hr8_0
 have hu24 := UInt8.toNat_lt ((u8at (rrV 1 (rrB 1 (rrB 4 (rrB 4 (rrB 1 (b, false))))))))
 refine Run.m (v := .int .i64 ((u8at (rrV 1 (rrB 1 (rrB 4 (rrB 4 (rrB 1 (b, false))))))).toNat : Int)) (y_conv rfl rfl (cv_int Tryz.underlying5 Tryz.underlying3 (wrap64_u8 _))) ?_
 refine Run.m (v := .int .i64 ((256 * ((u8at (rrV 1 (rrB 4 (rrB 4 (rrB 1 (b, false)))))).toNat : Int)) + ((u8at (rrV 1 (rrB 1 (rrB 4 (rrB 4 (rrB 1 (b, false))))))).toNat : Int))) (y_bin rfl rfl rfl (bn_add (by omega) (by omega))) ?_
 refine Run.as ?_
 refine Run.nx ?_
 refine RunC.seq ?_
 refine RunC.seq ?_
 refine RunC.cast (s := 6) (v' := .int .i64 ((rfN b : Nat) : Int)) rfl (by first | (rw [rfN]; done) | (rw [rfN]; congr 1; done) | (rw [rfN]; congr 1; omega)) ?_
 refine RunC.region ?_
 refine Run.mv ?_
 refine Run.callVB (en_func rfl Tryz.call63 rfl) (Bor.blk (own' := [blk g5_6 [.int .i64 ((u8at (rrV 1 (b, false))).toNat : Int), .int .i64 ((rdN (rrV 4 (rrB 1 (b, false))) : Nat) : Int), .int .i64 ((rdN (rrV 4 (rrB 4 (rrB 1 (b, false)))) : Nat) : Int), .slice none 0 0] 63, blk g2_1 [.int .i64 0, .int .i64 0, .int .i64 0, .slice none 0 0] 63]) 0 rfl rfl (fun Jc9_0 hleJc9_0 hc9_0 => Bor.base (conv_bool (c_cartridgeref1_Reader_Bad _ gr2_0 (⟨(rrB 1 (rrB 1 (rrB 4 (rrB 4 (rrB 1 (b, false)))))).1, (rrB 1 (rrB 1 (rrB 4 (rrB 4 (rrB 1 (b, false)))))).2⟩ : ARd) ⟨_, _, rfl, (h8b.mono hleJc9_0)⟩ hc9_0)))) rfl rfl (by decide) (fun hI9 => ?_)
 refine Run.mv ?_
 refine Run.split 5 rfl (b := (⟨(rrB 1 (rrB 1 (rrB 4 (rrB 4 (rrB 1 (b, false)))))).1, (rrB 1 (rrB 1 (rrB 4 (rrB 4 (rrB 1 (b, false)))))).2⟩ : ARd).bad) (d := 34) (v := .bool (((⟨(rrB 1 (rrB 1 (rrB 4 (rrB 4 (rrB 1 (b, false)))))).1, (rrB 1 (rrB 1 (rrB 4 (rrB 4 (rrB 1 (b, false)))))).2⟩ : ARd).bad) || (decide (((rfN b : Nat) : Int) > (rrLeft ((⟨(rrB 1 (rrB 1 (rrB 4 (rrB 4 (rrB 1 (b, false)))))).1, (rrB 1 (rrB 1 (rrB 4 (rrB 4 (rrB 1 (b, false)))))).2⟩ : ARd).b, (⟨(rrB 1 (rrB 1 (rrB 4 (rrB 4 (rrB 1 (b, false)))))).1, (rrB 1 (rrB 1 (rrB 4 (rrB 4 (rrB 1 (b, false)))))).2⟩ : ARd).bad)))))) (fun hb29 K29 => ?_) (fun hb29 K29 => ?_) ?_
 ·
  have hc1029 := hb29; try simp only [z1, z2, z3, z4, z5, z6, z7, z8, z9, z10, z11, z12, z13, z14, z15, z16] at hc1029
  refine Run.no rfl rfl rfl rfl (hb29) rfl (by decide) ?_
  refine Run.no rfl rfl rfl rfl (hb29) rfl (by decide) ?_
  refine Run.no rfl rfl rfl rfl (hb29) rfl (by decide) ?_
  refine Run.no rfl rfl rfl rfl (hb29) rfl (by decide) ?_
  refine Run.y (y_pickB rfl rfl (hb29) rfl) rfl rfl (by decide) ?_
  exact K29 _ _ _ (Imm.le.refl _) (by rw [hb29]; simp) (Sub.tl 4 rfl rfl)
 ·
  have hc1029 := hb29; try simp only [z1, z2, z3, z4, z5, z6, z7, z8, z9, z10, z11, z12, z13, z14, z15, z16] at hc1029
  refine Run.yes (v := .int .i64 ((rfN b : Nat) : Int)) (y_move rfl rfl) rfl rfl rfl rfl (hb29) rfl (by decide) ?_
  refine Run.yes (v := .pointer (some ⟨gr2_0, 0, none⟩)) (y_move rfl rfl) rfl rfl rfl rfl (hb29) rfl (by decide) ?_
  refine Run.callVBYes (en_func rfl Tryz.call64 rfl) (Bor.blk (own' := [blk g5_6 [.int .i64 ((u8at (rrV 1 (b, false))).toNat : Int), .int .i64 ((rdN (rrV 4 (rrB 1 (b, false))) : Nat) : Int), .int .i64 ((rdN (rrV 4 (rrB 4 (rrB 1 (b, false)))) : Nat) : Int), .slice none 0 0] 63, blk g2_1 [.int .i64 0, .int .i64 0, .int .i64 0, .slice none 0 0] 63]) 0 rfl rfl (fun Jc10_0 hleJc10_0 hc10_0 => Bor.base (conv_int (c_cartridgeref1_Reader_Left _ gr2_0 (⟨(rrB 1 (rrB 1 (rrB 4 (rrB 4 (rrB 1 (b, false)))))).1, (rrB 1 (rrB 1 (rrB 4 (rrB 4 (rrB 1 (b, false)))))).2⟩ : ARd) ⟨_, _, rfl, (h8b.mono hleJc10_0)⟩ hc10_0)))) rfl rfl rfl rfl (hb29) rfl (by decide) (fun hI10 => ?_)
  refine Run.yes (v := .bool (decide (((rfN b : Nat) : Int) > (rrLeft ((⟨(rrB 1 (rrB 1 (rrB 4 (rrB 4 (rrB 1 (b, false)))))).1, (rrB 1 (rrB 1 (rrB 4 (rrB 4 (rrB 1 (b, false)))))).2⟩ : ARd).b, (⟨(rrB 1 (rrB 1 (rrB 4 (rrB 4 (rrB 1 (b, false)))))).1, (rrB 1 (rrB 1 (rrB 4 (rrB 4 (rrB 1 (b, false)))))).2⟩ : ARd).bad))))) (y_bin rfl rfl rfl bn_gtr) rfl rfl rfl rfl (hb29) rfl (by decide) ?_
  refine Run.y (y_pickB rfl rfl (hb29) rfl) rfl rfl (by decide) ?_
  exact K29 _ _ _ (Imm.le.refl _) (by rw [hb29]; simp) (Sub.tl 4 rfl rfl)
 refine Run.nx ?_
 refine RunC.cond rfl (fun hc0 => ?_) (fun hc0 => ?_)
 ·
  try simp only [z1, z2, z3, z4, z5, z6, z7, z8, z9, z10, z11, z12, z13, z14, z15, z16] at hc0
  refine RunC.sr ?_
  refine Run.m (v := .agg [.int .i64 0, .int .i64 0, .int .i64 0, .slice none 0 0].toArray) (y_build (vs := []) rfl rfl (fun w => by simp [Instr.build, Tryz.zeroValue63, Tryz.runUnderlying63, Tryz.sizeOf3, Tryz.sizeOf42, Instr.fill, Value.cells])) ?_
  refine Run.storeB (vs := [.int .i64 0, .int .i64 0, .int .i64 0, .slice none 0 0]) (cs' := [.int .i64 0, .int .i64 0, .int .i64 0, .slice none 0 0]) (own' := [blk gr2_0 [.slice A8b (((rrB 1 (rrB 1 (rrB 4 (rrB 4 (rrB 1 (b, false)))))).1).length) c8b, .bool ((rrB 1 (rrB 1 (rrB 4 (rrB 4 (rrB 1 (b, false)))))).2)] 163, blk g5_6 [.int .i64 ((u8at (rrV 1 (b, false))).toNat : Int), .int .i64 ((rdN (rrV 4 (rrB 1 (b, false))) : Nat) : Int), .int .i64 ((rdN (rrV 4 (rrB 4 (rrB 1 (b, false)))) : Nat) : Int), .slice none 0 0] 63]) 2 rfl rfl rfl Tryz.sizeOf63 rfl rfl rfl rfl rfl (Nat.le_of_ble_eq_true rfl) rfl rfl rfl ?_
  refine Run.as ?_
  refine Run.nx ?_
  refine RunC.ret ?_
  refine RunQ.pass (fun h => by cases h) ?_
  refine RunQ.end2 (.inl rfl) Tryz.results23 (rv_cellA (i := 0) rfl Tryz.isAgg63 Tryz.sizeOf63 rfl rfl) (rv_tmp rfl) ?_
  exact ⟨rfl, _, _, rfl, (rd_eq (T := tUnit) (x := (⟨0, 0, 0, ([] : List UInt8)⟩ : AUnit)) ⟨_, _, rfl, (by first | omega | (dsimp only; omega)), (by first | omega | (dsimp only; omega)), (by first | omega | (dsimp only; omega)), sl_nil0⟩ (by first | (rw [rf_get1 hc0] <;> rfl) | (rw [rf_get2 hc0 (hc1.imp id (fun h e => h (congrArg bstr e)))] <;> rfl) | (rw [rf_get3 hc0 ⟨hc1.1, bstr_inj.1 hc1.2⟩] <;> rfl))), (rd_eq (T := tInt) (x := 2) ⟨rfl, (by first | omega | (dsimp only; omega))⟩ (by first | (rw [rf_get1 hc0] <;> rfl) | (rw [rf_get2 hc0 (hc1.imp id (fun h e => h (congrArg bstr e)))] <;> rfl) | (rw [rf_get3 hc0 ⟨hc1.1, bstr_inj.1 hc1.2⟩] <;> rfl)))⟩
 ·
  try simp only [z1, z2, z3, z4, z5, z6, z7, z8, z9, z10, z11, z12, z13, z14, z15, z16] at hc0
  refine RunC.skip ?_
  refine RunQ.next ?_
  refine RunC.sr ?_
  refine Run.mv ?_
  refine Run.mv ?_
  refine Run.call (own1 := [blk gr2_0 [.slice A8b (((rrB 1 (rrB 1 (rrB 4 (rrB 4 (rrB 1 (b, false)))))).1).length) c8b, .bool ((rrB 1 (rrB 1 (rrB 4 (rrB 4 (rrB 1 (b, false)))))).2)] 163]) (own2 := [blk g5_6 [.int .i64 ((u8at (rrV 1 (b, false))).toNat : Int), .int .i64 ((rdN (rrV 4 (rrB 1 (b, false))) : Nat) : Int), .int .i64 ((rdN (rrV 4 (rrB 4 (rrB 1 (b, false)))) : Nat) : Int), .slice none 0 0] 63, blk g2_1 [.int .i64 0, .int .i64 0, .int .i64 0, .slice none 0 0] 63]) (en_func rfl Tryz.call65 rfl) (c_cartridgeref1_Reader_take _ gr2_0 A8b c8b ((rrB 1 (rrB 1 (rrB 4 (rrB 4 (rrB 1 (b, false)))))).1) h8b ((rrB 1 (rrB 1 (rrB 4 (rrB 4 (rrB 1 (b, false)))))).2) ((rfN b : Nat) : Int) (Nat.le_trans (rrB_len _ _) (Nat.le_trans (rrB_len _ _) (Nat.le_trans (rrB_len _ _) (Nat.le_trans (rrB_len _ _) (Nat.le_trans (rrB_len _ _) (show (b, false).1.length ≤ 1000000 from hsz)))))) (by omega)) (permC (i := 0) rfl rfl (List.Perm.refl _)) rfl rfl (by decide) (fun J11 o11 v11 hleJ11 hq11 => ?_)
  obtain ⟨y11b, A11b, c11b, y11bad, csr11_0, e11b, e11bad, rfl, rfl, h11b, hr11_0⟩ := hq11
  obtain rfl : (rrB (rfN b) (rrB 1 (rrB 1 (rrB 4 (rrB 4 (rrB 1 (b, false))))))).1 = y11b := e11b.symm
  obtain rfl : (rrB (rfN b) (rrB 1 (rrB 1 (rrB 4 (rrB 4 (rrB 1 (b, false))))))).2 = y11bad := e11bad.symm
  replace hr11_0 : (tSl tU8).rd J11 csr11_0 (rrV (rfN b) (rrB 1 (rrB 1 (rrB 4 (rrB 4 (rrB 1 (b, false))))))) := hr11_0
  obtain ⟨A11_0_0, c11_0_0, rfl, f11_0_0⟩ := hr11_0
  have hsm11_0_0 := f11_0_0.small
  have hvl : (rrV (rfN b) (rrB 1 (rrB 1 (rrB 4 (rrB 4 (rrB 1 (b, false))))))).length ≤ 1000000 := Nat.le_trans (rrV_len _ _) (Nat.le_trans (rrB_len _ _) (Nat.le_trans (rrB_len _ _) (Nat.le_trans (rrB_len _ _) (Nat.le_trans (rrB_len _ _) (Nat.le_trans (rrB_len _ _) (show (b, false).1.length ≤ 1000000 from hsz))))))
  refine Run.nilrow none 5 1 ?_
  obtain ⟨ys12, hraw12, hya12⟩ := Sl.raw f11_0_0
  have hall13 : tU8.all J11 (([]) ++ ys12) (rrV (rfN b) (rrB 1 (rrB 1 (rrB 4 (rrB 4 (rrB 1 (b, false))))))) := all_append all_nil hya12
  refine Run.append (by_ := 1) (ys := ys12) (k := (rrV (rfN b) (rrB 1 (rrB 1 (rrB 4 (rrB 4 (rrB 1 (b, false))))))).length) (own' := [blk gr2_0 [.slice A11b (((rrB (rfN b) (rrB 1 (rrB 1 (rrB 4 (rrB 4 (rrB 1 (b, false))))))).1).length) c11b, .bool ((rrB (rfN b) (rrB 1 (rrB 1 (rrB 4 (rrB 4 (rrB 1 (b, false))))))).2)] 163, blk g5_6 [.int .i64 ((u8at (rrV 1 (b, false))).toNat : Int), .int .i64 ((rdN (rrV 4 (rrB 1 (b, false))) : Nat) : Int), .int .i64 ((rdN (rrV 4 (rrB 4 (rrB 1 (b, false)))) : Nat) : Int), .slice none 0 0] 63, blk g2_1 [.int .i64 0, .int .i64 0, .int .i64 0, .slice none 0 0] 63]) 0 rfl rfl rfl Tryz.runUnderlying42 (.inl Tryz.runUnderlying42) Tryz.sizeOf5 Tryz.typeInfo5 rfl Tryz.zeroValue5 rfl rfl rfl (fun w hS => src_raw hS hraw12) (hya12).1 (all_one hya12) ((rrV (rfN b) (rrB 1 (rrB 1 (rrB 4 (rrB 4 (rrB 1 (b, false))))))).length) (by first | (simp; done) | (simp; omega)) (by simp; omega) (by simp [maxLen]; omega) rfl rfl (by decide) (fun A39_13 c39_13 => ?_)
  refine Run.m (v := .pointer (some ⟨g5_6, 3, none⟩)) (y_fieldAddr rfl rfl Tryz.runUnderlying63 rfl Tryz.sizeOf42 (by decide) rfl) ?_
  refine Run.storeB (vs := [.slice A39_13 ((rrV (rfN b) (rrB 1 (rrB 1 (rrB 4 (rrB 4 (rrB 1 (b, false))))))).length) c39_13]) (cs' := [.int .i64 ((u8at (rrV 1 (b, false))).toNat : Int), .int .i64 ((rdN (rrV 4 (rrB 1 (b, false))) : Nat) : Int), .int .i64 ((rdN (rrV 4 (rrB 4 (rrB 1 (b, false)))) : Nat) : Int), .slice A39_13 ((rrV (rfN b) (rrB 1 (rrB 1 (rrB 4 (rrB 4 (rrB 1 (b, false))))))).length) c39_13]) (own' := [row (.slice A39_13 ((rrV (rfN b) (rrB 1 (rrB 1 (rrB 4 (rrB 4 (rrB 1 (b, false))))))).length) c39_13) 5 1 (([]) ++ ys12), blk gr2_0 [.slice A11b (((rrB (rfN b) (rrB 1 (rrB 1 (rrB 4 (rrB 4 (rrB 1 (b, false))))))).1).length) c11b, .bool ((rrB (rfN b) (rrB 1 (rrB 1 (rrB 4 (rrB 4 (rrB 1 (b, false))))))).2)] 163, blk g2_1 [.int .i64 0, .int .i64 0, .int .i64 0, .slice none 0 0] 63]) 2 rfl rfl rfl Tryz.sizeOf42 rfl rfl rfl rfl rfl (Nat.le_of_ble_eq_true rfl) rfl rfl rfl ?_
  refine Run.nx ?_
  refine RunC.sr ?_
  refine Run.m (v := .agg [.int .i64 ((u8at (rrV 1 (b, false))).toNat : Int), .int .i64 ((rdN (rrV 4 (rrB 1 (b, false))) : Nat) : Int), .int .i64 ((rdN (rrV 4 (rrB 4 (rrB 1 (b, false)))) : Nat) : Int), .slice A39_13 ((rrV (rfN b) (rrB 1 (rrB 1 (rrB 4 (rrB 4 (rrB 1 (b, false))))))).length) c39_13].toArray) (y_loadBA 0 rfl Tryz.isAgg63 Tryz.sizeOf63 rfl rfl rfl rfl) ?_
  refine Run.freezeR 1 rfl (own' := [blk g5_6 [.int .i64 ((u8at (rrV 1 (b, false))).toNat : Int), .int .i64 ((rdN (rrV 4 (rrB 1 (b, false))) : Nat) : Int), .int .i64 ((rdN (rrV 4 (rrB 4 (rrB 1 (b, false)))) : Nat) : Int), .slice A39_13 ((rrV (rfN b) (rrB 1 (rrB 1 (rrB 4 (rrB 4 (rrB 1 (b, false))))))).length) c39_13] 63, blk gr2_0 [.slice A11b (((rrB (rfN b) (rrB 1 (rrB 1 (rrB 4 (rrB 4 (rrB 1 (b, false))))))).1).length) c11b, .bool ((rrB (rfN b) (rrB 1 (rrB 1 (rrB 4 (rrB 4 (rrB 1 (b, false))))))).2)] 163, blk g2_1 [.int .i64 0, .int .i64 0, .int .i64 0, .slice none 0 0] 63]) rfl (fun J15 hleJ15 hfzJ15 => ?_)
  have hslJ15 : Sl tU8 J15 A39_13 c39_13 (rrV (rfN b) (rrB 1 (rrB 1 (rrB 4 (rrB 4 (rrB 1 (b, false))))))) := Sl.of_rowN hfzJ15 rfl rfl (hall13.mono hleJ15)
  refine Run.call (own1 := []) (own2 := [blk g5_6 [.int .i64 ((u8at (rrV 1 (b, false))).toNat : Int), .int .i64 ((rdN (rrV 4 (rrB 1 (b, false))) : Nat) : Int), .int .i64 ((rdN (rrV 4 (rrB 4 (rrB 1 (b, false)))) : Nat) : Int), .slice A39_13 ((rrV (rfN b) (rrB 1 (rrB 1 (rrB 4 (rrB 4 (rrB 1 (b, false))))))).length) c39_13] 63, blk gr2_0 [.slice A11b (((rrB (rfN b) (rrB 1 (rrB 1 (rrB 4 (rrB 4 (rrB 1 (b, false))))))).1).length) c11b, .bool ((rrB (rfN b) (rrB 1 (rrB 1 (rrB 4 (rrB 4 (rrB 1 (b, false))))))).2)] 163, blk g2_1 [.int .i64 0, .int .i64 0, .int .i64 0, .slice none 0 0] 63]) (en_func rfl Tryz.call24 rfl) (c_cartridgeref1_PutFrame _ (⟨((u8at (rrV 1 (b, false))).toNat : Int), ((rdN (rrV 4 (rrB 1 (b, false))) : Nat) : Int), ((rdN (rrV 4 (rrB 4 (rrB 1 (b, false)))) : Nat) : Int), (rrV (rfN b) (rrB 1 (rrB 1 (rrB 4 (rrB 4 (rrB 1 (b, false)))))))⟩ : AUnit) ⟨_, _, rfl, (i64_u8 _), f4_0_0, f5_0_0, hslJ15⟩) (List.Perm.refl _) rfl rfl (by decide) (fun J14 o14 v14 hleJ14 hq14 => ?_)
  obtain ⟨yr14_0, Ar14_0, cr14_0, clr14_0, csr14_1, er14_0, rfl, rfl, hr14_0, hr14_1⟩ := hq14
  obtain rfl : (if uCheck (⟨((u8at (rrV 1 (b, false))).toNat : Int), ((rdN (rrV 4 (rrB 1 (b, false))) : Nat) : Int), ((rdN (rrV 4 (rrB 4 (rrB 1 (b, false)))) : Nat) : Int), (rrV (rfN b) (rrB 1 (rrB 1 (rrB 4 (rrB 4 (rrB 1 (b, false)))))))⟩ : AUnit) = 0 then fMade (⟨((u8at (rrV 1 (b, false))).toNat : Int), ((rdN (rrV 4 (rrB 1 (b, false))) : Nat) : Int), ((rdN (rrV 4 (rrB 4 (rrB 1 (b, false)))) : Nat) : Int), (rrV (rfN b) (rrB 1 (rrB 1 (rrB 4 (rrB 4 (rrB 1 (b, false)))))))⟩ : AUnit) else []) = yr14_0 := er14_0.symm
  replace hr14_1 : tInt.rd J14 csr14_1 (uCheck (⟨((u8at (rrV 1 (b, false))).toNat : Int), ((rdN (rrV 4 (rrB 1 (b, false))) : Nat) : Int), ((rdN (rrV 4 (rrB 4 (rrB 1 (b, false)))) : Nat) : Int), (rrV (rfN b) (rrB 1 (rrB 1 (rrB 4 (rrB 4 (rrB 1 (b, false)))))))⟩ : AUnit)) := hr14_1
  obtain ⟨rfl, f14_1_0⟩ := hr14_1
  refine Run.mv ?_
  refine Run.m (y_extract rfl rfl rfl) ?_
  refine Run.m (y_extract rfl rfl rfl) ?_
  refine Run.as ?_
  refine Run.as ?_
  refine Run.nx ?_
  refine RunC.weak (L' := [(0, .slice Ab b.length cb), (2, .pointer (some ⟨g2_1, 0, none⟩)), (3, .int .i64 0), (5, .pointer (some ⟨g5_6, 0, none⟩)), (7, .slice Ar14_0 ((if uCheck (⟨((u8at (rrV 1 (b, false))).toNat : Int), ((rdN (rrV 4 (rrB 1 (b, false))) : Nat) : Int), ((rdN (rrV 4 (rrB 4 (rrB 1 (b, false)))) : Nat) : Int), (rrV (rfN b) (rrB 1 (rrB 1 (rrB 4 (rrB 4 (rrB 1 (b, false)))))))⟩ : AUnit) = 0 then fMade (⟨((u8at (rrV 1 (b, false))).toNat : Int), ((rdN (rrV 4 (rrB 1 (b, false))) : Nat) : Int), ((rdN (rrV 4 (rrB 4 (rrB 1 (b, false)))) : Nat) : Int), (rrV (rfN b) (rrB 1 (rrB 1 (rrB 4 (rrB 4 (rrB 1 (b, false)))))))⟩ : AUnit) else []).length) cr14_0), (8, .int .i64 (uCheck (⟨((u8at (rrV 1 (b, false))).toNat : Int), ((rdN (rrV 4 (rrB 1 (b, false))) : Nat) : Int), ((rdN (rrV 4 (rrB 4 (rrB 1 (b, false)))) : Nat) : Int), (rrV (rfN b) (rrB 1 (rrB 1 (rrB 4 (rrB 4 (rrB 1 (b, false)))))))⟩ : AUnit)))]) (Sub.of rfl) (perm_self _) ?_
  refine RunC.seq ?_
  refine RunC.seq ?_
  refine RunC.freezeR 0 rfl (own' := [blk g5_6 [.int .i64 ((u8at (rrV 1 (b, false))).toNat : Int), .int .i64 ((rdN (rrV 4 (rrB 1 (b, false))) : Nat) : Int), .int .i64 ((rdN (rrV 4 (rrB 4 (rrB 1 (b, false)))) : Nat) : Int), .slice A39_13 ((rrV (rfN b) (rrB 1 (rrB 1 (rrB 4 (rrB 4 (rrB 1 (b, false))))))).length) c39_13] 63, blk gr2_0 [.slice A11b (((rrB (rfN b) (rrB 1 (rrB 1 (rrB 4 (rrB 4 (rrB 1 (b, false))))))).1).length) c11b, .bool ((rrB (rfN b) (rrB 1 (rrB 1 (rrB 4 (rrB 4 (rrB 1 (b, false))))))).2)] 163, blk g2_1 [.int .i64 0, .int .i64 0, .int .i64 0, .slice none 0 0] 63]) rfl (fun J16 hleJ16 hfzJ16 => ?_)
  have hslJ16 : Sl tU8 J16 Ar14_0 cr14_0 (if uCheck (⟨((u8at (rrV 1 (b, false))).toNat : Int), ((rdN (rrV 4 (rrB 1 (b, false))) : Nat) : Int), ((rdN (rrV 4 (rrB 4 (rrB 1 (b, false)))) : Nat) : Int), (rrV (rfN b) (rrB 1 (rrB 1 (rrB 4 (rrB 4 (rrB 1 (b, false)))))))⟩ : AUnit) = 0 then fMade (⟨((u8at (rrV 1 (b, false))).toNat : Int), ((rdN (rrV 4 (rrB 1 (b, false))) : Nat) : Int), ((rdN (rrV 4 (rrB 4 (rrB 1 (b, false)))) : Nat) : Int), (rrV (rfN b) (rrB 1 (rrB 1 (rrB 4 (rrB 4 (rrB 1 (b, false)))))))⟩ : AUnit) else []) := Sl.of_rowN hfzJ16 rfl rfl (hr14_0.mono hleJ16)
  refine RunC.region ?_
  refine Run.mv ?_
  refine Run.m (v := .bool (decide ((uCheck (⟨((u8at (rrV 1 (b, false))).toNat : Int), ((rdN (rrV 4 (rrB 1 (b, false))) : Nat) : Int), ((rdN (rrV 4 (rrB 4 (rrB 1 (b, false)))) : Nat) : Int), (rrV (rfN b) (rrB 1 (rrB 1 (rrB 4 (rrB 4 (rrB 1 (b, false)))))))⟩ : AUnit)) ≠ 0))) (y_bin rfl rfl rfl bn_neq) ?_
  refine Run.mv ?_
  refine Run.split 6 rfl (b := decide ((uCheck (⟨((u8at (rrV 1 (b, false))).toNat : Int), ((rdN (rrV 4 (rrB 1 (b, false))) : Nat) : Int), ((rdN (rrV 4 (rrB 4 (rrB 1 (b, false)))) : Nat) : Int), (rrV (rfN b) (rrB 1 (rrB 1 (rrB 4 (rrB 4 (rrB 1 (b, false)))))))⟩ : AUnit)) ≠ 0)) (d := 54) (v := .bool ((decide ((uCheck (⟨((u8at (rrV 1 (b, false))).toNat : Int), ((rdN (rrV 4 (rrB 1 (b, false))) : Nat) : Int), ((rdN (rrV 4 (rrB 4 (rrB 1 (b, false)))) : Nat) : Int), (rrV (rfN b) (rrB 1 (rrB 1 (rrB 4 (rrB 4 (rrB 1 (b, false)))))))⟩ : AUnit)) ≠ 0)) || (!decide ((bstr (if uCheck (⟨((u8at (rrV 1 (b, false))).toNat : Int), ((rdN (rrV 4 (rrB 1 (b, false))) : Nat) : Int), ((rdN (rrV 4 (rrB 4 (rrB 1 (b, false)))) : Nat) : Int), (rrV (rfN b) (rrB 1 (rrB 1 (rrB 4 (rrB 4 (rrB 1 (b, false)))))))⟩ : AUnit) = 0 then fMade (⟨((u8at (rrV 1 (b, false))).toNat : Int), ((rdN (rrV 4 (rrB 1 (b, false))) : Nat) : Int), ((rdN (rrV 4 (rrB 4 (rrB 1 (b, false)))) : Nat) : Int), (rrV (rfN b) (rrB 1 (rrB 1 (rrB 4 (rrB 4 (rrB 1 (b, false)))))))⟩ : AUnit) else [])) = (bstr b))))) (fun hb48 K48 => ?_) (fun hb48 K48 => ?_) ?_
  ·
   have hc1048 := hb48; try simp only [z1, z2, z3, z4, z5, z6, z7, z8, z9, z10, z11, z12, z13, z14, z15, z16] at hc1048
   refine Run.no rfl rfl rfl rfl (hb48) rfl (by decide) ?_
   refine Run.no rfl rfl rfl rfl (hb48) rfl (by decide) ?_
   refine Run.no rfl rfl rfl rfl (hb48) rfl (by decide) ?_
   refine Run.no rfl rfl rfl rfl (hb48) rfl (by decide) ?_
   refine Run.no rfl rfl rfl rfl (hb48) rfl (by decide) ?_
   refine Run.y (y_pickB rfl rfl (hb48) rfl) rfl rfl (by decide) ?_
   exact K48 _ _ _ (Imm.le.refl _) (by rw [hb48]; simp) (Sub.tl 5 rfl rfl)
  ·
   have hc1048 := hb48; try simp only [z1, z2, z3, z4, z5, z6, z7, z8, z9, z10, z11, z12, z13, z14, z15, z16] at hc1048
   refine Run.yes (v := .slice Ar14_0 ((if uCheck (⟨((u8at (rrV 1 (b, false))).toNat : Int), ((rdN (rrV 4 (rrB 1 (b, false))) : Nat) : Int), ((rdN (rrV 4 (rrB 4 (rrB 1 (b, false)))) : Nat) : Int), (rrV (rfN b) (rrB 1 (rrB 1 (rrB 4 (rrB 4 (rrB 1 (b, false)))))))⟩ : AUnit) = 0 then fMade (⟨((u8at (rrV 1 (b, false))).toNat : Int), ((rdN (rrV 4 (rrB 1 (b, false))) : Nat) : Int), ((rdN (rrV 4 (rrB 4 (rrB 1 (b, false)))) : Nat) : Int), (rrV (rfN b) (rrB 1 (rrB 1 (rrB 4 (rrB 4 (rrB 1 (b, false)))))))⟩ : AUnit) else []).length) cr14_0) (y_move rfl rfl) rfl rfl rfl rfl (hb48) rfl (by decide) ?_
   refine Run.yes (v := .string (bstr (if uCheck (⟨((u8at (rrV 1 (b, false))).toNat : Int), ((rdN (rrV 4 (rrB 1 (b, false))) : Nat) : Int), ((rdN (rrV 4 (rrB 4 (rrB 1 (b, false)))) : Nat) : Int), (rrV (rfN b) (rrB 1 (rrB 1 (rrB 4 (rrB 4 (rrB 1 (b, false)))))))⟩ : AUnit) = 0 then fMade (⟨((u8at (rrV 1 (b, false))).toNat : Int), ((rdN (rrV 4 (rrB 1 (b, false))) : Nat) : Int), ((rdN (rrV 4 (rrB 4 (rrB 1 (b, false)))) : Nat) : Int), (rrV (rfN b) (rrB 1 (rrB 1 (rrB 4 (rrB 4 (rrB 1 (b, false)))))))⟩ : AUnit) else []))) (y_bytesStr rfl rfl Tryz.underlying42 Tryz.underlying5 Tryz.underlying9 hslJ16) rfl rfl rfl rfl (hb48) rfl (by decide) ?_
   refine Run.yes (v := .slice Ab b.length cb) (y_move rfl rfl) rfl rfl rfl rfl (hb48) rfl (by decide) ?_
   refine Run.yes (v := .string (bstr b)) (y_bytesStr rfl rfl Tryz.underlying42 Tryz.underlying5 Tryz.underlying9 (hb.mono (((((((((hleJ2.trans hleJ3).trans hleJ4).trans hleJ5).trans hleJ7).trans hleJ8).trans hleJ11).trans hleJ15).trans hleJ14).trans hleJ16))) rfl rfl rfl rfl (hb48) rfl (by decide) ?_
   refine Run.yes (v := .bool (!decide ((bstr (if uCheck (⟨((u8at (rrV 1 (b, false))).toNat : Int), ((rdN (rrV 4 (rrB 1 (b, false))) : Nat) : Int), ((rdN (rrV 4 (rrB 4 (rrB 1 (b, false)))) : Nat) : Int), (rrV (rfN b) (rrB 1 (rrB 1 (rrB 4 (rrB 4 (rrB 1 (b, false)))))))⟩ : AUnit) = 0 then fMade (⟨((u8at (rrV 1 (b, false))).toNat : Int), ((rdN (rrV 4 (rrB 1 (b, false))) : Nat) : Int), ((rdN (rrV 4 (rrB 4 (rrB 1 (b, false)))) : Nat) : Int), (rrV (rfN b) (rrB 1 (rrB 1 (rrB 4 (rrB 4 (rrB 1 (b, false)))))))⟩ : AUnit) else [])) = (bstr b)))) (y_bin rfl rfl rfl bn_neqD) rfl rfl rfl rfl (hb48) rfl (by decide) ?_
   refine Run.y (y_pickB rfl rfl (hb48) rfl) rfl rfl (by decide) ?_
   exact K48 _ _ _ (Imm.le.refl _) (by rw [hb48]; simp) (Sub.tl 5 rfl rfl)
  refine Run.nx ?_
  refine RunC.cond rfl (fun hc1 => ?_) (fun hc1 => ?_)
  ·
   try simp only [z1, z2, z3, z4, z5, z6, z7, z8, z9, z10, z11, z12, z13, z14, z15, z16] at hc1
   refine RunC.sr ?_
   refine Run.m (v := .agg [.int .i64 0, .int .i64 0, .int .i64 0, .slice none 0 0].toArray) (y_build (vs := []) rfl rfl (fun w => by simp [Instr.build, Tryz.zeroValue63, Tryz.runUnderlying63, Tryz.sizeOf3, Tryz.sizeOf42, Instr.fill, Value.cells])) ?_
   refine Run.storeB (vs := [.int .i64 0, .int .i64 0, .int .i64 0, .slice none 0 0]) (cs' := [.int .i64 0, .int .i64 0, .int .i64 0, .slice none 0 0]) (own' := [blk g5_6 [.int .i64 ((u8at (rrV 1 (b, false))).toNat : Int), .int .i64 ((rdN (rrV 4 (rrB 1 (b, false))) : Nat) : Int), .int .i64 ((rdN (rrV 4 (rrB 4 (rrB 1 (b, false)))) : Nat) : Int), .slice A39_13 ((rrV (rfN b) (rrB 1 (rrB 1 (rrB 4 (rrB 4 (rrB 1 (b, false))))))).length) c39_13] 63, blk gr2_0 [.slice A11b (((rrB (rfN b) (rrB 1 (rrB 1 (rrB 4 (rrB 4 (rrB 1 (b, false))))))).1).length) c11b, .bool ((rrB (rfN b) (rrB 1 (rrB 1 (rrB 4 (rrB 4 (rrB 1 (b, false))))))).2)] 163]) 2 rfl rfl rfl Tryz.sizeOf63 rfl rfl rfl rfl rfl (Nat.le_of_ble_eq_true rfl) rfl rfl rfl ?_
   refine Run.as ?_
   refine Run.nx ?_
   refine RunC.ret ?_
   refine RunQ.pass (fun h => by cases h) ?_
   refine RunQ.end2 (.inl rfl) Tryz.results23 (rv_cellA (i := 0) rfl Tryz.isAgg63 Tryz.sizeOf63 rfl rfl) (rv_tmp rfl) ?_
   exact ⟨rfl, _, _, rfl, (rd_eq (T := tUnit) (x := (⟨0, 0, 0, ([] : List UInt8)⟩ : AUnit)) ⟨_, _, rfl, (by first | omega | (dsimp only; omega)), (by first | omega | (dsimp only; omega)), (by first | omega | (dsimp only; omega)), sl_nil0⟩ (by first | (rw [rf_get1 hc0] <;> rfl) | (rw [rf_get2 hc0 (hc1.imp id (fun h e => h (congrArg bstr e)))] <;> rfl) | (rw [rf_get3 hc0 ⟨hc1.1, bstr_inj.1 hc1.2⟩] <;> rfl))), (rd_eq (T := tInt) (x := 2) ⟨rfl, (by first | omega | (dsimp only; omega))⟩ (by first | (rw [rf_get1 hc0] <;> rfl) | (rw [rf_get2 hc0 (hc1.imp id (fun h e => h (congrArg bstr e)))] <;> rfl) | (rw [rf_get3 hc0 ⟨hc1.1, bstr_inj.1 hc1.2⟩] <;> rfl)))⟩
  ·
   try simp only [z1, z2, z3, z4, z5, z6, z7, z8, z9, z10, z11, z12, z13, z14, z15, z16] at hc1
   refine RunC.skip ?_
   refine RunQ.next ?_
   refine RunC.sr ?_
   refine Run.m (v := .agg [.int .i64 ((u8at (rrV 1 (b, false))).toNat : Int), .int .i64 ((rdN (rrV 4 (rrB 1 (b, false))) : Nat) : Int), .int .i64 ((rdN (rrV 4 (rrB 4 (rrB 1 (b, false)))) : Nat) : Int), .slice A39_13 ((rrV (rfN b) (rrB 1 (rrB 1 (rrB 4 (rrB 4 (rrB 1 (b, false))))))).length) c39_13].toArray) (y_loadBA 0 rfl Tryz.isAgg63 Tryz.sizeOf63 rfl rfl rfl rfl) ?_
   refine Run.storeB (vs := [.int .i64 ((u8at (rrV 1 (b, false))).toNat : Int), .int .i64 ((rdN (rrV 4 (rrB 1 (b, false))) : Nat) : Int), .int .i64 ((rdN (rrV 4 (rrB 4 (rrB 1 (b, false)))) : Nat) : Int), .slice A39_13 ((rrV (rfN b) (rrB 1 (rrB 1 (rrB 4 (rrB 4 (rrB 1 (b, false))))))).length) c39_13]) (cs' := [.int .i64 ((u8at (rrV 1 (b, false))).toNat : Int), .int .i64 ((rdN (rrV 4 (rrB 1 (b, false))) : Nat) : Int), .int .i64 ((rdN (rrV 4 (rrB 4 (rrB 1 (b, false)))) : Nat) : Int), .slice A39_13 ((rrV (rfN b) (rrB 1 (rrB 1 (rrB 4 (rrB 4 (rrB 1 (b, false))))))).length) c39_13]) (own' := [blk g5_6 [.int .i64 ((u8at (rrV 1 (b, false))).toNat : Int), .int .i64 ((rdN (rrV 4 (rrB 1 (b, false))) : Nat) : Int), .int .i64 ((rdN (rrV 4 (rrB 4 (rrB 1 (b, false)))) : Nat) : Int), .slice A39_13 ((rrV (rfN b) (rrB 1 (rrB 1 (rrB 4 (rrB 4 (rrB 1 (b, false))))))).length) c39_13] 63, blk gr2_0 [.slice A11b (((rrB (rfN b) (rrB 1 (rrB 1 (rrB 4 (rrB 4 (rrB 1 (b, false))))))).1).length) c11b, .bool ((rrB (rfN b) (rrB 1 (rrB 1 (rrB 4 (rrB 4 (rrB 1 (b, false))))))).2)] 163]) 2 rfl rfl rfl Tryz.sizeOf63 rfl rfl rfl rfl rfl (Nat.le_of_ble_eq_true rfl) rfl rfl rfl ?_
   refine Run.as ?_
   refine Run.nx ?_
   refine RunC.ret ?_
   refine RunQ.end2 (.inl rfl) Tryz.results23 (rv_cellA (i := 0) rfl Tryz.isAgg63 Tryz.sizeOf63 rfl rfl) (rv_tmp rfl) ?_
   exact ⟨rfl, _, _, rfl, (rd_eq (T := tUnit) (x := (⟨((u8at (rrV 1 (b, false))).toNat : Int), ((rdN (rrV 4 (rrB 1 (b, false))) : Nat) : Int), ((rdN (rrV 4 (rrB 4 (rrB 1 (b, false)))) : Nat) : Int), (rrV (rfN b) (rrB 1 (rrB 1 (rrB 4 (rrB 4 (rrB 1 (b, false)))))))⟩ : AUnit)) ⟨_, _, rfl, (i64_u8 _), f4_0_0, f5_0_0, (hslJ15.mono (hleJ14.trans hleJ16))⟩ (by first | (rw [rf_get1 hc0] <;> rfl) | (rw [rf_get2 hc0 (hc1.imp id (fun h e => h (congrArg bstr e)))] <;> rfl) | (rw [rf_get3 hc0 ⟨hc1.1, bstr_inj.1 hc1.2⟩] <;> rfl))), (rd_eq (T := tInt) (x := 0) ⟨rfl, (by first | omega | (dsimp only; omega))⟩ (by first | (rw [rf_get1 hc0] <;> rfl) | (rw [rf_get2 hc0 (hc1.imp id (fun h e => h (congrArg bstr e)))] <;> rfl) | (rw [rf_get3 hc0 ⟨hc1.1, bstr_inj.1 hc1.2⟩] <;> rfl)))⟩

theorem c_cartridgeref10_Good (I : Imm) {cst : List Value} (t : ATape) (ht : tTape.rd I cst t) (n : Int) (hn : I64 n) (hsz : ∀ b ∈ t.blocks, b.length ≤ 1000000) : Con Tryz.prog 32 [.agg cst.toArray, .int .i64 n].toArray I [] (Ret2 (tUnit.g) (tBool.o) ((vGood t n).1) ((vGood t n).2)) := by
 obtain ⟨At_2, ct_2, rfl, ft_0, ft_1, ft_2⟩ := ht
 have hsmt_2 := ft_2.small
 refine Con.enter (n := 48) (L := [(0, .agg [.int .i64 t.label, .int .i64 t.cap, .slice At_2 t.blocks.length ct_2, .bool t.lost].toArray), (1, .int .i64 n)]) Tryz.func32 rfl rfl (Nat.le_of_ble_eq_true rfl) rfl (fun E => ?_)
 refine RunC.sr ?_
 refine Run.box (cs := [.int .i64 t.label, .int .i64 t.cap, .slice At_2 t.blocks.length ct_2, .bool t.lost]) rfl rfl rfl rfl rfl (by decide) (fun g2 => ?_)
 refine Run.alloc (cs := [.int .i64 0, .int .i64 0, .int .i64 0, .slice none 0 0]) rfl Tryz.zeroValue63 rfl rfl rfl (by decide) (fun g4_1 => ?_)
 refine Run.as ?_
 refine Run.nx ?_
 refine RunC.seq ?_
 refine RunC.sr ?_
 refine Run.m (v := .pointer (some ⟨g2, 3, none⟩)) (y_fieldAddr rfl rfl Tryz.runUnderlying45 rfl Tryz.sizeOf4 (by decide) rfl) ?_
 refine Run.m (v := .bool t.lost) (y_loadB1 1 rfl Tryz.isAgg4 rfl rfl rfl) ?_
 refine Run.mv ?_
 refine Run.split 3 rfl (b := t.lost) (d := 13) (v := .bool (t.lost || (decide (n < 0)))) (fun hb10 K10 => ?_) (fun hb10 K10 => ?_) ?_
 ·
  have hc1010 := hb10; try simp only [z1, z2, z3, z4, z5, z6, z7, z8, z9, z10, z11, z12, z13, z14, z15, z16] at hc1010
  refine Run.no rfl rfl rfl rfl (hb10) rfl (by decide) ?_
  refine Run.no rfl rfl rfl rfl (hb10) rfl (by decide) ?_
  refine Run.y (y_pickB rfl rfl (hb10) rfl) rfl rfl (by decide) ?_
  exact K10 _ _ _ (Imm.le.refl _) (by rw [hb10]; simp) (Sub.tl 2 rfl rfl)
 ·
  have hc1010 := hb10; try simp only [z1, z2, z3, z4, z5, z6, z7, z8, z9, z10, z11, z12, z13, z14, z15, z16] at hc1010
  refine Run.yes (v := .int .i64 n) (y_move rfl rfl) rfl rfl rfl rfl (hb10) rfl (by decide) ?_
  refine Run.yes (v := .bool (decide (n < 0))) (y_bin rfl rfl rfl bn_lss) rfl rfl rfl rfl (hb10) rfl (by decide) ?_
  refine Run.y (y_pickB rfl rfl (hb10) rfl) rfl rfl (by decide) ?_
  exact K10 _ _ _ (Imm.le.refl _) (by rw [hb10]; simp) (Sub.tl 2 rfl rfl)
 refine Run.mv ?_
 refine Run.split 6 rfl (b := (t.lost || (decide (n < 0)))) (d := 20) (v := .bool ((t.lost || (decide (n < 0))) || (decide (n ≥ (t.blocks.length : Int))))) (fun hb14 K14 => ?_) (fun hb14 K14 => ?_) ?_
 ·
  have hc1014 := hb14; try simp only [z1, z2, z3, z4, z5, z6, z7, z8, z9, z10, z11, z12, z13, z14, z15, z16] at hc1014
  refine Run.no rfl rfl rfl rfl (hb14) rfl (by decide) ?_
  refine Run.no rfl rfl rfl rfl (hb14) rfl (by decide) ?_
  refine Run.no rfl rfl rfl rfl (hb14) rfl (by decide) ?_
  refine Run.no rfl rfl rfl rfl (hb14) rfl (by decide) ?_
  refine Run.no rfl rfl rfl rfl (hb14) rfl (by decide) ?_
  refine Run.y (y_pickB rfl rfl (hb14) rfl) rfl rfl (by decide) ?_
  exact K14 _ _ _ (Imm.le.refl _) (by rw [hb14]; simp) (Sub.tl 5 rfl rfl)
 ·
  have hc1014 := hb14; try simp only [z1, z2, z3, z4, z5, z6, z7, z8, z9, z10, z11, z12, z13, z14, z15, z16] at hc1014
  refine Run.yes (v := .int .i64 n) (y_move rfl rfl) rfl rfl rfl rfl (hb14) rfl (by decide) ?_
  refine Run.yes (v := .pointer (some ⟨g2, 2, none⟩)) (y_fieldAddr rfl rfl Tryz.runUnderlying45 rfl Tryz.sizeOf43 (by decide) rfl) rfl rfl rfl rfl (hb14) rfl (by decide) ?_
  refine Run.yes (v := .slice At_2 t.blocks.length ct_2) (y_loadB1 1 rfl Tryz.isAgg43 rfl rfl rfl) rfl rfl rfl rfl (hb14) rfl (by decide) ?_
  refine Run.yes (v := .int .i64 (t.blocks.length : Int)) (y_len rfl Tryz.runUnderlying43 rfl) rfl rfl rfl rfl (hb14) rfl (by decide) ?_
  refine Run.yes (v := .bool (decide (n ≥ (t.blocks.length : Int)))) (y_bin rfl rfl rfl bn_geq) rfl rfl rfl rfl (hb14) rfl (by decide) ?_
  refine Run.y (y_pickB rfl rfl (hb14) rfl) rfl rfl (by decide) ?_
  exact K14 _ _ _ (Imm.le.refl _) (by rw [hb14]; simp) (Sub.tl 5 rfl rfl)
 refine Run.nx ?_
 refine RunC.cond rfl (fun hc0 => ?_) (fun hc0 => ?_)
 ·
  try simp only [z1, z2, z3, z4, z5, z6, z7, z8, z9, z10, z11, z12, z13, z14, z15, z16] at hc0
  refine RunC.sr ?_
  refine Run.m (v := .agg [.int .i64 0, .int .i64 0, .int .i64 0, .slice none 0 0].toArray) (y_build (vs := []) rfl rfl (fun w => by simp [Instr.build, Tryz.zeroValue63, Tryz.runUnderlying63, Tryz.sizeOf3, Tryz.sizeOf42, Instr.fill, Value.cells])) ?_
  refine Run.storeB (vs := [.int .i64 0, .int .i64 0, .int .i64 0, .slice none 0 0]) (cs' := [.int .i64 0, .int .i64 0, .int .i64 0, .slice none 0 0]) (own' := [blk g2 [.int .i64 t.label, .int .i64 t.cap, .slice At_2 t.blocks.length ct_2, .bool t.lost] 45]) 0 rfl rfl rfl Tryz.sizeOf63 rfl rfl rfl rfl rfl (Nat.le_of_ble_eq_true rfl) rfl rfl rfl ?_
  refine Run.as ?_
  refine Run.nx ?_
  refine RunC.ret ?_
  refine RunQ.pass (fun h => by cases h) ?_
  refine RunQ.end2 (.inl rfl) Tryz.results32 (rv_cellA (i := 0) rfl Tryz.isAgg63 Tryz.sizeOf63 rfl rfl) (rv_tmp rfl) ?_
  exact ⟨rfl, _, _, rfl, (rd_eq (T := tUnit) (x := (⟨0, 0, 0, ([] : List UInt8)⟩ : AUnit)) ⟨_, _, rfl, (by first | omega | (dsimp only; omega)), (by first | omega | (dsimp only; omega)), (by first | omega | (dsimp only; omega)), sl_nil0⟩ (by first | (rw [vGood_no1 hc0] <;> rfl) | (rw [vGood_no2 hx26 hc1] <;> rfl) | (rw [vGood_yes hc0 hx26 hc1] <;> rfl))), (rd_eq (T := tBool) (x := false) rfl (by first | (rw [vGood_no1 hc0] <;> rfl) | (rw [vGood_no2 hx26 hc1] <;> rfl) | (rw [vGood_yes hc0 hx26 hc1] <;> rfl)))⟩
 ·
  try simp only [z1, z2, z3, z4, z5, z6, z7, z8, z9, z10, z11, z12, z13, z14, z15, z16] at hc0
  refine RunC.skip ?_
  refine RunQ.next ?_
  refine RunC.sr ?_
  refine Run.m (v := .pointer (some ⟨g2, 2, none⟩)) (y_fieldAddr rfl rfl Tryz.runUnderlying45 rfl Tryz.sizeOf43 (by decide) rfl) ?_
  refine Run.m (v := .slice At_2 t.blocks.length ct_2) (y_loadB1 1 rfl Tryz.isAgg43 rfl rfl rfl) ?_
  refine Run.mv ?_
  obtain ⟨x26, p26_2, cs26_2, hx26, hp26_2, hcs26_2, hrc26_2⟩ := Sl.at_ (P := Tryz.prog) (T := (tSl tU8)) Tryz.runUnderlying43 Tryz.sizeOf42 ft_2 (k := .i64) (i := n) (by omega) (by omega)
  obtain ⟨A26_2_0, c26_2_0, rfl, f26_2_0⟩ := hcs26_2
  have hsm26_2_0 := f26_2_0.small
  refine Run.m (v := .pointer (some p26_2)) (y_index rfl rfl rfl hp26_2) ?_
  refine Run.m (v := .slice A26_2_0 x26.length c26_2_0) (y_load1 rfl Tryz.isAgg42 rfl (RCells.hd hrc26_2)) ?_
  refine Run.call0 (en_func rfl Tryz.call23 rfl) (c_cartridgeref1_GetFrame _ x26 f26_2_0 (hsz _ (List.mem_of_getElem? hx26))) rfl rfl (by decide) (fun J3 o3 v3 hleJ3 hq3 => ?_)
  obtain ⟨rfl, cs3a, cs3b, rfl, h3a, h3b⟩ := hq3
  replace h3a : tUnit.rd J3 cs3a ((fGet x26).1) := h3a
  obtain ⟨A3a_3, c3a_3, rfl, f3a_0, f3a_1, f3a_2, f3a_3⟩ := h3a
  have hsm3a_3 := f3a_3.small
  replace h3b : tInt.rd J3 cs3b ((fGet x26).2) := h3b
  obtain ⟨rfl, f3b_0⟩ := h3b
  refine Run.mv ?_
  refine Run.m (y_extract rfl rfl rfl) ?_
  refine Run.m (y_extract rfl rfl rfl) ?_
  refine Run.alloc (cs := [.int .i64 0, .int .i64 0, .int .i64 0, .slice none 0 0]) rfl Tryz.zeroValue63 rfl rfl rfl (by decide) (fun g6_4 => ?_)
  refine Run.storeB (vs := [.int .i64 (((fGet x26).1).kind), .int .i64 (((fGet x26).1).label), .int .i64 (((fGet x26).1).number), .slice A3a_3 ((((fGet x26).1).load).length) c3a_3]) (cs' := [.int .i64 (((fGet x26).1).kind), .int .i64 (((fGet x26).1).label), .int .i64 (((fGet x26).1).number), .slice A3a_3 ((((fGet x26).1).load).length) c3a_3]) (own' := [blk g4_1 [.int .i64 0, .int .i64 0, .int .i64 0, .slice none 0 0] 63, blk g2 [.int .i64 t.label, .int .i64 t.cap, .slice At_2 t.blocks.length ct_2, .bool t.lost] 45]) 0 rfl rfl rfl Tryz.sizeOf63 rfl rfl rfl rfl rfl (Nat.le_of_ble_eq_true rfl) rfl rfl rfl ?_
  refine Run.as ?_
  refine Run.nx ?_
  refine RunC.seq ?_
  refine RunC.sr ?_
  refine Run.mv ?_
  refine Run.m (v := .bool (decide ((fGet x26).2 ≠ 0))) (y_bin rfl rfl rfl bn_neq) ?_
  refine Run.mv ?_
  refine Run.split 6 rfl (b := decide ((fGet x26).2 ≠ 0)) (d := 39) (v := .bool ((decide ((fGet x26).2 ≠ 0)) || (decide (((fGet x26).1).label ≠ t.label)))) (fun hb33 K33 => ?_) (fun hb33 K33 => ?_) ?_
  ·
   have hc1033 := hb33; try simp only [z1, z2, z3, z4, z5, z6, z7, z8, z9, z10, z11, z12, z13, z14, z15, z16] at hc1033
   refine Run.no rfl rfl rfl rfl (hb33) rfl (by decide) ?_
   refine Run.no rfl rfl rfl rfl (hb33) rfl (by decide) ?_
   refine Run.no rfl rfl rfl rfl (hb33) rfl (by decide) ?_
   refine Run.no rfl rfl rfl rfl (hb33) rfl (by decide) ?_
   refine Run.no rfl rfl rfl rfl (hb33) rfl (by decide) ?_
   refine Run.y (y_pickB rfl rfl (hb33) rfl) rfl rfl (by decide) ?_
   exact K33 _ _ _ (Imm.le.refl _) (by rw [hb33]; simp) (Sub.tl 5 rfl rfl)
  ·
   have hc1033 := hb33; try simp only [z1, z2, z3, z4, z5, z6, z7, z8, z9, z10, z11, z12, z13, z14, z15, z16] at hc1033
   refine Run.yes (v := .pointer (some ⟨g6_4, 1, none⟩)) (y_fieldAddr rfl rfl Tryz.runUnderlying63 rfl Tryz.sizeOf3 (by decide) rfl) rfl rfl rfl rfl (hb33) rfl (by decide) ?_
   refine Run.yes (v := .int .i64 (((fGet x26).1).label)) (y_loadB1 0 rfl Tryz.isAgg3 rfl rfl rfl) rfl rfl rfl rfl (hb33) rfl (by decide) ?_
   refine Run.yes (v := .pointer (some ⟨g2, 0, none⟩)) (y_fieldAddr rfl rfl Tryz.runUnderlying45 rfl Tryz.sizeOf3 (by decide) rfl) rfl rfl rfl rfl (hb33) rfl (by decide) ?_
   refine Run.yes (v := .int .i64 t.label) (y_loadB1 2 rfl Tryz.isAgg3 rfl rfl rfl) rfl rfl rfl rfl (hb33) rfl (by decide) ?_
   refine Run.yes (v := .bool (decide (((fGet x26).1).label ≠ t.label))) (y_bin rfl rfl rfl bn_neq) rfl rfl rfl rfl (hb33) rfl (by decide) ?_
   refine Run.y (y_pickB rfl rfl (hb33) rfl) rfl rfl (by decide) ?_
   exact K33 _ _ _ (Imm.le.refl _) (by rw [hb33]; simp) (Sub.tl 5 rfl rfl)
  refine Run.mv ?_
  refine Run.split 5 rfl (b := ((decide ((fGet x26).2 ≠ 0)) || (decide (((fGet x26).1).label ≠ t.label)))) (d := 45) (v := .bool (((decide ((fGet x26).2 ≠ 0)) || (decide (((fGet x26).1).label ≠ t.label))) || (decide (((fGet x26).1).number ≠ n)))) (fun hb40 K40 => ?_) (fun hb40 K40 => ?_) ?_
  ·
   have hc1040 := hb40; try simp only [z1, z2, z3, z4, z5, z6, z7, z8, z9, z10, z11, z12, z13, z14, z15, z16] at hc1040
   refine Run.no rfl rfl rfl rfl (hb40) rfl (by decide) ?_
   refine Run.no rfl rfl rfl rfl (hb40) rfl (by decide) ?_
   refine Run.no rfl rfl rfl rfl (hb40) rfl (by decide) ?_
   refine Run.no rfl rfl rfl rfl (hb40) rfl (by decide) ?_
   refine Run.y (y_pickB rfl rfl (hb40) rfl) rfl rfl (by decide) ?_
   exact K40 _ _ _ (Imm.le.refl _) (by rw [hb40]; simp) (Sub.tl 4 rfl rfl)
  ·
   have hc1040 := hb40; try simp only [z1, z2, z3, z4, z5, z6, z7, z8, z9, z10, z11, z12, z13, z14, z15, z16] at hc1040
   refine Run.yes (v := .pointer (some ⟨g6_4, 2, none⟩)) (y_fieldAddr rfl rfl Tryz.runUnderlying63 rfl Tryz.sizeOf3 (by decide) rfl) rfl rfl rfl rfl (hb40) rfl (by decide) ?_
   refine Run.yes (v := .int .i64 (((fGet x26).1).number)) (y_loadB1 0 rfl Tryz.isAgg3 rfl rfl rfl) rfl rfl rfl rfl (hb40) rfl (by decide) ?_
   refine Run.yes (v := .int .i64 n) (y_move rfl rfl) rfl rfl rfl rfl (hb40) rfl (by decide) ?_
   refine Run.yes (v := .bool (decide (((fGet x26).1).number ≠ n))) (y_bin rfl rfl rfl bn_neq) rfl rfl rfl rfl (hb40) rfl (by decide) ?_
   refine Run.y (y_pickB rfl rfl (hb40) rfl) rfl rfl (by decide) ?_
   exact K40 _ _ _ (Imm.le.refl _) (by rw [hb40]; simp) (Sub.tl 4 rfl rfl)
  refine Run.nx ?_
  refine RunC.cond rfl (fun hc1 => ?_) (fun hc1 => ?_)
  ·
   try simp only [z1, z2, z3, z4, z5, z6, z7, z8, z9, z10, z11, z12, z13, z14, z15, z16] at hc1
   refine RunC.sr ?_
   refine Run.m (v := .agg [.int .i64 0, .int .i64 0, .int .i64 0, .slice none 0 0].toArray) (y_build (vs := []) rfl rfl (fun w => by simp [Instr.build, Tryz.zeroValue63, Tryz.runUnderlying63, Tryz.sizeOf3, Tryz.sizeOf42, Instr.fill, Value.cells])) ?_
   refine Run.storeB (vs := [.int .i64 0, .int .i64 0, .int .i64 0, .slice none 0 0]) (cs' := [.int .i64 0, .int .i64 0, .int .i64 0, .slice none 0 0]) (own' := [blk g6_4 [.int .i64 (((fGet x26).1).kind), .int .i64 (((fGet x26).1).label), .int .i64 (((fGet x26).1).number), .slice A3a_3 ((((fGet x26).1).load).length) c3a_3] 63, blk g2 [.int .i64 t.label, .int .i64 t.cap, .slice At_2 t.blocks.length ct_2, .bool t.lost] 45]) 1 rfl rfl rfl Tryz.sizeOf63 rfl rfl rfl rfl rfl (Nat.le_of_ble_eq_true rfl) rfl rfl rfl ?_
   refine Run.as ?_
   refine Run.nx ?_
   refine RunC.ret ?_
   refine RunQ.pass (fun h => by cases h) ?_
   refine RunQ.end2 (.inl rfl) Tryz.results32 (rv_cellA (i := 0) rfl Tryz.isAgg63 Tryz.sizeOf63 rfl rfl) (rv_tmp rfl) ?_
   exact ⟨rfl, _, _, rfl, (rd_eq (T := tUnit) (x := (⟨0, 0, 0, ([] : List UInt8)⟩ : AUnit)) ⟨_, _, rfl, (by first | omega | (dsimp only; omega)), (by first | omega | (dsimp only; omega)), (by first | omega | (dsimp only; omega)), sl_nil0⟩ (by first | (rw [vGood_no1 hc0] <;> rfl) | (rw [vGood_no2 hx26 hc1] <;> rfl) | (rw [vGood_yes hc0 hx26 hc1] <;> rfl))), (rd_eq (T := tBool) (x := false) rfl (by first | (rw [vGood_no1 hc0] <;> rfl) | (rw [vGood_no2 hx26 hc1] <;> rfl) | (rw [vGood_yes hc0 hx26 hc1] <;> rfl)))⟩
  ·
   try simp only [z1, z2, z3, z4, z5, z6, z7, z8, z9, z10, z11, z12, z13, z14, z15, z16] at hc1
   refine RunC.skip ?_
   refine RunQ.next ?_
   refine RunC.sr ?_
   refine Run.m (v := .agg [.int .i64 (((fGet x26).1).kind), .int .i64 (((fGet x26).1).label), .int .i64 (((fGet x26).1).number), .slice A3a_3 ((((fGet x26).1).load).length) c3a_3].toArray) (y_loadBA 0 rfl Tryz.isAgg63 Tryz.sizeOf63 rfl rfl rfl rfl) ?_
   refine Run.storeB (vs := [.int .i64 (((fGet x26).1).kind), .int .i64 (((fGet x26).1).label), .int .i64 (((fGet x26).1).number), .slice A3a_3 ((((fGet x26).1).load).length) c3a_3]) (cs' := [.int .i64 (((fGet x26).1).kind), .int .i64 (((fGet x26).1).label), .int .i64 (((fGet x26).1).number), .slice A3a_3 ((((fGet x26).1).load).length) c3a_3]) (own' := [blk g6_4 [.int .i64 (((fGet x26).1).kind), .int .i64 (((fGet x26).1).label), .int .i64 (((fGet x26).1).number), .slice A3a_3 ((((fGet x26).1).load).length) c3a_3] 63, blk g2 [.int .i64 t.label, .int .i64 t.cap, .slice At_2 t.blocks.length ct_2, .bool t.lost] 45]) 1 rfl rfl rfl Tryz.sizeOf63 rfl rfl rfl rfl rfl (Nat.le_of_ble_eq_true rfl) rfl rfl rfl ?_
   refine Run.as ?_
   refine Run.nx ?_
   refine RunC.ret ?_
   refine RunQ.end2 (.inl rfl) Tryz.results32 (rv_cellA (i := 0) rfl Tryz.isAgg63 Tryz.sizeOf63 rfl rfl) (rv_tmp rfl) ?_
   exact ⟨rfl, _, _, rfl, (rd_eq (T := tUnit) (x := ((fGet x26).1)) ⟨_, _, rfl, f3a_0, f3a_1, f3a_2, f3a_3⟩ (by first | (rw [vGood_no1 hc0] <;> rfl) | (rw [vGood_no2 hx26 hc1] <;> rfl) | (rw [vGood_yes hc0 hx26 hc1] <;> rfl))), (rd_eq (T := tBool) (x := true) rfl (by first | (rw [vGood_no1 hc0] <;> rfl) | (rw [vGood_no2 hx26 hc1] <;> rfl) | (rw [vGood_yes hc0 hx26 hc1] <;> rfl)))⟩

theorem c_cartridgeref10_RightSeal (I : Imm) {css : List Value} (s : ASeal) (hs : tSeal.rd I css s) : Con Tryz.prog 33 [.agg css.toArray].toArray I [] (Ret1 (tBool.o) (sRight s)) := by
 obtain ⟨As_4, cs_4, rfl, fs_0, fs_1, fs_2, fs_3, fs_4⟩ := hs
 have hsms_4 := fs_4.small
 refine Con.enter (n := 102) (L := [(0, .agg [.int .i64 s.number, .int .i64 s.index, .int .i64 s.data, .int .i64 s.parity, .slice As_4 s.labels.length cs_4].toArray)]) Tryz.func33 rfl rfl (Nat.le_of_ble_eq_true rfl) rfl (fun E => ?_)
 refine RunC.sr ?_
 refine Run.box (cs := [.int .i64 s.number, .int .i64 s.index, .int .i64 s.data, .int .i64 s.parity, .slice As_4 s.labels.length cs_4]) rfl rfl rfl rfl rfl (by decide) (fun g1 => ?_)
 refine Run.as ?_
 refine Run.nx ?_
 refine RunC.seq ?_
 refine RunC.sr ?_
 refine Run.m (v := .pointer (some ⟨g1, 0, none⟩)) (y_fieldAddr rfl rfl Tryz.runUnderlying38 rfl Tryz.sizeOf3 (by decide) rfl) ?_
 refine Run.m (v := .int .i64 s.number) (y_loadB1 0 rfl Tryz.isAgg3 rfl rfl rfl) ?_
 refine Run.m (v := .bool (decide (s.number < 1))) (y_bin rfl rfl rfl bn_lss) ?_
 refine Run.mv ?_
 refine Run.split 4 rfl (b := decide (s.number < 1)) (d := 12) (v := .bool ((decide (s.number < 1)) || (decide (s.number > 1073741824)))) (fun hb8 K8 => ?_) (fun hb8 K8 => ?_) ?_
 ·
  have hc1008 := hb8; try simp only [z1, z2, z3, z4, z5, z6, z7, z8, z9, z10, z11, z12, z13, z14, z15, z16] at hc1008
  refine Run.no rfl rfl rfl rfl (hb8) rfl (by decide) ?_
  refine Run.no rfl rfl rfl rfl (hb8) rfl (by decide) ?_
  refine Run.no rfl rfl rfl rfl (hb8) rfl (by decide) ?_
  refine Run.y (y_pickB rfl rfl (hb8) rfl) rfl rfl (by decide) ?_
  exact K8 _ _ _ (Imm.le.refl _) (by rw [hb8]; simp) (Sub.tl 3 rfl rfl)
 ·
  have hc1008 := hb8; try simp only [z1, z2, z3, z4, z5, z6, z7, z8, z9, z10, z11, z12, z13, z14, z15, z16] at hc1008
  refine Run.yes (v := .pointer (some ⟨g1, 0, none⟩)) (y_fieldAddr rfl rfl Tryz.runUnderlying38 rfl Tryz.sizeOf3 (by decide) rfl) rfl rfl rfl rfl (hb8) rfl (by decide) ?_
  refine Run.yes (v := .int .i64 s.number) (y_loadB1 0 rfl Tryz.isAgg3 rfl rfl rfl) rfl rfl rfl rfl (hb8) rfl (by decide) ?_
  refine Run.yes (v := .bool (decide (s.number > 1073741824))) (y_bin rfl rfl rfl bn_gtr) rfl rfl rfl rfl (hb8) rfl (by decide) ?_
  refine Run.y (y_pickB rfl rfl (hb8) rfl) rfl rfl (by decide) ?_
  exact K8 _ _ _ (Imm.le.refl _) (by rw [hb8]; simp) (Sub.tl 3 rfl rfl)
 refine Run.mv ?_
 refine Run.split 4 rfl (b := ((decide (s.number < 1)) || (decide (s.number > 1073741824)))) (d := 17) (v := .bool (((decide (s.number < 1)) || (decide (s.number > 1073741824))) || (decide (s.data < 1)))) (fun hb13 K13 => ?_) (fun hb13 K13 => ?_) ?_
 ·
  have hc1013 := hb13; try simp only [z1, z2, z3, z4, z5, z6, z7, z8, z9, z10, z11, z12, z13, z14, z15, z16] at hc1013
  refine Run.no rfl rfl rfl rfl (hb13) rfl (by decide) ?_
  refine Run.no rfl rfl rfl rfl (hb13) rfl (by decide) ?_
  refine Run.no rfl rfl rfl rfl (hb13) rfl (by decide) ?_
  refine Run.y (y_pickB rfl rfl (hb13) rfl) rfl rfl (by decide) ?_
  exact K13 _ _ _ (Imm.le.refl _) (by rw [hb13]; simp) (Sub.tl 3 rfl rfl)
 ·
  have hc1013 := hb13; try simp only [z1, z2, z3, z4, z5, z6, z7, z8, z9, z10, z11, z12, z13, z14, z15, z16] at hc1013
  refine Run.yes (v := .pointer (some ⟨g1, 2, none⟩)) (y_fieldAddr rfl rfl Tryz.runUnderlying38 rfl Tryz.sizeOf3 (by decide) rfl) rfl rfl rfl rfl (hb13) rfl (by decide) ?_
  refine Run.yes (v := .int .i64 s.data) (y_loadB1 0 rfl Tryz.isAgg3 rfl rfl rfl) rfl rfl rfl rfl (hb13) rfl (by decide) ?_
  refine Run.yes (v := .bool (decide (s.data < 1))) (y_bin rfl rfl rfl bn_lss) rfl rfl rfl rfl (hb13) rfl (by decide) ?_
  refine Run.y (y_pickB rfl rfl (hb13) rfl) rfl rfl (by decide) ?_
  exact K13 _ _ _ (Imm.le.refl _) (by rw [hb13]; simp) (Sub.tl 3 rfl rfl)
 refine Run.mv ?_
 refine Run.split 4 rfl (b := (((decide (s.number < 1)) || (decide (s.number > 1073741824))) || (decide (s.data < 1)))) (d := 22) (v := .bool ((((decide (s.number < 1)) || (decide (s.number > 1073741824))) || (decide (s.data < 1))) || (decide (s.parity < 1)))) (fun hb18 K18 => ?_) (fun hb18 K18 => ?_) ?_
 ·
  have hc1018 := hb18; try simp only [z1, z2, z3, z4, z5, z6, z7, z8, z9, z10, z11, z12, z13, z14, z15, z16] at hc1018
  refine Run.no rfl rfl rfl rfl (hb18) rfl (by decide) ?_
  refine Run.no rfl rfl rfl rfl (hb18) rfl (by decide) ?_
  refine Run.no rfl rfl rfl rfl (hb18) rfl (by decide) ?_
  refine Run.y (y_pickB rfl rfl (hb18) rfl) rfl rfl (by decide) ?_
  exact K18 _ _ _ (Imm.le.refl _) (by rw [hb18]; simp) (Sub.tl 3 rfl rfl)
 ·
  have hc1018 := hb18; try simp only [z1, z2, z3, z4, z5, z6, z7, z8, z9, z10, z11, z12, z13, z14, z15, z16] at hc1018
  refine Run.yes (v := .pointer (some ⟨g1, 3, none⟩)) (y_fieldAddr rfl rfl Tryz.runUnderlying38 rfl Tryz.sizeOf3 (by decide) rfl) rfl rfl rfl rfl (hb18) rfl (by decide) ?_
  refine Run.yes (v := .int .i64 s.parity) (y_loadB1 0 rfl Tryz.isAgg3 rfl rfl rfl) rfl rfl rfl rfl (hb18) rfl (by decide) ?_
  refine Run.yes (v := .bool (decide (s.parity < 1))) (y_bin rfl rfl rfl bn_lss) rfl rfl rfl rfl (hb18) rfl (by decide) ?_
  refine Run.y (y_pickB rfl rfl (hb18) rfl) rfl rfl (by decide) ?_
  exact K18 _ _ _ (Imm.le.refl _) (by rw [hb18]; simp) (Sub.tl 3 rfl rfl)
 refine Run.mv ?_
 refine Run.split 4 rfl (b := ((((decide (s.number < 1)) || (decide (s.number > 1073741824))) || (decide (s.data < 1))) || (decide (s.parity < 1)))) (d := 27) (v := .bool (((((decide (s.number < 1)) || (decide (s.number > 1073741824))) || (decide (s.data < 1))) || (decide (s.parity < 1))) || (decide (s.data > 14)))) (fun hb23 K23 => ?_) (fun hb23 K23 => ?_) ?_
 ·
  have hc1023 := hb23; try simp only [z1, z2, z3, z4, z5, z6, z7, z8, z9, z10, z11, z12, z13, z14, z15, z16] at hc1023
  refine Run.no rfl rfl rfl rfl (hb23) rfl (by decide) ?_
  refine Run.no rfl rfl rfl rfl (hb23) rfl (by decide) ?_
  refine Run.no rfl rfl rfl rfl (hb23) rfl (by decide) ?_
  refine Run.y (y_pickB rfl rfl (hb23) rfl) rfl rfl (by decide) ?_
  exact K23 _ _ _ (Imm.le.refl _) (by rw [hb23]; simp) (Sub.tl 3 rfl rfl)
 ·
  have hc1023 := hb23; try simp only [z1, z2, z3, z4, z5, z6, z7, z8, z9, z10, z11, z12, z13, z14, z15, z16] at hc1023
  refine Run.yes (v := .pointer (some ⟨g1, 2, none⟩)) (y_fieldAddr rfl rfl Tryz.runUnderlying38 rfl Tryz.sizeOf3 (by decide) rfl) rfl rfl rfl rfl (hb23) rfl (by decide) ?_
  refine Run.yes (v := .int .i64 s.data) (y_loadB1 0 rfl Tryz.isAgg3 rfl rfl rfl) rfl rfl rfl rfl (hb23) rfl (by decide) ?_
  refine Run.yes (v := .bool (decide (s.data > 14))) (y_bin rfl rfl rfl bn_gtr) rfl rfl rfl rfl (hb23) rfl (by decide) ?_
  refine Run.y (y_pickB rfl rfl (hb23) rfl) rfl rfl (by decide) ?_
  exact K23 _ _ _ (Imm.le.refl _) (by rw [hb23]; simp) (Sub.tl 3 rfl rfl)
 refine Run.mv ?_
 refine Run.split 4 rfl (b := (((((decide (s.number < 1)) || (decide (s.number > 1073741824))) || (decide (s.data < 1))) || (decide (s.parity < 1))) || (decide (s.data > 14)))) (d := 32) (v := .bool ((((((decide (s.number < 1)) || (decide (s.number > 1073741824))) || (decide (s.data < 1))) || (decide (s.parity < 1))) || (decide (s.data > 14))) || (decide (s.parity > 14)))) (fun hb28 K28 => ?_) (fun hb28 K28 => ?_) ?_
 ·
  have hc1028 := hb28; try simp only [z1, z2, z3, z4, z5, z6, z7, z8, z9, z10, z11, z12, z13, z14, z15, z16] at hc1028
  refine Run.no rfl rfl rfl rfl (hb28) rfl (by decide) ?_
  refine Run.no rfl rfl rfl rfl (hb28) rfl (by decide) ?_
  refine Run.no rfl rfl rfl rfl (hb28) rfl (by decide) ?_
  refine Run.y (y_pickB rfl rfl (hb28) rfl) rfl rfl (by decide) ?_
  exact K28 _ _ _ (Imm.le.refl _) (by rw [hb28]; simp) (Sub.tl 3 rfl rfl)
 ·
  have hc1028 := hb28; try simp only [z1, z2, z3, z4, z5, z6, z7, z8, z9, z10, z11, z12, z13, z14, z15, z16] at hc1028
  refine Run.yes (v := .pointer (some ⟨g1, 3, none⟩)) (y_fieldAddr rfl rfl Tryz.runUnderlying38 rfl Tryz.sizeOf3 (by decide) rfl) rfl rfl rfl rfl (hb28) rfl (by decide) ?_
  refine Run.yes (v := .int .i64 s.parity) (y_loadB1 0 rfl Tryz.isAgg3 rfl rfl rfl) rfl rfl rfl rfl (hb28) rfl (by decide) ?_
  refine Run.yes (v := .bool (decide (s.parity > 14))) (y_bin rfl rfl rfl bn_gtr) rfl rfl rfl rfl (hb28) rfl (by decide) ?_
  refine Run.y (y_pickB rfl rfl (hb28) rfl) rfl rfl (by decide) ?_
  exact K28 _ _ _ (Imm.le.refl _) (by rw [hb28]; simp) (Sub.tl 3 rfl rfl)
 refine Run.mv ?_
 refine Run.split 7 rfl (b := ((((((decide (s.number < 1)) || (decide (s.number > 1073741824))) || (decide (s.data < 1))) || (decide (s.parity < 1))) || (decide (s.data > 14))) || (decide (s.parity > 14)))) (d := 40) (v := .bool (((((((decide (s.number < 1)) || (decide (s.number > 1073741824))) || (decide (s.data < 1))) || (decide (s.parity < 1))) || (decide (s.data > 14))) || (decide (s.parity > 14))) || (decide (s.data + s.parity > 14)))) (fun hb33 K33 => ?_) (fun hb33 K33 => ?_) ?_
 ·
  have hc1033 := hb33; try simp only [z1, z2, z3, z4, z5, z6, z7, z8, z9, z10, z11, z12, z13, z14, z15, z16] at hc1033
  refine Run.no rfl rfl rfl rfl (hb33) rfl (by decide) ?_
  refine Run.no rfl rfl rfl rfl (hb33) rfl (by decide) ?_
  refine Run.no rfl rfl rfl rfl (hb33) rfl (by decide) ?_
  refine Run.no rfl rfl rfl rfl (hb33) rfl (by decide) ?_
  refine Run.no rfl rfl rfl rfl (hb33) rfl (by decide) ?_
  refine Run.no rfl rfl rfl rfl (hb33) rfl (by decide) ?_
  refine Run.y (y_pickB rfl rfl (hb33) rfl) rfl rfl (by decide) ?_
  exact K33 _ _ _ (Imm.le.refl _) (by rw [hb33]; simp) (Sub.tl 6 rfl rfl)
 ·
  have hc1033 := hb33; try simp only [z1, z2, z3, z4, z5, z6, z7, z8, z9, z10, z11, z12, z13, z14, z15, z16] at hc1033
  refine Run.yes (v := .pointer (some ⟨g1, 2, none⟩)) (y_fieldAddr rfl rfl Tryz.runUnderlying38 rfl Tryz.sizeOf3 (by decide) rfl) rfl rfl rfl rfl (hb33) rfl (by decide) ?_
  refine Run.yes (v := .int .i64 s.data) (y_loadB1 0 rfl Tryz.isAgg3 rfl rfl rfl) rfl rfl rfl rfl (hb33) rfl (by decide) ?_
  refine Run.yes (v := .pointer (some ⟨g1, 3, none⟩)) (y_fieldAddr rfl rfl Tryz.runUnderlying38 rfl Tryz.sizeOf3 (by decide) rfl) rfl rfl rfl rfl (hb33) rfl (by decide) ?_
  refine Run.yes (v := .int .i64 s.parity) (y_loadB1 0 rfl Tryz.isAgg3 rfl rfl rfl) rfl rfl rfl rfl (hb33) rfl (by decide) ?_
  refine Run.yes (v := .int .i64 (s.data + s.parity)) (y_bin rfl rfl rfl (bn_add (by omega) (by omega))) rfl rfl rfl rfl (hb33) rfl (by decide) ?_
  refine Run.yes (v := .bool (decide (s.data + s.parity > 14))) (y_bin rfl rfl rfl bn_gtr) rfl rfl rfl rfl (hb33) rfl (by decide) ?_
  refine Run.y (y_pickB rfl rfl (hb33) rfl) rfl rfl (by decide) ?_
  exact K33 _ _ _ (Imm.le.refl _) (by rw [hb33]; simp) (Sub.tl 6 rfl rfl)
 refine Run.mv ?_
 refine Run.split 10 rfl (b := (((((((decide (s.number < 1)) || (decide (s.number > 1073741824))) || (decide (s.data < 1))) || (decide (s.parity < 1))) || (decide (s.data > 14))) || (decide (s.parity > 14))) || (decide (s.data + s.parity > 14)))) (d := 51) (v := .bool ((((((((decide (s.number < 1)) || (decide (s.number > 1073741824))) || (decide (s.data < 1))) || (decide (s.parity < 1))) || (decide (s.data > 14))) || (decide (s.parity > 14))) || (decide (s.data + s.parity > 14))) || (decide ((s.labels.length : Int) ≠ s.data + s.parity)))) (fun hb41 K41 => ?_) (fun hb41 K41 => ?_) ?_
 ·
  have hc1041 := hb41; try simp only [z1, z2, z3, z4, z5, z6, z7, z8, z9, z10, z11, z12, z13, z14, z15, z16] at hc1041
  refine Run.no rfl rfl rfl rfl (hb41) rfl (by decide) ?_
  refine Run.no rfl rfl rfl rfl (hb41) rfl (by decide) ?_
  refine Run.no rfl rfl rfl rfl (hb41) rfl (by decide) ?_
  refine Run.no rfl rfl rfl rfl (hb41) rfl (by decide) ?_
  refine Run.no rfl rfl rfl rfl (hb41) rfl (by decide) ?_
  refine Run.no rfl rfl rfl rfl (hb41) rfl (by decide) ?_
  refine Run.no rfl rfl rfl rfl (hb41) rfl (by decide) ?_
  refine Run.no rfl rfl rfl rfl (hb41) rfl (by decide) ?_
  refine Run.no rfl rfl rfl rfl (hb41) rfl (by decide) ?_
  refine Run.y (y_pickB rfl rfl (hb41) rfl) rfl rfl (by decide) ?_
  exact K41 _ _ _ (Imm.le.refl _) (by rw [hb41]; simp) (Sub.tl 9 rfl rfl)
 ·
  have hc1041 := hb41; try simp only [z1, z2, z3, z4, z5, z6, z7, z8, z9, z10, z11, z12, z13, z14, z15, z16] at hc1041
  refine Run.yes (v := .pointer (some ⟨g1, 4, none⟩)) (y_fieldAddr rfl rfl Tryz.runUnderlying38 rfl Tryz.sizeOf36 (by decide) rfl) rfl rfl rfl rfl (hb41) rfl (by decide) ?_
  refine Run.yes (v := .slice As_4 s.labels.length cs_4) (y_loadB1 0 rfl Tryz.isAgg36 rfl rfl rfl) rfl rfl rfl rfl (hb41) rfl (by decide) ?_
  refine Run.yes (v := .int .i64 (s.labels.length : Int)) (y_len rfl Tryz.runUnderlying36 rfl) rfl rfl rfl rfl (hb41) rfl (by decide) ?_
  refine Run.yes (v := .pointer (some ⟨g1, 2, none⟩)) (y_fieldAddr rfl rfl Tryz.runUnderlying38 rfl Tryz.sizeOf3 (by decide) rfl) rfl rfl rfl rfl (hb41) rfl (by decide) ?_
  refine Run.yes (v := .int .i64 s.data) (y_loadB1 0 rfl Tryz.isAgg3 rfl rfl rfl) rfl rfl rfl rfl (hb41) rfl (by decide) ?_
  refine Run.yes (v := .pointer (some ⟨g1, 3, none⟩)) (y_fieldAddr rfl rfl Tryz.runUnderlying38 rfl Tryz.sizeOf3 (by decide) rfl) rfl rfl rfl rfl (hb41) rfl (by decide) ?_
  refine Run.yes (v := .int .i64 s.parity) (y_loadB1 0 rfl Tryz.isAgg3 rfl rfl rfl) rfl rfl rfl rfl (hb41) rfl (by decide) ?_
  refine Run.yes (v := .int .i64 (s.data + s.parity)) (y_bin rfl rfl rfl (bn_add (by omega) (by omega))) rfl rfl rfl rfl (hb41) rfl (by decide) ?_
  refine Run.yes (v := .bool (decide ((s.labels.length : Int) ≠ s.data + s.parity))) (y_bin rfl rfl rfl bn_neq) rfl rfl rfl rfl (hb41) rfl (by decide) ?_
  refine Run.y (y_pickB rfl rfl (hb41) rfl) rfl rfl (by decide) ?_
  exact K41 _ _ _ (Imm.le.refl _) (by rw [hb41]; simp) (Sub.tl 9 rfl rfl)
 refine Run.mv ?_
 refine Run.split 4 rfl (b := ((((((((decide (s.number < 1)) || (decide (s.number > 1073741824))) || (decide (s.data < 1))) || (decide (s.parity < 1))) || (decide (s.data > 14))) || (decide (s.parity > 14))) || (decide (s.data + s.parity > 14))) || (decide ((s.labels.length : Int) ≠ s.data + s.parity)))) (d := 56) (v := .bool (((((((((decide (s.number < 1)) || (decide (s.number > 1073741824))) || (decide (s.data < 1))) || (decide (s.parity < 1))) || (decide (s.data > 14))) || (decide (s.parity > 14))) || (decide (s.data + s.parity > 14))) || (decide ((s.labels.length : Int) ≠ s.data + s.parity))) || (decide (s.index < 0)))) (fun hb52 K52 => ?_) (fun hb52 K52 => ?_) ?_
 ·
  have hc1052 := hb52; try simp only [z1, z2, z3, z4, z5, z6, z7, z8, z9, z10, z11, z12, z13, z14, z15, z16] at hc1052
  refine Run.no rfl rfl rfl rfl (hb52) rfl (by decide) ?_
  refine Run.no rfl rfl rfl rfl (hb52) rfl (by decide) ?_
  refine Run.no rfl rfl rfl rfl (hb52) rfl (by decide) ?_
  refine Run.y (y_pickB rfl rfl (hb52) rfl) rfl rfl (by decide) ?_
  exact K52 _ _ _ (Imm.le.refl _) (by rw [hb52]; simp) (Sub.tl 3 rfl rfl)
 ·
  have hc1052 := hb52; try simp only [z1, z2, z3, z4, z5, z6, z7, z8, z9, z10, z11, z12, z13, z14, z15, z16] at hc1052
  refine Run.yes (v := .pointer (some ⟨g1, 1, none⟩)) (y_fieldAddr rfl rfl Tryz.runUnderlying38 rfl Tryz.sizeOf3 (by decide) rfl) rfl rfl rfl rfl (hb52) rfl (by decide) ?_
  refine Run.yes (v := .int .i64 s.index) (y_loadB1 0 rfl Tryz.isAgg3 rfl rfl rfl) rfl rfl rfl rfl (hb52) rfl (by decide) ?_
  refine Run.yes (v := .bool (decide (s.index < 0))) (y_bin rfl rfl rfl bn_lss) rfl rfl rfl rfl (hb52) rfl (by decide) ?_
  refine Run.y (y_pickB rfl rfl (hb52) rfl) rfl rfl (by decide) ?_
  exact K52 _ _ _ (Imm.le.refl _) (by rw [hb52]; simp) (Sub.tl 3 rfl rfl)
 refine Run.mv ?_
 refine Run.split 7 rfl (b := (((((((((decide (s.number < 1)) || (decide (s.number > 1073741824))) || (decide (s.data < 1))) || (decide (s.parity < 1))) || (decide (s.data > 14))) || (decide (s.parity > 14))) || (decide (s.data + s.parity > 14))) || (decide ((s.labels.length : Int) ≠ s.data + s.parity))) || (decide (s.index < 0)))) (d := 64) (v := .bool ((((((((((decide (s.number < 1)) || (decide (s.number > 1073741824))) || (decide (s.data < 1))) || (decide (s.parity < 1))) || (decide (s.data > 14))) || (decide (s.parity > 14))) || (decide (s.data + s.parity > 14))) || (decide ((s.labels.length : Int) ≠ s.data + s.parity))) || (decide (s.index < 0))) || (decide (s.index ≥ (s.labels.length : Int))))) (fun hb57 K57 => ?_) (fun hb57 K57 => ?_) ?_
 ·
  have hc1057 := hb57; try simp only [z1, z2, z3, z4, z5, z6, z7, z8, z9, z10, z11, z12, z13, z14, z15, z16] at hc1057
  refine Run.no rfl rfl rfl rfl (hb57) rfl (by decide) ?_
  refine Run.no rfl rfl rfl rfl (hb57) rfl (by decide) ?_
  refine Run.no rfl rfl rfl rfl (hb57) rfl (by decide) ?_
  refine Run.no rfl rfl rfl rfl (hb57) rfl (by decide) ?_
  refine Run.no rfl rfl rfl rfl (hb57) rfl (by decide) ?_
  refine Run.no rfl rfl rfl rfl (hb57) rfl (by decide) ?_
  refine Run.y (y_pickB rfl rfl (hb57) rfl) rfl rfl (by decide) ?_
  exact K57 _ _ _ (Imm.le.refl _) (by rw [hb57]; simp) (Sub.tl 6 rfl rfl)
 ·
  have hc1057 := hb57; try simp only [z1, z2, z3, z4, z5, z6, z7, z8, z9, z10, z11, z12, z13, z14, z15, z16] at hc1057
  refine Run.yes (v := .pointer (some ⟨g1, 1, none⟩)) (y_fieldAddr rfl rfl Tryz.runUnderlying38 rfl Tryz.sizeOf3 (by decide) rfl) rfl rfl rfl rfl (hb57) rfl (by decide) ?_
  refine Run.yes (v := .int .i64 s.index) (y_loadB1 0 rfl Tryz.isAgg3 rfl rfl rfl) rfl rfl rfl rfl (hb57) rfl (by decide) ?_
  refine Run.yes (v := .pointer (some ⟨g1, 4, none⟩)) (y_fieldAddr rfl rfl Tryz.runUnderlying38 rfl Tryz.sizeOf36 (by decide) rfl) rfl rfl rfl rfl (hb57) rfl (by decide) ?_
  refine Run.yes (v := .slice As_4 s.labels.length cs_4) (y_loadB1 0 rfl Tryz.isAgg36 rfl rfl rfl) rfl rfl rfl rfl (hb57) rfl (by decide) ?_
  refine Run.yes (v := .int .i64 (s.labels.length : Int)) (y_len rfl Tryz.runUnderlying36 rfl) rfl rfl rfl rfl (hb57) rfl (by decide) ?_
  refine Run.yes (v := .bool (decide (s.index ≥ (s.labels.length : Int)))) (y_bin rfl rfl rfl bn_geq) rfl rfl rfl rfl (hb57) rfl (by decide) ?_
  refine Run.y (y_pickB rfl rfl (hb57) rfl) rfl rfl (by decide) ?_
  exact K57 _ _ _ (Imm.le.refl _) (by rw [hb57]; simp) (Sub.tl 6 rfl rfl)
 refine Run.nx ?_
 refine RunC.cond rfl (fun hc0 => ?_) (fun hc0 => ?_)
 ·
  try simp only [z1, z2, z3, z4, z5, z6, z7, z8, z9, z10, z11, z12, z13, z14, z15, z16] at hc0
  refine RunC.sr ?_
  refine Run.as ?_
  refine Run.nx ?_
  refine RunC.ret ?_
  refine RunQ.pass (fun h => by cases h) ?_
  refine RunQ.weak Sub.refl (perm_nil _) ?_
  refine RunQ.fin1 (.inl rfl) Tryz.results33 (rv_tmp rfl) ?_
  exact ⟨rfl, _, rfl, (rd_eq (T := tBool) (x := false) rfl (by first | exact (sRight_no (by unfold sRightP; omega)).symm | (rw [sRight_yes (by unfold sRightP; omega), ← hg, lblsL_at hx75, show decide (1 ≤ x75 ∧ x75 ≤ 2147483647) = false from decide_eq_false (by omega)]; rfl) | (rw [sRight_yes (by unfold sRightP; omega), ← hg, lblsL_at hx75, show (s.labels.take k).contains x75 = true from by (have e9 : x99 = x75 := Option.some.inj (hx99.symm.trans hx75); rw [List.contains_iff_mem]; exact List.mem_take_iff_getElem.2 ⟨q, by have := (List.getElem?_eq_some_iff.1 hx94).1; omega, by rw [(List.getElem?_eq_some_iff.1 hx94).2]; omega⟩)]; simp) | (rw [sRight_yes (by unfold sRightP; omega), ← hg, List.drop_eq_nil_of_le (by omega)]; rfl)))⟩
 ·
  try simp only [z1, z2, z3, z4, z5, z6, z7, z8, z9, z10, z11, z12, z13, z14, z15, z16] at hc0
  refine RunC.skip ?_
  refine RunQ.next ?_
  refine RunC.seq ?_
  refine RunC.sr ?_
  refine Run.as ?_
  refine Run.nx ?_
  refine RunC.block ?_
  obtain ⟨Inv0, hInv0⟩ : ∃ Inv : Nat → Act → World → Prop, ∀ mm aa ww, Inv mm aa ww ↔ (∃ (k : Nat), (k ≤ s.labels.length) ∧ (lblsL (s.labels.take k) (s.labels.drop k) = lblsL [] s.labels) ∧ (mm = (s.labels.length - k)) ∧ Frm aa 102 [(1, .pointer (some ⟨g1, 0, none⟩)), (3, .int .i64 (k : Int))] ∧ S E ww I [blk g1 [.int .i64 s.number, .int .i64 s.index, .int .i64 s.data, .int .i64 s.parity, .slice As_4 s.labels.length cs_4] 38]) := ⟨_, fun _ _ _ => Iff.rfl⟩
  refine RunC.loopX Inv0 (fun aa ww hF hS => ⟨_, (hInv0 _ _ _).2 ⟨0, (by omega), (by simp), rfl, hF.sub (Sub.of rfl), hS.sub (perm_self _)⟩⟩) ?_
  intro mm0 aa ww hv
  obtain ⟨k, hk, hg, hmm_, hF, hS⟩ := (hInv0 _ _ _).1 hv
  clear hv
  refine RunC.go ?_ hF hS
  clear hF hS aa ww
  refine RunC.seq ?_
  refine RunC.sr ?_
  refine Run.mv ?_
  refine Run.m (v := .pointer (some ⟨g1, 4, none⟩)) (y_fieldAddr rfl rfl Tryz.runUnderlying38 rfl Tryz.sizeOf36 (by decide) rfl) ?_
  refine Run.m (v := .slice As_4 s.labels.length cs_4) (y_loadB1 0 rfl Tryz.isAgg36 rfl rfl rfl) ?_
  refine Run.m (y_len rfl Tryz.runUnderlying36 rfl) ?_
  refine Run.m (v := .bool (decide ((k : Int) < (s.labels.length : Int)))) (y_bin rfl rfl rfl bn_lss) ?_
  refine Run.nx ?_
  refine RunC.cond rfl (fun hc1 => ?_) (fun hc1 => ?_)
  ·
   try simp only [z1, z2, z3, z4, z5, z6, z7, z8, z9, z10, z11, z12, z13, z14, z15, z16] at hc1
   refine RunC.skip ?_
   refine RunQ.next ?_
   refine RunC.seq ?_
   refine RunC.block ?_
   refine RunC.seq ?_
   refine RunC.sr ?_
   refine Run.m (v := .pointer (some ⟨g1, 4, none⟩)) (y_fieldAddr rfl rfl Tryz.runUnderlying38 rfl Tryz.sizeOf36 (by decide) rfl) ?_
   refine Run.m (v := .slice As_4 s.labels.length cs_4) (y_loadB1 0 rfl Tryz.isAgg36 rfl rfl rfl) ?_
   refine Run.mv ?_
   obtain ⟨x75, p75_1, cs75_1, hx75, hp75_1, hcs75_1, hrc75_1⟩ := Sl.at_ (P := Tryz.prog) (T := tInt) Tryz.runUnderlying36 Tryz.sizeOf3 fs_4 (k := .i64) (i := (k : Int)) (by omega) (by omega)
   replace hx75 : s.labels[k]? = some x75 := hx75
   obtain ⟨rfl, f75_1_0⟩ := hcs75_1
   refine Run.m (v := .pointer (some p75_1)) (y_index rfl rfl rfl hp75_1) ?_
   refine Run.m (v := .int .i64 x75) (y_load1 rfl Tryz.isAgg3 rfl (RCells.hd hrc75_1)) ?_
   refine Run.m (v := .bool (decide (x75 < 1))) (y_bin rfl rfl rfl bn_lss) ?_
   refine Run.mv ?_
   refine Run.split 7 rfl (b := decide (x75 < 1)) (d := 85) (v := .bool ((decide (x75 < 1)) || (decide (x75 > 2147483647)))) (fun hb78 K78 => ?_) (fun hb78 K78 => ?_) ?_
   ·
    have hc1078 := hb78; try simp only [z1, z2, z3, z4, z5, z6, z7, z8, z9, z10, z11, z12, z13, z14, z15, z16] at hc1078
    refine Run.no rfl rfl rfl rfl (hb78) rfl (by decide) ?_
    refine Run.no rfl rfl rfl rfl (hb78) rfl (by decide) ?_
    refine Run.no rfl rfl rfl rfl (hb78) rfl (by decide) ?_
    refine Run.no rfl rfl rfl rfl (hb78) rfl (by decide) ?_
    refine Run.no rfl rfl rfl rfl (hb78) rfl (by decide) ?_
    refine Run.no rfl rfl rfl rfl (hb78) rfl (by decide) ?_
    refine Run.y (y_pickB rfl rfl (hb78) rfl) rfl rfl (by decide) ?_
    exact K78 _ _ _ (Imm.le.refl _) (by rw [hb78]; first | (simp; done) | (have e9 : x82 = x75 := Option.some.inj (hx82.symm.trans hx75); rw [e9]; simp)) (Sub.tl 6 rfl rfl)
   ·
    have hc1078 := hb78; try simp only [z1, z2, z3, z4, z5, z6, z7, z8, z9, z10, z11, z12, z13, z14, z15, z16] at hc1078
    refine Run.yes (v := .pointer (some ⟨g1, 4, none⟩)) (y_fieldAddr rfl rfl Tryz.runUnderlying38 rfl Tryz.sizeOf36 (by decide) rfl) rfl rfl rfl rfl (hb78) rfl (by decide) ?_
    refine Run.yes (v := .slice As_4 s.labels.length cs_4) (y_loadB1 0 rfl Tryz.isAgg36 rfl rfl rfl) rfl rfl rfl rfl (hb78) rfl (by decide) ?_
    refine Run.yes (v := .int .i64 (k : Int)) (y_move rfl rfl) rfl rfl rfl rfl (hb78) rfl (by decide) ?_
    obtain ⟨x82, p82_2, cs82_2, hx82, hp82_2, hcs82_2, hrc82_2⟩ := Sl.at_ (P := Tryz.prog) (T := tInt) Tryz.runUnderlying36 Tryz.sizeOf3 fs_4 (k := .i64) (i := (k : Int)) (by omega) (by omega)
    replace hx82 : s.labels[k]? = some x82 := hx82
    obtain ⟨rfl, f82_2_0⟩ := hcs82_2
    refine Run.yes (v := .pointer (some p82_2)) (y_index rfl rfl rfl hp82_2) rfl rfl rfl rfl (hb78) rfl (by decide) ?_
    refine Run.yes (v := .int .i64 x82) (y_load1 rfl Tryz.isAgg3 rfl (RCells.hd hrc82_2)) rfl rfl rfl rfl (hb78) rfl (by decide) ?_
    refine Run.yes (v := .bool (decide (x82 > 2147483647))) (y_bin rfl rfl rfl bn_gtr) rfl rfl rfl rfl (hb78) rfl (by decide) ?_
    refine Run.y (y_pickB rfl rfl (hb78) rfl) rfl rfl (by decide) ?_
    exact K78 _ _ _ (Imm.le.refl _) (by rw [hb78]; first | (simp; done) | (have e9 : x82 = x75 := Option.some.inj (hx82.symm.trans hx75); rw [e9]; simp)) (Sub.tl 6 rfl rfl)
   refine Run.nx ?_
   refine RunC.cond rfl (fun hc2 => ?_) (fun hc2 => ?_)
   ·
    try simp only [z1, z2, z3, z4, z5, z6, z7, z8, z9, z10, z11, z12, z13, z14, z15, z16] at hc2
    refine RunC.sr ?_
    refine Run.as ?_
    refine Run.nx ?_
    refine RunC.ret ?_
    refine RunQ.pass (fun h => by cases h) ?_
    refine RunQ.inR ?_
    refine RunQ.pass (fun h => by cases h) ?_
    refine RunQ.pass (fun h => by cases h) ?_
    refine RunQ.inR ?_
    refine RunQ.pass (fun h => by cases h) ?_
    refine RunQ.weak Sub.refl (perm_nil _) ?_
    refine RunQ.fin1 (.inl rfl) Tryz.results33 (rv_tmp rfl) ?_
    exact ⟨rfl, _, rfl, (rd_eq (T := tBool) (x := false) rfl (by first | exact (sRight_no (by unfold sRightP; omega)).symm | (rw [sRight_yes (by unfold sRightP; omega), ← hg, lblsL_at hx75, show decide (1 ≤ x75 ∧ x75 ≤ 2147483647) = false from decide_eq_false (by omega)]; rfl) | (rw [sRight_yes (by unfold sRightP; omega), ← hg, lblsL_at hx75, show (s.labels.take k).contains x75 = true from by (have e9 : x99 = x75 := Option.some.inj (hx99.symm.trans hx75); rw [List.contains_iff_mem]; exact List.mem_take_iff_getElem.2 ⟨q, by have := (List.getElem?_eq_some_iff.1 hx94).1; omega, by rw [(List.getElem?_eq_some_iff.1 hx94).2]; omega⟩)]; simp) | (rw [sRight_yes (by unfold sRightP; omega), ← hg, List.drop_eq_nil_of_le (by omega)]; rfl)))⟩
   ·
    try simp only [z1, z2, z3, z4, z5, z6, z7, z8, z9, z10, z11, z12, z13, z14, z15, z16] at hc2
    refine RunC.skip ?_
    refine RunQ.next ?_
    refine RunC.sr ?_
    refine Run.as ?_
    refine Run.nx ?_
    refine RunC.block ?_
    obtain ⟨Inv1, hInv1⟩ : ∃ Inv : Nat → Act → World → Prop, ∀ mm aa ww, Inv mm aa ww ↔ (∃ (q : Nat), (q ≤ k) ∧ ((s.labels.take q).contains x75 = false) ∧ (mm = (k - q)) ∧ Frm aa 102 [(1, .pointer (some ⟨g1, 0, none⟩)), (3, .int .i64 (k : Int)), (65, .int .i64 (k : Int)), (66, .pointer (some ⟨g1, 4, none⟩)), (67, .slice As_4 s.labels.length cs_4), (68, .int .i64 (s.labels.length : Int)), (69, .bool (decide ((k : Int) < (s.labels.length : Int)))), (72, .pointer (some ⟨g1, 4, none⟩)), (73, .slice As_4 s.labels.length cs_4), (74, .int .i64 (k : Int)), (75, .pointer (some p75_1)), (76, .int .i64 x75), (77, .bool (decide (x75 < 1))), (78, .bool (decide (x75 < 1))), (85, .bool ((decide (x75 < 1)) || (decide (x75 > 2147483647)))), (4, .int .i64 (q : Int))] ∧ S E ww I [blk g1 [.int .i64 s.number, .int .i64 s.index, .int .i64 s.data, .int .i64 s.parity, .slice As_4 s.labels.length cs_4] 38]) := ⟨_, fun _ _ _ => Iff.rfl⟩
    refine RunC.loopX Inv1 (fun aa ww hF hS => ⟨_, (hInv1 _ _ _).2 ⟨0, (by omega), (by simp), rfl, hF.sub (Sub.of rfl), hS.sub (perm_self _)⟩⟩) ?_
    intro mm1 aa ww hv
    obtain ⟨q, hq, hno, hmm_, hF, hS⟩ := (hInv1 _ _ _).1 hv
    clear hv
    refine RunC.go ?_ hF hS
    clear hF hS aa ww
    refine RunC.seq ?_
    refine RunC.sr ?_
    refine Run.mv ?_
    refine Run.mv ?_
    refine Run.m (v := .bool (decide ((q : Int) < (k : Int)))) (y_bin rfl rfl rfl bn_lss) ?_
    refine Run.nx ?_
    refine RunC.cond rfl (fun hc3 => ?_) (fun hc3 => ?_)
    ·
     try simp only [z1, z2, z3, z4, z5, z6, z7, z8, z9, z10, z11, z12, z13, z14, z15, z16] at hc3
     refine RunC.skip ?_
     refine RunQ.next ?_
     refine RunC.seq ?_
     refine RunC.block ?_
     refine RunC.seq ?_
     refine RunC.regionD (by kernel_rfl) (by kernel_rfl) ?_
     refine RunZ.y (v := .pointer (some ⟨g1, 4, none⟩)) (y_fieldAddr rfl rfl Tryz.runUnderlying38 rfl Tryz.sizeOf36 (by decide) rfl) rfl rfl (by decide) ?_
     refine RunZ.y (v := .slice As_4 s.labels.length cs_4) (y_loadB1 0 rfl Tryz.isAgg36 rfl rfl rfl) rfl rfl (by decide) ?_
     refine RunZ.y (v := .int .i64 (q : Int)) (y_move rfl rfl) rfl rfl (by decide) ?_
     obtain ⟨x94, p94_3, cs94_3, hx94, hp94_3, hcs94_3, hrc94_3⟩ := Sl.at_ (P := Tryz.prog) (T := tInt) Tryz.runUnderlying36 Tryz.sizeOf3 fs_4 (k := .i64) (i := (q : Int)) (by omega) (by omega)
     replace hx94 : s.labels[q]? = some x94 := hx94
     obtain ⟨rfl, f94_3_0⟩ := hcs94_3
     refine RunZ.y (v := .pointer (some p94_3)) (y_index rfl rfl rfl hp94_3) rfl rfl (by decide) ?_
     refine RunZ.y (v := .int .i64 x94) (y_load1 rfl Tryz.isAgg3 rfl (RCells.hd hrc94_3)) rfl rfl (by decide) ?_
     refine RunZ.y (v := .pointer (some ⟨g1, 4, none⟩)) (y_fieldAddr rfl rfl Tryz.runUnderlying38 rfl Tryz.sizeOf36 (by decide) rfl) rfl rfl (by decide) ?_
     refine RunZ.y (v := .slice As_4 s.labels.length cs_4) (y_loadB1 0 rfl Tryz.isAgg36 rfl rfl rfl) rfl rfl (by decide) ?_
     refine RunZ.y (v := .int .i64 (k : Int)) (y_move rfl rfl) rfl rfl (by decide) ?_
     obtain ⟨x99, p99_4, cs99_4, hx99, hp99_4, hcs99_4, hrc99_4⟩ := Sl.at_ (P := Tryz.prog) (T := tInt) Tryz.runUnderlying36 Tryz.sizeOf3 fs_4 (k := .i64) (i := (k : Int)) (by omega) (by omega)
     replace hx99 : s.labels[k]? = some x99 := hx99
     obtain ⟨rfl, f99_4_0⟩ := hcs99_4
     refine RunZ.y (v := .pointer (some p99_4)) (y_index rfl rfl rfl hp99_4) rfl rfl (by decide) ?_
     refine RunZ.y (v := .int .i64 x99) (y_load1 rfl Tryz.isAgg3 rfl (RCells.hd hrc99_4)) rfl rfl (by decide) ?_
     refine RunZ.y (v := .bool (decide (x94 = x99))) (y_bin rfl rfl rfl bn_eql) rfl rfl (by decide) ?_
     refine RunZ.nil ?_
     refine RunQ.next ?_
     refine RunC.cond rfl (fun hc4 => ?_) (fun hc4 => ?_)
     ·
      try simp only [z1, z2, z3, z4, z5, z6, z7, z8, z9, z10, z11, z12, z13, z14, z15, z16] at hc4
      refine RunC.sr ?_
      refine Run.as ?_
      refine Run.nx ?_
      refine RunC.ret ?_
      refine RunQ.inR ?_
      refine RunQ.pass (fun h => by cases h) ?_
      refine RunQ.pass (fun h => by cases h) ?_
      refine RunQ.inR ?_
      refine RunQ.inR ?_
      refine RunQ.pass (fun h => by cases h) ?_
      refine RunQ.pass (fun h => by cases h) ?_
      refine RunQ.inR ?_
      refine RunQ.pass (fun h => by cases h) ?_
      refine RunQ.weak Sub.refl (perm_nil _) ?_
      refine RunQ.fin1 (.inl rfl) Tryz.results33 (rv_tmp rfl) ?_
      exact ⟨rfl, _, rfl, (rd_eq (T := tBool) (x := false) rfl (by first | exact (sRight_no (by unfold sRightP; omega)).symm | (rw [sRight_yes (by unfold sRightP; omega), ← hg, lblsL_at hx75, show decide (1 ≤ x75 ∧ x75 ≤ 2147483647) = false from decide_eq_false (by omega)]; rfl) | (rw [sRight_yes (by unfold sRightP; omega), ← hg, lblsL_at hx75, show (s.labels.take k).contains x75 = true from by (have e9 : x99 = x75 := Option.some.inj (hx99.symm.trans hx75); rw [List.contains_iff_mem]; exact List.mem_take_iff_getElem.2 ⟨q, by have := (List.getElem?_eq_some_iff.1 hx94).1; omega, by rw [(List.getElem?_eq_some_iff.1 hx94).2]; omega⟩)]; simp) | (rw [sRight_yes (by unfold sRightP; omega), ← hg, List.drop_eq_nil_of_le (by omega)]; rfl)))⟩
     ·
      try simp only [z1, z2, z3, z4, z5, z6, z7, z8, z9, z10, z11, z12, z13, z14, z15, z16] at hc4
      refine RunC.skip ?_
      refine RunQ.inB ?_
      refine RunQ.next ?_
      refine RunC.region ?_
      refine Run.mv ?_
      refine Run.m (v := .int .i64 ((q : Int) + 1)) (y_bin rfl rfl rfl (bn_add (by omega) (by omega))) ?_
      refine Run.as ?_
      refine Run.nil ?_
      exact RunQ.thenI (fun aa ww hF hS => ⟨_, (by omega), (hInv1 _ _ _).2 ⟨(q + 1), (by omega), (by rw [take_snoc' hx94, List.contains_eq_any_beq, List.any_append, ← List.contains_eq_any_beq, hno]; have e9 : x99 = x75 := Option.some.inj (hx99.symm.trans hx75); rw [e9] at hc4; simp; omega), rfl, hF.sub (Sub.of rfl), hS.sub (perm_self _)⟩⟩)
    ·
     try simp only [z1, z2, z3, z4, z5, z6, z7, z8, z9, z10, z11, z12, z13, z14, z15, z16] at hc3
     refine RunC.exit ?_
     refine RunQ.pass (fun h => by cases h) ?_
     refine RunQ.pass (fun h => by cases h) ?_
     refine RunQ.out ?_
     refine RunQ.inB ?_
     refine RunQ.next ?_
     refine RunC.region ?_
     refine Run.mv ?_
     refine Run.m (v := .int .i64 ((k : Int) + 1)) (y_bin rfl rfl rfl (bn_add (by omega) (by omega))) ?_
     refine Run.as ?_
     refine Run.nil ?_
     exact RunQ.thenI (fun aa ww hF hS => ⟨_, (by omega), (hInv0 _ _ _).2 ⟨(k + 1), (by omega), (by rw [← hg, lblsL_at hx75, show decide (1 ≤ x75 ∧ x75 ≤ 2147483647) = true from decide_eq_true (by omega), show (s.labels.take k).contains x75 = false from by rw [← show q = k from by omega]; exact hno]; rfl), rfl, hF.sub (Sub.of rfl), hS.sub (perm_self _)⟩⟩)
  ·
   try simp only [z1, z2, z3, z4, z5, z6, z7, z8, z9, z10, z11, z12, z13, z14, z15, z16] at hc1
   refine RunC.exit ?_
   refine RunQ.pass (fun h => by cases h) ?_
   refine RunQ.pass (fun h => by cases h) ?_
   refine RunQ.out ?_
   refine RunQ.next ?_
   refine RunC.sr ?_
   refine Run.as ?_
   refine Run.nx ?_
   refine RunC.ret ?_
   refine RunQ.weak Sub.refl (perm_nil _) ?_
   refine RunQ.fin1 (.inl rfl) Tryz.results33 (rv_tmp rfl) ?_
   exact ⟨rfl, _, rfl, (rd_eq (T := tBool) (x := true) rfl (by first | exact (sRight_no (by unfold sRightP; omega)).symm | (rw [sRight_yes (by unfold sRightP; omega), ← hg, lblsL_at hx75, show decide (1 ≤ x75 ∧ x75 ≤ 2147483647) = false from decide_eq_false (by omega)]; rfl) | (rw [sRight_yes (by unfold sRightP; omega), ← hg, lblsL_at hx75, show (s.labels.take k).contains x75 = true from by (have e9 : x99 = x75 := Option.some.inj (hx99.symm.trans hx75); rw [List.contains_iff_mem]; exact List.mem_take_iff_getElem.2 ⟨q, by have := (List.getElem?_eq_some_iff.1 hx94).1; omega, by rw [(List.getElem?_eq_some_iff.1 hx94).2]; omega⟩)]; simp) | (rw [sRight_yes (by unfold sRightP; omega), ← hg, List.drop_eq_nil_of_le (by omega)]; rfl)))⟩

theorem c_cartridgeref10_SealBytes (I : Imm) {css : List Value} (s : ASeal) (hs : tSeal.rd I css s) : Con Tryz.prog 36 [.agg css.toArray].toArray I [] (fun J o v => ∃ (yr0 : List UInt8) (Ar0 : Option Addr) (cr0 : Nat) (clr0 : List Value), yr0 = (if sRight s = true then sBytes s else []) ∧ o = [row (.slice Ar0 yr0.length cr0) 5 1 clr0] ∧ v = .slice Ar0 yr0.length cr0 ∧ tU8.all J clr0 yr0) := by
 obtain ⟨As_4, cs_4, rfl, fs_0, fs_1, fs_2, fs_3, fs_4⟩ := hs
 have hsms_4 := fs_4.small
 refine Con.enter (n := 47) (L := [(0, .agg [.int .i64 s.number, .int .i64 s.index, .int .i64 s.data, .int .i64 s.parity, .slice As_4 s.labels.length cs_4].toArray)]) Tryz.func36 rfl rfl (Nat.le_of_ble_eq_true rfl) rfl (fun E => ?_)
 refine RunC.sr ?_
 refine Run.box (cs := [.int .i64 s.number, .int .i64 s.index, .int .i64 s.data, .int .i64 s.parity, .slice As_4 s.labels.length cs_4]) rfl rfl rfl rfl rfl (by decide) (fun g1 => ?_)
 refine Run.as ?_
 refine Run.nx ?_
 refine RunC.seq ?_
 refine RunC.sr ?_
 refine Run.m (v := .agg [.int .i64 s.number, .int .i64 s.index, .int .i64 s.data, .int .i64 s.parity, .slice As_4 s.labels.length cs_4].toArray) (y_loadBA 0 rfl Tryz.isAgg38 Tryz.sizeOf38 rfl rfl rfl rfl) ?_
 refine Run.callV (en_func rfl Tryz.call33 rfl) (conv_bool (c_cartridgeref10_RightSeal _ s ⟨_, _, rfl, fs_0, fs_1, fs_2, fs_3, fs_4⟩)) rfl rfl (by decide) (fun hI1 => ?_)
 refine Run.m (v := .bool (!(sRight s))) (y_not (b := (sRight s)) rfl rfl) ?_
 refine Run.nx ?_
 refine RunC.cond rfl (fun hc0 => ?_) (fun hc0 => ?_)
 ·
  try simp only [z1, z2, z3, z4, z5, z6, z7, z8, z9, z10, z11, z12, z13, z14, z15, z16] at hc0
  refine RunC.sr ?_
  refine Run.as ?_
  refine Run.nx ?_
  refine RunC.ret ?_
  refine RunQ.pass (fun h => by cases h) ?_
  refine RunQ.nilrow none 5 1 ?_
  refine RunQ.weak Sub.refl (perm_take (i := 0) rfl (perm_nil _)) ?_
  refine RunQ.fin1 (.inl rfl) Tryz.results36 (rv_tmp rfl) ?_
  exact ⟨([] : List UInt8), none, 0, [], (by first | (rw [if_neg (by simp [hc0])]; done) | (rw [if_pos hc0, sBytes, hw_, List.take_of_length_le (by omega)])), rfl, rfl, all_nil⟩
 ·
  try simp only [z1, z2, z3, z4, z5, z6, z7, z8, z9, z10, z11, z12, z13, z14, z15, z16] at hc0
  have hP := sRight_P hc0; unfold sRightP at hP
  refine RunC.skip ?_
  refine RunQ.next ?_
  refine RunC.sr ?_
  refine Run.m (v := .agg [.slice none 0 0].toArray) (y_build (vs := []) rfl rfl (fun w => by simp [Instr.build, Tryz.zeroValue128, Tryz.runUnderlying128, Tryz.sizeOf42, Instr.fill, Value.cells])) ?_
  refine Run.box (cs := [.slice none 0 0]) rfl rfl rfl rfl rfl (by decide) (fun g9 => ?_)
  refine Run.as ?_
  refine Run.nx ?_
  refine RunC.sr ?_
  refine Run.mv ?_
  refine Run.m (v := .pointer (some ⟨g1, 0, none⟩)) (y_fieldAddr rfl rfl Tryz.runUnderlying38 rfl Tryz.sizeOf3 (by decide) rfl) ?_
  refine Run.m (v := .int .i64 s.number) (y_loadB1 1 rfl Tryz.isAgg3 rfl rfl rfl) ?_
  refine Run.nilrow none 5 1 ?_
  refine Run.call (own1 := [blk g9 [.slice none 0 0] 128, row (.slice none 0 0) 5 1 ([])]) (own2 := [blk g1 [.int .i64 s.number, .int .i64 s.index, .int .i64 s.data, .int .i64 s.parity, .slice As_4 s.labels.length cs_4] 38]) (en_func rfl Tryz.call67 rfl) (c_cartridgeref1_Writer_Int _ g9 none 0 ([]) ([] : List UInt8) all_nil s.number (by first | omega | (simp; done) | (rw [hw_, List.length_append, be4_len, List.length_map, List.length_take]; simp; omega) | (rw [hw_]; exact sLen hP.1 (by omega) hP.2.2.2) | (simp; omega))) (permC (i := 1) rfl rfl (permC (i := 0) rfl rfl (List.Perm.refl _))) rfl rfl (by decide) (fun J2 o2 v2 hleJ2 hq2 => ?_)
  obtain ⟨y2B, A2B, c2B, cl2B, e2B, rfl, rfl, h2B⟩ := hq2
  obtain rfl : (([] : List UInt8) ++ be4 (b32 s.number)) = y2B := e2B.symm
  refine Run.nx ?_
  refine RunC.sr ?_
  refine Run.mv ?_
  refine Run.m (v := .pointer (some ⟨g1, 1, none⟩)) (y_fieldAddr rfl rfl Tryz.runUnderlying38 rfl Tryz.sizeOf3 (by decide) rfl) ?_
  refine Run.m (v := .int .i64 s.index) (y_loadB1 2 rfl Tryz.isAgg3 rfl rfl rfl) ?_
  refine Run.m (v := .int .u8 ((b8 s.index).toNat : Int)) (y_conv rfl rfl (cv_int Tryz.underlying3 Tryz.underlying5 (wrapu8 _))) ?_
  refine Run.call (own1 := [blk g9 [.slice A2B ((([] : List UInt8) ++ be4 (b32 s.number)).length) c2B] 128, row (.slice A2B ((([] : List UInt8) ++ be4 (b32 s.number)).length) c2B) 5 1 cl2B]) (own2 := [blk g1 [.int .i64 s.number, .int .i64 s.index, .int .i64 s.data, .int .i64 s.parity, .slice As_4 s.labels.length cs_4] 38]) (en_func rfl Tryz.call66 rfl) (c_cartridgeref1_Writer_Byte _ g9 A2B c2B cl2B (([] : List UInt8) ++ be4 (b32 s.number)) h2B (b8 s.index) (by first | omega | (simp; done) | (rw [hw_, List.length_append, be4_len, List.length_map, List.length_take]; simp; omega) | (rw [hw_]; exact sLen hP.1 (by omega) hP.2.2.2) | (simp; omega))) (permC (i := 0) rfl rfl (permC (i := 0) rfl rfl (List.Perm.refl _))) rfl rfl (by decide) (fun J3 o3 v3 hleJ3 hq3 => ?_)
  obtain ⟨y3B, A3B, c3B, cl3B, e3B, rfl, rfl, h3B⟩ := hq3
  obtain rfl : ((([] : List UInt8) ++ be4 (b32 s.number)) ++ [(b8 s.index)]) = y3B := e3B.symm
  refine Run.nx ?_
  refine RunC.sr ?_
  refine Run.mv ?_
  refine Run.m (v := .pointer (some ⟨g1, 2, none⟩)) (y_fieldAddr rfl rfl Tryz.runUnderlying38 rfl Tryz.sizeOf3 (by decide) rfl) ?_
  refine Run.m (v := .int .i64 s.data) (y_loadB1 2 rfl Tryz.isAgg3 rfl rfl rfl) ?_
  refine Run.m (v := .int .u8 ((b8 s.data).toNat : Int)) (y_conv rfl rfl (cv_int Tryz.underlying3 Tryz.underlying5 (wrapu8 _))) ?_
  refine Run.call (own1 := [blk g9 [.slice A3B (((([] : List UInt8) ++ be4 (b32 s.number)) ++ [(b8 s.index)]).length) c3B] 128, row (.slice A3B (((([] : List UInt8) ++ be4 (b32 s.number)) ++ [(b8 s.index)]).length) c3B) 5 1 cl3B]) (own2 := [blk g1 [.int .i64 s.number, .int .i64 s.index, .int .i64 s.data, .int .i64 s.parity, .slice As_4 s.labels.length cs_4] 38]) (en_func rfl Tryz.call66 rfl) (c_cartridgeref1_Writer_Byte _ g9 A3B c3B cl3B ((([] : List UInt8) ++ be4 (b32 s.number)) ++ [(b8 s.index)]) h3B (b8 s.data) (by first | omega | (simp; done) | (rw [hw_, List.length_append, be4_len, List.length_map, List.length_take]; simp; omega) | (rw [hw_]; exact sLen hP.1 (by omega) hP.2.2.2) | (simp; omega))) (permC (i := 0) rfl rfl (permC (i := 0) rfl rfl (List.Perm.refl _))) rfl rfl (by decide) (fun J4 o4 v4 hleJ4 hq4 => ?_)
  obtain ⟨y4B, A4B, c4B, cl4B, e4B, rfl, rfl, h4B⟩ := hq4
  obtain rfl : (((([] : List UInt8) ++ be4 (b32 s.number)) ++ [(b8 s.index)]) ++ [(b8 s.data)]) = y4B := e4B.symm
  refine Run.nx ?_
  refine RunC.sr ?_
  refine Run.mv ?_
  refine Run.m (v := .pointer (some ⟨g1, 3, none⟩)) (y_fieldAddr rfl rfl Tryz.runUnderlying38 rfl Tryz.sizeOf3 (by decide) rfl) ?_
  refine Run.m (v := .int .i64 s.parity) (y_loadB1 2 rfl Tryz.isAgg3 rfl rfl rfl) ?_
  refine Run.m (v := .int .u8 ((b8 s.parity).toNat : Int)) (y_conv rfl rfl (cv_int Tryz.underlying3 Tryz.underlying5 (wrapu8 _))) ?_
  refine Run.call (own1 := [blk g9 [.slice A4B ((((([] : List UInt8) ++ be4 (b32 s.number)) ++ [(b8 s.index)]) ++ [(b8 s.data)]).length) c4B] 128, row (.slice A4B ((((([] : List UInt8) ++ be4 (b32 s.number)) ++ [(b8 s.index)]) ++ [(b8 s.data)]).length) c4B) 5 1 cl4B]) (own2 := [blk g1 [.int .i64 s.number, .int .i64 s.index, .int .i64 s.data, .int .i64 s.parity, .slice As_4 s.labels.length cs_4] 38]) (en_func rfl Tryz.call66 rfl) (c_cartridgeref1_Writer_Byte _ g9 A4B c4B cl4B (((([] : List UInt8) ++ be4 (b32 s.number)) ++ [(b8 s.index)]) ++ [(b8 s.data)]) h4B (b8 s.parity) (by first | omega | (simp; done) | (rw [hw_, List.length_append, be4_len, List.length_map, List.length_take]; simp; omega) | (rw [hw_]; exact sLen hP.1 (by omega) hP.2.2.2) | (simp; omega))) (permC (i := 0) rfl rfl (permC (i := 0) rfl rfl (List.Perm.refl _))) rfl rfl (by decide) (fun J5 o5 v5 hleJ5 hq5 => ?_)
  obtain ⟨y5B, A5B, c5B, cl5B, e5B, rfl, rfl, h5B⟩ := hq5
  obtain rfl : ((((([] : List UInt8) ++ be4 (b32 s.number)) ++ [(b8 s.index)]) ++ [(b8 s.data)]) ++ [(b8 s.parity)]) = y5B := e5B.symm
  refine Run.nx ?_
  refine RunC.seq ?_
  refine RunC.sr ?_
  refine Run.as ?_
  refine Run.nx ?_
  refine RunC.block ?_
  obtain ⟨Inv0, hInv0⟩ : ∃ Inv : Nat → Act → World → Prop, ∀ mm aa ww, Inv mm aa ww ↔ (∃ (k : Nat) (w : List UInt8) (Aw : Option Addr) (cw : Nat) (clw : List Value) (Jw : Imm), (J5.le Jw) ∧ (tU8.all Jw clw w) ∧ (k ≤ s.labels.length) ∧ (w = sHead s ++ (s.labels.take k).flatMap (fun x => be4 (b32 x))) ∧ (mm = (s.labels.length - k)) ∧ Frm aa 47 [(1, .pointer (some ⟨g1, 0, none⟩)), (2, .slice none 0 0), (3, .pointer (some ⟨g9, 0, none⟩)), (4, .int .i64 (k : Int))] ∧ S E ww Jw [blk g9 [.slice Aw w.length cw] 128, row (.slice Aw w.length cw) 5 1 clw, blk g1 [.int .i64 s.number, .int .i64 s.index, .int .i64 s.data, .int .i64 s.parity, .slice As_4 s.labels.length cs_4] 38]) := ⟨_, fun _ _ _ => Iff.rfl⟩
  refine RunC.loopX Inv0 (fun aa ww hF hS => ⟨_, (hInv0 _ _ _).2 ⟨0, ((((([] : List UInt8) ++ be4 (b32 s.number)) ++ [(b8 s.index)]) ++ [(b8 s.data)]) ++ [(b8 s.parity)]), A5B, c5B, cl5B, J5, (Imm.le.refl _), h5B, (by omega), (by simp [sHead]), rfl, hF.sub (Sub.of rfl), hS.sub (perm_self _)⟩⟩) ?_
  intro mm0 aa ww hv
  obtain ⟨k, w, Aw, cw, clw, Jw, hJw_le, hw, hk, hw_, hmm_, hF, hS⟩ := (hInv0 _ _ _).1 hv
  clear hv
  refine RunC.go ?_ hF hS
  clear hF hS aa ww
  refine RunC.seq ?_
  refine RunC.sr ?_
  refine Run.mv ?_
  refine Run.m (v := .pointer (some ⟨g1, 4, none⟩)) (y_fieldAddr rfl rfl Tryz.runUnderlying38 rfl Tryz.sizeOf36 (by decide) rfl) ?_
  refine Run.m (v := .slice As_4 s.labels.length cs_4) (y_loadB1 2 rfl Tryz.isAgg36 rfl rfl rfl) ?_
  refine Run.m (y_len rfl Tryz.runUnderlying36 rfl) ?_
  refine Run.m (v := .bool (decide ((k : Int) < (s.labels.length : Int)))) (y_bin rfl rfl rfl bn_lss) ?_
  refine Run.nx ?_
  refine RunC.cond rfl (fun hc1 => ?_) (fun hc1 => ?_)
  ·
   try simp only [z1, z2, z3, z4, z5, z6, z7, z8, z9, z10, z11, z12, z13, z14, z15, z16] at hc1
   refine RunC.skip ?_
   refine RunQ.next ?_
   refine RunC.seq ?_
   refine RunC.block ?_
   refine RunC.region ?_
   refine Run.mv ?_
   refine Run.m (v := .pointer (some ⟨g1, 4, none⟩)) (y_fieldAddr rfl rfl Tryz.runUnderlying38 rfl Tryz.sizeOf36 (by decide) rfl) ?_
   refine Run.m (v := .slice As_4 s.labels.length cs_4) (y_loadB1 2 rfl Tryz.isAgg36 rfl rfl rfl) ?_
   refine Run.mv ?_
   obtain ⟨x40, p40_6, cs40_6, hx40, hp40_6, hcs40_6, hrc40_6⟩ := Sl.at_ (P := Tryz.prog) (T := tInt) Tryz.runUnderlying36 Tryz.sizeOf3 (fs_4.mono ((((hleJ2.trans hleJ3).trans hleJ4).trans hleJ5).trans hJw_le)) (k := .i64) (i := (k : Int)) (by omega) (by omega)
   replace hx40 : s.labels[k]? = some x40 := hx40
   obtain ⟨rfl, f40_6_0⟩ := hcs40_6
   refine Run.m (v := .pointer (some p40_6)) (y_index rfl rfl rfl hp40_6) ?_
   refine Run.m (v := .int .i64 x40) (y_load1 rfl Tryz.isAgg3 rfl (RCells.hd hrc40_6)) ?_
   refine Run.call (own1 := [blk g9 [.slice Aw w.length cw] 128, row (.slice Aw w.length cw) 5 1 clw]) (own2 := [blk g1 [.int .i64 s.number, .int .i64 s.index, .int .i64 s.data, .int .i64 s.parity, .slice As_4 s.labels.length cs_4] 38]) (en_func rfl Tryz.call67 rfl) (c_cartridgeref1_Writer_Int _ g9 Aw cw clw w hw x40 (by first | omega | (simp; done) | (rw [hw_, List.length_append, be4_len, List.length_map, List.length_take]; simp; omega) | (rw [hw_]; exact sLen hP.1 (by omega) hP.2.2.2) | (simp; omega))) (permC (i := 0) rfl rfl (permC (i := 0) rfl rfl (List.Perm.refl _))) rfl rfl (by decide) (fun J7 o7 v7 hleJ7 hq7 => ?_)
   obtain ⟨y7B, A7B, c7B, cl7B, e7B, rfl, rfl, h7B⟩ := hq7
   obtain rfl : (w ++ be4 (b32 x40)) = y7B := e7B.symm
   refine Run.nil ?_
   refine RunQ.inB ?_
   refine RunQ.next ?_
   refine RunC.region ?_
   refine Run.mv ?_
   refine Run.m (v := .int .i64 ((k : Int) + 1)) (y_bin rfl rfl rfl (bn_add (by omega) (by omega))) ?_
   refine Run.as ?_
   refine Run.nil ?_
   exact RunQ.thenI (fun aa ww hF hS => ⟨_, (by omega), (hInv0 _ _ _).2 ⟨(k + 1), (w ++ be4 (b32 x40)), A7B, c7B, cl7B, J7, (hJw_le.trans hleJ7), h7B, (by omega), (by rw [take_snoc' hx40]; simp [hw_]), rfl, hF.sub (Sub.of rfl), hS.sub (perm_self _)⟩⟩)
  ·
   try simp only [z1, z2, z3, z4, z5, z6, z7, z8, z9, z10, z11, z12, z13, z14, z15, z16] at hc1
   refine RunC.exit ?_
   refine RunQ.pass (fun h => by cases h) ?_
   refine RunQ.pass (fun h => by cases h) ?_
   refine RunQ.out ?_
   refine RunQ.next ?_
   refine RunC.sr ?_
   refine Run.mv ?_
   refine Run.m (y_nilCheck rfl rfl) ?_
   refine Run.m (v := .pointer (some ⟨g9, 0, none⟩)) (y_fieldAddr rfl rfl Tryz.runUnderlying128 rfl Tryz.sizeOf42 (by decide) rfl) ?_
   refine Run.m (v := .slice Aw w.length cw) (y_loadB1 0 rfl Tryz.isAgg42 rfl rfl rfl) ?_
   refine Run.as ?_
   refine Run.nx ?_
   refine RunC.ret ?_
   refine RunQ.weak Sub.refl (perm_take (i := 1) rfl (perm_nil _)) ?_
   refine RunQ.fin1 (.inl rfl) Tryz.results36 (rv_tmp rfl) ?_
   exact ⟨w, Aw, cw, clw, (by first | (rw [if_neg (by simp [hc0])]; done) | (rw [if_pos hc0, sBytes, hw_, List.take_of_length_le (by omega)])), rfl, rfl, hw⟩
end Go.Proofs.YtmelbclhkkbmiaaGreat.K
