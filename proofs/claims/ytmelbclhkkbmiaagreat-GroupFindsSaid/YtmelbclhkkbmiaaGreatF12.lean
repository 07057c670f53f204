/- Contracts of functions of the program, each proved by a walk through its operations, for all memory and all arguments that the theorem names. Printed by a program of mine. -/
import Derived.Test.YtmelbclhkkbmiaaGreatF11
set_option linter.unusedVariables false
set_option linter.unusedSimpArgs false
set_option maxRecDepth 100000
namespace Go.Proofs.YtmelbclhkkbmiaaGreat.K
open Go Go.RowKit

theorem c_cartridgeref10_ReadSeal (I : Imm) {Ab : Option Addr} {cb : Nat} (b : List UInt8) (hb : Sl tU8 I Ab cb b) (hsz : b.length ≤ 1000000) : Con Tryz.prog 92 [.slice Ab b.length cb].toArray I [] (Ret2 (tSeal.g) (tInt.o) ((sRead b).1) ((sRead b).2)) := by
  have hsmb := hb.small
  refine Con.enter (n := 51) (L := [(0, .slice Ab b.length cb)]) Tryz.func92 rfl rfl (Nat.le_of_ble_eq_true rfl) rfl (fun E => ?_)
  refine RunC.sr ?_
  refine Run.alloc (cs := [.int .i64 0, .int .i64 0, .int .i64 0, .int .i64 0, .slice none 0 0]) rfl Tryz.zeroValue38 rfl rfl rfl (by decide) (fun g2_1 => ?_)
  refine Run.as ?_
  refine Run.nx ?_
  refine RunC.sr ?_
  refine Run.mv ?_
  refine Run.call (own1 := []) (own2 := [blk g2_1 [.int .i64 0, .int .i64 0, .int .i64 0, .int .i64 0, .slice none 0 0] 38]) (en_func rfl Tryz.call60 rfl) (c_cartridgeref1_NewReader _ b hb (by omega)) (List.Perm.refl _) rfl rfl (by decide) (fun J2 o2 v2 hleJ2 hq2 => ?_)
  obtain ⟨gr2_0, yr2_0_b, Ar2_0_b, cr2_0_b, er2_0_b, rfl, rfl, hr2_0_b⟩ := hq2
  obtain rfl : b = yr2_0_b := er2_0_b.symm
  refine Run.as ?_
  refine Run.nx ?_
  refine RunC.sr ?_
  refine Run.mv ?_
  refine Run.call (own1 := [blk gr2_0 [.slice Ar2_0_b b.length cr2_0_b, .bool false] 163]) (own2 := [blk g2_1 [.int .i64 0, .int .i64 0, .int .i64 0, .int .i64 0, .slice none 0 0] 38]) (en_func rfl Tryz.call62 rfl) (c_cartridgeref1_Reader_Int _ gr2_0 Ar2_0_b cr2_0_b b hr2_0_b false (show (b, false).1.length ≤ 1000000 from hsz)) (permC (i := 0) rfl rfl (List.Perm.refl _)) rfl rfl (by decide) (fun J3 o3 v3 hleJ3 hq3 => ?_)
  obtain ⟨y3b, A3b, c3b, y3bad, csr3_0, e3b, e3bad, rfl, rfl, h3b, hr3_0⟩ := hq3
  obtain rfl : (rrB 4 (b, false)).1 = y3b := e3b.symm
  obtain rfl : (rrB 4 (b, false)).2 = y3bad := e3bad.symm
  replace hr3_0 : tInt.rd J3 csr3_0 ((rdN (rrV 4 (b, false)) : Nat) : Int) := hr3_0
  obtain ⟨rfl, f3_0_0⟩ := hr3_0
  refine Run.mv ?_
  refine Run.call (own1 := [blk gr2_0 [.slice A3b (((rrB 4 (b, false)).1).length) c3b, .bool ((rrB 4 (b, false)).2)] 163]) (own2 := [blk g2_1 [.int .i64 0, .int .i64 0, .int .i64 0, .int .i64 0, .slice none 0 0] 38]) (en_func rfl Tryz.call61 rfl) (c_cartridgeref1_Reader_Byte _ gr2_0 A3b c3b ((rrB 4 (b, false)).1) h3b ((rrB 4 (b, false)).2) (Nat.le_trans (rrB_len _ _) (show (b, false).1.length ≤ 1000000 from hsz))) (permC (i := 0) rfl rfl (List.Perm.refl _)) rfl rfl (by decide) (fun J4 o4 v4 hleJ4 hq4 => ?_)
  obtain ⟨y4b, A4b, c4b, y4bad, csr4_0, e4b, e4bad, rfl, rfl, h4b, hr4_0⟩ := hq4
  obtain rfl : (rrB 1 (rrB 4 (b, false))).1 = y4b := e4b.symm
  obtain rfl : (rrB 1 (rrB 4 (b, false))).2 = y4bad := e4bad.symm
  replace hr4_0 : tU8.rd J4 csr4_0 (u8at (rrV 1 (rrB 4 (b, false)))) := hr4_0
  obtain rfl := hr4_0
  refine Run.m (v := .int .i64 ((u8at (rrV 1 (rrB 4 (b, false)))).toNat : Int)) (y_conv rfl rfl (cv_int Tryz.underlying5 Tryz.underlying3 (wrap64_u8 _))) ?_
  refine Run.mv ?_
  refine Run.call (own1 := [blk gr2_0 [.slice A4b (((rrB 1 (rrB 4 (b, false))).1).length) c4b, .bool ((rrB 1 (rrB 4 (b, false))).2)] 163]) (own2 := [blk g2_1 [.int .i64 0, .int .i64 0, .int .i64 0, .int .i64 0, .slice none 0 0] 38]) (en_func rfl Tryz.call61 rfl) (c_cartridgeref1_Reader_Byte _ gr2_0 A4b c4b ((rrB 1 (rrB 4 (b, false))).1) h4b ((rrB 1 (rrB 4 (b, false))).2) (Nat.le_trans (rrB_len _ _) (Nat.le_trans (rrB_len _ _) (show (b, false).1.length ≤ 1000000 from hsz)))) (permC (i := 0) rfl rfl (List.Perm.refl _)) rfl rfl (by decide) (fun J5 o5 v5 hleJ5 hq5 => ?_)
  obtain ⟨y5b, A5b, c5b, y5bad, csr5_0, e5b, e5bad, rfl, rfl, h5b, hr5_0⟩ := hq5
  obtain rfl : (rrB 1 (rrB 1 (rrB 4 (b, false)))).1 = y5b := e5b.symm
  obtain rfl : (rrB 1 (rrB 1 (rrB 4 (b, false)))).2 = y5bad := e5bad.symm
  replace hr5_0 : tU8.rd J5 csr5_0 (u8at (rrV 1 (rrB 1 (rrB 4 (b, false))))) := hr5_0
  obtain rfl := hr5_0
  refine Run.m (v := .int .i64 ((u8at (rrV 1 (rrB 1 (rrB 4 (b, false))))).toNat : Int)) (y_conv rfl rfl (cv_int Tryz.underlying5 Tryz.underlying3 (wrap64_u8 _))) ?_
  refine Run.mv ?_
  refine Run.call (own1 := [blk gr2_0 [.slice A5b (((rrB 1 (rrB 1 (rrB 4 (b, false)))).1).length) c5b, .bool ((rrB 1 (rrB 1 (rrB 4 (b, false)))).2)] 163]) (own2 := [blk g2_1 [.int .i64 0, .int .i64 0, .int .i64 0, .int .i64 0, .slice none 0 0] 38]) (en_func rfl Tryz.call61 rfl) (c_cartridgeref1_Reader_Byte _ gr2_0 A5b c5b ((rrB 1 (rrB 1 (rrB 4 (b, false)))).1) h5b ((rrB 1 (rrB 1 (rrB 4 (b, false)))).2) (Nat.le_trans (rrB_len _ _) (Nat.le_trans (rrB_len _ _) (Nat.le_trans (rrB_len _ _) (show (b, false).1.length ≤ 1000000 from hsz))))) (permC (i := 0) rfl rfl (List.Perm.refl _)) rfl rfl (by decide) (fun J6 o6 v6 hleJ6 hq6 => ?_)
  obtain ⟨y6b, A6b, c6b, y6bad, csr6_0, e6b, e6bad, rfl, rfl, h6b, hr6_0⟩ := hq6
  obtain rfl : (rrB 1 (rrB 1 (rrB 1 (rrB 4 (b, false))))).1 = y6b := e6b.symm
  obtain rfl : (rrB 1 (rrB 1 (rrB 1 (rrB 4 (b, false))))).2 = y6bad := e6bad.symm
  replace hr6_0 : tU8.rd J6 csr6_0 (u8at (rrV 1 (rrB 1 (rrB 1 (rrB 4 (b, false)))))) := hr6_0
  obtain rfl := hr6_0
  refine Run.m (v := .int .i64 ((u8at (rrV 1 (rrB 1 (rrB 1 (rrB 4 (b, false)))))).toNat : Int)) (y_conv rfl rfl (cv_int Tryz.underlying5 Tryz.underlying3 (wrap64_u8 _))) ?_
  refine Run.m (v := .agg [.int .i64 ((rdN (rrV 4 (b, false)) : Nat) : Int), .int .i64 ((u8at (rrV 1 (rrB 4 (b, false)))).toNat : Int), .int .i64 ((u8at (rrV 1 (rrB 1 (rrB 4 (b, false))))).toNat : Int), .int .i64 ((u8at (rrV 1 (rrB 1 (rrB 1 (rrB 4 (b, false)))))).toNat : Int), .slice none 0 0].toArray) (y_build (vs := [(0, .int .i64 ((rdN (rrV 4 (b, false)) : Nat) : Int)), (1, .int .i64 ((u8at (rrV 1 (rrB 4 (b, false)))).toNat : Int)), (2, .int .i64 ((u8at (rrV 1 (rrB 1 (rrB 4 (b, false))))).toNat : Int)), (3, .int .i64 ((u8at (rrV 1 (rrB 1 (rrB 1 (rrB 4 (b, false)))))).toNat : Int))]) rfl rfl (fun w => by simp [Instr.build, Tryz.zeroValue38, Tryz.runUnderlying38, Tryz.sizeOf3, Tryz.sizeOf36, Instr.fill, Value.cells])) ?_
  refine Run.alloc (cs := [.int .i64 0, .int .i64 0, .int .i64 0, .int .i64 0, .slice none 0 0]) rfl Tryz.zeroValue38 rfl rfl rfl (by decide) (fun g5_7 => ?_)
  refine Run.storeB (vs := [.int .i64 ((rdN (rrV 4 (b, false)) : Nat) : Int), .int .i64 ((u8at (rrV 1 (rrB 4 (b, false)))).toNat : Int), .int .i64 ((u8at (rrV 1 (rrB 1 (rrB 4 (b, false))))).toNat : Int), .int .i64 ((u8at (rrV 1 (rrB 1 (rrB 1 (rrB 4 (b, false)))))).toNat : Int), .slice none 0 0]) (cs' := [.int .i64 ((rdN (rrV 4 (b, false)) : Nat) : Int), .int .i64 ((u8at (rrV 1 (rrB 4 (b, false)))).toNat : Int), .int .i64 ((u8at (rrV 1 (rrB 1 (rrB 4 (b, false))))).toNat : Int), .int .i64 ((u8at (rrV 1 (rrB 1 (rrB 1 (rrB 4 (b, false)))))).toNat : Int), .slice none 0 0]) (own' := [blk gr2_0 [.slice A6b (((rrB 1 (rrB 1 (rrB 1 (rrB 4 (b, false))))).1).length) c6b, .bool ((rrB 1 (rrB 1 (rrB 1 (rrB 4 (b, false))))).2)] 163, blk g2_1 [.int .i64 0, .int .i64 0, .int .i64 0, .int .i64 0, .slice none 0 0] 38]) 0 rfl rfl rfl Tryz.sizeOf38 rfl rfl rfl rfl rfl (Nat.le_of_ble_eq_true rfl) rfl rfl rfl ?_
  refine Run.nx ?_
  refine RunC.seq ?_
  refine RunC.block ?_
  refine RunC.nilrow none 3 1 ?_
  obtain ⟨Inv0, hInv0⟩ : ∃ Inv : Nat → Act → World → Prop, ∀ mm aa ww, Inv mm aa ww ↔ (∃ (rb : List UInt8 × Bool) (Ar : Option Addr) (cr : Nat) (l : List Int) (Al : Option Addr) (cl : Nat) (cll : List Value) (m : Nat) (J : Imm), (J6.le J) ∧ (Sl tU8 J Ar cr rb.1) ∧ (tInt.all J cll l) ∧ (rb.1.length ≤ 1000000) ∧ (l.length + m = 14) ∧ (rLbl m rb l = rLbl 14 (rsS b) []) ∧ (mm = (m)) ∧ Frm aa 51 [(0, .slice Ab b.length cb), (2, .pointer (some ⟨g2_1, 0, none⟩)), (3, .int .i64 0), (4, .pointer (some ⟨gr2_0, 0, none⟩)), (5, .pointer (some ⟨g5_7, 0, none⟩))] ∧ S E ww J [blk gr2_0 [.slice Ar rb.1.length cr, .bool rb.2] 163, blk g5_7 [.int .i64 ((rdN (rrV 4 (b, false)) : Nat) : Int), .int .i64 ((u8at (rrV 1 (rrB 4 (b, false)))).toNat : Int), .int .i64 ((u8at (rrV 1 (rrB 1 (rrB 4 (b, false))))).toNat : Int), .int .i64 ((u8at (rrV 1 (rrB 1 (rrB 1 (rrB 4 (b, false)))))).toNat : Int), .slice Al l.length cl] 38, row (.slice Al l.length cl) 3 1 cll, blk g2_1 [.int .i64 0, .int .i64 0, .int .i64 0, .int .i64 0, .slice none 0 0] 38]) := ⟨_, fun _ _ _ => Iff.rfl⟩
  refine RunC.loopX Inv0 (fun aa ww hF hS => ⟨_, (hInv0 _ _ _).2 ⟨(rrB 1 (rrB 1 (rrB 1 (rrB 4 (b, false))))), A6b, c6b, ([] : List Int), none, 0, [], 14, J6, (Imm.le.refl _), h6b, all_nil, (show (rsS b).1.length ≤ 1000000 from (Nat.le_trans (rrB_len _ _) (Nat.le_trans (rrB_len _ _) (Nat.le_trans (rrB_len _ _) (Nat.le_trans (rrB_len _ _) hsz))))), rfl, rfl, rfl, hF.sub (Sub.of rfl), hS.sub (perm_take (i := 2) rfl (perm_take (i := 1) rfl (perm_take (i := 0) rfl (perm_take (i := 0) rfl (perm_nil _)))))⟩⟩) ?_
  intro mm0 aa ww hv
  obtain ⟨rb, Ar, cr, l, Al, cl, cll, m, J, hJ_le, hrb, hl, hrl, hm, hg, hmm_, hF, hS⟩ := (hInv0 _ _ _).1 hv
  clear hv
  refine RunC.go ?_ hF hS
  clear hF hS aa ww
  have heta : rrLeft (rb.1, rb.2) = rrLeft rb := rfl
  refine RunC.seq ?_
  refine RunC.sr ?_
  refine Run.mv ?_
  refine Run.callVB (en_func rfl Tryz.call64 rfl) (Bor.blk (own' := [blk g5_7 [.int .i64 ((rdN (rrV 4 (b, false)) : Nat) : Int), .int .i64 ((u8at (rrV 1 (rrB 4 (b, false)))).toNat : Int), .int .i64 ((u8at (rrV 1 (rrB 1 (rrB 4 (b, false))))).toNat : Int), .int .i64 ((u8at (rrV 1 (rrB 1 (rrB 1 (rrB 4 (b, false)))))).toNat : Int), .slice Al l.length cl] 38, row (.slice Al l.length cl) 3 1 cll, blk g2_1 [.int .i64 0, .int .i64 0, .int .i64 0, .int .i64 0, .slice none 0 0] 38]) 0 rfl rfl (fun Jc8_0 hleJc8_0 hc8_0 => Bor.base (conv_int (c_cartridgeref1_Reader_Left _ gr2_0 (⟨rb.1, rb.2⟩ : ARd) ⟨_, _, rfl, (hrb.mono hleJc8_0)⟩ hc8_0)))) rfl rfl (by decide) (fun hI8 => ?_)
  refine Run.m (v := .bool (decide ((rrLeft ((⟨rb.1, rb.2⟩ : ARd).b, (⟨rb.1, rb.2⟩ : ARd).bad)) ≥ 4))) (y_bin rfl rfl rfl bn_geq) ?_
  refine Run.mv ?_
  refine Run.split 5 rfl (b := decide ((rrLeft ((⟨rb.1, rb.2⟩ : ARd).b, (⟨rb.1, rb.2⟩ : ARd).bad)) ≥ 4)) (d := 29) (v := .bool ((decide ((rrLeft ((⟨rb.1, rb.2⟩ : ARd).b, (⟨rb.1, rb.2⟩ : ARd).bad)) ≥ 4)) && (decide ((l.length : Int) < 14)))) (fun hb24 K24 => ?_) (fun hb24 K24 => ?_) ?_
  ·
    have hc1024 := hb24; try simp only [z1, z2, z3, z4, z5, z6, z7, z8, z9, z10, z11, z12, z13, z14, z15, z16] at hc1024
    refine Run.yes (v := .pointer (some ⟨g5_7, 4, none⟩)) (y_fieldAddr rfl rfl Tryz.runUnderlying38 rfl Tryz.sizeOf36 (by decide) rfl) rfl rfl rfl rfl (hb24) rfl (by decide) ?_
    refine Run.yes (v := .slice Al l.length cl) (y_loadB1 1 rfl Tryz.isAgg36 rfl rfl rfl) rfl rfl rfl rfl (hb24) rfl (by decide) ?_
    refine Run.yes (v := .int .i64 (l.length : Int)) (y_len rfl Tryz.runUnderlying36 rfl) rfl rfl rfl rfl (hb24) rfl (by decide) ?_
    refine Run.yes (v := .bool (decide ((l.length : Int) < 14))) (y_bin rfl rfl rfl bn_lss) rfl rfl rfl rfl (hb24) rfl (by decide) ?_
    refine Run.y (y_pickB rfl rfl (hb24) rfl) rfl rfl (by decide) ?_
    exact K24 _ _ _ (Imm.le.refl _) (by rw [hb24]; simp) (Sub.tl 4 rfl rfl)
  ·
    have hc1024 := hb24; try simp only [z1, z2, z3, z4, z5, z6, z7, z8, z9, z10, z11, z12, z13, z14, z15, z16] at hc1024
    refine Run.no rfl rfl rfl rfl (hb24) rfl (by decide) ?_
    refine Run.no rfl rfl rfl rfl (hb24) rfl (by decide) ?_
    refine Run.no rfl rfl rfl rfl (hb24) rfl (by decide) ?_
    refine Run.no rfl rfl rfl rfl (hb24) rfl (by decide) ?_
    refine Run.y (y_pickB rfl rfl (hb24) rfl) rfl rfl (by decide) ?_
    exact K24 _ _ _ (Imm.le.refl _) (by rw [hb24]; simp) (Sub.tl 4 rfl rfl)
  refine Run.nx ?_
  refine RunC.cond rfl (fun hc0 => ?_) (fun hc0 => ?_)
  ·
    try simp only [z1, z2, z3, z4, z5, z6, z7, z8, z9, z10, z11, z12, z13, z14, z15, z16] at hc0
    obtain ⟨m, rfl⟩ : ∃ j, m = j + 1 := ⟨m - 1, by omega⟩
    refine RunC.skip ?_
    refine RunQ.next ?_
    refine RunC.block ?_
    refine RunC.regionT [7] [blk g5_7 [.int .i64 ((rdN (rrV 4 (b, false)) : Nat) : Int), .int .i64 ((u8at (rrV 1 (rrB 4 (b, false)))).toNat : Int), .int .i64 ((u8at (rrV 1 (rrB 1 (rrB 4 (b, false))))).toNat : Int), .int .i64 ((u8at (rrV 1 (rrB 1 (rrB 1 (rrB 4 (b, false)))))).toNat : Int), .slice Al l.length cl] 38] (by kernel_rfl) rfl ?_
    refine RunT.p (v := .pointer (some ⟨g5_7, 4, none⟩)) (listed' := #[true, false, false, false, false, false, false, false]) 0 rfl (by kernel_rfl) (by kernel_rfl) (by kernel_rfl) rfl (fun _ => ⟨(Imm.le.refl _), (perm_take (i := 1) rfl (perm_nil _))⟩) (y_fieldAddr rfl rfl Tryz.runUnderlying38 rfl Tryz.sizeOf36 (by decide) rfl) (.plain rfl) rfl (by decide) rfl ?_
    refine RunT.y (v := .slice Al l.length cl) (listed' := #[true, true, false, false, false, false, false, false]) 1 rfl (by kernel_rfl) (by kernel_rfl) (by kernel_rfl) (by kernel_rfl) rfl (Imm.le.refl _) (perm_take (i := 1) rfl (perm_nil _)) (y_loadB1 0 rfl Tryz.isAgg36 rfl rfl rfl) (.plain rfl) rfl (by decide) rfl ?_
    refine RunT.p (v := .pointer (some ⟨gr2_0, 0, none⟩)) (listed' := #[true, true, true, false, false, false, false, false]) 2 rfl (by kernel_rfl) (by kernel_rfl) (by kernel_rfl) rfl (fun _ => ⟨(Imm.le.refl _), (perm_take (i := 1) rfl (perm_nil _))⟩) (y_move rfl rfl) (.plain rfl) rfl (by decide) rfl ?_
    refine RunT.step (listed' := #[true, true, true, true, false, false, false, false]) 3 rfl (by kernel_rfl) rfl ?_
    refine Run.call (own1 := [blk gr2_0 [.slice Ar rb.1.length cr, .bool rb.2] 163]) (own2 := [blk g5_7 [.int .i64 ((rdN (rrV 4 (b, false)) : Nat) : Int), .int .i64 ((u8at (rrV 1 (rrB 4 (b, false)))).toNat : Int), .int .i64 ((u8at (rrV 1 (rrB 1 (rrB 4 (b, false))))).toNat : Int), .int .i64 ((u8at (rrV 1 (rrB 1 (rrB 1 (rrB 4 (b, false)))))).toNat : Int), .slice Al l.length cl] 38, row (.slice Al l.length cl) 3 1 cll, blk g2_1 [.int .i64 0, .int .i64 0, .int .i64 0, .int .i64 0, .slice none 0 0] 38]) (en_func rfl Tryz.call62 rfl) (c_cartridgeref1_Reader_Int _ gr2_0 Ar cr rb.1 hrb rb.2 hrl) (permC (i := 0) rfl rfl (List.Perm.refl _)) rfl rfl (by decide) (fun J9 o9 v9 hleJ9 hq9 => ?_)
    obtain ⟨y9b, A9b, c9b, y9bad, csr9_0, e9b, e9bad, rfl, rfl, h9b, hr9_0⟩ := hq9
    obtain rfl : (rrB 4 rb).1 = y9b := e9b.symm
    obtain rfl : (rrB 4 rb).2 = y9bad := e9bad.symm
    replace hr9_0 : tInt.rd J9 csr9_0 ((rdN (rrV 4 rb) : Nat) : Int) := hr9_0
    obtain ⟨rfl, f9_0_0⟩ := hr9_0
    refine Run.nil ?_
    refine RunQ.stepEnd (fun _ => ⟨hleJ9, (perm_take (i := 1) rfl (perm_nil _))⟩) ?_
    refine RunT.step (listed' := #[true, true, true, true, true, false, false, false]) 4 rfl (by kernel_rfl) rfl ?_
    refine Run.lit (vs := [(0, .int .i64 ((rdN (rrV 4 rb) : Nat) : Int))]) (cs := [.int .i64 ((rdN (rrV 4 rb) : Nat) : Int)]) (el := 3) (sz := 1) rfl rfl (fun w => by simp [Instr.buildSlice, Tryz.runUnderlying36, Tryz.sizeOf3, Tryz.zeroValue3, Instr.fill, Value.cells, newRow, (show Array.range 1 = #[0] from rfl)]) rfl (by simp [maxLen]) rfl rfl (by decide) (fun g34 => ?_)
    refine Run.nil ?_
    refine RunQ.stepEnd (fun _ => ⟨hleJ9, (perm_take (i := 2) rfl (perm_nil _))⟩) ?_
    refine RunT.step (listed' := #[true, true, true, true, true, true, false, false]) 5 rfl (by kernel_rfl) rfl ?_
    have hlit10 : tInt.all J9 [.int .i64 ((rdN (rrV 4 rb) : Nat) : Int)] [((rdN (rrV 4 rb) : Nat) : Int)] := (all_snoc (T := tInt) all_nil ⟨rfl, f9_0_0⟩)
    have hall11 : tInt.all J9 (cll ++ ([.int .i64 ((rdN (rrV 4 rb) : Nat) : Int)])) (l ++ ([((rdN (rrV 4 rb) : Nat) : Int)])) := all_append (hl.mono hleJ9) hlit10
    refine Run.append (by_ := 8) (ys := [.int .i64 ((rdN (rrV 4 rb) : Nat) : Int)]) (k := 1) (own' := [row (.slice (some ⟨g34, 0, none⟩) 1 1) 3 1 ([.int .i64 ((rdN (rrV 4 rb) : Nat) : Int)]), blk gr2_0 [.slice A9b (((rrB 4 rb).1).length) c9b, .bool ((rrB 4 rb).2)] 163, blk g5_7 [.int .i64 ((rdN (rrV 4 (b, false)) : Nat) : Int), .int .i64 ((u8at (rrV 1 (rrB 4 (b, false)))).toNat : Int), .int .i64 ((u8at (rrV 1 (rrB 1 (rrB 4 (b, false))))).toNat : Int), .int .i64 ((u8at (rrV 1 (rrB 1 (rrB 1 (rrB 4 (b, false)))))).toNat : Int), .slice Al l.length cl] 38, blk g2_1 [.int .i64 0, .int .i64 0, .int .i64 0, .int .i64 0, .slice none 0 0] 38]) 3 rfl rfl rfl Tryz.runUnderlying36 (.inl Tryz.runUnderlying36) Tryz.sizeOf3 Tryz.typeInfo3 rfl Tryz.zeroValue3 rfl rfl rfl (fun w hS => src_own hS (i := 0) rfl) (row_len hlit10 (by first | rfl | (simp; done) | (simp; omega)) rfl) (all_one hlit10) ((l ++ ([((rdN (rrV 4 rb) : Nat) : Int)])).length) (by first | (simp; done) | (simp; omega)) (by simp; omega) (by simp [maxLen]; omega) rfl rfl (by decide) (fun A35_11 c35_11 => ?_)
    refine Run.weak Sub.refl (perm_take (i := 0) rfl (perm_take (i := 1) rfl (perm_take (i := 1) rfl (perm_take (i := 1) rfl (perm_nil _))))) ?_
    refine Run.nil ?_
    refine RunQ.stepEnd (fun _ => ⟨hleJ9, (perm_take (i := 2) rfl (perm_nil _))⟩) ?_
    refine RunT.p (v := .pointer (some ⟨g5_7, 4, none⟩)) (listed' := #[true, true, true, true, true, true, true, false]) 6 rfl (by kernel_rfl) (by kernel_rfl) (by kernel_rfl) rfl (fun _ => ⟨hleJ9, (perm_take (i := 2) rfl (perm_nil _))⟩) (y_fieldAddr rfl rfl Tryz.runUnderlying38 rfl Tryz.sizeOf36 (by decide) rfl) (.plain rfl) rfl (by decide) rfl ?_
    refine RunT.step (listed' := #[true, true, true, true, true, true, true, true]) 7 rfl (by kernel_rfl) rfl ?_
    refine Run.storeB (vs := [.slice A35_11 ((l ++ ([((rdN (rrV 4 rb) : Nat) : Int)])).length) c35_11]) (cs' := [.int .i64 ((rdN (rrV 4 (b, false)) : Nat) : Int), .int .i64 ((u8at (rrV 1 (rrB 4 (b, false)))).toNat : Int), .int .i64 ((u8at (rrV 1 (rrB 1 (rrB 4 (b, false))))).toNat : Int), .int .i64 ((u8at (rrV 1 (rrB 1 (rrB 1 (rrB 4 (b, false)))))).toNat : Int), .slice A35_11 ((l ++ ([((rdN (rrV 4 rb) : Nat) : Int)])).length) c35_11]) (own' := [row (.slice A35_11 ((l ++ ([((rdN (rrV 4 rb) : Nat) : Int)])).length) c35_11) 3 1 (cll ++ ([.int .i64 ((rdN (rrV 4 rb) : Nat) : Int)])), blk gr2_0 [.slice A9b (((rrB 4 rb).1).length) c9b, .bool ((rrB 4 rb).2)] 163, blk g2_1 [.int .i64 0, .int .i64 0, .int .i64 0, .int .i64 0, .slice none 0 0] 38]) 2 rfl rfl rfl Tryz.sizeOf36 rfl rfl rfl rfl rfl (Nat.le_of_ble_eq_true rfl) rfl rfl rfl ?_
    refine Run.nil ?_
    refine RunQ.stepEnd (fun h => absurd (show false = true from h) Bool.false_ne_true) ?_
    refine RunT.done (by kernel_rfl) ?_
    refine RunQ.inB ?_
    exact RunQ.thenI (fun aa ww hF hS => ⟨_, (by omega), (hInv0 _ _ _).2 ⟨(rrB 4 rb), A9b, c9b, (l ++ ([((rdN (rrV 4 rb) : Nat) : Int)])), A35_11, c35_11, cll ++ ([.int .i64 ((rdN (rrV 4 rb) : Nat) : Int)]), m, J9, (hJ_le.trans hleJ9), h9b, hall11, (Nat.le_trans (rrB_len _ _) hrl), (by simp; omega), (by rw [← hg, rLbl, if_pos (by omega)]), rfl, hF.sub (Sub.of rfl), hS.sub (perm_take (i := 2) rfl (perm_take (i := 0) rfl (perm_take (i := 0) rfl (perm_take (i := 0) rfl (perm_nil _)))))⟩⟩)
  ·
    try simp only [z1, z2, z3, z4, z5, z6, z7, z8, z9, z10, z11, z12, z13, z14, z15, z16] at hc0
    have hls : rLbl 14 (rsS b) [] = l := by rw [← hg]; rcases hc0 with h | h; (cases m with | zero => rfl | succ m => rw [rLbl, if_neg (by omega)]); (rw [show m = 0 from by omega, rLbl])
    have hse : rsSeal b = ⟨(rsSeal b).number, (rsSeal b).index, (rsSeal b).data, (rsSeal b).parity, l⟩ := by rw [← hls]; rfl
    refine RunC.exit ?_
    refine RunQ.pass (fun h => by cases h) ?_
    refine RunQ.pass (fun h => by cases h) ?_
    refine RunQ.out ?_
    refine RunQ.next ?_
    refine RunC.sr ?_
    refine Run.m (v := .agg [.int .i64 ((rdN (rrV 4 (b, false)) : Nat) : Int), .int .i64 ((u8at (rrV 1 (rrB 4 (b, false)))).toNat : Int), .int .i64 ((u8at (rrV 1 (rrB 1 (rrB 4 (b, false))))).toNat : Int), .int .i64 ((u8at (rrV 1 (rrB 1 (rrB 1 (rrB 4 (b, false)))))).toNat : Int), .slice Al l.length cl].toArray) (y_loadBA 1 rfl Tryz.isAgg38 Tryz.sizeOf38 rfl rfl rfl rfl) ?_
    refine Run.freezeR 2 rfl (own' := [blk gr2_0 [.slice Ar rb.1.length cr, .bool rb.2] 163, blk g5_7 [.int .i64 ((rdN (rrV 4 (b, false)) : Nat) : Int), .int .i64 ((u8at (rrV 1 (rrB 4 (b, false)))).toNat : Int), .int .i64 ((u8at (rrV 1 (rrB 1 (rrB 4 (b, false))))).toNat : Int), .int .i64 ((u8at (rrV 1 (rrB 1 (rrB 1 (rrB 4 (b, false)))))).toNat : Int), .slice Al l.length cl] 38, blk g2_1 [.int .i64 0, .int .i64 0, .int .i64 0, .int .i64 0, .slice none 0 0] 38]) rfl (fun J13 hleJ13 hfzJ13 => ?_)
    have hslJ13 : Sl tInt J13 Al cl l := Sl.of_rowN hfzJ13 rfl rfl (hl.mono hleJ13)
    refine Run.call (own1 := []) (own2 := [blk gr2_0 [.slice Ar rb.1.length cr, .bool rb.2] 163, blk g5_7 [.int .i64 ((rdN (rrV 4 (b, false)) : Nat) : Int), .int .i64 ((u8at (rrV 1 (rrB 4 (b, false)))).toNat : Int), .int .i64 ((u8at (rrV 1 (rrB 1 (rrB 4 (b, false))))).toNat : Int), .int .i64 ((u8at (rrV 1 (rrB 1 (rrB 1 (rrB 4 (b, false)))))).toNat : Int), .slice Al l.length cl] 38, blk g2_1 [.int .i64 0, .int .i64 0, .int .i64 0, .int .i64 0, .slice none 0 0] 38]) (en_func rfl Tryz.call36 rfl) (c_cartridgeref10_SealBytes _ (⟨((rdN (rrV 4 (b, false)) : Nat) : Int), ((u8at (rrV 1 (rrB 4 (b, false)))).toNat : Int), ((u8at (rrV 1 (rrB 1 (rrB 4 (b, false))))).toNat : Int), ((u8at (rrV 1 (rrB 1 (rrB 1 (rrB 4 (b, false)))))).toNat : Int), l⟩ : ASeal) ⟨_, _, rfl, f3_0_0, (i64_u8 _), (i64_u8 _), (i64_u8 _), hslJ13⟩) (List.Perm.refl _) rfl rfl (by decide) (fun J12 o12 v12 hleJ12 hq12 => ?_)
    obtain ⟨yr12_0, Ar12_0, cr12_0, clr12_0, er12_0, rfl, rfl, hr12_0⟩ := hq12
    obtain rfl : (if sRight (⟨((rdN (rrV 4 (b, false)) : Nat) : Int), ((u8at (rrV 1 (rrB 4 (b, false)))).toNat : Int), ((u8at (rrV 1 (rrB 1 (rrB 4 (b, false))))).toNat : Int), ((u8at (rrV 1 (rrB 1 (rrB 1 (rrB 4 (b, false)))))).toNat : Int), l⟩ : ASeal) = true then sBytes (⟨((rdN (rrV 4 (b, false)) : Nat) : Int), ((u8at (rrV 1 (rrB 4 (b, false)))).toNat : Int), ((u8at (rrV 1 (rrB 1 (rrB 4 (b, false))))).toNat : Int), ((u8at (rrV 1 (rrB 1 (rrB 1 (rrB 4 (b, false)))))).toNat : Int), l⟩ : ASeal) else []) = yr12_0 := er12_0.symm
    have hq : (⟨((rdN (rrV 4 (b, false)) : Nat) : Int), ((u8at (rrV 1 (rrB 4 (b, false)))).toNat : Int), ((u8at (rrV 1 (rrB 1 (rrB 4 (b, false))))).toNat : Int), ((u8at (rrV 1 (rrB 1 (rrB 1 (rrB 4 (b, false)))))).toNat : Int), l⟩ : ASeal) = rsSeal b := hse.symm
    refine Run.as ?_
    refine Run.nx ?_
    refine RunC.seq ?_
    refine RunC.seq ?_
    refine RunC.freezeR 0 rfl (own' := [blk gr2_0 [.slice Ar rb.1.length cr, .bool rb.2] 163, blk g5_7 [.int .i64 ((rdN (rrV 4 (b, false)) : Nat) : Int), .int .i64 ((u8at (rrV 1 (rrB 4 (b, false)))).toNat : Int), .int .i64 ((u8at (rrV 1 (rrB 1 (rrB 4 (b, false))))).toNat : Int), .int .i64 ((u8at (rrV 1 (rrB 1 (rrB 1 (rrB 4 (b, false)))))).toNat : Int), .slice Al l.length cl] 38, blk g2_1 [.int .i64 0, .int .i64 0, .int .i64 0, .int .i64 0, .slice none 0 0] 38]) rfl (fun J14 hleJ14 hfzJ14 => ?_)
    have hslJ14 : Sl tU8 J14 Ar12_0 cr12_0 (if sRight (⟨((rdN (rrV 4 (b, false)) : Nat) : Int), ((u8at (rrV 1 (rrB 4 (b, false)))).toNat : Int), ((u8at (rrV 1 (rrB 1 (rrB 4 (b, false))))).toNat : Int), ((u8at (rrV 1 (rrB 1 (rrB 1 (rrB 4 (b, false)))))).toNat : Int), l⟩ : ASeal) = true then sBytes (⟨((rdN (rrV 4 (b, false)) : Nat) : Int), ((u8at (rrV 1 (rrB 4 (b, false)))).toNat : Int), ((u8at (rrV 1 (rrB 1 (rrB 4 (b, false))))).toNat : Int), ((u8at (rrV 1 (rrB 1 (rrB 1 (rrB 4 (b, false)))))).toNat : Int), l⟩ : ASeal) else []) := Sl.of_rowN hfzJ14 rfl rfl (hr12_0.mono hleJ14)
    refine RunC.region ?_
    refine Run.mv ?_
    refine Run.m (y_len rfl Tryz.runUnderlying42 rfl) ?_
    refine Run.m (v := .bool (decide (((if sRight (⟨((rdN (rrV 4 (b, false)) : Nat) : Int), ((u8at (rrV 1 (rrB 4 (b, false)))).toNat : Int), ((u8at (rrV 1 (rrB 1 (rrB 4 (b, false))))).toNat : Int), ((u8at (rrV 1 (rrB 1 (rrB 1 (rrB 4 (b, false)))))).toNat : Int), l⟩ : ASeal) = true then sBytes (⟨((rdN (rrV 4 (b, false)) : Nat) : Int), ((u8at (rrV 1 (rrB 4 (b, false)))).toNat : Int), ((u8at (rrV 1 (rrB 1 (rrB 4 (b, false))))).toNat : Int), ((u8at (rrV 1 (rrB 1 (rrB 1 (rrB 4 (b, false)))))).toNat : Int), l⟩ : ASeal) else []).length : Int) = 0))) (y_bin rfl rfl rfl bn_eql) ?_
    refine Run.mv ?_
    refine Run.split 6 rfl (b := decide (((if sRight (⟨((rdN (rrV 4 (b, false)) : Nat) : Int), ((u8at (rrV 1 (rrB 4 (b, false)))).toNat : Int), ((u8at (rrV 1 (rrB 1 (rrB 4 (b, false))))).toNat : Int), ((u8at (rrV 1 (rrB 1 (rrB 1 (rrB 4 (b, false)))))).toNat : Int), l⟩ : ASeal) = true then sBytes (⟨((rdN (rrV 4 (b, false)) : Nat) : Int), ((u8at (rrV 1 (rrB 4 (b, false)))).toNat : Int), ((u8at (rrV 1 (rrB 1 (rrB 4 (b, false))))).toNat : Int), ((u8at (rrV 1 (rrB 1 (rrB 1 (rrB 4 (b, false)))))).toNat : Int), l⟩ : ASeal) else []).length : Int) = 0)) (d := 48) (v := .bool ((decide (((if sRight (⟨((rdN (rrV 4 (b, false)) : Nat) : Int), ((u8at (rrV 1 (rrB 4 (b, false)))).toNat : Int), ((u8at (rrV 1 (rrB 1 (rrB 4 (b, false))))).toNat : Int), ((u8at (rrV 1 (rrB 1 (rrB 1 (rrB 4 (b, false)))))).toNat : Int), l⟩ : ASeal) = true then sBytes (⟨((rdN (rrV 4 (b, false)) : Nat) : Int), ((u8at (rrV 1 (rrB 4 (b, false)))).toNat : Int), ((u8at (rrV 1 (rrB 1 (rrB 4 (b, false))))).toNat : Int), ((u8at (rrV 1 (rrB 1 (rrB 1 (rrB 4 (b, false)))))).toNat : Int), l⟩ : ASeal) else []).length : Int) = 0)) || (!decide ((bstr (if sRight (⟨((rdN (rrV 4 (b, false)) : Nat) : Int), ((u8at (rrV 1 (rrB 4 (b, false)))).toNat : Int), ((u8at (rrV 1 (rrB 1 (rrB 4 (b, false))))).toNat : Int), ((u8at (rrV 1 (rrB 1 (rrB 1 (rrB 4 (b, false)))))).toNat : Int), l⟩ : ASeal) = true then sBytes (⟨((rdN (rrV 4 (b, false)) : Nat) : Int), ((u8at (rrV 1 (rrB 4 (b, false)))).toNat : Int), ((u8at (rrV 1 (rrB 1 (rrB 4 (b, false))))).toNat : Int), ((u8at (rrV 1 (rrB 1 (rrB 1 (rrB 4 (b, false)))))).toNat : Int), l⟩ : ASeal) else [])) = (bstr b))))) (fun hb42 K42 => ?_) (fun hb42 K42 => ?_) ?_
    ·
      have hc1042 := hb42; try simp only [z1, z2, z3, z4, z5, z6, z7, z8, z9, z10, z11, z12, z13, z14, z15, z16] at hc1042
      refine Run.no rfl rfl rfl rfl (hb42) rfl (by decide) ?_
      refine Run.no rfl rfl rfl rfl (hb42) rfl (by decide) ?_
      refine Run.no rfl rfl rfl rfl (hb42) rfl (by decide) ?_
      refine Run.no rfl rfl rfl rfl (hb42) rfl (by decide) ?_
      refine Run.no rfl rfl rfl rfl (hb42) rfl (by decide) ?_
      refine Run.y (y_pickB rfl rfl (hb42) rfl) rfl rfl (by decide) ?_
      exact K42 _ _ _ (Imm.le.refl _) (by rw [hb42]; simp) (Sub.tl 5 rfl rfl)
    ·
      have hc1042 := hb42; try simp only [z1, z2, z3, z4, z5, z6, z7, z8, z9, z10, z11, z12, z13, z14, z15, z16] at hc1042
      refine Run.yes (v := .slice Ar12_0 ((if sRight (⟨((rdN (rrV 4 (b, false)) : Nat) : Int), ((u8at (rrV 1 (rrB 4 (b, false)))).toNat : Int), ((u8at (rrV 1 (rrB 1 (rrB 4 (b, false))))).toNat : Int), ((u8at (rrV 1 (rrB 1 (rrB 1 (rrB 4 (b, false)))))).toNat : Int), l⟩ : ASeal) = true then sBytes (⟨((rdN (rrV 4 (b, false)) : Nat) : Int), ((u8at (rrV 1 (rrB 4 (b, false)))).toNat : Int), ((u8at (rrV 1 (rrB 1 (rrB 4 (b, false))))).toNat : Int), ((u8at (rrV 1 (rrB 1 (rrB 1 (rrB 4 (b, false)))))).toNat : Int), l⟩ : ASeal) else []).length) cr12_0) (y_move rfl rfl) rfl rfl rfl rfl (hb42) rfl (by decide) ?_
      refine Run.yes (v := .string (bstr (if sRight (⟨((rdN (rrV 4 (b, false)) : Nat) : Int), ((u8at (rrV 1 (rrB 4 (b, false)))).toNat : Int), ((u8at (rrV 1 (rrB 1 (rrB 4 (b, false))))).toNat : Int), ((u8at (rrV 1 (rrB 1 (rrB 1 (rrB 4 (b, false)))))).toNat : Int), l⟩ : ASeal) = true then sBytes (⟨((rdN (rrV 4 (b, false)) : Nat) : Int), ((u8at (rrV 1 (rrB 4 (b, false)))).toNat : Int), ((u8at (rrV 1 (rrB 1 (rrB 4 (b, false))))).toNat : Int), ((u8at (rrV 1 (rrB 1 (rrB 1 (rrB 4 (b, false)))))).toNat : Int), l⟩ : ASeal) else []))) (y_bytesStr rfl rfl Tryz.underlying42 Tryz.underlying5 Tryz.underlying9 hslJ14) rfl rfl rfl rfl (hb42) rfl (by decide) ?_
      refine Run.yes (v := .slice Ab b.length cb) (y_move rfl rfl) rfl rfl rfl rfl (hb42) rfl (by decide) ?_
      refine Run.yes (v := .string (bstr b)) (y_bytesStr rfl rfl Tryz.underlying42 Tryz.underlying5 Tryz.underlying9 (hb.mono ((((((((hleJ2.trans hleJ3).trans hleJ4).trans hleJ5).trans hleJ6).trans hJ_le).trans hleJ13).trans hleJ12).trans hleJ14))) rfl rfl rfl rfl (hb42) rfl (by decide) ?_
      refine Run.yes (v := .bool (!decide ((bstr (if sRight (⟨((rdN (rrV 4 (b, false)) : Nat) : Int), ((u8at (rrV 1 (rrB 4 (b, false)))).toNat : Int), ((u8at (rrV 1 (rrB 1 (rrB 4 (b, false))))).toNat : Int), ((u8at (rrV 1 (rrB 1 (rrB 1 (rrB 4 (b, false)))))).toNat : Int), l⟩ : ASeal) = true then sBytes (⟨((rdN (rrV 4 (b, false)) : Nat) : Int), ((u8at (rrV 1 (rrB 4 (b, false)))).toNat : Int), ((u8at (rrV 1 (rrB 1 (rrB 4 (b, false))))).toNat : Int), ((u8at (rrV 1 (rrB 1 (rrB 1 (rrB 4 (b, false)))))).toNat : Int), l⟩ : ASeal) else [])) = (bstr b)))) (y_bin rfl rfl rfl bn_neqD) rfl rfl rfl rfl (hb42) rfl (by decide) ?_
      refine Run.y (y_pickB rfl rfl (hb42) rfl) rfl rfl (by decide) ?_
      exact K42 _ _ _ (Imm.le.refl _) (by rw [hb42]; simp) (Sub.tl 5 rfl rfl)
    refine Run.nx ?_
    refine RunC.cond rfl (fun hc1 => ?_) (fun hc1 => ?_)
    ·
      try simp only [z1, z2, z3, z4, z5, z6, z7, z8, z9, z10, z11, z12, z13, z14, z15, z16] at hc1
      rw [hq] at hc1
      refine RunC.sr ?_
      refine Run.m (v := .agg [.int .i64 0, .int .i64 0, .int .i64 0, .int .i64 0, .slice none 0 0].toArray) (y_build (vs := []) rfl rfl (fun w => by simp [Instr.build, Tryz.zeroValue38, Tryz.runUnderlying38, Tryz.sizeOf3, Tryz.sizeOf36, Instr.fill, Value.cells])) ?_
      refine Run.storeB (vs := [.int .i64 0, .int .i64 0, .int .i64 0, .int .i64 0, .slice none 0 0]) (cs' := [.int .i64 0, .int .i64 0, .int .i64 0, .int .i64 0, .slice none 0 0]) (own' := [blk gr2_0 [.slice Ar rb.1.length cr, .bool rb.2] 163, blk g5_7 [.int .i64 ((rdN (rrV 4 (b, false)) : Nat) : Int), .int .i64 ((u8at (rrV 1 (rrB 4 (b, false)))).toNat : Int), .int .i64 ((u8at (rrV 1 (rrB 1 (rrB 4 (b, false))))).toNat : Int), .int .i64 ((u8at (rrV 1 (rrB 1 (rrB 1 (rrB 4 (b, false)))))).toNat : Int), .slice Al l.length cl] 38]) 2 rfl rfl rfl Tryz.sizeOf38 rfl rfl rfl rfl rfl (Nat.le_of_ble_eq_true rfl) rfl rfl rfl ?_
      refine Run.as ?_
      refine Run.nx ?_
      refine RunC.ret ?_
      refine RunQ.pass (fun h => by cases h) ?_
      refine RunQ.end2 (.inl rfl) Tryz.results92 (rv_cellA (i := 0) rfl Tryz.isAgg38 Tryz.sizeOf38 rfl rfl) (rv_tmp rfl) ?_
      exact ⟨rfl, _, _, rfl, (rd_eq (T := tSeal) (x := (⟨0, 0, 0, 0, ([] : List Int)⟩ : ASeal)) ⟨_, _, rfl, (by first | omega | (dsimp only; omega)), (by first | omega | (dsimp only; omega)), (by first | omega | (dsimp only; omega)), (by first | omega | (dsimp only; omega)), sl_nil0⟩ (by first | (rw [rs_no (hc1.imp (fun h => by omega) (fun h e => h (congrArg bstr e)))] <;> rfl) | (rw [rs_yes ⟨by omega, bstr_inj.1 hc1.2⟩] <;> first | exact hse.symm | rfl))), (rd_eq (T := tInt) (x := 2) ⟨rfl, (by first | omega | (dsimp only; omega))⟩ (by first | (rw [rs_no (hc1.imp (fun h => by omega) (fun h e => h (congrArg bstr e)))] <;> rfl) | (rw [rs_yes ⟨by omega, bstr_inj.1 hc1.2⟩] <;> first | exact hse.symm | rfl)))⟩
    ·
      try simp only [z1, z2, z3, z4, z5, z6, z7, z8, z9, z10, z11, z12, z13, z14, z15, z16] at hc1
      rw [hq] at hc1
      refine RunC.skip ?_
      refine RunQ.next ?_
      refine RunC.sr ?_
      refine Run.m (v := .agg [.int .i64 ((rdN (rrV 4 (b, false)) : Nat) : Int), .int .i64 ((u8at (rrV 1 (rrB 4 (b, false)))).toNat : Int), .int .i64 ((u8at (rrV 1 (rrB 1 (rrB 4 (b, false))))).toNat : Int), .int .i64 ((u8at (rrV 1 (rrB 1 (rrB 1 (rrB 4 (b, false)))))).toNat : Int), .slice Al l.length cl].toArray) (y_loadBA 1 rfl Tryz.isAgg38 Tryz.sizeOf38 rfl rfl rfl rfl) ?_
      refine Run.storeB (vs := [.int .i64 ((rdN (rrV 4 (b, false)) : Nat) : Int), .int .i64 ((u8at (rrV 1 (rrB 4 (b, false)))).toNat : Int), .int .i64 ((u8at (rrV 1 (rrB 1 (rrB 4 (b, false))))).toNat : Int), .int .i64 ((u8at (rrV 1 (rrB 1 (rrB 1 (rrB 4 (b, false)))))).toNat : Int), .slice Al l.length cl]) (cs' := [.int .i64 ((rdN (rrV 4 (b, false)) : Nat) : Int), .int .i64 ((u8at (rrV 1 (rrB 4 (b, false)))).toNat : Int), .int .i64 ((u8at (rrV 1 (rrB 1 (rrB 4 (b, false))))).toNat : Int), .int .i64 ((u8at (rrV 1 (rrB 1 (rrB 1 (rrB 4 (b, false)))))).toNat : Int), .slice Al l.length cl]) (own' := [blk gr2_0 [.slice Ar rb.1.length cr, .bool rb.2] 163, blk g5_7 [.int .i64 ((rdN (rrV 4 (b, false)) : Nat) : Int), .int .i64 ((u8at (rrV 1 (rrB 4 (b, false)))).toNat : Int), .int .i64 ((u8at (rrV 1 (rrB 1 (rrB 4 (b, false))))).toNat : Int), .int .i64 ((u8at (rrV 1 (rrB 1 (rrB 1 (rrB 4 (b, false)))))).toNat : Int), .slice Al l.length cl] 38]) 2 rfl rfl rfl Tryz.sizeOf38 rfl rfl rfl rfl rfl (Nat.le_of_ble_eq_true rfl) rfl rfl rfl ?_
      refine Run.as ?_
      refine Run.nx ?_
      refine RunC.ret ?_
      refine RunQ.end2 (.inl rfl) Tryz.results92 (rv_cellA (i := 0) rfl Tryz.isAgg38 Tryz.sizeOf38 rfl rfl) (rv_tmp rfl) ?_
      exact ⟨rfl, _, _, rfl, (rd_eq (T := tSeal) (x := (⟨((rdN (rrV 4 (b, false)) : Nat) : Int), ((u8at (rrV 1 (rrB 4 (b, false)))).toNat : Int), ((u8at (rrV 1 (rrB 1 (rrB 4 (b, false))))).toNat : Int), ((u8at (rrV 1 (rrB 1 (rrB 1 (rrB 4 (b, false)))))).toNat : Int), l⟩ : ASeal)) ⟨_, _, rfl, f3_0_0, (i64_u8 _), (i64_u8 _), (i64_u8 _), (hslJ13.mono (hleJ12.trans hleJ14))⟩ (by first | (rw [rs_no (hc1.imp (fun h => by omega) (fun h e => h (congrArg bstr e)))] <;> rfl) | (rw [rs_yes ⟨by omega, bstr_inj.1 hc1.2⟩] <;> first | exact hse.symm | rfl))), (rd_eq (T := tInt) (x := 0) ⟨rfl, (by first | omega | (dsimp only; omega))⟩ (by first | (rw [rs_no (hc1.imp (fun h => by omega) (fun h e => h (congrArg bstr e)))] <;> rfl) | (rw [rs_yes ⟨by omega, bstr_inj.1 hc1.2⟩] <;> first | exact hse.symm | rfl)))⟩

theorem c_cartridgeref10_Sealed (I : Imm) {cst : List Value} (t : ATape) (ht : tTape.rd I cst t) (hsz : ∀ b ∈ t.blocks, b.length ≤ 1000000) : Con Tryz.prog 44 [.agg cst.toArray].toArray I [] (Ret2 (tSeal.g) (tBool.o) ((vSealed t).1) ((vSealed t).2)) := by
  obtain ⟨At_2, ct_2, rfl, ft_0, ft_1, ft_2⟩ := ht
  have hsmt_2 := ft_2.small
  refine Con.enter (n := 34) (L := [(0, .agg [.int .i64 t.label, .int .i64 t.cap, .slice At_2 t.blocks.length ct_2, .bool t.lost].toArray)]) Tryz.func44 rfl rfl (Nat.le_of_ble_eq_true rfl) rfl (fun E => ?_)
  refine RunC.sr ?_
  refine Run.box (cs := [.int .i64 t.label, .int .i64 t.cap, .slice At_2 t.blocks.length ct_2, .bool t.lost]) rfl rfl rfl rfl rfl (by decide) (fun g1 => ?_)
  refine Run.alloc (cs := [.int .i64 0, .int .i64 0, .int .i64 0, .int .i64 0, .slice none 0 0]) rfl Tryz.zeroValue38 rfl rfl rfl (by decide) (fun g2_1 => ?_)
  refine Run.as ?_
  refine Run.nx ?_
  refine RunC.sr ?_
  refine Run.m (v := .agg [.int .i64 t.label, .int .i64 t.cap, .slice At_2 t.blocks.length ct_2, .bool t.lost].toArray) (y_loadBA 1 rfl Tryz.isAgg45 Tryz.sizeOf45 rfl rfl rfl rfl) ?_
  refine Run.m (v := .pointer (some ⟨g1, 2, none⟩)) (y_fieldAddr rfl rfl Tryz.runUnderlying45 rfl Tryz.sizeOf43 (by decide) rfl) ?_
  refine Run.m (v := .slice At_2 t.blocks.length ct_2) (y_loadB1 1 rfl Tryz.isAgg43 rfl rfl rfl) ?_
  refine Run.m (y_len rfl Tryz.runUnderlying43 rfl) ?_
  refine Run.m (v := .int .i64 ((t.blocks.length : Int) - 1)) (y_bin rfl rfl rfl (bn_sub (by omega) (by omega))) ?_
  refine Run.call0 (en_func rfl Tryz.call32 rfl) (c_cartridgeref10_Good _ t ⟨_, _, rfl, ft_0, ft_1, ft_2⟩ ((t.blocks.length : Int) - 1) (by omega) hsz) rfl rfl (by decide) (fun J2 o2 v2 hleJ2 hq2 => ?_)
  obtain ⟨rfl, cs2a, cs2b, rfl, h2a, h2b⟩ := hq2
  replace h2a : tUnit.rd J2 cs2a ((vGood t ((t.blocks.length : Int) - 1)).1) := h2a
  obtain ⟨A2a_3, c2a_3, rfl, f2a_0, f2a_1, f2a_2, f2a_3⟩ := h2a
  have hsm2a_3 := f2a_3.small
  replace h2b : tBool.rd J2 cs2b ((vGood t ((t.blocks.length : Int) - 1)).2) := h2b
  obtain rfl := h2b
  refine Run.mv ?_
  refine Run.m (y_extract rfl rfl rfl) ?_
  refine Run.m (y_extract rfl rfl rfl) ?_
  refine Run.alloc (cs := [.int .i64 0, .int .i64 0, .int .i64 0, .slice none 0 0]) rfl Tryz.zeroValue63 rfl rfl rfl (by decide) (fun g4_3 => ?_)
  refine Run.storeB (vs := [.int .i64 (((vGood t ((t.blocks.length : Int) - 1)).1).kind), .int .i64 (((vGood t ((t.blocks.length : Int) - 1)).1).label), .int .i64 (((vGood t ((t.blocks.length : Int) - 1)).1).number), .slice A2a_3 ((((vGood t ((t.blocks.length : Int) - 1)).1).load).length) c2a_3]) (cs' := [.int .i64 (((vGood t ((t.blocks.length : Int) - 1)).1).kind), .int .i64 (((vGood t ((t.blocks.length : Int) - 1)).1).label), .int .i64 (((vGood t ((t.blocks.length : Int) - 1)).1).number), .slice A2a_3 ((((vGood t ((t.blocks.length : Int) - 1)).1).load).length) c2a_3]) (own' := [blk g2_1 [.int .i64 0, .int .i64 0, .int .i64 0, .int .i64 0, .slice none 0 0] 38, blk g1 [.int .i64 t.label, .int .i64 t.cap, .slice At_2 t.blocks.length ct_2, .bool t.lost] 45]) 0 rfl rfl rfl Tryz.sizeOf63 rfl rfl rfl rfl rfl (Nat.le_of_ble_eq_true rfl) rfl rfl rfl ?_
  refine Run.as ?_
  refine Run.nx ?_
  refine RunC.seq ?_
  refine RunC.sr ?_
  refine Run.mv ?_
  refine Run.m (v := .bool (!((vGood t ((t.blocks.length : Int) - 1)).2))) (y_not (b := ((vGood t ((t.blocks.length : Int) - 1)).2)) rfl rfl) ?_
  refine Run.mv ?_
  refine Run.split 4 rfl (b := (!((vGood t ((t.blocks.length : Int) - 1)).2))) (d := 23) (v := .bool ((!((vGood t ((t.blocks.length : Int) - 1)).2)) || (decide (((vGood t ((t.blocks.length : Int) - 1)).1).kind ≠ 5)))) (fun hb19 K19 => ?_) (fun hb19 K19 => ?_) ?_
  ·
    have hc1019 := hb19; try simp only [z1, z2, z3, z4, z5, z6, z7, z8, z9, z10, z11, z12, z13, z14, z15, z16] at hc1019
    refine Run.no rfl rfl rfl rfl (hb19) rfl (by decide) ?_
    refine Run.no rfl rfl rfl rfl (hb19) rfl (by decide) ?_
    refine Run.no rfl rfl rfl rfl (hb19) rfl (by decide) ?_
    refine Run.y (y_pickB rfl rfl (hb19) rfl) rfl rfl (by decide) ?_
    exact K19 _ _ _ (Imm.le.refl _) (by rw [hb19]; simp) (Sub.tl 3 rfl rfl)
  ·
    have hc1019 := hb19; try simp only [z1, z2, z3, z4, z5, z6, z7, z8, z9, z10, z11, z12, z13, z14, z15, z16] at hc1019
    refine Run.yes (v := .pointer (some ⟨g4_3, 0, none⟩)) (y_fieldAddr rfl rfl Tryz.runUnderlying63 rfl Tryz.sizeOf3 (by decide) rfl) rfl rfl rfl rfl (hb19) rfl (by decide) ?_
    refine Run.yes (v := .int .i64 (((vGood t ((t.blocks.length : Int) - 1)).1).kind)) (y_loadB1 0 rfl Tryz.isAgg3 rfl rfl rfl) rfl rfl rfl rfl (hb19) rfl (by decide) ?_
    refine Run.yes (v := .bool (decide (((vGood t ((t.blocks.length : Int) - 1)).1).kind ≠ 5))) (y_bin rfl rfl rfl bn_neq) rfl rfl rfl rfl (hb19) rfl (by decide) ?_
    refine Run.y (y_pickB rfl rfl (hb19) rfl) rfl rfl (by decide) ?_
    exact K19 _ _ _ (Imm.le.refl _) (by rw [hb19]; simp) (Sub.tl 3 rfl rfl)
  refine Run.nx ?_
  refine RunC.cond rfl (fun hc0 => ?_) (fun hc0 => ?_)
  ·
    try simp only [z1, z2, z3, z4, z5, z6, z7, z8, z9, z10, z11, z12, z13, z14, z15, z16] at hc0
    refine RunC.sr ?_
    refine Run.m (v := .agg [.int .i64 0, .int .i64 0, .int .i64 0, .int .i64 0, .slice none 0 0].toArray) (y_build (vs := []) rfl rfl (fun w => by simp [Instr.build, Tryz.zeroValue38, Tryz.runUnderlying38, Tryz.sizeOf3, Tryz.sizeOf36, Instr.fill, Value.cells])) ?_
    refine Run.storeB (vs := [.int .i64 0, .int .i64 0, .int .i64 0, .int .i64 0, .slice none 0 0]) (cs' := [.int .i64 0, .int .i64 0, .int .i64 0, .int .i64 0, .slice none 0 0]) (own' := [blk g4_3 [.int .i64 (((vGood t ((t.blocks.length : Int) - 1)).1).kind), .int .i64 (((vGood t ((t.blocks.length : Int) - 1)).1).label), .int .i64 (((vGood t ((t.blocks.length : Int) - 1)).1).number), .slice A2a_3 ((((vGood t ((t.blocks.length : Int) - 1)).1).load).length) c2a_3] 63, blk g1 [.int .i64 t.label, .int .i64 t.cap, .slice At_2 t.blocks.length ct_2, .bool t.lost] 45]) 1 rfl rfl rfl Tryz.sizeOf38 rfl rfl rfl rfl rfl (Nat.le_of_ble_eq_true rfl) rfl rfl rfl ?_
    refine Run.as ?_
    refine Run.nx ?_
    refine RunC.ret ?_
    refine RunQ.pass (fun h => by cases h) ?_
    refine RunQ.end2 (.inl rfl) Tryz.results44 (rv_cellA (i := 0) rfl Tryz.isAgg38 Tryz.sizeOf38 rfl rfl) (rv_tmp rfl) ?_
    exact ⟨rfl, _, _, rfl, (rd_eq (T := tSeal) (x := (⟨0, 0, 0, 0, ([] : List Int)⟩ : ASeal)) ⟨_, _, rfl, (by first | omega | (dsimp only; omega)), (by first | omega | (dsimp only; omega)), (by first | omega | (dsimp only; omega)), (by first | omega | (dsimp only; omega)), sl_nil0⟩ (by first | (rw [vSealed_no hc0] <;> rfl) | (rw [vSealed_yes hc0] <;> rfl))), (rd_eq (T := tBool) (x := false) rfl (by first | (rw [vSealed_no hc0] <;> rfl) | (rw [vSealed_yes hc0] <;> rfl)))⟩
  ·
    try simp only [z1, z2, z3, z4, z5, z6, z7, z8, z9, z10, z11, z12, z13, z14, z15, z16] at hc0
    refine RunC.skip ?_
    refine RunQ.next ?_
    refine RunC.sr ?_
    refine Run.m (v := .pointer (some ⟨g4_3, 3, none⟩)) (y_fieldAddr rfl rfl Tryz.runUnderlying63 rfl Tryz.sizeOf42 (by decide) rfl) ?_
    refine Run.m (v := .slice A2a_3 ((((vGood t ((t.blocks.length : Int) - 1)).1).load).length) c2a_3) (y_loadB1 0 rfl Tryz.isAgg42 rfl rfl rfl) ?_
    refine Run.call0 (en_func rfl Tryz.call92 rfl) (c_cartridgeref10_ReadSeal _ (((vGood t ((t.blocks.length : Int) - 1)).1).load) f2a_3 (Nat.le_trans (vGood_load _ _) (by decide))) rfl rfl (by decide) (fun J4 o4 v4 hleJ4 hq4 => ?_)
    obtain ⟨rfl, cs4a, cs4b, rfl, h4a, h4b⟩ := hq4
    replace h4a : tSeal.rd J4 cs4a ((sRead (((vGood t ((t.blocks.length : Int) - 1)).1).load)).1) := h4a
    obtain ⟨A4a_4, c4a_4, rfl, f4a_0, f4a_1, f4a_2, f4a_3, f4a_4⟩ := h4a
    have hsm4a_4 := f4a_4.small
    replace h4b : tInt.rd J4 cs4b ((sRead (((vGood t ((t.blocks.length : Int) - 1)).1).load)).2) := h4b
    obtain ⟨rfl, f4b_0⟩ := h4b
    refine Run.mv ?_
    refine Run.m (y_extract rfl rfl rfl) ?_
    refine Run.m (y_extract rfl rfl rfl) ?_
    refine Run.alloc (cs := [.int .i64 0, .int .i64 0, .int .i64 0, .int .i64 0, .slice none 0 0]) rfl Tryz.zeroValue38 rfl rfl rfl (by decide) (fun g6_5 => ?_)
    refine Run.storeB (vs := [.int .i64 (((sRead (((vGood t ((t.blocks.length : Int) - 1)).1).load)).1).number), .int .i64 (((sRead (((vGood t ((t.blocks.length : Int) - 1)).1).load)).1).index), .int .i64 (((sRead (((vGood t ((t.blocks.length : Int) - 1)).1).load)).1).data), .int .i64 (((sRead (((vGood t ((t.blocks.length : Int) - 1)).1).load)).1).parity), .slice A4a_4 ((((sRead (((vGood t ((t.blocks.length : Int) - 1)).1).load)).1).labels).length) c4a_4]) (cs' := [.int .i64 (((sRead (((vGood t ((t.blocks.length : Int) - 1)).1).load)).1).number), .int .i64 (((sRead (((vGood t ((t.blocks.length : Int) - 1)).1).load)).1).index), .int .i64 (((sRead (((vGood t ((t.blocks.length : Int) - 1)).1).load)).1).data), .int .i64 (((sRead (((vGood t ((t.blocks.length : Int) - 1)).1).load)).1).parity), .slice A4a_4 ((((sRead (((vGood t ((t.blocks.length : Int) - 1)).1).load)).1).labels).length) c4a_4]) (own' := [blk g4_3 [.int .i64 (((vGood t ((t.blocks.length : Int) - 1)).1).kind), .int .i64 (((vGood t ((t.blocks.length : Int) - 1)).1).label), .int .i64 (((vGood t ((t.blocks.length : Int) - 1)).1).number), .slice A2a_3 ((((vGood t ((t.blocks.length : Int) - 1)).1).load).length) c2a_3] 63, blk g2_1 [.int .i64 0, .int .i64 0, .int .i64 0, .int .i64 0, .slice none 0 0] 38, blk g1 [.int .i64 t.label, .int .i64 t.cap, .slice At_2 t.blocks.length ct_2, .bool t.lost] 45]) 0 rfl rfl rfl Tryz.sizeOf38 rfl rfl rfl rfl rfl (Nat.le_of_ble_eq_true rfl) rfl rfl rfl ?_
    refine Run.as ?_
    refine Run.nx ?_
    refine RunC.sr ?_
    refine Run.m (v := .agg [.int .i64 (((sRead (((vGood t ((t.blocks.length : Int) - 1)).1).load)).1).number), .int .i64 (((sRead (((vGood t ((t.blocks.length : Int) - 1)).1).load)).1).index), .int .i64 (((sRead (((vGood t ((t.blocks.length : Int) - 1)).1).load)).1).data), .int .i64 (((sRead (((vGood t ((t.blocks.length : Int) - 1)).1).load)).1).parity), .slice A4a_4 ((((sRead (((vGood t ((t.blocks.length : Int) - 1)).1).load)).1).labels).length) c4a_4].toArray) (y_loadBA 0 rfl Tryz.isAgg38 Tryz.sizeOf38 rfl rfl rfl rfl) ?_
    refine Run.mv ?_
    refine Run.m (v := .bool (decide ((sRead (((vGood t ((t.blocks.length : Int) - 1)).1).load)).2 = 0))) (y_bin rfl rfl rfl bn_eql) ?_
    refine Run.storeB (vs := [.int .i64 (((sRead (((vGood t ((t.blocks.length : Int) - 1)).1).load)).1).number), .int .i64 (((sRead (((vGood t ((t.blocks.length : Int) - 1)).1).load)).1).index), .int .i64 (((sRead (((vGood t ((t.blocks.length : Int) - 1)).1).load)).1).data), .int .i64 (((sRead (((vGood t ((t.blocks.length : Int) - 1)).1).load)).1).parity), .slice A4a_4 ((((sRead (((vGood t ((t.blocks.length : Int) - 1)).1).load)).1).labels).length) c4a_4]) (cs' := [.int .i64 (((sRead (((vGood t ((t.blocks.length : Int) - 1)).1).load)).1).number), .int .i64 (((sRead (((vGood t ((t.blocks.length : Int) - 1)).1).load)).1).index), .int .i64 (((sRead (((vGood t ((t.blocks.length : Int) - 1)).1).load)).1).data), .int .i64 (((sRead (((vGood t ((t.blocks.length : Int) - 1)).1).load)).1).parity), .slice A4a_4 ((((sRead (((vGood t ((t.blocks.length : Int) - 1)).1).load)).1).labels).length) c4a_4]) (own' := [blk g6_5 [.int .i64 (((sRead (((vGood t ((t.blocks.length : Int) - 1)).1).load)).1).number), .int .i64 (((sRead (((vGood t ((t.blocks.length : Int) - 1)).1).load)).1).index), .int .i64 (((sRead (((vGood t ((t.blocks.length : Int) - 1)).1).load)).1).data), .int .i64 (((sRead (((vGood t ((t.blocks.length : Int) - 1)).1).load)).1).parity), .slice A4a_4 ((((sRead (((vGood t ((t.blocks.length : Int) - 1)).1).load)).1).labels).length) c4a_4] 38, blk g4_3 [.int .i64 (((vGood t ((t.blocks.length : Int) - 1)).1).kind), .int .i64 (((vGood t ((t.blocks.length : Int) - 1)).1).label), .int .i64 (((vGood t ((t.blocks.length : Int) - 1)).1).number), .slice A2a_3 ((((vGood t ((t.blocks.length : Int) - 1)).1).load).length) c2a_3] 63, blk g1 [.int .i64 t.label, .int .i64 t.cap, .slice At_2 t.blocks.length ct_2, .bool t.lost] 45]) 2 rfl rfl rfl Tryz.sizeOf38 rfl rfl rfl rfl rfl (Nat.le_of_ble_eq_true rfl) rfl rfl rfl ?_
    refine Run.as ?_
    refine Run.nx ?_
    refine RunC.ret ?_
    refine RunQ.end2 (.inl rfl) Tryz.results44 (rv_cellA (i := 0) rfl Tryz.isAgg38 Tryz.sizeOf38 rfl rfl) (rv_tmp rfl) ?_
    exact ⟨rfl, _, _, rfl, (rd_eq (T := tSeal) (x := ((sRead (((vGood t ((t.blocks.length : Int) - 1)).1).load)).1)) ⟨_, _, rfl, f4a_0, f4a_1, f4a_2, f4a_3, f4a_4⟩ (by first | (rw [vSealed_no hc0] <;> rfl) | (rw [vSealed_yes hc0] <;> rfl))), (rd_eq (T := tBool) (x := decide ((sRead (((vGood t ((t.blocks.length : Int) - 1)).1).load)).2 = 0)) rfl (by first | (rw [vSealed_no hc0] <;> rfl) | (rw [vSealed_yes hc0] <;> rfl)))⟩

theorem c_cartridgeref10_Find (I : Imm) {Al : Option Addr} {cl : Nat} (l : List ATape) (hl : Sl tTape I Al cl l) (hszl : ∀ t ∈ l, ∀ x ∈ t.blocks, x.length ≤ 1000000) (hsz : l.length ≤ 1000000) : Con Tryz.prog 13 [.slice Al l.length cl].toArray I [] (Ret1 ((tSl tSeal).o) (gFind l)) := by
  have hsml := hl.small
  refine Con.enter (n := 80) (L := [(0, .slice Al l.length cl)]) Tryz.func13 rfl rfl (Nat.le_of_ble_eq_true rfl) rfl (fun E => ?_)
  refine RunC.sr ?_
  refine Run.as ?_
  refine Run.nx ?_
  refine RunC.sr ?_
  refine Run.as ?_
  refine Run.nx ?_
  refine RunC.seq ?_
  refine RunC.sr ?_
  refine Run.as ?_
  refine Run.nx ?_
  refine RunC.block ?_
  refine RunC.nilrow none 38 5 ?_
  obtain ⟨Inv0, hInv0⟩ : ∃ Inv : Nat → Act → World → Prop, ∀ mm aa ww, Inv mm aa ww ↔ (∃ (k : Nat) (o : List (ASeal)) (Ao : Option Addr) (co : Nat) (clo : List Value) (J : Imm), (I.le J) ∧ (tSeal.all J clo o) ∧ (k ≤ l.length) ∧ (o = gFind (l.take k)) ∧ (o.length ≤ k) ∧ (mm = (l.length - k)) ∧ Frm aa 80 [(0, .slice Al l.length cl), (2, .slice none 0 0), (4, .int .i64 (k : Int)), (3, .slice Ao o.length co)] ∧ S E ww J [row (.slice Ao o.length co) 38 5 clo]) := ⟨_, fun _ _ _ => Iff.rfl⟩
  refine RunC.loopX Inv0 (fun aa ww hF hS => ⟨_, (hInv0 _ _ _).2 ⟨0, ([] : List ASeal), none, 0, [], I, (Imm.le.refl _), all_nil, (by omega), rfl, (by simp), rfl, hF.sub (Sub.of rfl), hS.sub (perm_self _)⟩⟩) ?_
  intro mm0 aa ww hv
  obtain ⟨k, o, Ao, co, clo, J, hJ_le, ho, hk, ho_, hol, hmm_, hF, hS⟩ := (hInv0 _ _ _).1 hv
  clear hv
  refine RunC.go ?_ hF hS
  clear hF hS aa ww
  refine RunC.seq ?_
  refine RunC.sr ?_
  refine Run.mv ?_
  refine Run.mv ?_
  refine Run.m (y_len rfl Tryz.runUnderlying22 rfl) ?_
  refine Run.m (v := .bool (decide ((k : Int) < (l.length : Int)))) (y_bin rfl rfl rfl bn_lss) ?_
  refine Run.nx ?_
  refine RunC.cond rfl (fun hc0 => ?_) (fun hc0 => ?_)
  ·
    try simp only [z1, z2, z3, z4, z5, z6, z7, z8, z9, z10, z11, z12, z13, z14, z15, z16] at hc0
    refine RunC.skip ?_
    refine RunQ.next ?_
    refine RunC.seq ?_
    refine RunC.block ?_
    refine RunC.sr ?_
    refine Run.mv ?_
    refine Run.mv ?_
    obtain ⟨x17, p17_1, cs17_1, hx17, hp17_1, hcs17_1, hrc17_1⟩ := Sl.at_ (P := Tryz.prog) (T := tTape) Tryz.runUnderlying22 Tryz.sizeOf45 (hl.mono hJ_le) (k := .i64) (i := (k : Int)) (by omega) (by omega)
    replace hx17 : l[k]? = some x17 := hx17
    obtain ⟨A17_1_2, c17_1_2, rfl, f17_1_0, f17_1_1, f17_1_2⟩ := hcs17_1
    have hsm17_1_2 := f17_1_2.small
    refine Run.m (v := .pointer (some p17_1)) (y_index rfl rfl rfl hp17_1) ?_
    refine Run.m (v := .agg [.int .i64 x17.label, .int .i64 x17.cap, .slice A17_1_2 x17.blocks.length c17_1_2, .bool x17.lost].toArray) (y_loadA (cs := [.int .i64 x17.label, .int .i64 x17.cap, .slice A17_1_2 x17.blocks.length c17_1_2, .bool x17.lost]) rfl Tryz.isAgg45 Tryz.sizeOf45 rfl hrc17_1 rfl) ?_
    refine Run.call0 (en_func rfl Tryz.call44 rfl) (c_cartridgeref10_Sealed _ x17 ⟨_, _, rfl, f17_1_0, f17_1_1, f17_1_2⟩ (hszl _ (List.mem_of_getElem? hx17))) rfl rfl (by decide) (fun J2 o2 v2 hleJ2 hq2 => ?_)
    obtain ⟨rfl, cs2a, cs2b, rfl, h2a, h2b⟩ := hq2
    replace h2a : tSeal.rd J2 cs2a ((vSealed x17).1) := h2a
    obtain ⟨A2a_4, c2a_4, rfl, f2a_0, f2a_1, f2a_2, f2a_3, f2a_4⟩ := h2a
    have hsm2a_4 := f2a_4.small
    replace h2b : tBool.rd J2 cs2b ((vSealed x17).2) := h2b
    obtain rfl := h2b
    refine Run.mv ?_
    refine Run.m (y_extract rfl rfl rfl) ?_
    refine Run.m (y_extract rfl rfl rfl) ?_
    refine Run.alloc (cs := [.int .i64 0, .int .i64 0, .int .i64 0, .int .i64 0, .slice none 0 0]) rfl Tryz.zeroValue38 rfl rfl rfl (by decide) (fun g5_3 => ?_)
    refine Run.storeB (vs := [.int .i64 (((vSealed x17).1).number), .int .i64 (((vSealed x17).1).index), .int .i64 (((vSealed x17).1).data), .int .i64 (((vSealed x17).1).parity), .slice A2a_4 ((((vSealed x17).1).labels).length) c2a_4]) (cs' := [.int .i64 (((vSealed x17).1).number), .int .i64 (((vSealed x17).1).index), .int .i64 (((vSealed x17).1).data), .int .i64 (((vSealed x17).1).parity), .slice A2a_4 ((((vSealed x17).1).labels).length) c2a_4]) (own' := [row (.slice Ao o.length co) 38 5 clo]) 0 rfl rfl rfl Tryz.sizeOf38 rfl rfl rfl rfl rfl (Nat.le_of_ble_eq_true rfl) rfl rfl rfl ?_
    refine Run.as ?_
    refine Run.nx ?_
    refine RunC.seq ?_
    refine RunC.seq ?_
    refine RunC.freezeB 0 rfl (own' := [row (.slice Ao o.length co) 38 5 clo]) rfl (fun J4 hleJ4 hfzJ4 => ?_)
    refine RunC.regionD (by kernel_rfl) (by kernel_rfl) ?_
    refine RunZ.y (v := .bool ((vSealed x17).2)) (y_move rfl rfl) rfl rfl (by decide) ?_
    refine RunZ.y (v := .bool (!((vSealed x17).2))) (y_not (b := ((vSealed x17).2)) rfl rfl) rfl rfl (by decide) ?_
    refine RunZ.y (v := .bool (!((vSealed x17).2))) (y_move rfl rfl) rfl rfl (by decide) ?_
    refine RunZ.split 13 rfl (b := (!((vSealed x17).2))) (d := 37) (v := .bool ((!((vSealed x17).2)) || (decide (labIx (vSealed x17).1 ≠ x17.label)))) (fun hb24 K24 => ?_) (fun hb24 K24 => ?_) ?_
    ·
      have hc1024 := hb24; try simp only [z1, z2, z3, z4, z5, z6, z7, z8, z9, z10, z11, z12, z13, z14, z15, z16] at hc1024
      refine RunZ.no rfl rfl rfl rfl (hb24) rfl (by decide) ?_
      refine RunZ.no rfl rfl rfl rfl (hb24) rfl (by decide) ?_
      refine RunZ.no rfl rfl rfl rfl (hb24) rfl (by decide) ?_
      refine RunZ.no rfl rfl rfl rfl (hb24) rfl (by decide) ?_
      refine RunZ.no rfl rfl rfl rfl (hb24) rfl (by decide) ?_
      refine RunZ.no rfl rfl rfl rfl (hb24) rfl (by decide) ?_
      refine RunZ.no rfl rfl rfl rfl (hb24) rfl (by decide) ?_
      refine RunZ.no rfl rfl rfl rfl (hb24) rfl (by decide) ?_
      refine RunZ.no rfl rfl rfl rfl (hb24) rfl (by decide) ?_
      refine RunZ.no rfl rfl rfl rfl (hb24) rfl (by decide) ?_
      refine RunZ.no rfl rfl rfl rfl (hb24) rfl (by decide) ?_
      refine RunZ.no rfl rfl rfl rfl (hb24) rfl (by decide) ?_
      refine RunZ.y (y_pickB rfl rfl (hb24) rfl) rfl rfl (by decide) ?_
      exact K24 _ _ (by rw [hb24]; first | (simp; done) | (have e9 : x33 = x17 := Option.some.inj (hx33.symm.trans hx17); rw [labIx, List.getD_eq_getElem?_getD, hx29, e9]; simp)) (Sub.tl 12 rfl rfl)
    ·
      have hc1024 := hb24; try simp only [z1, z2, z3, z4, z5, z6, z7, z8, z9, z10, z11, z12, z13, z14, z15, z16] at hc1024
      refine RunZ.yes (v := .pointer (some ⟨g5_3, 4, none⟩)) (y_fieldAddr rfl rfl Tryz.runUnderlying38 rfl Tryz.sizeOf36 (by decide) rfl) rfl rfl rfl rfl (hb24) rfl (by decide) ?_
      refine RunZ.yes (v := .slice A2a_4 ((((vSealed x17).1).labels).length) c2a_4) (y_load1 rfl Tryz.isAgg36 rfl (RCells.at_ hfzJ4 4 rfl rfl)) rfl rfl rfl rfl (hb24) rfl (by decide) ?_
      refine RunZ.yes (v := .pointer (some ⟨g5_3, 1, none⟩)) (y_fieldAddr rfl rfl Tryz.runUnderlying38 rfl Tryz.sizeOf3 (by decide) rfl) rfl rfl rfl rfl (hb24) rfl (by decide) ?_
      refine RunZ.yes (v := .int .i64 (((vSealed x17).1).index)) (y_load1 rfl Tryz.isAgg3 rfl (RCells.at_ hfzJ4 1 rfl rfl)) rfl rfl rfl rfl (hb24) rfl (by decide) ?_
      obtain ⟨x29, p29_5, cs29_5, hx29, hp29_5, hcs29_5, hrc29_5⟩ := Sl.at_ (P := Tryz.prog) (T := tInt) Tryz.runUnderlying36 Tryz.sizeOf3 (f2a_4.mono hleJ4) (k := .i64) (i := ((vSealed x17).1).index) (vSealed_ix hc1024).1 (vSealed_ix hc1024).2
      obtain ⟨rfl, f29_5_0⟩ := hcs29_5
      refine RunZ.yes (v := .pointer (some p29_5)) (y_index rfl rfl rfl hp29_5) rfl rfl rfl rfl (hb24) rfl (by decide) ?_
      refine RunZ.yes (v := .int .i64 x29) (y_load1 rfl Tryz.isAgg3 rfl (RCells.hd hrc29_5)) rfl rfl rfl rfl (hb24) rfl (by decide) ?_
      refine RunZ.yes (v := .slice Al l.length cl) (y_move rfl rfl) rfl rfl rfl rfl (hb24) rfl (by decide) ?_
      refine RunZ.yes (v := .int .i64 (k : Int)) (y_move rfl rfl) rfl rfl rfl rfl (hb24) rfl (by decide) ?_
      obtain ⟨x33, p33_6, cs33_6, hx33, hp33_6, hcs33_6, hrc33_6⟩ := Sl.at_ (P := Tryz.prog) (T := tTape) Tryz.runUnderlying22 Tryz.sizeOf45 (hl.mono ((hJ_le.trans hleJ2).trans hleJ4)) (k := .i64) (i := (k : Int)) (by omega) (by omega)
      replace hx33 : l[k]? = some x33 := hx33
      obtain ⟨A33_6_2, c33_6_2, rfl, f33_6_0, f33_6_1, f33_6_2⟩ := hcs33_6
      have hsm33_6_2 := f33_6_2.small
      refine RunZ.yes (v := .pointer (some p33_6)) (y_index rfl rfl rfl hp33_6) rfl rfl rfl rfl (hb24) rfl (by decide) ?_
      refine RunZ.yes (v := .pointer (some p33_6)) (y_fieldAddr rfl rfl Tryz.runUnderlying45 rfl Tryz.sizeOf3 (by decide) (add_zero' _)) rfl rfl rfl rfl (hb24) rfl (by decide) ?_
      refine RunZ.yes (v := .int .i64 x33.label) (y_load1 rfl Tryz.isAgg3 rfl (RCells.hd hrc33_6)) rfl rfl rfl rfl (hb24) rfl (by decide) ?_
      refine RunZ.yes (v := .bool (decide (x29 ≠ x33.label))) (y_bin rfl rfl rfl bn_neq) rfl rfl rfl rfl (hb24) rfl (by decide) ?_
      refine RunZ.y (y_pickB rfl rfl (hb24) rfl) rfl rfl (by decide) ?_
      exact K24 _ _ (by rw [hb24]; first | (simp; done) | (have e9 : x33 = x17 := Option.some.inj (hx33.symm.trans hx17); rw [labIx, List.getD_eq_getElem?_getD, hx29, e9]; simp)) (Sub.tl 12 rfl rfl)
    refine RunZ.nil ?_
    refine RunQ.next ?_
    refine RunC.cond rfl (fun hc1 => ?_) (fun hc1 => ?_)
    ·
      try simp only [z1, z2, z3, z4, z5, z6, z7, z8, z9, z10, z11, z12, z13, z14, z15, z16] at hc1
      have hsk : rSkip x17 = true := by unfold rSkip; simp only [z1, z2, z3, z4, z5, z6, z7, z8, z9, z10, z11, z12, z13, z14, z15, z16]; exact hc1
      refine RunC.exit ?_
      refine RunQ.pass (fun h => by cases h) ?_
      refine RunQ.out ?_
      refine RunQ.next ?_
      refine RunC.region ?_
      refine Run.mv ?_
      refine Run.m (v := .int .i64 ((k : Int) + 1)) (y_bin rfl rfl rfl (bn_add (by omega) (by omega))) ?_
      refine Run.as ?_
      refine Run.nil ?_
      exact RunQ.thenI (fun aa ww hF hS => ⟨_, (by omega), (hInv0 _ _ _).2 ⟨(k + 1), o, Ao, co, clo, J4, ((hJ_le.trans hleJ2).trans hleJ4), (ho.mono (hleJ2.trans hleJ4)), (by omega), (by rw [take_snoc' hx17]; first | (rw [rFind_skip hsk]; exact ho_) | (rw [ho_] at hpos hc3 ⊢; rw [rFind_at hsk hpos, if_pos (by simp only [z1, z2, z3, z4, z5, z6, z7, z8, z9, z10, z11, z12, z13, z14, z15, z16]; omega)]) | (rw [ho_] at hpos hc3 ⊢; rw [rFind_at hsk hpos, if_neg (by simp only [z1, z2, z3, z4, z5, z6, z7, z8, z9, z10, z11, z12, z13, z14, z15, z16]; omega)]; simp)), (by first | omega | (simp; omega)), rfl, hF.sub (Sub.of rfl), hS.sub (perm_self _)⟩⟩)
    ·
      try simp only [z1, z2, z3, z4, z5, z6, z7, z8, z9, z10, z11, z12, z13, z14, z15, z16] at hc1
      have hsk : rSkip x17 = false := by unfold rSkip; simp only [z1, z2, z3, z4, z5, z6, z7, z8, z9, z10, z11, z12, z13, z14, z15, z16]; exact hc1
      refine RunC.skip ?_
      refine RunQ.next ?_
      refine RunC.sr ?_
      refine Run.as ?_
      refine Run.nx ?_
      refine RunC.seq ?_
      refine RunC.block ?_
      obtain ⟨Inv1, hInv1⟩ : ∃ Inv : Nat → Act → World → Prop, ∀ mm aa ww, Inv mm aa ww ↔ (∃ (q : Nat), (q ≤ o.length) ∧ (∀ y ∈ o.take q, y.number < (vSealed x17).1.number) ∧ (mm = (o.length - q)) ∧ Frm aa 80 [(0, .slice Al l.length cl), (2, .slice none 0 0), (4, .int .i64 (k : Int)), (3, .slice Ao o.length co), (8, .int .i64 (k : Int)), (9, .slice Al l.length cl), (10, .int .i64 (l.length : Int)), (11, .bool (decide ((k : Int) < (l.length : Int)))), (15, .slice Al l.length cl), (16, .int .i64 (k : Int)), (17, .pointer (some p17_1)), (18, .agg [.int .i64 x17.label, .int .i64 x17.cap, .slice A17_1_2 x17.blocks.length c17_1_2, .bool x17.lost].toArray), (19, .tuple #[.agg [.int .i64 (((vSealed x17).1).number), .int .i64 (((vSealed x17).1).index), .int .i64 (((vSealed x17).1).data), .int .i64 (((vSealed x17).1).parity), .slice A2a_4 ((((vSealed x17).1).labels).length) c2a_4].toArray, .bool ((vSealed x17).2)]), (14, .tuple #[.agg [.int .i64 (((vSealed x17).1).number), .int .i64 (((vSealed x17).1).index), .int .i64 (((vSealed x17).1).data), .int .i64 (((vSealed x17).1).parity), .slice A2a_4 ((((vSealed x17).1).labels).length) c2a_4].toArray, .bool ((vSealed x17).2)]), (20, .agg [.int .i64 (((vSealed x17).1).number), .int .i64 (((vSealed x17).1).index), .int .i64 (((vSealed x17).1).data), .int .i64 (((vSealed x17).1).parity), .slice A2a_4 ((((vSealed x17).1).labels).length) c2a_4].toArray), (21, .bool ((vSealed x17).2)), (5, .pointer (some ⟨g5_3, 0, none⟩)), (6, .bool ((vSealed x17).2)), (22, .bool ((vSealed x17).2)), (23, .bool (!((vSealed x17).2))), (24, .bool (!((vSealed x17).2))), (37, .bool ((!((vSealed x17).2)) || (decide (labIx (vSealed x17).1 ≠ x17.label)))), (7, .int .i64 (q : Int))] ∧ S E ww J4 [row (.slice Ao o.length co) 38 5 clo]) := ⟨_, fun _ _ _ => Iff.rfl⟩
      refine RunC.loopX Inv1 (fun aa ww hF hS => ⟨_, (hInv1 _ _ _).2 ⟨0, (by omega), (by simp), rfl, hF.sub (Sub.of rfl), hS.sub (perm_self _)⟩⟩) ?_
      intro mm1 aa ww hv
      obtain ⟨q, hq, hlo, hmm_, hF, hS⟩ := (hInv1 _ _ _).1 hv
      clear hv
      refine RunC.go ?_ hF hS
      clear hF hS aa ww
      refine RunC.seq ?_
      refine RunC.seq ?_
      refine RunC.regionD (by kernel_rfl) (by kernel_rfl) ?_
      refine RunZ.y (v := .int .i64 (q : Int)) (y_move rfl rfl) rfl rfl (by decide) ?_
      refine RunZ.y (v := .slice Ao o.length co) (y_move rfl rfl) rfl rfl (by decide) ?_
      refine RunZ.y (v := .int .i64 (o.length : Int)) (y_len rfl Tryz.runUnderlying33 rfl) rfl rfl (by decide) ?_
      refine RunZ.y (v := .bool (decide ((q : Int) < (o.length : Int)))) (y_bin rfl rfl rfl bn_lss) rfl rfl (by decide) ?_
      refine RunZ.y (v := .bool (decide ((q : Int) < (o.length : Int)))) (y_move rfl rfl) rfl rfl (by decide) ?_
      refine RunZ.split 9 rfl (b := decide ((q : Int) < (o.length : Int))) (d := 51) (v := .bool ((decide ((q : Int) < (o.length : Int))) && (decide (numAt o q < (vSealed x17).1.number)))) (fun hb42 K42 => ?_) (fun hb42 K42 => ?_) ?_
      ·
        have hc1042 := hb42; try simp only [z1, z2, z3, z4, z5, z6, z7, z8, z9, z10, z11, z12, z13, z14, z15, z16] at hc1042
        refine RunZ.yes (v := .slice Ao o.length co) (y_move rfl rfl) rfl rfl rfl rfl (hb42) rfl (by decide) ?_
        refine RunZ.yes (v := .int .i64 (q : Int)) (y_move rfl rfl) rfl rfl rfl rfl (hb42) rfl (by decide) ?_
        obtain ⟨x45, hx45⟩ : ∃ x, o[q]? = some x := ⟨_, List.getElem?_eq_getElem (by first | exact (by omega) | omega | (simp; omega))⟩
        obtain ⟨cs45_7, hcs45_7, htk45_7, hgt45_7⟩ := all_get (ho.mono (hleJ2.trans hleJ4)) hx45
        obtain ⟨A45_7_4, c45_7_4, rfl, f45_7_0, f45_7_1, f45_7_2, f45_7_3, f45_7_4⟩ := hcs45_7
        have hsm45_7_4 := f45_7_4.small
        refine RunZ.yes (v := .pointer (some (pt Ao (q * 5)))) (y_indexR (q := (q : Int)) 0 rfl rfl rfl Tryz.runUnderlying33 Tryz.sizeOf38 rfl (by omega) (by omega)) rfl rfl rfl rfl (hb42) rfl (by decide) ?_
        refine RunZ.yes (v := .pointer (some (pt Ao (q * 5 + 0)))) (y_fieldAddr rfl rfl Tryz.runUnderlying38 rfl Tryz.sizeOf3 (by decide) (pt_add _ _ _)) rfl rfl rfl rfl (hb42) rfl (by decide) ?_
        refine RunZ.yes (v := .int .i64 x45.number) (y_loadR1 0 rfl Tryz.isAgg3 rfl rfl (hgt45_7 0 _ rfl)) rfl rfl rfl rfl (hb42) rfl (by decide) ?_
        refine RunZ.yes (v := .pointer (some ⟨g5_3, 0, none⟩)) (y_fieldAddr rfl rfl Tryz.runUnderlying38 rfl Tryz.sizeOf3 (by decide) rfl) rfl rfl rfl rfl (hb42) rfl (by decide) ?_
        refine RunZ.yes (v := .int .i64 (((vSealed x17).1).number)) (y_load1 rfl Tryz.isAgg3 rfl (RCells.at_ hfzJ4 0 rfl rfl)) rfl rfl rfl rfl (hb42) rfl (by decide) ?_
        refine RunZ.yes (v := .bool (decide (x45.number < ((vSealed x17).1).number))) (y_bin rfl rfl rfl bn_lss) rfl rfl rfl rfl (hb42) rfl (by decide) ?_
        refine RunZ.y (y_pickB rfl rfl (hb42) rfl) rfl rfl (by decide) ?_
        exact K42 _ _ (by rw [hb42]; first | (simp; done) | (rw [numAt_of hx45]; simp)) (Sub.tl 8 rfl rfl)
      ·
        have hc1042 := hb42; try simp only [z1, z2, z3, z4, z5, z6, z7, z8, z9, z10, z11, z12, z13, z14, z15, z16] at hc1042
        refine RunZ.no rfl rfl rfl rfl (hb42) rfl (by decide) ?_
        refine RunZ.no rfl rfl rfl rfl (hb42) rfl (by decide) ?_
        refine RunZ.no rfl rfl rfl rfl (hb42) rfl (by decide) ?_
        refine RunZ.no rfl rfl rfl rfl (hb42) rfl (by decide) ?_
        refine RunZ.no rfl rfl rfl rfl (hb42) rfl (by decide) ?_
        refine RunZ.no rfl rfl rfl rfl (hb42) rfl (by decide) ?_
        refine RunZ.no rfl rfl rfl rfl (hb42) rfl (by decide) ?_
        refine RunZ.no rfl rfl rfl rfl (hb42) rfl (by decide) ?_
        refine RunZ.y (y_pickB rfl rfl (hb42) rfl) rfl rfl (by decide) ?_
        exact K42 _ _ (by rw [hb42]; first | (simp; done) | (rw [numAt_of hx45]; simp)) (Sub.tl 8 rfl rfl)
      refine RunZ.nil ?_
      refine RunQ.next ?_
      refine RunC.cond rfl (fun hc2 => ?_) (fun hc2 => ?_)
      ·
        try simp only [z1, z2, z3, z4, z5, z6, z7, z8, z9, z10, z11, z12, z13, z14, z15, z16] at hc2
        refine RunC.skip ?_
        refine RunQ.next ?_
        refine RunC.block ?_
        refine RunC.region ?_
        refine Run.mv ?_
        refine Run.m (v := .int .i64 ((q : Int) + 1)) (y_bin rfl rfl rfl (bn_add (by omega) (by omega))) ?_
        refine Run.as ?_
        refine Run.nil ?_
        refine RunQ.inB ?_
        exact RunQ.thenI (fun aa ww hF hS => ⟨_, (by omega), (hInv1 _ _ _).2 ⟨(q + 1), (by omega), (low_snoc hlo (by omega) (by omega)), rfl, hF.sub (Sub.of rfl), hS.sub (perm_self _)⟩⟩)
      ·
        try simp only [z1, z2, z3, z4, z5, z6, z7, z8, z9, z10, z11, z12, z13, z14, z15, z16] at hc2
        have hpos : Pos (vSealed x17).1 o q := ⟨hq, hlo, fun h => by omega⟩
        refine RunC.exit ?_
        refine RunQ.pass (fun h => by cases h) ?_
        refine RunQ.pass (fun h => by cases h) ?_
        refine RunQ.out ?_
        refine RunQ.next ?_
        refine RunC.seq ?_
        refine RunC.seq ?_
        refine RunC.regionD (by kernel_rfl) (by kernel_rfl) ?_
        refine RunZ.y (v := .int .i64 (q : Int)) (y_move rfl rfl) rfl rfl (by decide) ?_
        refine RunZ.y (v := .slice Ao o.length co) (y_move rfl rfl) rfl rfl (by decide) ?_
        refine RunZ.y (v := .int .i64 (o.length : Int)) (y_len rfl Tryz.runUnderlying33 rfl) rfl rfl (by decide) ?_
        refine RunZ.y (v := .bool (decide ((q : Int) < (o.length : Int)))) (y_bin rfl rfl rfl bn_lss) rfl rfl (by decide) ?_
        refine RunZ.y (v := .bool (decide ((q : Int) < (o.length : Int)))) (y_move rfl rfl) rfl rfl (by decide) ?_
        refine RunZ.split 9 rfl (b := decide ((q : Int) < (o.length : Int))) (d := 67) (v := .bool ((decide ((q : Int) < (o.length : Int))) && (decide (numAt o q = (vSealed x17).1.number)))) (fun hb58 K58 => ?_) (fun hb58 K58 => ?_) ?_
        ·
          have hc1058 := hb58; try simp only [z1, z2, z3, z4, z5, z6, z7, z8, z9, z10, z11, z12, z13, z14, z15, z16] at hc1058
          refine RunZ.yes (v := .slice Ao o.length co) (y_move rfl rfl) rfl rfl rfl rfl (hb58) rfl (by decide) ?_
          refine RunZ.yes (v := .int .i64 (q : Int)) (y_move rfl rfl) rfl rfl rfl rfl (hb58) rfl (by decide) ?_
          obtain ⟨x61, hx61⟩ : ∃ x, o[q]? = some x := ⟨_, List.getElem?_eq_getElem (by first | exact (by omega) | omega | (simp; omega))⟩
          obtain ⟨cs61_8, hcs61_8, htk61_8, hgt61_8⟩ := all_get (ho.mono (hleJ2.trans hleJ4)) hx61
          obtain ⟨A61_8_4, c61_8_4, rfl, f61_8_0, f61_8_1, f61_8_2, f61_8_3, f61_8_4⟩ := hcs61_8
          have hsm61_8_4 := f61_8_4.small
          refine RunZ.yes (v := .pointer (some (pt Ao (q * 5)))) (y_indexR (q := (q : Int)) 0 rfl rfl rfl Tryz.runUnderlying33 Tryz.sizeOf38 rfl (by omega) (by omega)) rfl rfl rfl rfl (hb58) rfl (by decide) ?_
          refine RunZ.yes (v := .pointer (some (pt Ao (q * 5 + 0)))) (y_fieldAddr rfl rfl Tryz.runUnderlying38 rfl Tryz.sizeOf3 (by decide) (pt_add _ _ _)) rfl rfl rfl rfl (hb58) rfl (by decide) ?_
          refine RunZ.yes (v := .int .i64 x61.number) (y_loadR1 0 rfl Tryz.isAgg3 rfl rfl (hgt61_8 0 _ rfl)) rfl rfl rfl rfl (hb58) rfl (by decide) ?_
          refine RunZ.yes (v := .pointer (some ⟨g5_3, 0, none⟩)) (y_fieldAddr rfl rfl Tryz.runUnderlying38 rfl Tryz.sizeOf3 (by decide) rfl) rfl rfl rfl rfl (hb58) rfl (by decide) ?_
          refine RunZ.yes (v := .int .i64 (((vSealed x17).1).number)) (y_load1 rfl Tryz.isAgg3 rfl (RCells.at_ hfzJ4 0 rfl rfl)) rfl rfl rfl rfl (hb58) rfl (by decide) ?_
          refine RunZ.yes (v := .bool (decide (x61.number = ((vSealed x17).1).number))) (y_bin rfl rfl rfl bn_eql) rfl rfl rfl rfl (hb58) rfl (by decide) ?_
          refine RunZ.y (y_pickB rfl rfl (hb58) rfl) rfl rfl (by decide) ?_
          exact K58 _ _ (by rw [hb58]; first | (simp; done) | (rw [numAt_of hx61]; simp)) (Sub.tl 8 rfl rfl)
        ·
          have hc1058 := hb58; try simp only [z1, z2, z3, z4, z5, z6, z7, z8, z9, z10, z11, z12, z13, z14, z15, z16] at hc1058
          refine RunZ.no rfl rfl rfl rfl (hb58) rfl (by decide) ?_
          refine RunZ.no rfl rfl rfl rfl (hb58) rfl (by decide) ?_
          refine RunZ.no rfl rfl rfl rfl (hb58) rfl (by decide) ?_
          refine RunZ.no rfl rfl rfl rfl (hb58) rfl (by decide) ?_
          refine RunZ.no rfl rfl rfl rfl (hb58) rfl (by decide) ?_
          refine RunZ.no rfl rfl rfl rfl (hb58) rfl (by decide) ?_
          refine RunZ.no rfl rfl rfl rfl (hb58) rfl (by decide) ?_
          refine RunZ.no rfl rfl rfl rfl (hb58) rfl (by decide) ?_
          refine RunZ.y (y_pickB rfl rfl (hb58) rfl) rfl rfl (by decide) ?_
          exact K58 _ _ (by rw [hb58]; first | (simp; done) | (rw [numAt_of hx61]; simp)) (Sub.tl 8 rfl rfl)
        refine RunZ.nil ?_
        refine RunQ.next ?_
        refine RunC.cond rfl (fun hc3 => ?_) (fun hc3 => ?_)
        ·
          try simp only [z1, z2, z3, z4, z5, z6, z7, z8, z9, z10, z11, z12, z13, z14, z15, z16] at hc3
          refine RunC.exit ?_
          refine RunQ.pass (fun h => by cases h) ?_
          refine RunQ.out ?_
          refine RunQ.next ?_
          refine RunC.region ?_
          refine Run.mv ?_
          refine Run.m (v := .int .i64 ((k : Int) + 1)) (y_bin rfl rfl rfl (bn_add (by omega) (by omega))) ?_
          refine Run.as ?_
          refine Run.nil ?_
          exact RunQ.thenI (fun aa ww hF hS => ⟨_, (by omega), (hInv0 _ _ _).2 ⟨(k + 1), o, Ao, co, clo, J4, ((hJ_le.trans hleJ2).trans hleJ4), (ho.mono (hleJ2.trans hleJ4)), (by omega), (by rw [take_snoc' hx17]; first | (rw [rFind_skip hsk]; exact ho_) | (rw [ho_] at hpos hc3 ⊢; rw [rFind_at hsk hpos, if_pos (by simp only [z1, z2, z3, z4, z5, z6, z7, z8, z9, z10, z11, z12, z13, z14, z15, z16]; omega)]) | (rw [ho_] at hpos hc3 ⊢; rw [rFind_at hsk hpos, if_neg (by simp only [z1, z2, z3, z4, z5, z6, z7, z8, z9, z10, z11, z12, z13, z14, z15, z16]; omega)]; simp)), (by first | omega | (simp; omega)), rfl, hF.sub (Sub.of rfl), hS.sub (perm_self _)⟩⟩)
        ·
          try simp only [z1, z2, z3, z4, z5, z6, z7, z8, z9, z10, z11, z12, z13, z14, z15, z16] at hc3
          refine RunC.skip ?_
          refine RunQ.next ?_
          refine RunC.freezeR 0 rfl (own' := []) rfl (fun J9 hleJ9 hfzJ9 => ?_)
          have hslJ9 : Sl tSeal J9 Ao co o := Sl.of_rowN hfzJ9 rfl rfl (ho.mono ((hleJ2.trans hleJ4).trans hleJ9))
          refine RunC.regionT [11] [] (by kernel_rfl) rfl ?_
          refine RunT.p (v := .slice Ao o.length co) (listed' := #[true, false, false, false, false, false, false, false, false, false, false, false]) 0 rfl (by kernel_rfl) (by kernel_rfl) (by kernel_rfl) rfl (fun _ => ⟨(Imm.le.refl _), (perm_self _)⟩) (y_move rfl rfl) (.plain rfl) rfl (by decide) rfl ?_
          refine RunT.p (v := .int .i64 (q : Int)) (listed' := #[true, true, false, false, false, false, false, false, false, false, false, false]) 1 rfl (by kernel_rfl) (by kernel_rfl) (by kernel_rfl) rfl (fun _ => ⟨(Imm.le.refl _), (perm_self _)⟩) (y_move rfl rfl) (.plain rfl) rfl (by decide) rfl ?_
          obtain ⟨A70_10, hsl10, hcut10⟩ := Sl.cut (P := Tryz.prog) (T := tSeal) Tryz.runUnderlying33 Tryz.sizeOf38 hslJ9 (vl := none) (vh := some (.int .i64 (q : Int))) (l := 0) (m := q) (.inr ⟨rfl, rfl⟩) (.inl rfl) (by omega) (by omega)
          refine RunT.p (v := .slice A70_10 (((o.take q).drop 0).length) (co - 0)) (listed' := #[true, true, true, false, false, false, false, false, false, false, false, false]) 2 rfl (by kernel_rfl) (by kernel_rfl) (by kernel_rfl) rfl (fun _ => ⟨(Imm.le.refl _), (perm_self _)⟩) (y_slice (vl := none) (vh := some (.int .i64 (q : Int))) rfl rfl rfl rfl rfl hsl10) (.plain rfl) rfl (by decide) rfl ?_
          refine RunT.y (v := .agg [.int .i64 (((vSealed x17).1).number), .int .i64 (((vSealed x17).1).index), .int .i64 (((vSealed x17).1).data), .int .i64 (((vSealed x17).1).parity), .slice A2a_4 ((((vSealed x17).1).labels).length) c2a_4].toArray) (listed' := #[true, true, true, false, true, false, false, false, false, false, false, false]) 4 rfl (by kernel_rfl) (by kernel_rfl) (by kernel_rfl) (by kernel_rfl) rfl (Imm.le.refl _) (perm_self _) (y_loadA (cs := [.int .i64 (((vSealed x17).1).number), .int .i64 (((vSealed x17).1).index), .int .i64 (((vSealed x17).1).data), .int .i64 (((vSealed x17).1).parity), .slice A2a_4 ((((vSealed x17).1).labels).length) c2a_4]) rfl Tryz.isAgg38 Tryz.sizeOf38 rfl (show RCells _ _ [.int .i64 (((vSealed x17).1).number), .int .i64 (((vSealed x17).1).index), .int .i64 (((vSealed x17).1).data), .int .i64 (((vSealed x17).1).parity), .slice A2a_4 ((((vSealed x17).1).labels).length) c2a_4] from (hfzJ4.mono hleJ9)) rfl) (.plain rfl) rfl (by decide) rfl ?_
          refine RunT.p (v := .slice Ao o.length co) (listed' := #[true, true, true, false, true, false, false, true, false, false, false, false]) 7 rfl (by kernel_rfl) (by kernel_rfl) (by kernel_rfl) rfl (fun _ => ⟨(Imm.le.refl _), (perm_self _)⟩) (y_move rfl rfl) (.plain rfl) rfl (by decide) rfl ?_
          refine RunT.p (v := .int .i64 (q : Int)) (listed' := #[true, true, true, false, true, false, false, true, true, false, false, false]) 8 rfl (by kernel_rfl) (by kernel_rfl) (by kernel_rfl) rfl (fun _ => ⟨(Imm.le.refl _), (perm_self _)⟩) (y_move rfl rfl) (.plain rfl) rfl (by decide) rfl ?_
          obtain ⟨A77_11, hsl11, hcut11⟩ := Sl.cut (P := Tryz.prog) (T := tSeal) Tryz.runUnderlying33 Tryz.sizeOf38 hslJ9 (vl := some (.int .i64 (q : Int))) (vh := none) (l := q) (m := o.length) (.inl rfl) (.inr ⟨rfl, rfl⟩) (by omega) (by omega)
          refine RunT.p (v := .slice A77_11 (((o.take o.length).drop q).length) (co - q)) (listed' := #[true, true, true, false, true, false, false, true, true, true, false, false]) 9 rfl (by kernel_rfl) (by kernel_rfl) (by kernel_rfl) rfl (fun _ => ⟨(Imm.le.refl _), (perm_self _)⟩) (y_slice (vl := some (.int .i64 (q : Int))) (vh := none) rfl rfl rfl rfl rfl hsl11) (.plain rfl) rfl (by decide) rfl ?_
          refine RunT.step2 (li := #[true, true, true, true, true, false, false, true, true, true, false, false]) (lj := #[true, true, true, false, true, true, false, true, true, true, false, false]) 3 5 rfl rfl (by kernel_rfl) rfl rfl ?_ ?_
          ·
            refine Run.nilrow none 38 5 ?_
            obtain ⟨ys12, hraw12, hya12⟩ := Sl.raw hcut10
            have hall13 : tSeal.all J9 (([]) ++ ys12) ((o.take q).drop 0) := all_append all_nil hya12
            refine Run.append (by_ := 56) (ys := ys12) (k := ((o.take q).drop 0).length) (own' := []) 0 rfl rfl rfl Tryz.runUnderlying33 (.inl Tryz.runUnderlying33) Tryz.sizeOf38 Tryz.typeInfo38 rfl Tryz.zeroValue38 rfl rfl rfl (fun w hS => src_raw hS hraw12) (hya12).1 (all_one hya12) (((o.take q).drop 0).length) (by first | (simp; done) | (simp; omega)) (by simp; omega) (by simp [maxLen]; omega) rfl rfl (by decide) (fun A71_13 c71_13 => ?_)
            refine Run.nil ?_
            refine RunQ.stepEnd (fun _ => ⟨(Imm.le.refl _), (perm_nil _)⟩) ?_
            refine RunT.step (listed' := #[true, true, true, true, true, true, false, true, true, true, false, false]) 5 rfl (by kernel_rfl) rfl ?_
            refine Run.lit (vs := [(0, .agg [.int .i64 (((vSealed x17).1).number), .int .i64 (((vSealed x17).1).index), .int .i64 (((vSealed x17).1).data), .int .i64 (((vSealed x17).1).parity), .slice A2a_4 ((((vSealed x17).1).labels).length) c2a_4].toArray)]) (cs := [.int .i64 (((vSealed x17).1).number), .int .i64 (((vSealed x17).1).index), .int .i64 (((vSealed x17).1).data), .int .i64 (((vSealed x17).1).parity), .slice A2a_4 ((((vSealed x17).1).labels).length) c2a_4]) (el := 38) (sz := 5) rfl rfl (fun w => by simp [Instr.buildSlice, Tryz.runUnderlying33, Tryz.sizeOf38, Tryz.zeroValue38, Instr.fill, Value.cells, newRow, (show Array.range 5 = #[0, 1, 2, 3, 4] from rfl)]) rfl (by simp [maxLen]) rfl rfl (by decide) (fun g73 => ?_)
            refine Run.nil ?_
            refine RunQ.stepEnd (fun _ => ⟨(Imm.le.refl _), (perm_nil _)⟩) ?_
            refine RunT.step (listed' := #[true, true, true, true, true, true, true, true, true, true, false, false]) 6 rfl (by kernel_rfl) rfl ?_
            have hlit14 : tSeal.all J9 [.int .i64 (((vSealed x17).1).number), .int .i64 (((vSealed x17).1).index), .int .i64 (((vSealed x17).1).data), .int .i64 (((vSealed x17).1).parity), .slice A2a_4 ((((vSealed x17).1).labels).length) c2a_4] [((vSealed x17).1)] := (all_snoc (T := tSeal) all_nil ⟨_, _, rfl, f2a_0, f2a_1, f2a_2, f2a_3, (f2a_4.mono (hleJ4.trans hleJ9))⟩)
            have hall15 : tSeal.all J9 ((([]) ++ ys12) ++ ([.int .i64 (((vSealed x17).1).number), .int .i64 (((vSealed x17).1).index), .int .i64 (((vSealed x17).1).data), .int .i64 (((vSealed x17).1).parity), .slice A2a_4 ((((vSealed x17).1).labels).length) c2a_4])) (((o.take q).drop 0) ++ ([((vSealed x17).1)])) := all_append hall13 hlit14
            refine Run.append (by_ := 56) (ys := [.int .i64 (((vSealed x17).1).number), .int .i64 (((vSealed x17).1).index), .int .i64 (((vSealed x17).1).data), .int .i64 (((vSealed x17).1).parity), .slice A2a_4 ((((vSealed x17).1).labels).length) c2a_4]) (k := 1) (own' := [row (.slice (some ⟨g73, 0, none⟩) 1 1) 38 5 ([.int .i64 (((vSealed x17).1).number), .int .i64 (((vSealed x17).1).index), .int .i64 (((vSealed x17).1).data), .int .i64 (((vSealed x17).1).parity), .slice A2a_4 ((((vSealed x17).1).labels).length) c2a_4])]) 1 rfl rfl rfl Tryz.runUnderlying33 (.inl Tryz.runUnderlying33) Tryz.sizeOf38 Tryz.typeInfo38 rfl Tryz.zeroValue38 rfl rfl rfl (fun w hS => src_own hS (i := 0) rfl) (row_len hlit14 (by first | rfl | (simp; done) | (simp; omega)) rfl) (all_one hlit14) ((((o.take q).drop 0) ++ ([((vSealed x17).1)])).length) (by first | (simp; done) | (simp; omega)) (by simp; omega) (by simp [maxLen]; omega) rfl rfl (by decide) (fun A74_15 c74_15 => ?_)
            refine Run.weak Sub.refl (perm_take (i := 0) rfl (perm_nil _)) ?_
            refine Run.nil ?_
            refine RunQ.stepEnd (fun _ => ⟨(Imm.le.refl _), (perm_nil _)⟩) ?_
            refine RunT.step (listed' := #[true, true, true, true, true, true, true, true, true, true, true, false]) 10 rfl (by kernel_rfl) rfl ?_
            obtain ⟨ys16, hraw16, hya16⟩ := Sl.raw hcut11
            have hall17 : tSeal.all J9 (((([]) ++ ys12) ++ ([.int .i64 (((vSealed x17).1).number), .int .i64 (((vSealed x17).1).index), .int .i64 (((vSealed x17).1).data), .int .i64 (((vSealed x17).1).parity), .slice A2a_4 ((((vSealed x17).1).labels).length) c2a_4])) ++ ys16) ((((o.take q).drop 0) ++ ([((vSealed x17).1)])) ++ ((o.take o.length).drop q)) := all_append hall15 hya16
            refine Run.append (by_ := 56) (ys := ys16) (k := ((o.take o.length).drop q).length) (own' := []) 0 rfl rfl rfl Tryz.runUnderlying33 (.inl Tryz.runUnderlying33) Tryz.sizeOf38 Tryz.typeInfo38 rfl Tryz.zeroValue38 rfl rfl rfl (fun w hS => src_raw hS hraw16) (hya16).1 (all_one hya16) (((((o.take q).drop 0) ++ ([((vSealed x17).1)])) ++ ((o.take o.length).drop q)).length) (by first | (simp; done) | (simp; omega)) (by simp; omega) (by simp [maxLen]; omega) rfl rfl (by decide) (fun A78_17 c78_17 => ?_)
            refine Run.nil ?_
            refine RunQ.stepEnd (fun _ => ⟨(Imm.le.refl _), (perm_nil _)⟩) ?_
            refine RunT.step (listed' := #[true, true, true, true, true, true, true, true, true, true, true, true]) 11 rfl (by kernel_rfl) rfl ?_
            refine Run.as ?_
            refine Run.nil ?_
            refine RunQ.stepEnd (fun h => absurd (show false = true from h) Bool.false_ne_true) ?_
            refine RunT.done (by kernel_rfl) ?_
            refine RunQ.inB ?_
            refine RunQ.next ?_
            refine RunC.region ?_
            refine Run.mv ?_
            refine Run.m (v := .int .i64 ((k : Int) + 1)) (y_bin rfl rfl rfl (bn_add (by omega) (by omega))) ?_
            refine Run.as ?_
            refine Run.nil ?_
            exact RunQ.thenI (fun aa ww hF hS => ⟨_, (by omega), (hInv0 _ _ _).2 ⟨(k + 1), ((((o.take q).drop 0) ++ ([((vSealed x17).1)])) ++ ((o.take o.length).drop q)), A78_17, c78_17, ((([]) ++ ys12) ++ ([.int .i64 (((vSealed x17).1).number), .int .i64 (((vSealed x17).1).index), .int .i64 (((vSealed x17).1).data), .int .i64 (((vSealed x17).1).parity), .slice A2a_4 ((((vSealed x17).1).labels).length) c2a_4])) ++ ys16, J9, (((hJ_le.trans hleJ2).trans hleJ4).trans hleJ9), hall17, (by omega), (by rw [take_snoc' hx17]; first | (rw [rFind_skip hsk]; exact ho_) | (rw [ho_] at hpos hc3 ⊢; rw [rFind_at hsk hpos, if_pos (by simp only [z1, z2, z3, z4, z5, z6, z7, z8, z9, z10, z11, z12, z13, z14, z15, z16]; omega)]) | (rw [ho_] at hpos hc3 ⊢; rw [rFind_at hsk hpos, if_neg (by simp only [z1, z2, z3, z4, z5, z6, z7, z8, z9, z10, z11, z12, z13, z14, z15, z16]; omega)]; simp)), (by first | omega | (simp; omega)), rfl, hF.sub (Sub.of rfl), hS.sub (perm_self _)⟩⟩)
          ·
            refine Run.lit (vs := [(0, .agg [.int .i64 (((vSealed x17).1).number), .int .i64 (((vSealed x17).1).index), .int .i64 (((vSealed x17).1).data), .int .i64 (((vSealed x17).1).parity), .slice A2a_4 ((((vSealed x17).1).labels).length) c2a_4].toArray)]) (cs := [.int .i64 (((vSealed x17).1).number), .int .i64 (((vSealed x17).1).index), .int .i64 (((vSealed x17).1).data), .int .i64 (((vSealed x17).1).parity), .slice A2a_4 ((((vSealed x17).1).labels).length) c2a_4]) (el := 38) (sz := 5) rfl rfl (fun w => by simp [Instr.buildSlice, Tryz.runUnderlying33, Tryz.sizeOf38, Tryz.zeroValue38, Instr.fill, Value.cells, newRow, (show Array.range 5 = #[0, 1, 2, 3, 4] from rfl)]) rfl (by simp [maxLen]) rfl rfl (by decide) (fun g73 => ?_)
            refine Run.nil ?_
            refine RunQ.stepEnd (fun _ => ⟨(Imm.le.refl _), (perm_nil _)⟩) ?_
            refine RunT.step (listed' := #[true, true, true, true, true, true, false, true, true, true, false, false]) 3 rfl (by kernel_rfl) rfl ?_
            refine Run.nilrow none 38 5 ?_
            obtain ⟨ys18, hraw18, hya18⟩ := Sl.raw hcut10
            have hall19 : tSeal.all J9 (([]) ++ ys18) ((o.take q).drop 0) := all_append all_nil hya18
            refine Run.append (by_ := 56) (ys := ys18) (k := ((o.take q).drop 0).length) (own' := [row (.slice (some ⟨g73, 0, none⟩) 1 1) 38 5 ([.int .i64 (((vSealed x17).1).number), .int .i64 (((vSealed x17).1).index), .int .i64 (((vSealed x17).1).data), .int .i64 (((vSealed x17).1).parity), .slice A2a_4 ((((vSealed x17).1).labels).length) c2a_4])]) 0 rfl rfl rfl Tryz.runUnderlying33 (.inl Tryz.runUnderlying33) Tryz.sizeOf38 Tryz.typeInfo38 rfl Tryz.zeroValue38 rfl rfl rfl (fun w hS => src_raw hS hraw18) (hya18).1 (all_one hya18) (((o.take q).drop 0).length) (by first | (simp; done) | (simp; omega)) (by simp; omega) (by simp [maxLen]; omega) rfl rfl (by decide) (fun A71_19 c71_19 => ?_)
            refine Run.nil ?_
            refine RunQ.stepEnd (fun _ => ⟨(Imm.le.refl _), (perm_nil _)⟩) ?_
            refine RunT.step (listed' := #[true, true, true, true, true, true, true, true, true, true, false, false]) 6 rfl (by kernel_rfl) rfl ?_
            have hlit20 : tSeal.all J9 [.int .i64 (((vSealed x17).1).number), .int .i64 (((vSealed x17).1).index), .int .i64 (((vSealed x17).1).data), .int .i64 (((vSealed x17).1).parity), .slice A2a_4 ((((vSealed x17).1).labels).length) c2a_4] [((vSealed x17).1)] := (all_snoc (T := tSeal) all_nil ⟨_, _, rfl, f2a_0, f2a_1, f2a_2, f2a_3, (f2a_4.mono (hleJ4.trans hleJ9))⟩)
            have hall21 : tSeal.all J9 ((([]) ++ ys18) ++ ([.int .i64 (((vSealed x17).1).number), .int .i64 (((vSealed x17).1).index), .int .i64 (((vSealed x17).1).data), .int .i64 (((vSealed x17).1).parity), .slice A2a_4 ((((vSealed x17).1).labels).length) c2a_4])) (((o.take q).drop 0) ++ ([((vSealed x17).1)])) := all_append hall19 hlit20
            refine Run.append (by_ := 56) (ys := [.int .i64 (((vSealed x17).1).number), .int .i64 (((vSealed x17).1).index), .int .i64 (((vSealed x17).1).data), .int .i64 (((vSealed x17).1).parity), .slice A2a_4 ((((vSealed x17).1).labels).length) c2a_4]) (k := 1) (own' := [row (.slice (some ⟨g73, 0, none⟩) 1 1) 38 5 ([.int .i64 (((vSealed x17).1).number), .int .i64 (((vSealed x17).1).index), .int .i64 (((vSealed x17).1).data), .int .i64 (((vSealed x17).1).parity), .slice A2a_4 ((((vSealed x17).1).labels).length) c2a_4])]) 0 rfl rfl rfl Tryz.runUnderlying33 (.inl Tryz.runUnderlying33) Tryz.sizeOf38 Tryz.typeInfo38 rfl Tryz.zeroValue38 rfl rfl rfl (fun w hS => src_own hS (i := 1) rfl) (row_len hlit20 (by first | rfl | (simp; done) | (simp; omega)) rfl) (all_one hlit20) ((((o.take q).drop 0) ++ ([((vSealed x17).1)])).length) (by first | (simp; done) | (simp; omega)) (by simp; omega) (by simp [maxLen]; omega) rfl rfl (by decide) (fun A74_21 c74_21 => ?_)
            refine Run.weak Sub.refl (perm_take (i := 0) rfl (perm_nil _)) ?_
            refine Run.nil ?_
            refine RunQ.stepEnd (fun _ => ⟨(Imm.le.refl _), (perm_nil _)⟩) ?_
            refine RunT.step (listed' := #[true, true, true, true, true, true, true, true, true, true, true, false]) 10 rfl (by kernel_rfl) rfl ?_
            obtain ⟨ys22, hraw22, hya22⟩ := Sl.raw hcut11
            have hall23 : tSeal.all J9 (((([]) ++ ys18) ++ ([.int .i64 (((vSealed x17).1).number), .int .i64 (((vSealed x17).1).index), .int .i64 (((vSealed x17).1).data), .int .i64 (((vSealed x17).1).parity), .slice A2a_4 ((((vSealed x17).1).labels).length) c2a_4])) ++ ys22) ((((o.take q).drop 0) ++ ([((vSealed x17).1)])) ++ ((o.take o.length).drop q)) := all_append hall21 hya22
            refine Run.append (by_ := 56) (ys := ys22) (k := ((o.take o.length).drop q).length) (own' := []) 0 rfl rfl rfl Tryz.runUnderlying33 (.inl Tryz.runUnderlying33) Tryz.sizeOf38 Tryz.typeInfo38 rfl Tryz.zeroValue38 rfl rfl rfl (fun w hS => src_raw hS hraw22) (hya22).1 (all_one hya22) (((((o.take q).drop 0) ++ ([((vSealed x17).1)])) ++ ((o.take o.length).drop q)).length) (by first | (simp; done) | (simp; omega)) (by simp; omega) (by simp [maxLen]; omega) rfl rfl (by decide) (fun A78_23 c78_23 => ?_)
            refine Run.nil ?_
            refine RunQ.stepEnd (fun _ => ⟨(Imm.le.refl _), (perm_nil _)⟩) ?_
            refine RunT.step (listed' := #[true, true, true, true, true, true, true, true, true, true, true, true]) 11 rfl (by kernel_rfl) rfl ?_
            refine Run.as ?_
            refine Run.nil ?_
            refine RunQ.stepEnd (fun h => absurd (show false = true from h) Bool.false_ne_true) ?_
            refine RunT.done (by kernel_rfl) ?_
            refine RunQ.inB ?_
            refine RunQ.next ?_
            refine RunC.region ?_
            refine Run.mv ?_
            refine Run.m (v := .int .i64 ((k : Int) + 1)) (y_bin rfl rfl rfl (bn_add (by omega) (by omega))) ?_
            refine Run.as ?_
            refine Run.nil ?_
            exact RunQ.thenI (fun aa ww hF hS => ⟨_, (by omega), (hInv0 _ _ _).2 ⟨(k + 1), ((((o.take q).drop 0) ++ ([((vSealed x17).1)])) ++ ((o.take o.length).drop q)), A78_23, c78_23, ((([]) ++ ys18) ++ ([.int .i64 (((vSealed x17).1).number), .int .i64 (((vSealed x17).1).index), .int .i64 (((vSealed x17).1).data), .int .i64 (((vSealed x17).1).parity), .slice A2a_4 ((((vSealed x17).1).labels).length) c2a_4])) ++ ys22, J9, (((hJ_le.trans hleJ2).trans hleJ4).trans hleJ9), hall23, (by omega), (by rw [take_snoc' hx17]; first | (rw [rFind_skip hsk]; exact ho_) | (rw [ho_] at hpos hc3 ⊢; rw [rFind_at hsk hpos, if_pos (by simp only [z1, z2, z3, z4, z5, z6, z7, z8, z9, z10, z11, z12, z13, z14, z15, z16]; omega)]) | (rw [ho_] at hpos hc3 ⊢; rw [rFind_at hsk hpos, if_neg (by simp only [z1, z2, z3, z4, z5, z6, z7, z8, z9, z10, z11, z12, z13, z14, z15, z16]; omega)]; simp)), (by first | omega | (simp; omega)), rfl, hF.sub (Sub.of rfl), hS.sub (perm_self _)⟩⟩)
  ·
    try simp only [z1, z2, z3, z4, z5, z6, z7, z8, z9, z10, z11, z12, z13, z14, z15, z16] at hc0
    refine RunC.exit ?_
    refine RunQ.pass (fun h => by cases h) ?_
    refine RunQ.pass (fun h => by cases h) ?_
    refine RunQ.out ?_
    refine RunQ.next ?_
    refine RunC.sr ?_
    refine Run.mv ?_
    refine Run.as ?_
    refine Run.nx ?_
    refine RunC.ret ?_
    refine RunQ.freezeR 0 rfl (own' := []) rfl (fun J24 hleJ24 hfzJ24 => ?_)
    have hslJ24 : Sl tSeal J24 Ao co o := Sl.of_rowN hfzJ24 rfl rfl (ho.mono hleJ24)
    refine RunQ.weak Sub.refl (perm_nil _) ?_
    refine RunQ.fin1 (.inl rfl) Tryz.results13 (rv_tmp rfl) ?_
    exact ⟨rfl, _, rfl, (rd_eq (T := (tSl tSeal)) (x := o) ⟨_, _, rfl, hslJ24⟩ (by rw [ho_, List.take_of_length_le (by omega)]))⟩
end Go.Proofs.YtmelbclhkkbmiaaGreat.K
