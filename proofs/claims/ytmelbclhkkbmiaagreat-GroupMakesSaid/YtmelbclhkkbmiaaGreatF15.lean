/- Contracts of functions of the program, each proved by a walk through its operations, for all memory and all arguments that the theorem names. Printed by a program of mine. -/
import Derived.Test.YtmelbclhkkbmiaaGreatF14
set_option linter.unusedVariables false
set_option linter.unusedSimpArgs false
set_option maxRecDepth 100000
namespace Go.Proofs.YtmelbclhkkbmiaaGreat.K
open Go Go.RowKit

theorem c_cartridgeref1_Cauchy (I : Imm) (data : Int) (parity : Int) (h1 : 1 ≤ data) (h2 : 1 ≤ parity) (h3 : data + parity ≤ 14) : Con Tryz.prog 115 [.int .i64 data, .int .i64 parity].toArray I [] (Ret2 ((tSl (tSl tU8)).o) (tInt.o) (mCauchy data.toNat parity parity.toNat) 0) := by
 refine Con.enter (n := 56) (L := [(0, .int .i64 data), (1, .int .i64 parity)]) Tryz.func115 rfl rfl (Nat.le_of_ble_eq_true rfl) rfl (fun E => ?_)
 refine RunC.sr ?_
 refine Run.as ?_
 refine Run.as ?_
 refine Run.nx ?_
 refine RunC.seq ?_
 refine RunC.sr ?_
 refine Run.mv ?_
 refine Run.m (v := .bool (decide (data < 1))) (y_bin rfl rfl rfl bn_lss) ?_
 refine Run.mv ?_
 refine Run.split 3 rfl (b := decide (data < 1)) (d := 15) (v := .bool ((decide (data < 1)) || (decide (parity < 1)))) (fun hb12 K12 => ?_) (fun hb12 K12 => ?_) ?_
 ·
  have hc1012 := hb12; try simp only [z1, z2, z3, z4, z5, z6, z7, z8, z9, z10, z11, z12, z13, z14, z15, z16] at hc1012
  refine Run.no rfl rfl rfl rfl (hb12) rfl (by decide) ?_
  refine Run.no rfl rfl rfl rfl (hb12) rfl (by decide) ?_
  refine Run.y (y_pickB rfl rfl (hb12) rfl) rfl rfl (by decide) ?_
  exact K12 _ _ _ (Imm.le.refl _) (by rw [hb12]; simp) (Sub.tl 2 rfl rfl)
 ·
  have hc1012 := hb12; try simp only [z1, z2, z3, z4, z5, z6, z7, z8, z9, z10, z11, z12, z13, z14, z15, z16] at hc1012
  refine Run.yes (v := .int .i64 parity) (y_move rfl rfl) rfl rfl rfl rfl (hb12) rfl (by decide) ?_
  refine Run.yes (v := .bool (decide (parity < 1))) (y_bin rfl rfl rfl bn_lss) rfl rfl rfl rfl (hb12) rfl (by decide) ?_
  refine Run.y (y_pickB rfl rfl (hb12) rfl) rfl rfl (by decide) ?_
  exact K12 _ _ _ (Imm.le.refl _) (by rw [hb12]; simp) (Sub.tl 2 rfl rfl)
 refine Run.mv ?_
 refine Run.split 3 rfl (b := ((decide (data < 1)) || (decide (parity < 1)))) (d := 19) (v := .bool (((decide (data < 1)) || (decide (parity < 1))) || (decide (data > 255)))) (fun hb16 K16 => ?_) (fun hb16 K16 => ?_) ?_
 ·
  have hc1016 := hb16; try simp only [z1, z2, z3, z4, z5, z6, z7, z8, z9, z10, z11, z12, z13, z14, z15, z16] at hc1016
  refine Run.no rfl rfl rfl rfl (hb16) rfl (by decide) ?_
  refine Run.no rfl rfl rfl rfl (hb16) rfl (by decide) ?_
  refine Run.y (y_pickB rfl rfl (hb16) rfl) rfl rfl (by decide) ?_
  exact K16 _ _ _ (Imm.le.refl _) (by rw [hb16]; simp) (Sub.tl 2 rfl rfl)
 ·
  have hc1016 := hb16; try simp only [z1, z2, z3, z4, z5, z6, z7, z8, z9, z10, z11, z12, z13, z14, z15, z16] at hc1016
  refine Run.yes (v := .int .i64 data) (y_move rfl rfl) rfl rfl rfl rfl (hb16) rfl (by decide) ?_
  refine Run.yes (v := .bool (decide (data > 255))) (y_bin rfl rfl rfl bn_gtr) rfl rfl rfl rfl (hb16) rfl (by decide) ?_
  refine Run.y (y_pickB rfl rfl (hb16) rfl) rfl rfl (by decide) ?_
  exact K16 _ _ _ (Imm.le.refl _) (by rw [hb16]; simp) (Sub.tl 2 rfl rfl)
 refine Run.mv ?_
 refine Run.split 3 rfl (b := (((decide (data < 1)) || (decide (parity < 1))) || (decide (data > 255)))) (d := 23) (v := .bool ((((decide (data < 1)) || (decide (parity < 1))) || (decide (data > 255))) || (decide (parity > 255)))) (fun hb20 K20 => ?_) (fun hb20 K20 => ?_) ?_
 ·
  have hc1020 := hb20; try simp only [z1, z2, z3, z4, z5, z6, z7, z8, z9, z10, z11, z12, z13, z14, z15, z16] at hc1020
  refine Run.no rfl rfl rfl rfl (hb20) rfl (by decide) ?_
  refine Run.no rfl rfl rfl rfl (hb20) rfl (by decide) ?_
  refine Run.y (y_pickB rfl rfl (hb20) rfl) rfl rfl (by decide) ?_
  exact K20 _ _ _ (Imm.le.refl _) (by rw [hb20]; simp) (Sub.tl 2 rfl rfl)
 ·
  have hc1020 := hb20; try simp only [z1, z2, z3, z4, z5, z6, z7, z8, z9, z10, z11, z12, z13, z14, z15, z16] at hc1020
  refine Run.yes (v := .int .i64 parity) (y_move rfl rfl) rfl rfl rfl rfl (hb20) rfl (by decide) ?_
  refine Run.yes (v := .bool (decide (parity > 255))) (y_bin rfl rfl rfl bn_gtr) rfl rfl rfl rfl (hb20) rfl (by decide) ?_
  refine Run.y (y_pickB rfl rfl (hb20) rfl) rfl rfl (by decide) ?_
  exact K20 _ _ _ (Imm.le.refl _) (by rw [hb20]; simp) (Sub.tl 2 rfl rfl)
 refine Run.mv ?_
 refine Run.split 5 rfl (b := ((((decide (data < 1)) || (decide (parity < 1))) || (decide (data > 255))) || (decide (parity > 255)))) (d := 29) (v := .bool (((((decide (data < 1)) || (decide (parity < 1))) || (decide (data > 255))) || (decide (parity > 255))) || (decide (data + parity > 255)))) (fun hb24 K24 => ?_) (fun hb24 K24 => ?_) ?_
 ·
  have hc1024 := hb24; try simp only [z1, z2, z3, z4, z5, z6, z7, z8, z9, z10, z11, z12, z13, z14, z15, z16] at hc1024
  refine Run.no rfl rfl rfl rfl (hb24) rfl (by decide) ?_
  refine Run.no rfl rfl rfl rfl (hb24) rfl (by decide) ?_
  refine Run.no rfl rfl rfl rfl (hb24) rfl (by decide) ?_
  refine Run.no rfl rfl rfl rfl (hb24) rfl (by decide) ?_
  refine Run.y (y_pickB rfl rfl (hb24) rfl) rfl rfl (by decide) ?_
  exact K24 _ _ _ (Imm.le.refl _) (by rw [hb24]; simp) (Sub.tl 4 rfl rfl)
 ·
  have hc1024 := hb24; try simp only [z1, z2, z3, z4, z5, z6, z7, z8, z9, z10, z11, z12, z13, z14, z15, z16] at hc1024
  refine Run.yes (v := .int .i64 data) (y_move rfl rfl) rfl rfl rfl rfl (hb24) rfl (by decide) ?_
  refine Run.yes (v := .int .i64 parity) (y_move rfl rfl) rfl rfl rfl rfl (hb24) rfl (by decide) ?_
  refine Run.yes (v := .int .i64 (data + parity)) (y_bin rfl rfl rfl (bn_add (by omega) (by omega))) rfl rfl rfl rfl (hb24) rfl (by decide) ?_
  refine Run.yes (v := .bool (decide (data + parity > 255))) (y_bin rfl rfl rfl bn_gtr) rfl rfl rfl rfl (hb24) rfl (by decide) ?_
  refine Run.y (y_pickB rfl rfl (hb24) rfl) rfl rfl (by decide) ?_
  exact K24 _ _ _ (Imm.le.refl _) (by rw [hb24]; simp) (Sub.tl 4 rfl rfl)
 refine Run.nx ?_
 refine RunC.cond rfl (fun hc0 => ?_) (fun hc0 => ?_)
 ·
  try simp only [z1, z2, z3, z4, z5, z6, z7, z8, z9, z10, z11, z12, z13, z14, z15, z16] at hc0
  exfalso
  omega
 ·
  skip
  try simp only [z1, z2, z3, z4, z5, z6, z7, z8, z9, z10, z11, z12, z13, z14, z15, z16] at hc0
  refine RunC.skip ?_
  refine RunQ.next ?_
  refine RunC.sr ?_
  refine Run.as ?_
  refine Run.nx ?_
  refine RunC.seq ?_
  refine RunC.sr ?_
  refine Run.as ?_
  refine Run.nx ?_
  refine RunC.block ?_
  refine RunC.nilrow none 42 1 ?_
  obtain ⟨Inv0, hInv0⟩ : ∃ Inv : Nat → Act → World → Prop, ∀ mm aa ww, Inv mm aa ww ↔ (∃ (k : Nat) (o : List (List UInt8)) (Ao : Option Addr) (co : Nat) (clo : List Value) (J : Imm), (I.le J) ∧ ((tSl tU8).all J clo o) ∧ ((k : Int) ≤ parity) ∧ (o = (List.range k).map fun (k : Nat) => (List.range data.toNat).map fun (q : Nat) => ginv (b8 (k : Int) ^^^ b8 (parity + (q : Int)))) ∧ (mm = (parity.toNat - k)) ∧ Frm aa 56 [(0, .int .i64 data), (1, .int .i64 parity), (4, .slice none 0 0), (5, .int .i64 0), (7, .int .i64 (k : Int)), (6, .slice Ao o.length co)] ∧ S E ww J [row (.slice Ao o.length co) 42 1 clo]) := ⟨_, fun _ _ _ => Iff.rfl⟩
  refine RunC.loopX Inv0 (fun aa ww hF hS => ⟨_, (hInv0 _ _ _).2 ⟨0, [], none, 0, [], I, (Imm.le.refl _), all_nil, (by omega), rfl, rfl, hF.sub (Sub.of rfl), hS.sub (perm_self _)⟩⟩) ?_
  intro mm0 aa ww hv
  obtain ⟨k, o, Ao, co, clo, J, hJ_le, ho, hk, ho_, hmm_, hF, hS⟩ := (hInv0 _ _ _).1 hv
  clear hv
  refine RunC.go ?_ hF hS
  clear hF hS aa ww
  refine RunC.seq ?_
  refine RunC.sr ?_
  refine Run.mv ?_
  refine Run.mv ?_
  refine Run.m (v := .bool (decide ((k : Int) < parity))) (y_bin rfl rfl rfl bn_lss) ?_
  refine Run.nx ?_
  refine RunC.cond rfl (fun hc1 => ?_) (fun hc1 => ?_)
  ·
   try simp only [z1, z2, z3, z4, z5, z6, z7, z8, z9, z10, z11, z12, z13, z14, z15, z16] at hc1
   refine RunC.skip ?_
   refine RunQ.next ?_
   refine RunC.seq ?_
   refine RunC.block ?_
   refine RunC.sr ?_
   refine Run.as ?_
   refine Run.nx ?_
   refine RunC.seq ?_
   refine RunC.sr ?_
   refine Run.as ?_
   refine Run.nx ?_
   refine RunC.block ?_
   refine RunC.nilrow none 5 1 ?_
   obtain ⟨Inv1, hInv1⟩ : ∃ Inv : Nat → Act → World → Prop, ∀ mm aa ww, Inv mm aa ww ↔ (∃ (j : Nat) (r : List UInt8) (Ar : Option Addr) (cr : Nat) (clr : List Value) (J2 : Imm), (J.le J2) ∧ (tU8.all J2 clr r) ∧ ((j : Int) ≤ data) ∧ (r = (List.range j).map fun (q : Nat) => ginv (b8 (k : Int) ^^^ b8 (parity + (q : Int)))) ∧ (mm = (data.toNat - j)) ∧ Frm aa 56 [(0, .int .i64 data), (1, .int .i64 parity), (4, .slice none 0 0), (5, .int .i64 0), (7, .int .i64 (k : Int)), (6, .slice Ao o.length co), (30, .int .i64 (k : Int)), (31, .int .i64 parity), (32, .bool (decide ((k : Int) < parity))), (9, .int .i64 (j : Int)), (8, .slice Ar r.length cr)] ∧ S E ww J2 [row (.slice Ar r.length cr) 5 1 clr, row (.slice Ao o.length co) 42 1 clo]) := ⟨_, fun _ _ _ => Iff.rfl⟩
   refine RunC.loopX Inv1 (fun aa ww hF hS => ⟨_, (hInv1 _ _ _).2 ⟨0, [], none, 0, [], J, (Imm.le.refl _), all_nil, (by omega), rfl, rfl, hF.sub (Sub.of rfl), hS.sub (perm_self _)⟩⟩) ?_
   intro mm1 aa ww hv
   obtain ⟨j, r, Ar, cr, clr, J2, hJ2_le, hr, hj, hr_, hmm_, hF, hS⟩ := (hInv1 _ _ _).1 hv
   clear hv
   refine RunC.go ?_ hF hS
   clear hF hS aa ww
   refine RunC.seq ?_
   refine RunC.sr ?_
   refine Run.mv ?_
   refine Run.mv ?_
   refine Run.m (v := .bool (decide ((j : Int) < data))) (y_bin rfl rfl rfl bn_lss) ?_
   refine Run.nx ?_
   refine RunC.cond rfl (fun hc2 => ?_) (fun hc2 => ?_)
   ·
    try simp only [z1, z2, z3, z4, z5, z6, z7, z8, z9, z10, z11, z12, z13, z14, z15, z16] at hc2
    refine RunC.skip ?_
    refine RunQ.next ?_
    refine RunC.seq ?_
    refine RunC.block ?_
    refine RunC.region ?_
    refine Run.mv ?_
    refine Run.mv ?_
    refine Run.m (v := .int .u8 ((b8 (k : Int)).toNat : Int)) (y_conv rfl rfl (cv_int Tryz.underlying3 Tryz.underlying5 (wrapu8 _))) ?_
    refine Run.mv ?_
    refine Run.mv ?_
    refine Run.m (v := .int .i64 (parity + (j : Int))) (y_bin rfl rfl rfl (bn_add (by omega) (by omega))) ?_
    refine Run.m (v := .int .u8 ((b8 (parity + (j : Int))).toNat : Int)) (y_conv rfl rfl (cv_int Tryz.underlying3 Tryz.underlying5 (wrapu8 _))) ?_
    refine Run.m (v := .int .u8 (((b8 (k : Int)) ^^^ (b8 (parity + (j : Int)))).toNat : Int)) (y_bin rfl rfl rfl (bn_xor8 (a := b8 (k : Int)) (b := b8 (parity + (j : Int))))) ?_
    refine Run.callV (en_func rfl Tryz.call145 rfl) (conv_u8 (c_cartridgeref1_Inv _ ((b8 (k : Int)) ^^^ (b8 (parity + (j : Int)))))) rfl rfl (by decide) (fun hI1 => ?_)
    refine Run.lit (vs := [(0, .int .u8 ((rinv ((b8 (k : Int)) ^^^ (b8 (parity + (j : Int))))).toNat : Int))]) (cs := [.int .u8 ((rinv ((b8 (k : Int)) ^^^ (b8 (parity + (j : Int))))).toNat : Int)]) (el := 5) (sz := 1) rfl rfl (fun w => by simp [Instr.buildSlice, Tryz.runUnderlying42, Tryz.sizeOf5, Tryz.zeroValue5, Instr.fill, Value.cells, newRow, (show Array.range 1 = #[0] from rfl)]) rfl (by simp [maxLen]) rfl rfl (by decide) (fun g49 => ?_)
    have hlit2 : tU8.all J2 [.int .u8 ((rinv ((b8 (k : Int)) ^^^ (b8 (parity + (j : Int))))).toNat : Int)] [(rinv ((b8 (k : Int)) ^^^ (b8 (parity + (j : Int)))))] := (all_snoc (T := tU8) all_nil rfl)
    have hall3 : tU8.all J2 (clr ++ ([.int .u8 ((rinv ((b8 (k : Int)) ^^^ (b8 (parity + (j : Int))))).toNat : Int)])) (r ++ ([(rinv ((b8 (k : Int)) ^^^ (b8 (parity + (j : Int)))))])) := all_append hr hlit2
    refine Run.append (by_ := 1) (ys := [.int .u8 ((rinv ((b8 (k : Int)) ^^^ (b8 (parity + (j : Int))))).toNat : Int)]) (k := 1) (own' := [row (.slice (some ⟨g49, 0, none⟩) 1 1) 5 1 ([.int .u8 ((rinv ((b8 (k : Int)) ^^^ (b8 (parity + (j : Int))))).toNat : Int)]), row (.slice Ao o.length co) 42 1 clo]) 1 rfl rfl rfl Tryz.runUnderlying42 (.inl Tryz.runUnderlying42) Tryz.sizeOf5 Tryz.typeInfo5 rfl Tryz.zeroValue5 rfl rfl rfl (fun w hS => src_own hS (i := 0) rfl) (row_len hlit2 (by first | rfl | (simp; done) | (simp; omega)) rfl) (all_one hlit2) ((r ++ ([(rinv ((b8 (k : Int)) ^^^ (b8 (parity + (j : Int)))))])).length) (by first | (simp; done) | (simp; omega)) (by first | (rw [hr_]; simp; omega) | (rw [ho_]; simp; omega)) (by first | (rw [hr_]; simp [maxLen]; omega) | (rw [ho_]; simp [maxLen]; omega)) rfl rfl (by decide) (fun A50_3 c50_3 => ?_)
    refine Run.weak Sub.refl (perm_take (i := 0) rfl (perm_take (i := 1) rfl (perm_nil _))) ?_
    refine Run.as ?_
    refine Run.nil ?_
    refine RunQ.inB ?_
    refine RunQ.next ?_
    refine RunC.region ?_
    refine Run.mv ?_
    refine Run.m (v := .int .i64 ((j : Int) + 1)) (y_bin rfl rfl rfl (bn_add (by omega) (by omega))) ?_
    refine Run.as ?_
    refine Run.nil ?_
    exact RunQ.thenI (fun aa ww hF hS => ⟨_, (by omega), (hInv1 _ _ _).2 ⟨(j + 1), (r ++ ([(rinv ((b8 (k : Int)) ^^^ (b8 (parity + (j : Int)))))])), A50_3, c50_3, clr ++ ([.int .u8 ((rinv ((b8 (k : Int)) ^^^ (b8 (parity + (j : Int))))).toNat : Int)]), J2, hJ2_le, hall3, (by omega), (by rw [List.range_succ, List.map_append, ← hr_, (cau_inv (i := (k : Int)) (p := parity) (q := (j : Int)) (by omega) (by omega) (by omega) (by omega)).1]; rfl), rfl, hF.sub (Sub.of rfl), hS.sub (perm_self _)⟩⟩)
   ·
    try simp only [z1, z2, z3, z4, z5, z6, z7, z8, z9, z10, z11, z12, z13, z14, z15, z16] at hc2
    refine RunC.exit ?_
    refine RunQ.pass (fun h => by cases h) ?_
    refine RunQ.pass (fun h => by cases h) ?_
    refine RunQ.out ?_
    refine RunQ.next ?_
    refine RunC.region ?_
    refine Run.mv ?_
    refine Run.mv ?_
    refine Run.freezeR 0 rfl (own' := [row (.slice Ao o.length co) 42 1 clo]) rfl (fun J4 hleJ4 hfzJ4 => ?_)
    have hslJ4 : Sl tU8 J4 Ar cr r := Sl.of_rowN hfzJ4 rfl rfl (hr.mono hleJ4)
    refine Run.lit (vs := [(0, .slice Ar r.length cr)]) (cs := [.slice Ar r.length cr]) (el := 42) (sz := 1) rfl rfl (fun w => by simp [Instr.buildSlice, Tryz.runUnderlying43, Tryz.sizeOf42, Tryz.zeroValue42, Instr.fill, Value.cells, newRow, (show Array.range 1 = #[0] from rfl)]) rfl (by simp [maxLen]) rfl rfl (by decide) (fun g53 => ?_)
    have hlit5 : (tSl tU8).all J4 [.slice Ar r.length cr] [r] := (all_snoc (T := (tSl tU8)) all_nil ⟨_, _, rfl, hslJ4⟩)
    have hall6 : (tSl tU8).all J4 (clo ++ ([.slice Ar r.length cr])) (o ++ ([r])) := all_append (ho.mono (hJ2_le.trans hleJ4)) hlit5
    refine Run.append (by_ := 24) (ys := [.slice Ar r.length cr]) (k := 1) (own' := [row (.slice (some ⟨g53, 0, none⟩) 1 1) 42 1 ([.slice Ar r.length cr])]) 1 rfl rfl rfl Tryz.runUnderlying43 (.inl Tryz.runUnderlying43) Tryz.sizeOf42 Tryz.typeInfo42 rfl Tryz.zeroValue42 rfl rfl rfl (fun w hS => src_own hS (i := 0) rfl) (row_len hlit5 (by first | rfl | (simp; done) | (simp; omega)) rfl) (all_one hlit5) ((o ++ ([r])).length) (by first | (simp; done) | (simp; omega)) (by first | (rw [hr_]; simp; omega) | (rw [ho_]; simp; omega)) (by first | (rw [hr_]; simp [maxLen]; omega) | (rw [ho_]; simp [maxLen]; omega)) rfl rfl (by decide) (fun A54_6 c54_6 => ?_)
    refine Run.weak Sub.refl (perm_take (i := 0) rfl (perm_nil _)) ?_
    refine Run.as ?_
    refine Run.nil ?_
    refine RunQ.inB ?_
    refine RunQ.next ?_
    refine RunC.region ?_
    refine Run.mv ?_
    refine Run.m (v := .int .i64 ((k : Int) + 1)) (y_bin rfl rfl rfl (bn_add (by omega) (by omega))) ?_
    refine Run.as ?_
    refine Run.nil ?_
    exact RunQ.thenI (fun aa ww hF hS => ⟨_, (by omega), (hInv0 _ _ _).2 ⟨(k + 1), (o ++ ([r])), A54_6, c54_6, clo ++ ([.slice Ar r.length cr]), J4, ((hJ_le.trans hJ2_le).trans hleJ4), hall6, (by omega), (by rw [List.range_succ, List.map_append, ← ho_, hr_, show j = data.toNat from by omega]; rfl), rfl, hF.sub (Sub.of rfl), hS.sub (perm_self _)⟩⟩)
  ·
   try simp only [z1, z2, z3, z4, z5, z6, z7, z8, z9, z10, z11, z12, z13, z14, z15, z16] at hc1
   refine RunC.exit ?_
   refine RunQ.pass (fun h => by cases h) ?_
   refine RunQ.pass (fun h => by cases h) ?_
   refine RunQ.out ?_
   refine RunQ.next ?_
   refine RunC.sr ?_
   refine Run.mv ?_
   refine Run.as ?_
   refine Run.as ?_
   refine Run.nx ?_
   refine RunC.ret ?_
   refine RunQ.freezeR 0 rfl (own' := []) rfl (fun J7 hleJ7 hfzJ7 => ?_)
   have hslJ7 : Sl (tSl tU8) J7 Ao co o := Sl.of_rowN hfzJ7 rfl rfl (ho.mono hleJ7)
   refine RunQ.weak Sub.refl (perm_nil _) ?_
   refine RunQ.fin2 (.inl rfl) Tryz.results115 (rv_tmp rfl) (rv_tmp rfl) ?_
   exact ⟨rfl, _, _, rfl, (rd_eq (T := (tSl (tSl tU8))) (x := o) ⟨_, _, rfl, hslJ7⟩ (by first | (rw [ho_, show k = parity.toNat from by omega]; rfl) | rfl)), (rd_eq (T := tInt) (x := 0) ⟨rfl, (by first | omega | (dsimp only; omega))⟩ (by first | (rw [ho_, show k = parity.toNat from by omega]; rfl) | rfl))⟩

theorem c_cartridgeref1_Encode (I : Imm) {Al : Option Addr} {cl : Nat} (l : List (List UInt8)) (hl : Sl (tSl tU8) I Al cl l) (p : Int) (h1 : 1 ≤ l.length) (h2 : 1 ≤ p) (h3 : (l.length : Int) + p ≤ 14) (hall : ∀ r ∈ l, r.length = 79) : Con Tryz.prog 84 [.slice Al l.length cl, .int .i64 p].toArray I [] (Ret2 ((tSl (tSl tU8)).o) (tInt.o) (eOut l p) 0) := by
 have hsml := hl.small
 refine Con.enter (n := 107) (L := [(0, .slice Al l.length cl), (1, .int .i64 p)]) Tryz.func84 rfl rfl (Nat.le_of_ble_eq_true rfl) rfl (fun E => ?_)
 refine RunC.sr ?_
 refine Run.as ?_
 refine Run.as ?_
 refine Run.nx ?_
 refine RunC.seq ?_
 refine RunC.sr ?_
 refine Run.mv ?_
 refine Run.m (y_len rfl Tryz.runUnderlying43 rfl) ?_
 refine Run.m (v := .bool (decide ((l.length : Int) < 1))) (y_bin rfl rfl rfl bn_lss) ?_
 refine Run.mv ?_
 refine Run.split 3 rfl (b := decide ((l.length : Int) < 1)) (d := 20) (v := .bool ((decide ((l.length : Int) < 1)) || (decide (p < 0)))) (fun hb17 K17 => ?_) (fun hb17 K17 => ?_) ?_
 ·
  have hc1017 := hb17; try simp only [z1, z2, z3, z4, z5, z6, z7, z8, z9, z10, z11, z12, z13, z14, z15, z16] at hc1017
  refine Run.no rfl rfl rfl rfl (hb17) rfl (by decide) ?_
  refine Run.no rfl rfl rfl rfl (hb17) rfl (by decide) ?_
  refine Run.y (y_pickB rfl rfl (hb17) rfl) rfl rfl (by decide) ?_
  exact K17 _ _ _ (Imm.le.refl _) (by rw [hb17]; simp) (Sub.tl 2 rfl rfl)
 ·
  have hc1017 := hb17; try simp only [z1, z2, z3, z4, z5, z6, z7, z8, z9, z10, z11, z12, z13, z14, z15, z16] at hc1017
  refine Run.yes (v := .int .i64 p) (y_move rfl rfl) rfl rfl rfl rfl (hb17) rfl (by decide) ?_
  refine Run.yes (v := .bool (decide (p < 0))) (y_bin rfl rfl rfl bn_lss) rfl rfl rfl rfl (hb17) rfl (by decide) ?_
  refine Run.y (y_pickB rfl rfl (hb17) rfl) rfl rfl (by decide) ?_
  exact K17 _ _ _ (Imm.le.refl _) (by rw [hb17]; simp) (Sub.tl 2 rfl rfl)
 refine Run.mv ?_
 refine Run.split 3 rfl (b := ((decide ((l.length : Int) < 1)) || (decide (p < 0)))) (d := 24) (v := .bool (((decide ((l.length : Int) < 1)) || (decide (p < 0))) || (decide (p > 255)))) (fun hb21 K21 => ?_) (fun hb21 K21 => ?_) ?_
 ·
  have hc1021 := hb21; try simp only [z1, z2, z3, z4, z5, z6, z7, z8, z9, z10, z11, z12, z13, z14, z15, z16] at hc1021
  refine Run.no rfl rfl rfl rfl (hb21) rfl (by decide) ?_
  refine Run.no rfl rfl rfl rfl (hb21) rfl (by decide) ?_
  refine Run.y (y_pickB rfl rfl (hb21) rfl) rfl rfl (by decide) ?_
  exact K21 _ _ _ (Imm.le.refl _) (by rw [hb21]; simp) (Sub.tl 2 rfl rfl)
 ·
  have hc1021 := hb21; try simp only [z1, z2, z3, z4, z5, z6, z7, z8, z9, z10, z11, z12, z13, z14, z15, z16] at hc1021
  refine Run.yes (v := .int .i64 p) (y_move rfl rfl) rfl rfl rfl rfl (hb21) rfl (by decide) ?_
  refine Run.yes (v := .bool (decide (p > 255))) (y_bin rfl rfl rfl bn_gtr) rfl rfl rfl rfl (hb21) rfl (by decide) ?_
  refine Run.y (y_pickB rfl rfl (hb21) rfl) rfl rfl (by decide) ?_
  exact K21 _ _ _ (Imm.le.refl _) (by rw [hb21]; simp) (Sub.tl 2 rfl rfl)
 refine Run.mv ?_
 refine Run.split 6 rfl (b := (((decide ((l.length : Int) < 1)) || (decide (p < 0))) || (decide (p > 255)))) (d := 31) (v := .bool ((((decide ((l.length : Int) < 1)) || (decide (p < 0))) || (decide (p > 255))) || (decide ((l.length : Int) + p > 255)))) (fun hb25 K25 => ?_) (fun hb25 K25 => ?_) ?_
 ·
  have hc1025 := hb25; try simp only [z1, z2, z3, z4, z5, z6, z7, z8, z9, z10, z11, z12, z13, z14, z15, z16] at hc1025
  refine Run.no rfl rfl rfl rfl (hb25) rfl (by decide) ?_
  refine Run.no rfl rfl rfl rfl (hb25) rfl (by decide) ?_
  refine Run.no rfl rfl rfl rfl (hb25) rfl (by decide) ?_
  refine Run.no rfl rfl rfl rfl (hb25) rfl (by decide) ?_
  refine Run.no rfl rfl rfl rfl (hb25) rfl (by decide) ?_
  refine Run.y (y_pickB rfl rfl (hb25) rfl) rfl rfl (by decide) ?_
  exact K25 _ _ _ (Imm.le.refl _) (by rw [hb25]; simp) (Sub.tl 5 rfl rfl)
 ·
  have hc1025 := hb25; try simp only [z1, z2, z3, z4, z5, z6, z7, z8, z9, z10, z11, z12, z13, z14, z15, z16] at hc1025
  refine Run.yes (v := .slice Al l.length cl) (y_move rfl rfl) rfl rfl rfl rfl (hb25) rfl (by decide) ?_
  refine Run.yes (v := .int .i64 (l.length : Int)) (y_len rfl Tryz.runUnderlying43 rfl) rfl rfl rfl rfl (hb25) rfl (by decide) ?_
  refine Run.yes (v := .int .i64 p) (y_move rfl rfl) rfl rfl rfl rfl (hb25) rfl (by decide) ?_
  refine Run.yes (v := .int .i64 ((l.length : Int) + p)) (y_bin rfl rfl rfl (bn_add (by omega) (by omega))) rfl rfl rfl rfl (hb25) rfl (by decide) ?_
  refine Run.yes (v := .bool (decide ((l.length : Int) + p > 255))) (y_bin rfl rfl rfl bn_gtr) rfl rfl rfl rfl (hb25) rfl (by decide) ?_
  refine Run.y (y_pickB rfl rfl (hb25) rfl) rfl rfl (by decide) ?_
  exact K25 _ _ _ (Imm.le.refl _) (by rw [hb25]; simp) (Sub.tl 5 rfl rfl)
 refine Run.nx ?_
 refine RunC.cond rfl (fun hc0 => ?_) (fun hc0 => ?_)
 ·
  try simp only [z1, z2, z3, z4, z5, z6, z7, z8, z9, z10, z11, z12, z13, z14, z15, z16] at hc0
  exfalso
  omega
 ·
  skip
  try simp only [z1, z2, z3, z4, z5, z6, z7, z8, z9, z10, z11, z12, z13, z14, z15, z16] at hc0
  refine RunC.skip ?_
  refine RunQ.next ?_
  refine RunC.seq ?_
  refine RunC.sr ?_
  refine Run.as ?_
  refine Run.nx ?_
  refine RunC.block ?_
  obtain ⟨Inv0, hInv0⟩ : ∃ Inv : Nat → Act → World → Prop, ∀ mm aa ww, Inv mm aa ww ↔ (∃ (k : Nat), (mm = (l.length - k)) ∧ Frm aa 107 [(0, .slice Al l.length cl), (1, .int .i64 p), (6, .int .i64 (k : Int))] ∧ S E ww I []) := ⟨_, fun _ _ _ => Iff.rfl⟩
  refine RunC.loopX Inv0 (fun aa ww hF hS => ⟨_, (hInv0 _ _ _).2 ⟨1, rfl, hF.sub (Sub.of rfl), hS.sub (perm_self _)⟩⟩) ?_
  intro mm0 aa ww hv
  obtain ⟨k, hmm_, hF, hS⟩ := (hInv0 _ _ _).1 hv
  clear hv
  refine RunC.go ?_ hF hS
  clear hF hS aa ww
  refine RunC.seq ?_
  refine RunC.sr ?_
  refine Run.mv ?_
  refine Run.mv ?_
  refine Run.m (y_len rfl Tryz.runUnderlying43 rfl) ?_
  refine Run.m (v := .bool (decide ((k : Int) < (l.length : Int)))) (y_bin rfl rfl rfl bn_lss) ?_
  refine Run.nx ?_
  refine RunC.cond rfl (fun hc1 => ?_) (fun hc1 => ?_)
  ·
   try simp only [z1, z2, z3, z4, z5, z6, z7, z8, z9, z10, z11, z12, z13, z14, z15, z16] at hc1
   refine RunC.skip ?_
   refine RunQ.next ?_
   refine RunC.seq ?_
   refine RunC.block ?_
   refine RunC.seq ?_
   refine RunC.regionD (by kernel_rfl) (by kernel_rfl) ?_
   refine RunZ.y (v := .slice Al l.length cl) (y_move rfl rfl) rfl rfl (by decide) ?_
   refine RunZ.y (v := .int .i64 (k : Int)) (y_move rfl rfl) rfl rfl (by decide) ?_
   obtain ⟨x40, p40_1, cs40_1, hx40, hp40_1, hcs40_1, hrc40_1⟩ := Sl.at_ (P := Tryz.prog) (T := (tSl tU8)) Tryz.runUnderlying43 Tryz.sizeOf42 hl (k := .i64) (i := (k : Int)) (by omega) (by omega)
   replace hx40 : l[k]? = some x40 := hx40
   obtain ⟨A40_1_0, c40_1_0, rfl, f40_1_0⟩ := hcs40_1
   have hsm40_1_0 := f40_1_0.small
   refine RunZ.y (v := .pointer (some p40_1)) (y_index rfl rfl rfl hp40_1) rfl rfl (by decide) ?_
   refine RunZ.y (v := .slice A40_1_0 x40.length c40_1_0) (y_load1 rfl Tryz.isAgg42 rfl (RCells.hd hrc40_1)) rfl rfl (by decide) ?_
   refine RunZ.y (v := .int .i64 (x40.length : Int)) (y_len rfl Tryz.runUnderlying42 rfl) rfl rfl (by decide) ?_
   refine RunZ.y (v := .slice Al l.length cl) (y_move rfl rfl) rfl rfl (by decide) ?_
   obtain ⟨x44, p44_2, cs44_2, hx44, hp44_2, hcs44_2, hrc44_2⟩ := Sl.at_ (P := Tryz.prog) (T := (tSl tU8)) Tryz.runUnderlying43 Tryz.sizeOf42 hl (k := .i64) (i := 0) (by omega) (by omega)
   replace hx44 : l[0]? = some x44 := hx44
   obtain ⟨A44_2_0, c44_2_0, rfl, f44_2_0⟩ := hcs44_2
   have hsm44_2_0 := f44_2_0.small
   refine RunZ.y (v := .pointer (some p44_2)) (y_index rfl rfl rfl hp44_2) rfl rfl (by decide) ?_
   refine RunZ.y (v := .slice A44_2_0 x44.length c44_2_0) (y_load1 rfl Tryz.isAgg42 rfl (RCells.hd hrc44_2)) rfl rfl (by decide) ?_
   refine RunZ.y (v := .int .i64 (x44.length : Int)) (y_len rfl Tryz.runUnderlying42 rfl) rfl rfl (by decide) ?_
   refine RunZ.y (v := .bool (decide ((x40.length : Int) ≠ (x44.length : Int)))) (y_bin rfl rfl rfl bn_neq) rfl rfl (by decide) ?_
   refine RunZ.nil ?_
   refine RunQ.next ?_
   refine RunC.cond rfl (fun hc2 => ?_) (fun hc2 => ?_)
   ·
    try simp only [z1, z2, z3, z4, z5, z6, z7, z8, z9, z10, z11, z12, z13, z14, z15, z16] at hc2
    exfalso
    have e40 := hall _ (List.mem_of_getElem? hx40)
    have e44 := hall _ (List.mem_of_getElem? hx44)
    omega
   ·
    skip
    try simp only [z1, z2, z3, z4, z5, z6, z7, z8, z9, z10, z11, z12, z13, z14, z15, z16] at hc2
    refine RunC.skip ?_
    refine RunQ.inB ?_
    refine RunQ.next ?_
    refine RunC.region ?_
    refine Run.mv ?_
    refine Run.m (v := .int .i64 ((k : Int) + 1)) (y_bin rfl rfl rfl (bn_add (by omega) (by omega))) ?_
    refine Run.as ?_
    refine Run.nil ?_
    exact RunQ.thenI (fun aa ww hF hS => ⟨_, (by omega), (hInv0 _ _ _).2 ⟨(k + 1), rfl, hF.sub (Sub.of rfl), hS.sub (perm_self _)⟩⟩)
  ·
   try simp only [z1, z2, z3, z4, z5, z6, z7, z8, z9, z10, z11, z12, z13, z14, z15, z16] at hc1
   refine RunC.exit ?_
   refine RunQ.pass (fun h => by cases h) ?_
   refine RunQ.pass (fun h => by cases h) ?_
   refine RunQ.out ?_
   refine RunQ.next ?_
   refine RunC.seq ?_
   refine RunC.sr ?_
   refine Run.mv ?_
   refine Run.m (v := .bool (decide (p = 0))) (y_bin rfl rfl rfl bn_eql) ?_
   refine Run.nx ?_
   refine RunC.cond rfl (fun hc3 => ?_) (fun hc3 => ?_)
   ·
    try simp only [z1, z2, z3, z4, z5, z6, z7, z8, z9, z10, z11, z12, z13, z14, z15, z16] at hc3
    exfalso
    omega
   ·
    skip
    try simp only [z1, z2, z3, z4, z5, z6, z7, z8, z9, z10, z11, z12, z13, z14, z15, z16] at hc3
    refine RunC.skip ?_
    refine RunQ.next ?_
    refine RunC.sr ?_
    refine Run.mv ?_
    refine Run.m (y_len rfl Tryz.runUnderlying43 rfl) ?_
    refine Run.mv ?_
    refine Run.call0 (en_func rfl Tryz.call115 rfl) (c_cartridgeref1_Cauchy _ (l.length : Int) p (by omega) (by omega) (by omega)) rfl rfl (by decide) (fun J3 o3 v3 hleJ3 hq3 => ?_)
    obtain ⟨rfl, cs3a, cs3b, rfl, h3a, h3b⟩ := hq3
    replace h3a : (tSl (tSl tU8)).rd J3 cs3a (mCauchy (l.length : Int).toNat p p.toNat) := h3a
    obtain ⟨A3a_0, c3a_0, rfl, f3a_0⟩ := h3a
    have hsm3a_0 := f3a_0.small
    replace h3b : tInt.rd J3 cs3b 0 := h3b
    obtain ⟨rfl, f3b_0⟩ := h3b
    have hml := mCauchy_len (((l.length : Nat) : Int)).toNat p p.toNat
    refine Run.mv ?_
    refine Run.m (y_extract rfl rfl rfl) ?_
    refine Run.m (y_extract rfl rfl rfl) ?_
    refine Run.as ?_
    refine Run.as ?_
    refine Run.nx ?_
    refine RunC.sr ?_
    refine Run.as ?_
    refine Run.nx ?_
    refine RunC.seq ?_
    refine RunC.sr ?_
    refine Run.as ?_
    refine Run.nx ?_
    refine RunC.block ?_
    refine RunC.nilrow none 42 1 ?_
    obtain ⟨Inv1, hInv1⟩ : ∃ Inv : Nat → Act → World → Prop, ∀ mm aa ww, Inv mm aa ww ↔ (∃ (i : Nat) (o : List (List UInt8)) (Ao : Option Addr) (co : Nat) (clo : List Value) (Jo : Imm), (J3.le Jo) ∧ ((tSl tU8).all Jo clo o) ∧ ((i : Int) ≤ p) ∧ (o = (List.range i).map (eRow l p)) ∧ (mm = (p.toNat - i)) ∧ Frm aa 107 [(0, .slice Al l.length cl), (1, .int .i64 p), (7, .slice A3a_0 ((mCauchy (l.length : Int).toNat p p.toNat).length) c3a_0), (10, .int .i64 (i : Int)), (9, .slice Ao o.length co)] ∧ S E ww Jo [row (.slice Ao o.length co) 42 1 clo]) := ⟨_, fun _ _ _ => Iff.rfl⟩
    refine RunC.loopX Inv1 (fun aa ww hF hS => ⟨_, (hInv1 _ _ _).2 ⟨0, ([] : List (List UInt8)), none, 0, [], J3, (Imm.le.refl _), all_nil, (by omega), rfl, rfl, hF.sub (Sub.of rfl), hS.sub (perm_self _)⟩⟩) ?_
    intro mm1 aa ww hv
    obtain ⟨i, o, Ao, co, clo, Jo, hJo_le, ho, hi, ho_, hmm_, hF, hS⟩ := (hInv1 _ _ _).1 hv
    clear hv
    refine RunC.go ?_ hF hS
    clear hF hS aa ww
    refine RunC.seq ?_
    refine RunC.sr ?_
    refine Run.mv ?_
    refine Run.mv ?_
    refine Run.m (v := .bool (decide ((i : Int) < p))) (y_bin rfl rfl rfl bn_lss) ?_
    refine Run.nx ?_
    refine RunC.cond rfl (fun hc4 => ?_) (fun hc4 => ?_)
    ·
     try simp only [z1, z2, z3, z4, z5, z6, z7, z8, z9, z10, z11, z12, z13, z14, z15, z16] at hc4
     refine RunC.skip ?_
     refine RunQ.next ?_
     refine RunC.seq ?_
     refine RunC.block ?_
     refine RunC.sr ?_
     refine Run.mv ?_
     obtain ⟨x63, p63_4, cs63_4, hx63, hp63_4, hcs63_4, hrc63_4⟩ := Sl.at_ (P := Tryz.prog) (T := (tSl tU8)) Tryz.runUnderlying43 Tryz.sizeOf42 (hl.mono (hleJ3.trans hJo_le)) (k := .i64) (i := 0) (by omega) (by omega)
     replace hx63 : l[0]? = some x63 := hx63
     obtain ⟨A63_4_0, c63_4_0, rfl, f63_4_0⟩ := hcs63_4
     have hsm63_4_0 := f63_4_0.small
     have e63 := hall _ (List.mem_of_getElem? hx63)
     refine Run.m (v := .pointer (some p63_4)) (y_index rfl rfl rfl hp63_4) ?_
     refine Run.m (v := .slice A63_4_0 x63.length c63_4_0) (y_load1 rfl Tryz.isAgg42 rfl (RCells.hd hrc63_4)) ?_
     refine Run.m (y_len rfl Tryz.runUnderlying42 rfl) ?_
     refine Run.make (m := x63.length) (k := .i64) rfl rfl rfl (mk_run Tryz.runUnderlying42 Tryz.typeInfo5 (by_ := 1) rfl Tryz.sizeOf5 Tryz.zeroValue5 rfl (by omega) (by omega)) (by simp only [maxLen]; omega) rfl rfl (by decide) (fun g66 => ?_)
     have hall5 : tU8.all Jo (List.replicate x63.length (.int .u8 ((0 : UInt8).toNat : Int))) (List.replicate x63.length ((0 : UInt8) : UInt8)) := all_replicate (by rfl) _
     refine Run.as ?_
     refine Run.nx ?_
     refine RunC.seq ?_
     refine RunC.sr ?_
     refine Run.as ?_
     refine Run.nx ?_
     refine RunC.block ?_
     obtain ⟨Inv2, hInv2⟩ : ∃ Inv : Nat → Act → World → Prop, ∀ mm aa ww, Inv mm aa ww ↔ (∃ (q : Nat) (r : List UInt8) (clr : List Value) (Jr : Imm), (Jo.le Jr) ∧ (tU8.all Jr clr r) ∧ (q ≤ 79) ∧ (r.length = x63.length) ∧ (r.take q = (List.range q).map fun a => cellOf (eM l p) l i a) ∧ (∀ a, q ≤ a → a < 79 → r[a]? = some 0) ∧ (mm = (79 - q)) ∧ Frm aa 107 [(0, .slice Al l.length cl), (1, .int .i64 p), (7, .slice A3a_0 ((mCauchy (l.length : Int).toNat p p.toNat).length) c3a_0), (10, .int .i64 (i : Int)), (9, .slice Ao o.length co), (57, .int .i64 (i : Int)), (58, .int .i64 p), (59, .bool (decide ((i : Int) < p))), (62, .slice Al l.length cl), (63, .pointer (some p63_4)), (64, .slice A63_4_0 x63.length c63_4_0), (65, .int .i64 (x63.length : Int)), (66, .slice (some ⟨g66, 0, none⟩) x63.length x63.length), (11, .slice (some ⟨g66, 0, none⟩) x63.length x63.length), (12, .int .i64 (q : Int))] ∧ S E ww Jr [row (.slice (some ⟨g66, 0, none⟩) x63.length x63.length) 5 1 clr, row (.slice Ao o.length co) 42 1 clo]) := ⟨_, fun _ _ _ => Iff.rfl⟩
     refine RunC.loopX Inv2 (fun aa ww hF hS => ⟨_, (hInv2 _ _ _).2 ⟨0, (List.replicate x63.length ((0 : UInt8) : UInt8)), (List.replicate x63.length (.int .u8 ((0 : UInt8).toNat : Int))), Jo, (Imm.le.refl _), hall5, (by omega), (by simp), (by simp), (by intro a _ ha; rw [List.getElem?_replicate, if_pos (by omega)]), rfl, hF.sub (Sub.of rfl), hS.sub (perm_self _)⟩⟩) ?_
     intro mm2 aa ww hv
     obtain ⟨q, r, clr, Jr, hJr_le, hr, hq, hrl, hrt, hrz, hmm_, hF, hS⟩ := (hInv2 _ _ _).1 hv
     clear hv
     refine RunC.go ?_ hF hS
     clear hF hS aa ww
     refine RunC.seq ?_
     refine RunC.sr ?_
     refine Run.mv ?_
     refine Run.mv ?_
     refine Run.m (y_len rfl Tryz.runUnderlying42 rfl) ?_
     refine Run.m (v := .bool (decide ((q : Int) < (x63.length : Int)))) (y_bin rfl rfl rfl bn_lss) ?_
     refine Run.nx ?_
     refine RunC.cond rfl (fun hc5 => ?_) (fun hc5 => ?_)
     ·
      try simp only [z1, z2, z3, z4, z5, z6, z7, z8, z9, z10, z11, z12, z13, z14, z15, z16] at hc5
      refine RunC.skip ?_
      refine RunQ.next ?_
      refine RunC.seq ?_
      refine RunC.block ?_
      refine RunC.sr ?_
      refine Run.as ?_
      refine Run.nx ?_
      refine RunC.block ?_
      obtain ⟨Inv3, hInv3⟩ : ∃ Inv : Nat → Act → World → Prop, ∀ mm aa ww, Inv mm aa ww ↔ (∃ (j : Nat) (w : List UInt8) (clw : List Value) (Jw : Imm), (Jr.le Jw) ∧ (tU8.all Jw clw w) ∧ (j ≤ l.length) ∧ (w.length = x63.length) ∧ (w = r.set q (dotP ((eM l p).getD i []) (colOf l q) j)) ∧ (mm = (l.length - j)) ∧ Frm aa 107 [(0, .slice Al l.length cl), (1, .int .i64 p), (7, .slice A3a_0 ((mCauchy (l.length : Int).toNat p p.toNat).length) c3a_0), (10, .int .i64 (i : Int)), (9, .slice Ao o.length co), (57, .int .i64 (i : Int)), (58, .int .i64 p), (59, .bool (decide ((i : Int) < p))), (62, .slice Al l.length cl), (63, .pointer (some p63_4)), (64, .slice A63_4_0 x63.length c63_4_0), (65, .int .i64 (x63.length : Int)), (66, .slice (some ⟨g66, 0, none⟩) x63.length x63.length), (11, .slice (some ⟨g66, 0, none⟩) x63.length x63.length), (12, .int .i64 (q : Int)), (67, .int .i64 (q : Int)), (68, .slice (some ⟨g66, 0, none⟩) x63.length x63.length), (69, .int .i64 (x63.length : Int)), (70, .bool (decide ((q : Int) < (x63.length : Int)))), (13, .int .i64 (j : Int))] ∧ S E ww Jw [row (.slice (some ⟨g66, 0, none⟩) x63.length x63.length) 5 1 clw, row (.slice Ao o.length co) 42 1 clo]) := ⟨_, fun _ _ _ => Iff.rfl⟩
      refine RunC.loopX Inv3 (fun aa ww hF hS => ⟨_, (hInv3 _ _ _).2 ⟨0, r, clr, Jr, (Imm.le.refl _), hr, (by omega), hrl, (by rw [show dotP ((eM l p).getD i []) (colOf l q) 0 = 0 from by simp [dotP]]; exact (set_same (hrz q (Nat.le_refl _) (by omega))).symm), rfl, hF.sub (Sub.of rfl), hS.sub (perm_self _)⟩⟩) ?_
      intro mm3 aa ww hv
      obtain ⟨j, w, clw, Jw, hJw_le, hw, hj, hwl, hw_, hmm_, hF, hS⟩ := (hInv3 _ _ _).1 hv
      clear hv
      refine RunC.go ?_ hF hS
      clear hF hS aa ww
      refine RunC.seq ?_
      refine RunC.sr ?_
      refine Run.mv ?_
      refine Run.mv ?_
      refine Run.m (y_len rfl Tryz.runUnderlying43 rfl) ?_
      refine Run.m (v := .bool (decide ((j : Int) < (l.length : Int)))) (y_bin rfl rfl rfl bn_lss) ?_
      refine Run.nx ?_
      refine RunC.cond rfl (fun hc6 => ?_) (fun hc6 => ?_)
      ·
       try simp only [z1, z2, z3, z4, z5, z6, z7, z8, z9, z10, z11, z12, z13, z14, z15, z16] at hc6
       refine RunC.skip ?_
       refine RunQ.next ?_
       refine RunC.seq ?_
       refine RunC.block ?_
       refine RunC.regionT [23] [row (.slice (some ⟨g66, 0, none⟩) x63.length x63.length) 5 1 clw, row (.slice Ao o.length co) 42 1 clo] (by kernel_rfl) rfl ?_
       refine RunT.p (v := .slice (some ⟨g66, 0, none⟩) x63.length x63.length) (listed' := #[true, false, false, false, false, false, false, false, false, false, false, false, false, false, false, false, false, false, false, false, false, false, false, false]) 0 rfl (by kernel_rfl) (by kernel_rfl) (by kernel_rfl) rfl (fun _ => ⟨(Imm.le.refl _), (perm_self _)⟩) (y_move rfl rfl) (.plain rfl) rfl (by decide) rfl ?_
       refine RunT.p (v := .int .i64 (q : Int)) (listed' := #[true, true, false, false, false, false, false, false, false, false, false, false, false, false, false, false, false, false, false, false, false, false, false, false]) 1 rfl (by kernel_rfl) (by kernel_rfl) (by kernel_rfl) rfl (fun _ => ⟨(Imm.le.refl _), (perm_self _)⟩) (y_move rfl rfl) (.plain rfl) rfl (by decide) rfl ?_
       refine RunT.p (v := .slice (some ⟨g66, 0, none⟩) x63.length x63.length) (listed' := #[true, true, true, false, false, false, false, false, false, false, false, false, false, false, false, false, false, false, false, false, false, false, false, false]) 2 rfl (by kernel_rfl) (by kernel_rfl) (by kernel_rfl) rfl (fun _ => ⟨(Imm.le.refl _), (perm_self _)⟩) (y_move rfl rfl) (.plain rfl) rfl (by decide) rfl ?_
       refine RunT.p (v := .int .i64 (q : Int)) (listed' := #[true, true, true, true, false, false, false, false, false, false, false, false, false, false, false, false, false, false, false, false, false, false, false, false]) 3 rfl (by kernel_rfl) (by kernel_rfl) (by kernel_rfl) rfl (fun _ => ⟨(Imm.le.refl _), (perm_self _)⟩) (y_move rfl rfl) (.plain rfl) rfl (by decide) rfl ?_
       obtain ⟨x83, hx83⟩ : ∃ x, w[q]? = some x := ⟨_, List.getElem?_eq_getElem (by first | exact (by omega) | omega | (simp; omega))⟩
       obtain ⟨cs83_6, hcs83_6, htk83_6, hgt83_6⟩ := all_get hw hx83
       obtain rfl := hcs83_6
       refine RunT.y (v := .pointer (some (pt (some ⟨g66, 0, none⟩) (q * 1)))) (listed' := #[true, true, true, true, true, false, false, false, false, false, false, false, false, false, false, false, false, false, false, false, false, false, false, false]) 4 rfl (by kernel_rfl) (by kernel_rfl) (by kernel_rfl) (by kernel_rfl) rfl (Imm.le.refl _) (perm_self _) (y_indexR (q := (q : Int)) 0 rfl rfl rfl Tryz.runUnderlying42 Tryz.sizeOf5 rfl (by omega) (by omega)) (.plain rfl) rfl (by decide) rfl ?_
       refine RunT.y (v := .int .u8 (x83.toNat : Int)) (listed' := #[true, true, true, true, true, true, false, false, false, false, false, false, false, false, false, false, false, false, false, false, false, false, false, false]) 5 rfl (by kernel_rfl) (by kernel_rfl) (by kernel_rfl) (by kernel_rfl) rfl (Imm.le.refl _) (perm_self _) (y_loadR1 0 rfl Tryz.isAgg5 rfl rfl (hgt83_6 0 _ rfl)) (.plain rfl) rfl (by decide) rfl ?_
       refine RunT.p (v := .slice A3a_0 ((mCauchy (l.length : Int).toNat p p.toNat).length) c3a_0) (listed' := #[true, true, true, true, true, true, true, false, false, false, false, false, false, false, false, false, false, false, false, false, false, false, false, false]) 6 rfl (by kernel_rfl) (by kernel_rfl) (by kernel_rfl) rfl (fun _ => ⟨(Imm.le.refl _), (perm_self _)⟩) (y_move rfl rfl) (.plain rfl) rfl (by decide) rfl ?_
       refine RunT.p (v := .int .i64 (i : Int)) (listed' := #[true, true, true, true, true, true, true, true, false, false, false, false, false, false, false, false, false, false, false, false, false, false, false, false]) 7 rfl (by kernel_rfl) (by kernel_rfl) (by kernel_rfl) rfl (fun _ => ⟨(Imm.le.refl _), (perm_self _)⟩) (y_move rfl rfl) (.plain rfl) rfl (by decide) rfl ?_
       obtain ⟨x87, p87_7, cs87_7, hx87, hp87_7, hcs87_7, hrc87_7⟩ := Sl.at_ (P := Tryz.prog) (T := (tSl tU8)) Tryz.runUnderlying43 Tryz.sizeOf42 (f3a_0.mono ((hJo_le.trans hJr_le).trans hJw_le)) (k := .i64) (i := (i : Int)) (by omega) (by omega)
       replace hx87 : (mCauchy (l.length : Int).toNat p p.toNat)[i]? = some x87 := hx87
       obtain ⟨A87_7_0, c87_7_0, rfl, f87_7_0⟩ := hcs87_7
       have hsm87_7_0 := f87_7_0.small
       have e87 : x87.length = l.length := mCauchy_row (List.mem_of_getElem? hx87)
       refine RunT.p (v := .pointer (some p87_7)) (listed' := #[true, true, true, true, true, true, true, true, true, false, false, false, false, false, false, false, false, false, false, false, false, false, false, false]) 8 rfl (by kernel_rfl) (by kernel_rfl) (by kernel_rfl) rfl (fun _ => ⟨(Imm.le.refl _), (perm_self _)⟩) (y_index rfl rfl rfl hp87_7) (.plain rfl) rfl (by decide) rfl ?_
       refine RunT.y (v := .slice A87_7_0 x87.length c87_7_0) (listed' := #[true, true, true, true, true, true, true, true, true, true, false, false, false, false, false, false, false, false, false, false, false, false, false, false]) 9 rfl (by kernel_rfl) (by kernel_rfl) (by kernel_rfl) (by kernel_rfl) rfl (Imm.le.refl _) (perm_self _) (y_load1 rfl Tryz.isAgg42 rfl (RCells.hd hrc87_7)) (.plain rfl) rfl (by decide) rfl ?_
       refine RunT.p (v := .int .i64 (j : Int)) (listed' := #[true, true, true, true, true, true, true, true, true, true, true, false, false, false, false, false, false, false, false, false, false, false, false, false]) 10 rfl (by kernel_rfl) (by kernel_rfl) (by kernel_rfl) rfl (fun _ => ⟨(Imm.le.refl _), (perm_self _)⟩) (y_move rfl rfl) (.plain rfl) rfl (by decide) rfl ?_
       obtain ⟨x90, p90_8, cs90_8, hx90, hp90_8, hcs90_8, hrc90_8⟩ := Sl.at_ (P := Tryz.prog) (T := tU8) Tryz.runUnderlying42 Tryz.sizeOf5 f87_7_0 (k := .i64) (i := (j : Int)) (by omega) (by omega)
       replace hx90 : x87[j]? = some x90 := hx90
       obtain rfl := hcs90_8
       have hmi : (eM l p)[i]? = some x87 := hx87
       have hri : ((eM l p).getD i [])[j]? = some x90 := by rw [List.getD_eq_getElem?_getD, hmi]; exact hx90
       refine RunT.p (v := .pointer (some p90_8)) (listed' := #[true, true, true, true, true, true, true, true, true, true, true, true, false, false, false, false, false, false, false, false, false, false, false, false]) 11 rfl (by kernel_rfl) (by kernel_rfl) (by kernel_rfl) rfl (fun _ => ⟨(Imm.le.refl _), (perm_self _)⟩) (y_index rfl rfl rfl hp90_8) (.plain rfl) rfl (by decide) rfl ?_
       refine RunT.y (v := .int .u8 (x90.toNat : Int)) (listed' := #[true, true, true, true, true, true, true, true, true, true, true, true, true, false, false, false, false, false, false, false, false, false, false, false]) 12 rfl (by kernel_rfl) (by kernel_rfl) (by kernel_rfl) (by kernel_rfl) rfl (Imm.le.refl _) (perm_self _) (y_load1 rfl Tryz.isAgg5 rfl (RCells.hd hrc90_8)) (.plain rfl) rfl (by decide) rfl ?_
       refine RunT.p (v := .slice Al l.length cl) (listed' := #[true, true, true, true, true, true, true, true, true, true, true, true, true, true, false, false, false, false, false, false, false, false, false, false]) 13 rfl (by kernel_rfl) (by kernel_rfl) (by kernel_rfl) rfl (fun _ => ⟨(Imm.le.refl _), (perm_self _)⟩) (y_move rfl rfl) (.plain rfl) rfl (by decide) rfl ?_
       refine RunT.p (v := .int .i64 (j : Int)) (listed' := #[true, true, true, true, true, true, true, true, true, true, true, true, true, true, true, false, false, false, false, false, false, false, false, false]) 14 rfl (by kernel_rfl) (by kernel_rfl) (by kernel_rfl) rfl (fun _ => ⟨(Imm.le.refl _), (perm_self _)⟩) (y_move rfl rfl) (.plain rfl) rfl (by decide) rfl ?_
       obtain ⟨x94, p94_9, cs94_9, hx94, hp94_9, hcs94_9, hrc94_9⟩ := Sl.at_ (P := Tryz.prog) (T := (tSl tU8)) Tryz.runUnderlying43 Tryz.sizeOf42 (hl.mono (((hleJ3.trans hJo_le).trans hJr_le).trans hJw_le)) (k := .i64) (i := (j : Int)) (by omega) (by omega)
       replace hx94 : l[j]? = some x94 := hx94
       obtain ⟨A94_9_0, c94_9_0, rfl, f94_9_0⟩ := hcs94_9
       have hsm94_9_0 := f94_9_0.small
       have e94 := hall _ (List.mem_of_getElem? hx94)
       refine RunT.p (v := .pointer (some p94_9)) (listed' := #[true, true, true, true, true, true, true, true, true, true, true, true, true, true, true, true, false, false, false, false, false, false, false, false]) 15 rfl (by kernel_rfl) (by kernel_rfl) (by kernel_rfl) rfl (fun _ => ⟨(Imm.le.refl _), (perm_self _)⟩) (y_index rfl rfl rfl hp94_9) (.plain rfl) rfl (by decide) rfl ?_
       refine RunT.y (v := .slice A94_9_0 x94.length c94_9_0) (listed' := #[true, true, true, true, true, true, true, true, true, true, true, true, true, true, true, true, true, false, false, false, false, false, false, false]) 16 rfl (by kernel_rfl) (by kernel_rfl) (by kernel_rfl) (by kernel_rfl) rfl (Imm.le.refl _) (perm_self _) (y_load1 rfl Tryz.isAgg42 rfl (RCells.hd hrc94_9)) (.plain rfl) rfl (by decide) rfl ?_
       refine RunT.p (v := .int .i64 (q : Int)) (listed' := #[true, true, true, true, true, true, true, true, true, true, true, true, true, true, true, true, true, true, false, false, false, false, false, false]) 17 rfl (by kernel_rfl) (by kernel_rfl) (by kernel_rfl) rfl (fun _ => ⟨(Imm.le.refl _), (perm_self _)⟩) (y_move rfl rfl) (.plain rfl) rfl (by decide) rfl ?_
       obtain ⟨x97, p97_10, cs97_10, hx97, hp97_10, hcs97_10, hrc97_10⟩ := Sl.at_ (P := Tryz.prog) (T := tU8) Tryz.runUnderlying42 Tryz.sizeOf5 f94_9_0 (k := .i64) (i := (q : Int)) (by omega) (by omega)
       replace hx97 : x94[q]? = some x97 := hx97
       obtain rfl := hcs97_10
       refine RunT.p (v := .pointer (some p97_10)) (listed' := #[true, true, true, true, true, true, true, true, true, true, true, true, true, true, true, true, true, true, true, false, false, false, false, false]) 18 rfl (by kernel_rfl) (by kernel_rfl) (by kernel_rfl) rfl (fun _ => ⟨(Imm.le.refl _), (perm_self _)⟩) (y_index rfl rfl rfl hp97_10) (.plain rfl) rfl (by decide) rfl ?_
       refine RunT.y (v := .int .u8 (x97.toNat : Int)) (listed' := #[true, true, true, true, true, true, true, true, true, true, true, true, true, true, true, true, true, true, true, true, false, false, false, false]) 19 rfl (by kernel_rfl) (by kernel_rfl) (by kernel_rfl) (by kernel_rfl) rfl (Imm.le.refl _) (perm_self _) (y_load1 rfl Tryz.isAgg5 rfl (RCells.hd hrc97_10)) (.plain rfl) rfl (by decide) rfl ?_
       refine RunT.step (listed' := #[true, true, true, true, true, true, true, true, true, true, true, true, true, true, true, true, true, true, true, true, true, false, false, false]) 20 rfl (by kernel_rfl) rfl ?_
       refine Run.callV (en_func rfl Tryz.call116 rfl) (conv_u8 (c_cartridgeref1_Mul _ x90 x97)) rfl rfl (by decide) (fun hI11 => ?_)
       refine Run.nil ?_
       refine RunQ.stepEnd (fun _ => ⟨(Imm.le.refl _), (perm_self _)⟩) ?_
       refine RunT.p (v := .int .u8 ((x83 ^^^ (rmul x90 x97)).toNat : Int)) (listed' := #[true, true, true, true, true, true, true, true, true, true, true, true, true, true, true, true, true, true, true, true, true, true, false, false]) 21 rfl (by kernel_rfl) (by kernel_rfl) (by kernel_rfl) rfl (fun _ => ⟨(Imm.le.refl _), (perm_self _)⟩) (y_bin rfl rfl rfl (bn_xor8 (a := x83) (b := (rmul x90 x97)))) (.plain rfl) rfl (by decide) rfl ?_
       obtain ⟨x101, hx101⟩ : ∃ x, w[q]? = some x := ⟨_, List.getElem?_eq_getElem (by first | exact (by omega) | omega | (simp; omega))⟩
       obtain ⟨cs101_12, hcs101_12, htk101_12, hgt101_12⟩ := all_get hw hx101
       obtain rfl := hcs101_12
       refine RunT.y (v := .pointer (some (pt (some ⟨g66, 0, none⟩) (q * 1)))) (listed' := #[true, true, true, true, true, true, true, true, true, true, true, true, true, true, true, true, true, true, true, true, true, true, true, false]) 22 rfl (by kernel_rfl) (by kernel_rfl) (by kernel_rfl) (by kernel_rfl) rfl (Imm.le.refl _) (perm_self _) (y_indexR (q := (q : Int)) 0 rfl rfl rfl Tryz.runUnderlying42 Tryz.sizeOf5 rfl (by omega) (by omega)) (.plain rfl) rfl (by decide) rfl ?_
       refine RunT.step (listed' := #[true, true, true, true, true, true, true, true, true, true, true, true, true, true, true, true, true, true, true, true, true, true, true, true]) 23 rfl (by kernel_rfl) rfl ?_
       have hset13 : tU8.rd Jw [.int .u8 ((x83 ^^^ (rmul x90 x97)).toNat : Int)] (x83 ^^^ (rmul x90 x97)) := rfl
       have hall13 := all_set (k := q) hw (List.getElem?_eq_some_iff.1 hx101).1 hset13
       refine Run.storeR (vs := [.int .u8 ((x83 ^^^ (rmul x90 x97)).toNat : Int)]) (xs' := (clw.take (q * 1) ++ [.int .u8 ((x83 ^^^ (rmul x90 x97)).toNat : Int)] ++ clw.drop (q * 1 + 1))) (own' := [row (.slice Ao o.length co) 42 1 clo]) 0 rfl rfl rfl Tryz.sizeOf5 rfl rfl (by decide) rfl rfl rfl (row_room (vs := [.int .u8 ((x83 ^^^ (rmul x90 x97)).toNat : Int)]) hw (List.getElem?_eq_some_iff.1 hx101).1 rfl) rfl rfl rfl ?_
       refine Run.nil ?_
       refine RunQ.stepEnd (fun h => absurd (show false = true from h) Bool.false_ne_true) ?_
       refine RunT.done (by kernel_rfl) ?_
       refine RunQ.inB ?_
       refine RunQ.next ?_
       refine RunC.region ?_
       refine Run.mv ?_
       refine Run.m (v := .int .i64 ((j : Int) + 1)) (y_bin rfl rfl rfl (bn_add (by omega) (by omega))) ?_
       refine Run.as ?_
       refine Run.nil ?_
       exact RunQ.thenI (fun aa ww hF hS => ⟨_, (by omega), (hInv3 _ _ _).2 ⟨(j + 1), (w.set q (x83 ^^^ (rmul x90 x97))), (clw.take (q * 1) ++ [.int .u8 ((x83 ^^^ (rmul x90 x97)).toNat : Int)] ++ clw.drop (q * 1 + 1)), Jw, hJw_le, hall13, (by omega), (by simp; omega), (by rw [hw_, List.set_set, dotP_succ hri (col_at hx94 hx97), ← small_mul (cau_mem hmi hx90 (by omega))]; rw [hw_, List.getElem?_set_self (by omega)] at hx83; rw [Option.some.inj hx83]), rfl, hF.sub (Sub.of rfl), hS.sub (perm_self _)⟩⟩)
      ·
       try simp only [z1, z2, z3, z4, z5, z6, z7, z8, z9, z10, z11, z12, z13, z14, z15, z16] at hc6
       refine RunC.exit ?_
       refine RunQ.pass (fun h => by cases h) ?_
       refine RunQ.pass (fun h => by cases h) ?_
       refine RunQ.out ?_
       refine RunQ.inB ?_
       refine RunQ.next ?_
       refine RunC.region ?_
       refine Run.mv ?_
       refine Run.m (v := .int .i64 ((q : Int) + 1)) (y_bin rfl rfl rfl (bn_add (by omega) (by omega))) ?_
       refine Run.as ?_
       refine Run.nil ?_
       exact RunQ.thenI (fun aa ww hF hS => ⟨_, (by omega), (hInv2 _ _ _).2 ⟨(q + 1), w, clw, Jw, (hJr_le.trans hJw_le), hw, (by omega), (by omega), (by rw [hw_, set_take (by omega), hrt, List.range_succ, List.map_append, List.map_singleton, cell_eq (by omega), show j = l.length from by omega]), (by intro a h1 h2; rw [hw_, List.getElem?_set_ne (by omega)]; exact hrz a (by omega) h2), rfl, hF.sub (Sub.of rfl), hS.sub (perm_self _)⟩⟩)
     ·
      try simp only [z1, z2, z3, z4, z5, z6, z7, z8, z9, z10, z11, z12, z13, z14, z15, z16] at hc5
      refine RunC.exit ?_
      refine RunQ.pass (fun h => by cases h) ?_
      refine RunQ.pass (fun h => by cases h) ?_
      refine RunQ.out ?_
      refine RunQ.next ?_
      refine RunC.region ?_
      refine Run.mv ?_
      refine Run.mv ?_
      refine Run.freezeR 0 rfl (own' := [row (.slice Ao o.length co) 42 1 clo]) rfl (fun J14 hleJ14 hfzJ14 => ?_)
      have hslJ14 : Sl tU8 J14 (some ⟨g66, 0, none⟩) x63.length r := Sl.of_rowN hfzJ14 hrl rfl (hr.mono hleJ14)
      refine Run.cast (s := 66) (v' := .slice (some ⟨g66, 0, none⟩) r.length x63.length) rfl (congrArg (fun n => Value.slice (some ⟨g66, 0, none⟩) n x63.length) (show x63.length = _ from (show r.length = x63.length from hrl).symm)) ?_
      refine Run.cast (s := 11) (v' := .slice (some ⟨g66, 0, none⟩) r.length x63.length) rfl (congrArg (fun n => Value.slice (some ⟨g66, 0, none⟩) n x63.length) (show x63.length = _ from (show r.length = x63.length from hrl).symm)) ?_
      refine Run.cast (s := 68) (v' := .slice (some ⟨g66, 0, none⟩) r.length x63.length) rfl (congrArg (fun n => Value.slice (some ⟨g66, 0, none⟩) n x63.length) (show x63.length = _ from (show r.length = x63.length from hrl).symm)) ?_
      refine Run.cast (s := 103) (v' := .slice (some ⟨g66, 0, none⟩) r.length x63.length) rfl (congrArg (fun n => Value.slice (some ⟨g66, 0, none⟩) n x63.length) (show x63.length = _ from (show r.length = x63.length from hrl).symm)) ?_
      refine Run.lit (vs := [(0, .slice (some ⟨g66, 0, none⟩) r.length x63.length)]) (cs := [.slice (some ⟨g66, 0, none⟩) r.length x63.length]) (el := 42) (sz := 1) rfl rfl (fun w => by simp [Instr.buildSlice, Tryz.runUnderlying43, Tryz.sizeOf42, Tryz.zeroValue42, Instr.fill, Value.cells, newRow, (show Array.range 1 = #[0] from rfl)]) rfl (by simp [maxLen]) rfl rfl (by decide) (fun g104 => ?_)
      have hlit15 : (tSl tU8).all J14 [.slice (some ⟨g66, 0, none⟩) r.length x63.length] [r] := (all_snoc (T := (tSl tU8)) all_nil ⟨_, _, rfl, hslJ14⟩)
      have hall16 : (tSl tU8).all J14 (clo ++ ([.slice (some ⟨g66, 0, none⟩) r.length x63.length])) (o ++ ([r])) := all_append (ho.mono (hJr_le.trans hleJ14)) hlit15
      refine Run.append (by_ := 24) (ys := [.slice (some ⟨g66, 0, none⟩) r.length x63.length]) (k := 1) (own' := [row (.slice (some ⟨g104, 0, none⟩) 1 1) 42 1 ([.slice (some ⟨g66, 0, none⟩) r.length x63.length])]) 1 rfl rfl rfl Tryz.runUnderlying43 (.inl Tryz.runUnderlying43) Tryz.sizeOf42 Tryz.typeInfo42 rfl Tryz.zeroValue42 rfl rfl rfl (fun w hS => src_own hS (i := 0) rfl) (row_len hlit15 (by first | rfl | (simp; done) | (simp; omega)) rfl) (all_one hlit15) ((o ++ ([r])).length) (by first | (simp; done) | (simp; omega)) (by rw [ho_]; simp; omega) (by rw [ho_]; simp [maxLen]; omega) rfl rfl (by decide) (fun A105_16 c105_16 => ?_)
      refine Run.weak Sub.refl (perm_take (i := 0) rfl (perm_nil _)) ?_
      refine Run.as ?_
      refine Run.nil ?_
      refine RunQ.inB ?_
      refine RunQ.next ?_
      refine RunC.region ?_
      refine Run.mv ?_
      refine Run.m (v := .int .i64 ((i : Int) + 1)) (y_bin rfl rfl rfl (bn_add (by omega) (by omega))) ?_
      refine Run.as ?_
      refine Run.nil ?_
      exact RunQ.thenI (fun aa ww hF hS => ⟨_, (by omega), (hInv1 _ _ _).2 ⟨(i + 1), (o ++ ([r])), A105_16, c105_16, clo ++ ([.slice (some ⟨g66, 0, none⟩) r.length x63.length]), J14, ((hJo_le.trans hJr_le).trans hleJ14), hall16, (by omega), (by rw [List.range_succ, List.map_append, ← ho_, List.map_singleton, eRow, ← show q = 79 from by omega, ← hrt, List.take_of_length_le (by omega)]), rfl, hF.sub (Sub.of rfl), hS.sub (perm_self _)⟩⟩)
    ·
     try simp only [z1, z2, z3, z4, z5, z6, z7, z8, z9, z10, z11, z12, z13, z14, z15, z16] at hc4
     refine RunC.exit ?_
     refine RunQ.pass (fun h => by cases h) ?_
     refine RunQ.pass (fun h => by cases h) ?_
     refine RunQ.out ?_
     refine RunQ.next ?_
     refine RunC.sr ?_
     refine Run.mv ?_
     refine Run.as ?_
     refine Run.as ?_
     refine Run.nx ?_
     refine RunC.ret ?_
     refine RunQ.freezeR 0 rfl (own' := []) rfl (fun J17 hleJ17 hfzJ17 => ?_)
     have hslJ17 : Sl (tSl tU8) J17 Ao co o := Sl.of_rowN hfzJ17 rfl rfl (ho.mono hleJ17)
     refine RunQ.weak Sub.refl (perm_nil _) ?_
     refine RunQ.fin2 (.inl rfl) Tryz.results84 (rv_tmp rfl) (rv_tmp rfl) ?_
     exact ⟨rfl, _, _, rfl, (rd_eq (T := (tSl (tSl tU8))) (x := o) ⟨_, _, rfl, hslJ17⟩ (by first | (rw [ho_, show i = p.toNat from by omega]; rfl) | rfl)), (rd_eq (T := tInt) (x := 0) ⟨rfl, (by first | omega | (dsimp only; omega))⟩ (by first | (rw [ho_, show i = p.toNat from by omega]; rfl) | rfl))⟩
end Go.Proofs.YtmelbclhkkbmiaaGreat.K
