/- Contracts of functions of the program, each proved by a walk through its operations, for all memory and all arguments that the theorem names. Printed by a program of mine. -/
import Derived.Test.YtmelbclhkkbmiaaGreatF8
import Derived.Test.YtmelbclhkkbmiaaGreatK15
set_option linter.unusedVariables false
set_option linter.unusedSimpArgs false
set_option maxRecDepth 100000
namespace Go.Proofs.YtmelbclhkkbmiaaGreat.K
open Go Go.RowKit

theorem c_cartridgeref10_StripeLen (I : Imm) {Al : Option Addr} {cl : Nat} (l : List ATape) (hl : Sl tTape I Al cl l) : Con Tryz.prog 31 [.slice Al l.length cl].toArray I [] (Ret1 (tInt.o) (tLenL l)) := by
 have hsml := hl.small
 refine Con.enter (n := 34) (L := [(0, .slice Al l.length cl)]) Tryz.func31 rfl rfl (Nat.le_of_ble_eq_true rfl) rfl (fun E => ?_)
 refine RunC.sr ?_
 refine Run.as ?_
 refine Run.nx ?_
 refine RunC.sr ?_
 refine Run.as ?_
 refine Run.nx ?_
 refine RunC.seq ?_
 refine RunC.sr ?_
 refine Run.as ?_
 refine Run.nx ?_
 refine RunC.block ?_
 obtain ⟨Inv0, hInv0⟩ : ∃ Inv : Nat → Act → World → Prop, ∀ mm aa ww, Inv mm aa ww ↔ (∃ (k : Nat) (n1 : Int), (k ≤ l.length) ∧ (I64 n1) ∧ (n1 = tLenL (l.take k)) ∧ (mm = (l.length - k)) ∧ Frm aa 34 [(0, .slice Al l.length cl), (2, .int .i64 0), (4, .int .i64 (k : Int)), (3, .int .i64 n1)] ∧ S E ww I []) := ⟨_, fun _ _ _ => Iff.rfl⟩
 refine RunC.loopX Inv0 (fun aa ww hF hS => ⟨_, (hInv0 _ _ _).2 ⟨0, 0, (by omega), (by decide), (by simp [tLenL]), rfl, hF.sub (Sub.of rfl), hS.sub (perm_self _)⟩⟩) ?_
 intro mm0 aa ww hv
 obtain ⟨k, n1, hk, hi1, hn1, hmm_, hF, hS⟩ := (hInv0 _ _ _).1 hv
 clear hv
 refine RunC.go ?_ hF hS
 clear hF hS aa ww
 refine RunC.seq ?_
 refine RunC.sr ?_
 refine Run.mv ?_
 refine Run.mv ?_
 refine Run.m (y_len rfl Tryz.runUnderlying22 rfl) ?_
 refine Run.m (v := .bool (decide ((k : Int) < (l.length : Int)))) (y_bin rfl rfl rfl bn_lss) ?_
 refine Run.nx ?_
 refine RunC.cond rfl (fun hc0 => ?_) (fun hc0 => ?_)
 ·
  try simp only [z1, z2, z3, z4, z5, z6, z7, z8, z9, z10, z11, z12, z13, z14, z15, z16] at hc0
  refine RunC.skip ?_
  refine RunQ.next ?_
  refine RunC.seq ?_
  refine RunC.block ?_
  refine RunC.sr ?_
  refine Run.mv ?_
  refine Run.mv ?_
  obtain ⟨x13, p13_1, cs13_1, hx13, hp13_1, hcs13_1, hrc13_1⟩ := Sl.at_ (P := Tryz.prog) (T := tTape) Tryz.runUnderlying22 Tryz.sizeOf45 hl (k := .i64) (i := (k : Int)) (by omega) (by omega)
  replace hx13 : l[k]? = some x13 := hx13
  obtain ⟨A13_1_2, c13_1_2, rfl, f13_1_0, f13_1_1, f13_1_2⟩ := hcs13_1
  have hsm13_1_2 := f13_1_2.small
  refine Run.m (v := .pointer (some p13_1)) (y_index rfl rfl rfl hp13_1) ?_
  refine Run.m (v := .pointer (some (p13_1.add 3))) (y_fieldAddr rfl rfl Tryz.runUnderlying45 rfl Tryz.sizeOf4 (by decide) rfl) ?_
  refine Run.m (v := .bool x13.lost) (y_load1 rfl Tryz.isAgg4 rfl (RCells.at_ hrc13_1 3 rfl rfl)) ?_
  refine Run.m (v := .bool (!x13.lost)) (y_not (b := x13.lost) rfl rfl) ?_
  refine Run.mv ?_
  refine Run.split 9 rfl (b := (!x13.lost)) (d := 26) (v := .bool ((!x13.lost) && (decide ((x13.blocks.length : Int) > n1)))) (fun hb17 K17 => ?_) (fun hb17 K17 => ?_) ?_
  ·
   have hc1017 := hb17; try simp only [z1, z2, z3, z4, z5, z6, z7, z8, z9, z10, z11, z12, z13, z14, z15, z16] at hc1017
   refine Run.yes (v := .slice Al l.length cl) (y_move rfl rfl) rfl rfl rfl rfl (hb17) rfl (by decide) ?_
   refine Run.yes (v := .int .i64 (k : Int)) (y_move rfl rfl) rfl rfl rfl rfl (hb17) rfl (by decide) ?_
   obtain ⟨x20, p20_2, cs20_2, hx20, hp20_2, hcs20_2, hrc20_2⟩ := Sl.at_ (P := Tryz.prog) (T := tTape) Tryz.runUnderlying22 Tryz.sizeOf45 hl (k := .i64) (i := (k : Int)) (by omega) (by omega)
   replace hx20 : l[k]? = some x20 := hx20
   obtain ⟨A20_2_2, c20_2_2, rfl, f20_2_0, f20_2_1, f20_2_2⟩ := hcs20_2
   have hsm20_2_2 := f20_2_2.small
   refine Run.yes (v := .pointer (some p20_2)) (y_index rfl rfl rfl hp20_2) rfl rfl rfl rfl (hb17) rfl (by decide) ?_
   refine Run.yes (v := .pointer (some (p20_2.add 2))) (y_fieldAddr rfl rfl Tryz.runUnderlying45 rfl Tryz.sizeOf43 (by decide) rfl) rfl rfl rfl rfl (hb17) rfl (by decide) ?_
   refine Run.yes (v := .slice A20_2_2 x20.blocks.length c20_2_2) (y_load1 rfl Tryz.isAgg43 rfl (RCells.at_ hrc20_2 2 rfl rfl)) rfl rfl rfl rfl (hb17) rfl (by decide) ?_
   refine Run.yes (v := .int .i64 (x20.blocks.length : Int)) (y_len rfl Tryz.runUnderlying43 rfl) rfl rfl rfl rfl (hb17) rfl (by decide) ?_
   refine Run.yes (v := .int .i64 n1) (y_move rfl rfl) rfl rfl rfl rfl (hb17) rfl (by decide) ?_
   refine Run.yes (v := .bool (decide ((x20.blocks.length : Int) > n1))) (y_bin rfl rfl rfl bn_gtr) rfl rfl rfl rfl (hb17) rfl (by decide) ?_
   refine Run.y (y_pickB rfl rfl (hb17) rfl) rfl rfl (by decide) ?_
   exact K17 _ _ _ (Imm.le.refl _) (by rw [hb17]; first | (simp; done) | (have e9 : x20 = x13 := Option.some.inj (hx20.symm.trans hx13); rw [e9]; simp)) (Sub.tl 8 rfl rfl)
  ·
   have hc1017 := hb17; try simp only [z1, z2, z3, z4, z5, z6, z7, z8, z9, z10, z11, z12, z13, z14, z15, z16] at hc1017
   refine Run.no rfl rfl rfl rfl (hb17) rfl (by decide) ?_
   refine Run.no rfl rfl rfl rfl (hb17) rfl (by decide) ?_
   refine Run.no rfl rfl rfl rfl (hb17) rfl (by decide) ?_
   refine Run.no rfl rfl rfl rfl (hb17) rfl (by decide) ?_
   refine Run.no rfl rfl rfl rfl (hb17) rfl (by decide) ?_
   refine Run.no rfl rfl rfl rfl (hb17) rfl (by decide) ?_
   refine Run.no rfl rfl rfl rfl (hb17) rfl (by decide) ?_
   refine Run.no rfl rfl rfl rfl (hb17) rfl (by decide) ?_
   refine Run.y (y_pickB rfl rfl (hb17) rfl) rfl rfl (by decide) ?_
   exact K17 _ _ _ (Imm.le.refl _) (by rw [hb17]; first | (simp; done) | (have e9 : x20 = x13 := Option.some.inj (hx20.symm.trans hx13); rw [e9]; simp)) (Sub.tl 8 rfl rfl)
  refine Run.nx ?_
  refine RunC.cond rfl (fun hc1 => ?_) (fun hc1 => ?_)
  ·
   try simp only [z1, z2, z3, z4, z5, z6, z7, z8, z9, z10, z11, z12, z13, z14, z15, z16] at hc1
   refine RunC.region ?_
   refine Run.mv ?_
   refine Run.mv ?_
   obtain ⟨x29, p29_3, cs29_3, hx29, hp29_3, hcs29_3, hrc29_3⟩ := Sl.at_ (P := Tryz.prog) (T := tTape) Tryz.runUnderlying22 Tryz.sizeOf45 hl (k := .i64) (i := (k : Int)) (by omega) (by omega)
   replace hx29 : l[k]? = some x29 := hx29
   obtain ⟨A29_3_2, c29_3_2, rfl, f29_3_0, f29_3_1, f29_3_2⟩ := hcs29_3
   have hsm29_3_2 := f29_3_2.small
   refine Run.m (v := .pointer (some p29_3)) (y_index rfl rfl rfl hp29_3) ?_
   refine Run.m (v := .pointer (some (p29_3.add 2))) (y_fieldAddr rfl rfl Tryz.runUnderlying45 rfl Tryz.sizeOf43 (by decide) rfl) ?_
   refine Run.m (v := .slice A29_3_2 x29.blocks.length c29_3_2) (y_load1 rfl Tryz.isAgg43 rfl (RCells.at_ hrc29_3 2 rfl rfl)) ?_
   refine Run.m (y_len rfl Tryz.runUnderlying43 rfl) ?_
   refine Run.as ?_
   refine Run.nil ?_
   refine RunQ.inB ?_
   refine RunQ.next ?_
   refine RunC.region ?_
   refine Run.mv ?_
   refine Run.m (v := .int .i64 ((k : Int) + 1)) (y_bin rfl rfl rfl (bn_add (by omega) (by omega))) ?_
   refine Run.as ?_
   refine Run.nil ?_
   exact RunQ.thenI (fun aa ww hF hS => ⟨_, (by omega), (hInv0 _ _ _).2 ⟨(k + 1), (x29.blocks.length : Int), (by omega), (by first | exact hi1 | omega), (by rw [take_snoc' hx13, tLenL_snoc, ← hn1]; first | (have e1 : x29 = x13 := Option.some.inj (hx29.symm.trans hx13); rw [e1, if_neg (by rw [hc1.1]; simp)]; omega) | (rcases hc1 with h | h <;> (split <;> first | rfl | omega | (simp_all; done)))), rfl, hF.sub (Sub.of rfl), hS.sub (perm_self _)⟩⟩)
  ·
   try simp only [z1, z2, z3, z4, z5, z6, z7, z8, z9, z10, z11, z12, z13, z14, z15, z16] at hc1
   refine RunC.skip ?_
   refine RunQ.inB ?_
   refine RunQ.next ?_
   refine RunC.region ?_
   refine Run.mv ?_
   refine Run.m (v := .int .i64 ((k : Int) + 1)) (y_bin rfl rfl rfl (bn_add (by omega) (by omega))) ?_
   refine Run.as ?_
   refine Run.nil ?_
   exact RunQ.thenI (fun aa ww hF hS => ⟨_, (by omega), (hInv0 _ _ _).2 ⟨(k + 1), n1, (by omega), (by first | exact hi1 | omega), (by rw [take_snoc' hx13, tLenL_snoc, ← hn1]; first | (have e1 : x29 = x13 := Option.some.inj (hx29.symm.trans hx13); rw [e1, if_neg (by rw [hc1.1]; simp)]; omega) | (rcases hc1 with h | h <;> (split <;> first | rfl | omega | (simp_all; done)))), rfl, hF.sub (Sub.of rfl), hS.sub (perm_self _)⟩⟩)
 ·
  try simp only [z1, z2, z3, z4, z5, z6, z7, z8, z9, z10, z11, z12, z13, z14, z15, z16] at hc0
  refine RunC.exit ?_
  refine RunQ.pass (fun h => by cases h) ?_
  refine RunQ.pass (fun h => by cases h) ?_
  refine RunQ.out ?_
  refine RunQ.next ?_
  refine RunC.sr ?_
  refine Run.mv ?_
  refine Run.as ?_
  refine Run.nx ?_
  refine RunC.ret ?_
  refine RunQ.weak Sub.refl (perm_nil _) ?_
  refine RunQ.fin1 (.inl rfl) Tryz.results31 (rv_tmp rfl) ?_
  exact ⟨rfl, _, rfl, (rd_eq (T := tInt) (x := n1) ⟨rfl, (by first | omega | (dsimp only; omega))⟩ (by rw [hn1, List.take_of_length_le (by omega)]))⟩

theorem c_cartridgeref10_Row (I : Imm) {Al : Option Addr} {cl : Nat} (l : List ATape) (hl : Sl tTape I Al cl l) (n : Int) (hn : I64 n) (hsz : l.length ≤ 1000000) : Con Tryz.prog 83 [.slice Al l.length cl, .int .i64 n].toArray I [] (Ret1 ((tSl (tSl tU8)).o) (tRow l n)) := by
 have hsml := hl.small
 refine Con.enter (n := 64) (L := [(0, .slice Al l.length cl), (1, .int .i64 n)]) Tryz.func83 rfl rfl (Nat.le_of_ble_eq_true rfl) rfl (fun E => ?_)
 refine RunC.sr ?_
 refine Run.as ?_
 refine Run.nx ?_
 refine RunC.sr ?_
 refine Run.as ?_
 refine Run.nx ?_
 refine RunC.seq ?_
 refine RunC.sr ?_
 refine Run.as ?_
 refine Run.nx ?_
 refine RunC.block ?_
 refine RunC.nilrow none 42 1 ?_
 obtain ⟨Inv0, hInv0⟩ : ∃ Inv : Nat → Act → World → Prop, ∀ mm aa ww, Inv mm aa ww ↔ (∃ (k : Nat) (out : List (List UInt8)) (Aout : Option Addr) (cout : Nat) (clout : List Value) (Jo : Imm), (I.le Jo) ∧ ((tSl tU8).all Jo clout out) ∧ (k ≤ l.length) ∧ (out = (l.take k).map fun t => tCell t n) ∧ (mm = (l.length - k)) ∧ Frm aa 64 [(0, .slice Al l.length cl), (1, .int .i64 n), (4, .slice none 0 0), (6, .int .i64 (k : Int)), (5, .slice Aout out.length cout)] ∧ S E ww Jo [row (.slice Aout out.length cout) 42 1 clout]) := ⟨_, fun _ _ _ => Iff.rfl⟩
 refine RunC.loopX Inv0 (fun aa ww hF hS => ⟨_, (hInv0 _ _ _).2 ⟨0, [], none, 0, [], I, (Imm.le.refl _), all_nil, (by omega), (by simp), rfl, hF.sub (Sub.of rfl), hS.sub (perm_self _)⟩⟩) ?_
 intro mm0 aa ww hv
 obtain ⟨k, out, Aout, cout, clout, Jo, hJo_le, hout, hk, ho, hmm_, hF, hS⟩ := (hInv0 _ _ _).1 hv
 clear hv
 refine RunC.go ?_ hF hS
 clear hF hS aa ww
 refine RunC.seq ?_
 refine RunC.sr ?_
 refine Run.mv ?_
 refine Run.mv ?_
 refine Run.m (y_len rfl Tryz.runUnderlying22 rfl) ?_
 refine Run.m (v := .bool (decide ((k : Int) < (l.length : Int)))) (y_bin rfl rfl rfl bn_lss) ?_
 refine Run.nx ?_
 refine RunC.cond rfl (fun hc0 => ?_) (fun hc0 => ?_)
 ·
  try simp only [z1, z2, z3, z4, z5, z6, z7, z8, z9, z10, z11, z12, z13, z14, z15, z16] at hc0
  refine RunC.skip ?_
  refine RunQ.next ?_
  refine RunC.seq ?_
  refine RunC.block ?_
  refine RunC.block ?_
  refine RunC.sr ?_
  refine Run.mv ?_
  refine Run.mv ?_
  obtain ⟨x19, p19_1, cs19_1, hx19, hp19_1, hcs19_1, hrc19_1⟩ := Sl.at_ (P := Tryz.prog) (T := tTape) Tryz.runUnderlying22 Tryz.sizeOf45 (hl.mono hJo_le) (k := .i64) (i := (k : Int)) (by omega) (by omega)
  replace hx19 : l[k]? = some x19 := hx19
  obtain ⟨A19_1_2, c19_1_2, rfl, f19_1_0, f19_1_1, f19_1_2⟩ := hcs19_1
  have hsm19_1_2 := f19_1_2.small
  refine Run.m (v := .pointer (some p19_1)) (y_index rfl rfl rfl hp19_1) ?_
  refine Run.m (v := .pointer (some (p19_1.add 3))) (y_fieldAddr rfl rfl Tryz.runUnderlying45 rfl Tryz.sizeOf4 (by decide) rfl) ?_
  refine Run.m (v := .bool x19.lost) (y_load1 rfl Tryz.isAgg4 rfl (RCells.at_ hrc19_1 3 rfl rfl)) ?_
  refine Run.mv ?_
  refine Run.split 3 rfl (b := x19.lost) (d := 25) (v := .bool (x19.lost || (decide (n < 0)))) (fun hb22 K22 => ?_) (fun hb22 K22 => ?_) ?_
  ·
   have hc1022 := hb22; try simp only [z1, z2, z3, z4, z5, z6, z7, z8, z9, z10, z11, z12, z13, z14, z15, z16] at hc1022
   refine Run.no rfl rfl rfl rfl (hb22) rfl (by decide) ?_
   refine Run.no rfl rfl rfl rfl (hb22) rfl (by decide) ?_
   refine Run.y (y_pickB rfl rfl (hb22) rfl) rfl rfl (by decide) ?_
   exact K22 _ _ _ (Imm.le.refl _) (by rw [hb22]; simp) (Sub.tl 2 rfl rfl)
  ·
   have hc1022 := hb22; try simp only [z1, z2, z3, z4, z5, z6, z7, z8, z9, z10, z11, z12, z13, z14, z15, z16] at hc1022
   refine Run.yes (v := .int .i64 n) (y_move rfl rfl) rfl rfl rfl rfl (hb22) rfl (by decide) ?_
   refine Run.yes (v := .bool (decide (n < 0))) (y_bin rfl rfl rfl bn_lss) rfl rfl rfl rfl (hb22) rfl (by decide) ?_
   refine Run.y (y_pickB rfl rfl (hb22) rfl) rfl rfl (by decide) ?_
   exact K22 _ _ _ (Imm.le.refl _) (by rw [hb22]; simp) (Sub.tl 2 rfl rfl)
  refine Run.mv ?_
  refine Run.split 9 rfl (b := (x19.lost || (decide (n < 0)))) (d := 35) (v := .bool ((x19.lost || (decide (n < 0))) || (decide (n ≥ (x19.blocks.length : Int))))) (fun hb26 K26 => ?_) (fun hb26 K26 => ?_) ?_
  ·
   have hc1026 := hb26; try simp only [z1, z2, z3, z4, z5, z6, z7, z8, z9, z10, z11, z12, z13, z14, z15, z16] at hc1026
   refine Run.no rfl rfl rfl rfl (hb26) rfl (by decide) ?_
   refine Run.no rfl rfl rfl rfl (hb26) rfl (by decide) ?_
   refine Run.no rfl rfl rfl rfl (hb26) rfl (by decide) ?_
   refine Run.no rfl rfl rfl rfl (hb26) rfl (by decide) ?_
   refine Run.no rfl rfl rfl rfl (hb26) rfl (by decide) ?_
   refine Run.no rfl rfl rfl rfl (hb26) rfl (by decide) ?_
   refine Run.no rfl rfl rfl rfl (hb26) rfl (by decide) ?_
   refine Run.no rfl rfl rfl rfl (hb26) rfl (by decide) ?_
   refine Run.y (y_pickB rfl rfl (hb26) rfl) rfl rfl (by decide) ?_
   exact K26 _ _ _ (Imm.le.refl _) (by rw [hb26]; first | (simp; done) | (have e9 : x30 = x19 := Option.some.inj (hx30.symm.trans hx19); rw [e9]; simp)) (Sub.tl 8 rfl rfl)
  ·
   have hc1026 := hb26; try simp only [z1, z2, z3, z4, z5, z6, z7, z8, z9, z10, z11, z12, z13, z14, z15, z16] at hc1026
   refine Run.yes (v := .int .i64 n) (y_move rfl rfl) rfl rfl rfl rfl (hb26) rfl (by decide) ?_
   refine Run.yes (v := .slice Al l.length cl) (y_move rfl rfl) rfl rfl rfl rfl (hb26) rfl (by decide) ?_
   refine Run.yes (v := .int .i64 (k : Int)) (y_move rfl rfl) rfl rfl rfl rfl (hb26) rfl (by decide) ?_
   obtain ⟨x30, p30_2, cs30_2, hx30, hp30_2, hcs30_2, hrc30_2⟩ := Sl.at_ (P := Tryz.prog) (T := tTape) Tryz.runUnderlying22 Tryz.sizeOf45 (hl.mono hJo_le) (k := .i64) (i := (k : Int)) (by omega) (by omega)
   replace hx30 : l[k]? = some x30 := hx30
   obtain ⟨A30_2_2, c30_2_2, rfl, f30_2_0, f30_2_1, f30_2_2⟩ := hcs30_2
   have hsm30_2_2 := f30_2_2.small
   refine Run.yes (v := .pointer (some p30_2)) (y_index rfl rfl rfl hp30_2) rfl rfl rfl rfl (hb26) rfl (by decide) ?_
   refine Run.yes (v := .pointer (some (p30_2.add 2))) (y_fieldAddr rfl rfl Tryz.runUnderlying45 rfl Tryz.sizeOf43 (by decide) rfl) rfl rfl rfl rfl (hb26) rfl (by decide) ?_
   refine Run.yes (v := .slice A30_2_2 x30.blocks.length c30_2_2) (y_load1 rfl Tryz.isAgg43 rfl (RCells.at_ hrc30_2 2 rfl rfl)) rfl rfl rfl rfl (hb26) rfl (by decide) ?_
   refine Run.yes (v := .int .i64 (x30.blocks.length : Int)) (y_len rfl Tryz.runUnderlying43 rfl) rfl rfl rfl rfl (hb26) rfl (by decide) ?_
   refine Run.yes (v := .bool (decide (n ≥ (x30.blocks.length : Int)))) (y_bin rfl rfl rfl bn_geq) rfl rfl rfl rfl (hb26) rfl (by decide) ?_
   refine Run.y (y_pickB rfl rfl (hb26) rfl) rfl rfl (by decide) ?_
   exact K26 _ _ _ (Imm.le.refl _) (by rw [hb26]; first | (simp; done) | (have e9 : x30 = x19 := Option.some.inj (hx30.symm.trans hx19); rw [e9]; simp)) (Sub.tl 8 rfl rfl)
  refine Run.as ?_
  refine Run.nx ?_
  refine RunC.cond rfl (fun hc1 => ?_) (fun hc1 => ?_)
  ·
   try simp only [z1, z2, z3, z4, z5, z6, z7, z8, z9, z10, z11, z12, z13, z14, z15, z16] at hc1
   refine RunC.region ?_
   refine Run.mv ?_
   refine Run.make (m := 79) (k := .i64) rfl rfl rfl (mk_run Tryz.runUnderlying42 Tryz.typeInfo5 (by_ := 1) rfl Tryz.sizeOf5 Tryz.zeroValue5 rfl (by omega) (by omega)) (by simp only [maxLen]; omega) rfl rfl (by decide) (fun g37 => ?_)
   have hall3 : tU8.all Jo (List.replicate 79 (.int .u8 ((0 : UInt8).toNat : Int))) (List.replicate 79 ((0 : UInt8) : UInt8)) := all_replicate (by rfl) _
   refine Run.freezeR 0 rfl (own' := [row (.slice Aout out.length cout) 42 1 clout]) rfl (fun J4 hleJ4 hfzJ4 => ?_)
   have hslJ4 : Sl tU8 J4 (some ⟨g37, 0, none⟩) 79 (List.replicate 79 ((0 : UInt8) : UInt8)) := Sl.of_rowN hfzJ4 (by simp) rfl (hall3.mono hleJ4)
   refine Run.cast (s := 37) (v' := .slice (some ⟨g37, 0, none⟩) (List.replicate 79 ((0 : UInt8) : UInt8)).length 79) rfl (congrArg (fun n => Value.slice (some ⟨g37, 0, none⟩) n 79) (show 79 = _ from (show (List.replicate 79 ((0 : UInt8) : UInt8)).length = 79 from (by simp)).symm)) ?_
   refine Run.lit (vs := [(0, .slice (some ⟨g37, 0, none⟩) ((List.replicate 79 ((0 : UInt8) : UInt8)).length) 79)]) (cs := [.slice (some ⟨g37, 0, none⟩) ((List.replicate 79 ((0 : UInt8) : UInt8)).length) 79]) (el := 42) (sz := 1) rfl rfl (fun w => by simp [Instr.buildSlice, Tryz.runUnderlying43, Tryz.sizeOf42, Tryz.zeroValue42, Instr.fill, Value.cells, newRow, (show Array.range 1 = #[0] from rfl)]) rfl (by simp [maxLen]) rfl rfl (by decide) (fun g38 => ?_)
   have hlit5 : (tSl tU8).all J4 [.slice (some ⟨g37, 0, none⟩) ((List.replicate 79 ((0 : UInt8) : UInt8)).length) 79] [(List.replicate 79 ((0 : UInt8) : UInt8))] := (all_snoc (T := (tSl tU8)) all_nil ⟨_, _, rfl, hslJ4⟩)
   have hall6 : (tSl tU8).all J4 (clout ++ ([.slice (some ⟨g37, 0, none⟩) ((List.replicate 79 ((0 : UInt8) : UInt8)).length) 79])) (out ++ ([(List.replicate 79 ((0 : UInt8) : UInt8))])) := all_append (hout.mono hleJ4) hlit5
   refine Run.append (by_ := 24) (ys := [.slice (some ⟨g37, 0, none⟩) ((List.replicate 79 ((0 : UInt8) : UInt8)).length) 79]) (k := 1) (own' := [row (.slice (some ⟨g38, 0, none⟩) 1 1) 42 1 ([.slice (some ⟨g37, 0, none⟩) ((List.replicate 79 ((0 : UInt8) : UInt8)).length) 79])]) 1 rfl rfl rfl Tryz.runUnderlying43 (.inl Tryz.runUnderlying43) Tryz.sizeOf42 Tryz.typeInfo42 rfl Tryz.zeroValue42 rfl rfl rfl (fun w hS => src_own hS (i := 0) rfl) (row_len hlit5 (by first | rfl | (simp; done) | (simp; omega)) rfl) (all_one hlit5) ((out ++ ([(List.replicate 79 ((0 : UInt8) : UInt8))])).length) (by first | (simp; done) | (simp; omega)) (by first | (rw [ho]; simp; omega) | (simp; omega)) (by first | (rw [ho]; simp [maxLen]; omega) | (simp [maxLen]; omega)) rfl rfl (by decide) (fun A39_6 c39_6 => ?_)
   refine Run.weak Sub.refl (perm_take (i := 0) rfl (perm_nil _)) ?_
   refine Run.as ?_
   refine Run.nil ?_
   refine RunQ.inB ?_
   refine RunQ.inB ?_
   refine RunQ.next ?_
   refine RunC.region ?_
   refine Run.mv ?_
   refine Run.m (v := .int .i64 ((k : Int) + 1)) (y_bin rfl rfl rfl (bn_add (by omega) (by omega))) ?_
   refine Run.as ?_
   refine Run.nil ?_
   exact RunQ.thenI (fun aa ww hF hS => ⟨_, (by omega), (hInv0 _ _ _).2 ⟨(k + 1), (out ++ ([(List.replicate 79 ((0 : UInt8) : UInt8))])), A39_6, c39_6, clout ++ ([.slice (some ⟨g37, 0, none⟩) ((List.replicate 79 ((0 : UInt8) : UInt8)).length) 79]), J4, (hJo_le.trans hleJ4), hall6, (by omega), (by rw [take_snoc' hx19, List.map_append, ← ho, List.map_singleton]; first | (rw [tCell_out hc1]; done) | (rw [tCell_at hc1 (by rw [← e43]; exact hx47), if_neg hc2]; done) | (rw [tCell_at hc1 (by rw [← e43]; exact hx47), if_pos (by omega), e58]; rfl)), rfl, hF.sub (Sub.of rfl), hS.sub (perm_self _)⟩⟩)
  ·
   try simp only [z1, z2, z3, z4, z5, z6, z7, z8, z9, z10, z11, z12, z13, z14, z15, z16] at hc1
   refine RunC.sr ?_
   refine Run.mv ?_
   refine Run.mv ?_
   obtain ⟨x43, p43_7, cs43_7, hx43, hp43_7, hcs43_7, hrc43_7⟩ := Sl.at_ (P := Tryz.prog) (T := tTape) Tryz.runUnderlying22 Tryz.sizeOf45 (hl.mono hJo_le) (k := .i64) (i := (k : Int)) (by omega) (by omega)
   replace hx43 : l[k]? = some x43 := hx43
   obtain ⟨A43_7_2, c43_7_2, rfl, f43_7_0, f43_7_1, f43_7_2⟩ := hcs43_7
   have hsm43_7_2 := f43_7_2.small
   have e43 : x43 = x19 := Option.some.inj (hx43.symm.trans hx19)
   have e43l : x43.blocks.length = x19.blocks.length := by rw [e43]
   refine Run.m (v := .pointer (some p43_7)) (y_index rfl rfl rfl hp43_7) ?_
   refine Run.m (v := .pointer (some (p43_7.add 2))) (y_fieldAddr rfl rfl Tryz.runUnderlying45 rfl Tryz.sizeOf43 (by decide) rfl) ?_
   refine Run.m (v := .slice A43_7_2 x43.blocks.length c43_7_2) (y_load1 rfl Tryz.isAgg43 rfl (RCells.at_ hrc43_7 2 rfl rfl)) ?_
   refine Run.mv ?_
   obtain ⟨x47, p47_8, cs47_8, hx47, hp47_8, hcs47_8, hrc47_8⟩ := Sl.at_ (P := Tryz.prog) (T := (tSl tU8)) Tryz.runUnderlying43 Tryz.sizeOf42 f43_7_2 (k := .i64) (i := n) (by omega) (by omega)
   obtain ⟨A47_8_0, c47_8_0, rfl, f47_8_0⟩ := hcs47_8
   have hsm47_8_0 := f47_8_0.small
   refine Run.m (v := .pointer (some p47_8)) (y_index rfl rfl rfl hp47_8) ?_
   refine Run.m (v := .slice A47_8_0 x47.length c47_8_0) (y_load1 rfl Tryz.isAgg42 rfl (RCells.hd hrc47_8)) ?_
   refine Run.m (y_len rfl Tryz.runUnderlying42 rfl) ?_
   refine Run.m (v := .bool (decide ((x47.length : Int) = 79))) (y_bin rfl rfl rfl bn_eql) ?_
   refine Run.as ?_
   refine Run.nx ?_
   refine RunC.cond rfl (fun hc2 => ?_) (fun hc2 => ?_)
   ·
    try simp only [z1, z2, z3, z4, z5, z6, z7, z8, z9, z10, z11, z12, z13, z14, z15, z16] at hc2
    refine RunC.region ?_
    refine Run.mv ?_
    refine Run.mv ?_
    refine Run.mv ?_
    obtain ⟨x54, p54_9, cs54_9, hx54, hp54_9, hcs54_9, hrc54_9⟩ := Sl.at_ (P := Tryz.prog) (T := tTape) Tryz.runUnderlying22 Tryz.sizeOf45 (hl.mono hJo_le) (k := .i64) (i := (k : Int)) (by omega) (by omega)
    replace hx54 : l[k]? = some x54 := hx54
    obtain ⟨A54_9_2, c54_9_2, rfl, f54_9_0, f54_9_1, f54_9_2⟩ := hcs54_9
    have hsm54_9_2 := f54_9_2.small
    have e54 : x54 = x43 := Option.some.inj (hx54.symm.trans hx43)
    have e54l : x54.blocks.length = x43.blocks.length := by rw [e54]
    refine Run.m (v := .pointer (some p54_9)) (y_index rfl rfl rfl hp54_9) ?_
    refine Run.m (v := .pointer (some (p54_9.add 2))) (y_fieldAddr rfl rfl Tryz.runUnderlying45 rfl Tryz.sizeOf43 (by decide) rfl) ?_
    refine Run.m (v := .slice A54_9_2 x54.blocks.length c54_9_2) (y_load1 rfl Tryz.isAgg43 rfl (RCells.at_ hrc54_9 2 rfl rfl)) ?_
    refine Run.mv ?_
    obtain ⟨x58, p58_10, cs58_10, hx58, hp58_10, hcs58_10, hrc58_10⟩ := Sl.at_ (P := Tryz.prog) (T := (tSl tU8)) Tryz.runUnderlying43 Tryz.sizeOf42 f54_9_2 (k := .i64) (i := n) (by omega) (by omega)
    obtain ⟨A58_10_0, c58_10_0, rfl, f58_10_0⟩ := hcs58_10
    have hsm58_10_0 := f58_10_0.small
    have e58 : x58 = x47 := by rw [e54] at hx58; exact Option.some.inj (hx58.symm.trans hx47)
    have e58l : x58.length = 79 := by rw [e58]; omega
    refine Run.m (v := .pointer (some p58_10)) (y_index rfl rfl rfl hp58_10) ?_
    refine Run.m (v := .slice A58_10_0 x58.length c58_10_0) (y_load1 rfl Tryz.isAgg42 rfl (RCells.hd hrc58_10)) ?_
    refine Run.nilrow none 5 1 ?_
    obtain ⟨ys11, hraw11, hya11⟩ := Sl.raw f58_10_0
    have hall12 : tU8.all Jo (([]) ++ ys11) (([] : List UInt8) ++ x58) := all_append all_nil hya11
    refine Run.append (by_ := 1) (ys := ys11) (k := x58.length) (own' := [row (.slice Aout out.length cout) 42 1 clout]) 0 rfl rfl rfl Tryz.runUnderlying42 (.inl Tryz.runUnderlying42) Tryz.sizeOf5 Tryz.typeInfo5 rfl Tryz.zeroValue5 rfl rfl rfl (fun w hS => src_raw hS hraw11) (hya11).1 (all_one hya11) ((([] : List UInt8) ++ x58).length) (by first | (simp; done) | (simp; omega)) (by first | (rw [ho]; simp; omega) | (simp; omega)) (by first | (rw [ho]; simp [maxLen]; omega) | (simp [maxLen]; omega)) rfl rfl (by decide) (fun A60_12 c60_12 => ?_)
    refine Run.freezeR 0 rfl (own' := [row (.slice Aout out.length cout) 42 1 clout]) rfl (fun J13 hleJ13 hfzJ13 => ?_)
    have hslJ13 : Sl tU8 J13 A60_12 c60_12 (([] : List UInt8) ++ x58) := Sl.of_rowN hfzJ13 rfl rfl (hall12.mono hleJ13)
    refine Run.lit (vs := [(0, .slice A60_12 ((([] : List UInt8) ++ x58).length) c60_12)]) (cs := [.slice A60_12 ((([] : List UInt8) ++ x58).length) c60_12]) (el := 42) (sz := 1) rfl rfl (fun w => by simp [Instr.buildSlice, Tryz.runUnderlying43, Tryz.sizeOf42, Tryz.zeroValue42, Instr.fill, Value.cells, newRow, (show Array.range 1 = #[0] from rfl)]) rfl (by simp [maxLen]) rfl rfl (by decide) (fun g61 => ?_)
    have hlit14 : (tSl tU8).all J13 [.slice A60_12 ((([] : List UInt8) ++ x58).length) c60_12] [(([] : List UInt8) ++ x58)] := (all_snoc (T := (tSl tU8)) all_nil ⟨_, _, rfl, hslJ13⟩)
    have hall15 : (tSl tU8).all J13 (clout ++ ([.slice A60_12 ((([] : List UInt8) ++ x58).length) c60_12])) (out ++ ([(([] : List UInt8) ++ x58)])) := all_append (hout.mono hleJ13) hlit14
    refine Run.append (by_ := 24) (ys := [.slice A60_12 ((([] : List UInt8) ++ x58).length) c60_12]) (k := 1) (own' := [row (.slice (some ⟨g61, 0, none⟩) 1 1) 42 1 ([.slice A60_12 ((([] : List UInt8) ++ x58).length) c60_12])]) 1 rfl rfl rfl Tryz.runUnderlying43 (.inl Tryz.runUnderlying43) Tryz.sizeOf42 Tryz.typeInfo42 rfl Tryz.zeroValue42 rfl rfl rfl (fun w hS => src_own hS (i := 0) rfl) (row_len hlit14 (by first | rfl | (simp; done) | (simp; omega)) rfl) (all_one hlit14) ((out ++ ([(([] : List UInt8) ++ x58)])).length) (by first | (simp; done) | (simp; omega)) (by first | (rw [ho]; simp; omega) | (simp; omega)) (by first | (rw [ho]; simp [maxLen]; omega) | (simp [maxLen]; omega)) rfl rfl (by decide) (fun A62_15 c62_15 => ?_)
    refine Run.weak Sub.refl (perm_take (i := 0) rfl (perm_nil _)) ?_
    refine Run.as ?_
    refine Run.nil ?_
    refine RunQ.inB ?_
    refine RunQ.inB ?_
    refine RunQ.next ?_
    refine RunC.region ?_
    refine Run.mv ?_
    refine Run.m (v := .int .i64 ((k : Int) + 1)) (y_bin rfl rfl rfl (bn_add (by omega) (by omega))) ?_
    refine Run.as ?_
    refine Run.nil ?_
    exact RunQ.thenI (fun aa ww hF hS => ⟨_, (by omega), (hInv0 _ _ _).2 ⟨(k + 1), (out ++ ([(([] : List UInt8) ++ x58)])), A62_15, c62_15, clout ++ ([.slice A60_12 ((([] : List UInt8) ++ x58).length) c60_12]), J13, (hJo_le.trans hleJ13), hall15, (by omega), (by rw [take_snoc' hx19, List.map_append, ← ho, List.map_singleton]; first | (rw [tCell_out hc1]; done) | (rw [tCell_at hc1 (by rw [← e43]; exact hx47), if_neg hc2]; done) | (rw [tCell_at hc1 (by rw [← e43]; exact hx47), if_pos (by omega), e58]; rfl)), rfl, hF.sub (Sub.of rfl), hS.sub (perm_self _)⟩⟩)
   ·
    try simp only [z1, z2, z3, z4, z5, z6, z7, z8, z9, z10, z11, z12, z13, z14, z15, z16] at hc2
    refine RunC.region ?_
    refine Run.mv ?_
    refine Run.lit (vs := [(0, .slice none 0 0)]) (cs := [.slice none 0 0]) (el := 42) (sz := 1) rfl rfl (fun w => by simp [Instr.buildSlice, Tryz.runUnderlying43, Tryz.sizeOf42, Tryz.zeroValue42, Instr.fill, Value.cells, newRow, (show Array.range 1 = #[0] from rfl)]) rfl (by simp [maxLen]) rfl rfl (by decide) (fun g14 => ?_)
    have hlit16 : (tSl tU8).all Jo [.slice none 0 0] [([] : List UInt8)] := (all_snoc (T := (tSl tU8)) all_nil ⟨_, _, rfl, sl_nil0⟩)
    have hall17 : (tSl tU8).all Jo (clout ++ ([.slice none 0 0])) (out ++ ([([] : List UInt8)])) := all_append hout hlit16
    refine Run.append (by_ := 24) (ys := [.slice none 0 0]) (k := 1) (own' := [row (.slice (some ⟨g14, 0, none⟩) 1 1) 42 1 ([.slice none 0 0])]) 1 rfl rfl rfl Tryz.runUnderlying43 (.inl Tryz.runUnderlying43) Tryz.sizeOf42 Tryz.typeInfo42 rfl Tryz.zeroValue42 rfl rfl rfl (fun w hS => src_own hS (i := 0) rfl) (row_len hlit16 (by first | rfl | (simp; done) | (simp; omega)) rfl) (all_one hlit16) ((out ++ ([([] : List UInt8)])).length) (by first | (simp; done) | (simp; omega)) (by first | (rw [ho]; simp; omega) | (simp; omega)) (by first | (rw [ho]; simp [maxLen]; omega) | (simp [maxLen]; omega)) rfl rfl (by decide) (fun A15_17 c15_17 => ?_)
    refine Run.weak Sub.refl (perm_take (i := 0) rfl (perm_nil _)) ?_
    refine Run.as ?_
    refine Run.nil ?_
    refine RunQ.inB ?_
    refine RunQ.inB ?_
    refine RunQ.next ?_
    refine RunC.region ?_
    refine Run.mv ?_
    refine Run.m (v := .int .i64 ((k : Int) + 1)) (y_bin rfl rfl rfl (bn_add (by omega) (by omega))) ?_
    refine Run.as ?_
    refine Run.nil ?_
    exact RunQ.thenI (fun aa ww hF hS => ⟨_, (by omega), (hInv0 _ _ _).2 ⟨(k + 1), (out ++ ([([] : List UInt8)])), A15_17, c15_17, clout ++ ([.slice none 0 0]), Jo, hJo_le, hall17, (by omega), (by rw [take_snoc' hx19, List.map_append, ← ho, List.map_singleton]; first | (rw [tCell_out hc1]; done) | (rw [tCell_at hc1 (by rw [← e43]; exact hx47), if_neg hc2]; done) | (rw [tCell_at hc1 (by rw [← e43]; exact hx47), if_pos (by omega), e58]; rfl)), rfl, hF.sub (Sub.of rfl), hS.sub (perm_self _)⟩⟩)
 ·
  try simp only [z1, z2, z3, z4, z5, z6, z7, z8, z9, z10, z11, z12, z13, z14, z15, z16] at hc0
  refine RunC.exit ?_
  refine RunQ.pass (fun h => by cases h) ?_
  refine RunQ.pass (fun h => by cases h) ?_
  refine RunQ.out ?_
  refine RunQ.next ?_
  refine RunC.sr ?_
  refine Run.mv ?_
  refine Run.as ?_
  refine Run.nx ?_
  refine RunC.ret ?_
  refine RunQ.freezeR 0 rfl (own' := []) rfl (fun J18 hleJ18 hfzJ18 => ?_)
  have hslJ18 : Sl (tSl tU8) J18 Aout cout out := Sl.of_rowN hfzJ18 rfl rfl (hout.mono hleJ18)
  refine RunQ.weak Sub.refl (perm_nil _) ?_
  refine RunQ.fin1 (.inl rfl) Tryz.results83 (rv_tmp rfl) ?_
  exact ⟨rfl, _, rfl, (rd_eq (T := (tSl (tSl tU8))) (x := out) ⟨_, _, rfl, hslJ18⟩ (by rw [ho, List.take_of_length_le (by omega)]; rfl))⟩

theorem c_cartridgeref10_frame (I : Imm) (kind : Int) (hkind : I64 kind) (label : Int) (hlabel : I64 label) (number : Int) (hnumber : I64 number) {Ab : Option Addr} {cb : Nat} (b : List UInt8) (hb : Sl tU8 I Ab cb b) : Con Tryz.prog 35 [.int .i64 kind, .int .i64 label, .int .i64 number, .slice Ab b.length cb].toArray I [] (fun J o v => ∃ (yr0 : List UInt8) (Ar0 : Option Addr) (cr0 : Nat) (clr0 : List Value), yr0 = (if uCheck ⟨kind, label, number, b⟩ = 0 then fMade ⟨kind, label, number, b⟩ else []) ∧ o = [row (.slice Ar0 yr0.length cr0) 5 1 clr0] ∧ v = .slice Ar0 yr0.length cr0 ∧ tU8.all J clr0 yr0) := by
 have hsmb := hb.small
 refine Con.enter (n := 21) (L := [(0, .int .i64 kind), (1, .int .i64 label), (2, .int .i64 number), (3, .slice Ab b.length cb)]) Tryz.func35 rfl rfl (Nat.le_of_ble_eq_true rfl) rfl (fun E => ?_)
 refine RunC.sr ?_
 refine Run.as ?_
 refine Run.nx ?_
 refine RunC.sr ?_
 refine Run.mv ?_
 refine Run.mv ?_
 refine Run.mv ?_
 refine Run.mv ?_
 refine Run.m (v := .agg [.int .i64 kind, .int .i64 label, .int .i64 number, .slice Ab b.length cb].toArray) (y_build (vs := [(0, .int .i64 kind), (1, .int .i64 label), (2, .int .i64 number), (3, .slice Ab b.length cb)]) rfl rfl (fun w => by simp [Instr.build, Tryz.zeroValue63, Tryz.runUnderlying63, Tryz.sizeOf3, Tryz.sizeOf42, Instr.fill, Value.cells])) ?_
 refine Run.call (own1 := []) (own2 := []) (en_func rfl Tryz.call24 rfl) (c_cartridgeref1_PutFrame _ (⟨kind, label, number, b⟩ : AUnit) ⟨_, _, rfl, hkind, hlabel, hnumber, hb⟩) (List.Perm.refl _) rfl rfl (by decide) (fun J1 o1 v1 hleJ1 hq1 => ?_)
 obtain ⟨yr1_0, Ar1_0, cr1_0, clr1_0, csr1_1, er1_0, rfl, rfl, hr1_0, hr1_1⟩ := hq1
 obtain rfl : (if uCheck (⟨kind, label, number, b⟩ : AUnit) = 0 then fMade (⟨kind, label, number, b⟩ : AUnit) else []) = yr1_0 := er1_0.symm
 replace hr1_1 : tInt.rd J1 csr1_1 (uCheck (⟨kind, label, number, b⟩ : AUnit)) := hr1_1
 obtain ⟨rfl, f1_1_0⟩ := hr1_1
 refine Run.mv ?_
 refine Run.m (y_extract rfl rfl rfl) ?_
 refine Run.m (y_extract rfl rfl rfl) ?_
 refine Run.as ?_
 refine Run.as ?_
 refine Run.nx ?_
 refine RunC.sr ?_
 refine Run.mv ?_
 refine Run.as ?_
 refine Run.nx ?_
 refine RunC.ret ?_
 refine RunQ.weak Sub.refl (perm_self _) ?_
 refine RunQ.fin1 (.inl rfl) Tryz.results35 (rv_tmp rfl) ?_
 exact ⟨(if uCheck (⟨kind, label, number, b⟩ : AUnit) = 0 then fMade (⟨kind, label, number, b⟩ : AUnit) else []), Ar1_0, cr1_0, clr1_0, (by rfl), rfl, rfl, hr1_0⟩

theorem c_cartridgeref1_SameRows (I : Imm) {Aa : Option Addr} {ca : Nat} (a : List (List UInt8)) (ha : Sl (tSl tU8) I Aa ca a) {Ab : Option Addr} {cb : Nat} (b : List (List UInt8)) (hb : Sl (tSl tU8) I Ab cb b) (hab : a = b) : Con Tryz.prog 85 [.slice Aa a.length ca, .slice Ab b.length cb].toArray I [] (Ret1 (tBool.o) true) := by
 have hsma := ha.small
 have hsmb := hb.small
 have hlab := congrArg List.length hab
 refine Con.enter (n := 28) (L := [(0, .slice Aa a.length ca), (1, .slice Ab b.length cb)]) Tryz.func85 rfl rfl (Nat.le_of_ble_eq_true rfl) rfl (fun E => ?_)
 refine RunC.sr ?_
 refine Run.as ?_
 refine Run.nx ?_
 refine RunC.seq ?_
 refine RunC.sr ?_
 refine Run.mv ?_
 refine Run.m (y_len rfl Tryz.runUnderlying43 rfl) ?_
 refine Run.mv ?_
 refine Run.m (y_len rfl Tryz.runUnderlying43 rfl) ?_
 refine Run.m (v := .bool (decide ((a.length : Int) ≠ (b.length : Int)))) (y_bin rfl rfl rfl bn_neq) ?_
 refine Run.nx ?_
 refine RunC.cond rfl (fun hc0 => ?_) (fun hc0 => ?_)
 ·
  try simp only [z1, z2, z3, z4, z5, z6, z7, z8, z9, z10, z11, z12, z13, z14, z15, z16] at hc0
  exfalso
  exact hc0 (by rw [hab])
 ·
  skip
  try simp only [z1, z2, z3, z4, z5, z6, z7, z8, z9, z10, z11, z12, z13, z14, z15, z16] at hc0
  refine RunC.skip ?_
  refine RunQ.next ?_
  refine RunC.seq ?_
  refine RunC.sr ?_
  refine Run.as ?_
  refine Run.nx ?_
  refine RunC.block ?_
  obtain ⟨Inv0, hInv0⟩ : ∃ Inv : Nat → Act → World → Prop, ∀ mm aa ww, Inv mm aa ww ↔ (∃ (k : Nat), (k ≤ a.length) ∧ (mm = (a.length - k)) ∧ Frm aa 28 [(0, .slice Aa a.length ca), (1, .slice Ab b.length cb), (5, .int .i64 (k : Int))] ∧ S E ww I []) := ⟨_, fun _ _ _ => Iff.rfl⟩
  refine RunC.loopX Inv0 (fun aa ww hF hS => ⟨_, (hInv0 _ _ _).2 ⟨0, (by omega), rfl, hF.sub (Sub.of rfl), hS.sub (perm_self _)⟩⟩) ?_
  intro mm0 aa ww hv
  obtain ⟨k, hk, hmm_, hF, hS⟩ := (hInv0 _ _ _).1 hv
  clear hv
  refine RunC.go ?_ hF hS
  clear hF hS aa ww
  refine RunC.seq ?_
  refine RunC.sr ?_
  refine Run.mv ?_
  refine Run.mv ?_
  refine Run.m (y_len rfl Tryz.runUnderlying43 rfl) ?_
  refine Run.m (v := .bool (decide ((k : Int) < (a.length : Int)))) (y_bin rfl rfl rfl bn_lss) ?_
  refine Run.nx ?_
  refine RunC.cond rfl (fun hc1 => ?_) (fun hc1 => ?_)
  ·
   try simp only [z1, z2, z3, z4, z5, z6, z7, z8, z9, z10, z11, z12, z13, z14, z15, z16] at hc1
   refine RunC.skip ?_
   refine RunQ.next ?_
   refine RunC.seq ?_
   refine RunC.block ?_
   refine RunC.seq ?_
   refine RunC.regionD (by kernel_rfl) (by kernel_rfl) ?_
   refine RunZ.y (v := .slice Aa a.length ca) (y_move rfl rfl) rfl rfl (by decide) ?_
   refine RunZ.y (v := .int .i64 (k : Int)) (y_move rfl rfl) rfl rfl (by decide) ?_
   obtain ⟨x19, p19_1, cs19_1, hx19, hp19_1, hcs19_1, hrc19_1⟩ := Sl.at_ (P := Tryz.prog) (T := (tSl tU8)) Tryz.runUnderlying43 Tryz.sizeOf42 ha (k := .i64) (i := (k : Int)) (by omega) (by omega)
   replace hx19 : a[k]? = some x19 := hx19
   obtain ⟨A19_1_0, c19_1_0, rfl, f19_1_0⟩ := hcs19_1
   have hsm19_1_0 := f19_1_0.small
   refine RunZ.y (v := .pointer (some p19_1)) (y_index rfl rfl rfl hp19_1) rfl rfl (by decide) ?_
   refine RunZ.y (v := .slice A19_1_0 x19.length c19_1_0) (y_load1 rfl Tryz.isAgg42 rfl (RCells.hd hrc19_1)) rfl rfl (by decide) ?_
   refine RunZ.y (v := .string (bstr x19)) (y_bytesStr rfl rfl Tryz.underlying42 Tryz.underlying5 Tryz.underlying9 f19_1_0) rfl rfl (by decide) ?_
   refine RunZ.y (v := .slice Ab b.length cb) (y_move rfl rfl) rfl rfl (by decide) ?_
   refine RunZ.y (v := .int .i64 (k : Int)) (y_move rfl rfl) rfl rfl (by decide) ?_
   obtain ⟨x24, p24_2, cs24_2, hx24, hp24_2, hcs24_2, hrc24_2⟩ := Sl.at_ (P := Tryz.prog) (T := (tSl tU8)) Tryz.runUnderlying43 Tryz.sizeOf42 hb (k := .i64) (i := (k : Int)) (by omega) (by omega)
   replace hx24 : b[k]? = some x24 := hx24
   obtain ⟨A24_2_0, c24_2_0, rfl, f24_2_0⟩ := hcs24_2
   have hsm24_2_0 := f24_2_0.small
   refine RunZ.y (v := .pointer (some p24_2)) (y_index rfl rfl rfl hp24_2) rfl rfl (by decide) ?_
   refine RunZ.y (v := .slice A24_2_0 x24.length c24_2_0) (y_load1 rfl Tryz.isAgg42 rfl (RCells.hd hrc24_2)) rfl rfl (by decide) ?_
   refine RunZ.y (v := .string (bstr x24)) (y_bytesStr rfl rfl Tryz.underlying42 Tryz.underlying5 Tryz.underlying9 f24_2_0) rfl rfl (by decide) ?_
   refine RunZ.y (v := .bool (!decide ((bstr x19) = (bstr x24)))) (y_bin rfl rfl rfl bn_neqD) rfl rfl (by decide) ?_
   refine RunZ.nil ?_
   refine RunQ.next ?_
   refine RunC.cond rfl (fun hc2 => ?_) (fun hc2 => ?_)
   ·
    try simp only [z1, z2, z3, z4, z5, z6, z7, z8, z9, z10, z11, z12, z13, z14, z15, z16] at hc2
    exfalso
    have e9 : x24 = x19 := Option.some.inj (hx24.symm.trans (hab ▸ hx19))
    simp [e9] at hc2
   ·
    skip
    try simp only [z1, z2, z3, z4, z5, z6, z7, z8, z9, z10, z11, z12, z13, z14, z15, z16] at hc2
    refine RunC.skip ?_
    refine RunQ.inB ?_
    refine RunQ.next ?_
    refine RunC.region ?_
    refine Run.mv ?_
    refine Run.m (v := .int .i64 ((k : Int) + 1)) (y_bin rfl rfl rfl (bn_add (by omega) (by omega))) ?_
    refine Run.as ?_
    refine Run.nil ?_
    exact RunQ.thenI (fun aa ww hF hS => ⟨_, (by omega), (hInv0 _ _ _).2 ⟨(k + 1), (by omega), rfl, hF.sub (Sub.of rfl), hS.sub (perm_self _)⟩⟩)
  ·
   try simp only [z1, z2, z3, z4, z5, z6, z7, z8, z9, z10, z11, z12, z13, z14, z15, z16] at hc1
   refine RunC.exit ?_
   refine RunQ.pass (fun h => by cases h) ?_
   refine RunQ.pass (fun h => by cases h) ?_
   refine RunQ.out ?_
   refine RunQ.next ?_
   refine RunC.sr ?_
   refine Run.as ?_
   refine Run.nx ?_
   refine RunC.ret ?_
   refine RunQ.weak Sub.refl (perm_nil _) ?_
   refine RunQ.fin1 (.inl rfl) Tryz.results85 (rv_tmp rfl) ?_
   exact ⟨rfl, _, rfl, (rd_eq (T := tBool) (x := true) rfl (by rfl))⟩

theorem c_cartridgeref1_SameTape (I : Imm) {csa : List Value} (a : ATape) (ha : tTape.rd I csa a) {csb : List Value} (b : ATape) (hb : tTape.rd I csb b) (hab : a = b) : Con Tryz.prog 37 [.agg csa.toArray, .agg csb.toArray].toArray I [] (Ret1 (tBool.o) true) := by
 obtain ⟨Aa_2, ca_2, rfl, fa_0, fa_1, fa_2⟩ := ha
 have hsma_2 := fa_2.small
 obtain ⟨Ab_2, cb_2, rfl, fb_0, fb_1, fb_2⟩ := hb
 have hsmb_2 := fb_2.small
 refine Con.enter (n := 31) (L := [(0, .agg [.int .i64 a.label, .int .i64 a.cap, .slice Aa_2 a.blocks.length ca_2, .bool a.lost].toArray), (1, .agg [.int .i64 b.label, .int .i64 b.cap, .slice Ab_2 b.blocks.length cb_2, .bool b.lost].toArray)]) Tryz.func37 rfl rfl (Nat.le_of_ble_eq_true rfl) rfl (fun E => ?_)
 refine RunC.sr ?_
 refine Run.box (cs := [.int .i64 a.label, .int .i64 a.cap, .slice Aa_2 a.blocks.length ca_2, .bool a.lost]) rfl rfl rfl rfl rfl (by decide) (fun g2 => ?_)
 refine Run.box (cs := [.int .i64 b.label, .int .i64 b.cap, .slice Ab_2 b.blocks.length cb_2, .bool b.lost]) rfl rfl rfl rfl rfl (by decide) (fun g3 => ?_)
 refine Run.as ?_
 refine Run.nx ?_
 refine RunC.sr ?_
 refine Run.m (v := .pointer (some ⟨g2, 0, none⟩)) (y_fieldAddr rfl rfl Tryz.runUnderlying45 rfl Tryz.sizeOf3 (by decide) rfl) ?_
 refine Run.m (v := .int .i64 a.label) (y_loadB1 1 rfl Tryz.isAgg3 rfl rfl rfl) ?_
 refine Run.m (v := .pointer (some ⟨g3, 0, none⟩)) (y_fieldAddr rfl rfl Tryz.runUnderlying45 rfl Tryz.sizeOf3 (by decide) rfl) ?_
 refine Run.m (v := .int .i64 b.label) (y_loadB1 0 rfl Tryz.isAgg3 rfl rfl rfl) ?_
 refine Run.m (v := .bool true) (y_bin rfl rfl rfl (bn_cast bn_eql (by rw [hab]; simp))) ?_
 refine Run.mv ?_
 refine Run.yes (v := .pointer (some ⟨g2, 1, none⟩)) (y_fieldAddr rfl rfl Tryz.runUnderlying45 rfl Tryz.sizeOf3 (by decide) rfl) rfl rfl rfl rfl (rfl) rfl (by decide) ?_
 refine Run.yes (v := .int .i64 a.cap) (y_loadB1 1 rfl Tryz.isAgg3 rfl rfl rfl) rfl rfl rfl rfl (rfl) rfl (by decide) ?_
 refine Run.yes (v := .pointer (some ⟨g3, 1, none⟩)) (y_fieldAddr rfl rfl Tryz.runUnderlying45 rfl Tryz.sizeOf3 (by decide) rfl) rfl rfl rfl rfl (rfl) rfl (by decide) ?_
 refine Run.yes (v := .int .i64 b.cap) (y_loadB1 0 rfl Tryz.isAgg3 rfl rfl rfl) rfl rfl rfl rfl (rfl) rfl (by decide) ?_
 refine Run.yes (v := .bool true) (y_bin rfl rfl rfl (bn_cast bn_eql (by rw [hab]; simp))) rfl rfl rfl rfl (rfl) rfl (by decide) ?_
 refine Run.m (v := .bool true) (y_pick rfl rfl rfl) ?_
 refine Run.mv ?_
 refine Run.yes (v := .pointer (some ⟨g2, 3, none⟩)) (y_fieldAddr rfl rfl Tryz.runUnderlying45 rfl Tryz.sizeOf4 (by decide) rfl) rfl rfl rfl rfl (rfl) rfl (by decide) ?_
 refine Run.yes (v := .bool a.lost) (y_loadB1 1 rfl Tryz.isAgg4 rfl rfl rfl) rfl rfl rfl rfl (rfl) rfl (by decide) ?_
 refine Run.yes (v := .pointer (some ⟨g3, 3, none⟩)) (y_fieldAddr rfl rfl Tryz.runUnderlying45 rfl Tryz.sizeOf4 (by decide) rfl) rfl rfl rfl rfl (rfl) rfl (by decide) ?_
 refine Run.yes (v := .bool b.lost) (y_loadB1 0 rfl Tryz.isAgg4 rfl rfl rfl) rfl rfl rfl rfl (rfl) rfl (by decide) ?_
 refine Run.yes (v := .bool true) (y_bin rfl rfl rfl (bn_cast (bn_eqlB Tryz.underlying4) (by rw [hab]; simp))) rfl rfl rfl rfl (rfl) rfl (by decide) ?_
 refine Run.m (v := .bool true) (y_pick rfl rfl rfl) ?_
 refine Run.mv ?_
 refine Run.yes (v := .pointer (some ⟨g2, 2, none⟩)) (y_fieldAddr rfl rfl Tryz.runUnderlying45 rfl Tryz.sizeOf43 (by decide) rfl) rfl rfl rfl rfl (rfl) rfl (by decide) ?_
 refine Run.yes (v := .slice Aa_2 a.blocks.length ca_2) (y_loadB1 1 rfl Tryz.isAgg43 rfl rfl rfl) rfl rfl rfl rfl (rfl) rfl (by decide) ?_
 refine Run.yes (v := .pointer (some ⟨g3, 2, none⟩)) (y_fieldAddr rfl rfl Tryz.runUnderlying45 rfl Tryz.sizeOf43 (by decide) rfl) rfl rfl rfl rfl (rfl) rfl (by decide) ?_
 refine Run.yes (v := .slice Ab_2 b.blocks.length cb_2) (y_loadB1 0 rfl Tryz.isAgg43 rfl rfl rfl) rfl rfl rfl rfl (rfl) rfl (by decide) ?_
 refine Run.callVYes (en_func rfl Tryz.call85 rfl) (conv_bool (c_cartridgeref1_SameRows _ a.blocks fa_2 b.blocks fb_2 (by rw [hab]))) rfl rfl rfl rfl (rfl) rfl (by decide) (fun hI1 => ?_)
 refine Run.m (v := .bool true) (y_pick rfl rfl rfl) ?_
 refine Run.as ?_
 refine Run.nx ?_
 refine RunC.ret ?_
 refine RunQ.weak Sub.refl (perm_nil _) ?_
 refine RunQ.fin1 (.inl rfl) Tryz.results37 (rv_tmp rfl) ?_
 exact ⟨rfl, _, rfl, (rd_eq (T := tBool) (x := true) rfl (by first | rfl | simp))⟩

theorem c_cartridgeref1_SameTapes (I : Imm) {Aa : Option Addr} {ca : Nat} (a : List ATape) (ha : Sl tTape I Aa ca a) {Ab : Option Addr} {cb : Nat} (b : List ATape) (hb : Sl tTape I Ab cb b) (hab : a = b) : Con Tryz.prog 10 [.slice Aa a.length ca, .slice Ab b.length cb].toArray I [] (Ret1 (tBool.o) true) := by
 have hsma := ha.small
 have hsmb := hb.small
 have hlab := congrArg List.length hab
 refine Con.enter (n := 27) (L := [(0, .slice Aa a.length ca), (1, .slice Ab b.length cb)]) Tryz.func10 rfl rfl (Nat.le_of_ble_eq_true rfl) rfl (fun E => ?_)
 refine RunC.sr ?_
 refine Run.as ?_
 refine Run.nx ?_
 refine RunC.seq ?_
 refine RunC.sr ?_
 refine Run.mv ?_
 refine Run.m (y_len rfl Tryz.runUnderlying22 rfl) ?_
 refine Run.mv ?_
 refine Run.m (y_len rfl Tryz.runUnderlying22 rfl) ?_
 refine Run.m (v := .bool (decide ((a.length : Int) ≠ (b.length : Int)))) (y_bin rfl rfl rfl bn_neq) ?_
 refine Run.nx ?_
 refine RunC.cond rfl (fun hc0 => ?_) (fun hc0 => ?_)
 ·
  try simp only [z1, z2, z3, z4, z5, z6, z7, z8, z9, z10, z11, z12, z13, z14, z15, z16] at hc0
  exfalso
  exact hc0 (by rw [hab])
 ·
  skip
  try simp only [z1, z2, z3, z4, z5, z6, z7, z8, z9, z10, z11, z12, z13, z14, z15, z16] at hc0
  refine RunC.skip ?_
  refine RunQ.next ?_
  refine RunC.seq ?_
  refine RunC.sr ?_
  refine Run.as ?_
  refine Run.nx ?_
  refine RunC.block ?_
  obtain ⟨Inv0, hInv0⟩ : ∃ Inv : Nat → Act → World → Prop, ∀ mm aa ww, Inv mm aa ww ↔ (∃ (k : Nat), (k ≤ a.length) ∧ (mm = (a.length - k)) ∧ Frm aa 27 [(0, .slice Aa a.length ca), (1, .slice Ab b.length cb), (5, .int .i64 (k : Int))] ∧ S E ww I []) := ⟨_, fun _ _ _ => Iff.rfl⟩
  refine RunC.loopX Inv0 (fun aa ww hF hS => ⟨_, (hInv0 _ _ _).2 ⟨0, (by omega), rfl, hF.sub (Sub.of rfl), hS.sub (perm_self _)⟩⟩) ?_
  intro mm0 aa ww hv
  obtain ⟨k, hk, hmm_, hF, hS⟩ := (hInv0 _ _ _).1 hv
  clear hv
  refine RunC.go ?_ hF hS
  clear hF hS aa ww
  refine RunC.seq ?_
  refine RunC.sr ?_
  refine Run.mv ?_
  refine Run.mv ?_
  refine Run.m (y_len rfl Tryz.runUnderlying22 rfl) ?_
  refine Run.m (v := .bool (decide ((k : Int) < (a.length : Int)))) (y_bin rfl rfl rfl bn_lss) ?_
  refine Run.nx ?_
  refine RunC.cond rfl (fun hc1 => ?_) (fun hc1 => ?_)
  ·
   try simp only [z1, z2, z3, z4, z5, z6, z7, z8, z9, z10, z11, z12, z13, z14, z15, z16] at hc1
   refine RunC.skip ?_
   refine RunQ.next ?_
   refine RunC.seq ?_
   refine RunC.block ?_
   refine RunC.seq ?_
   refine RunC.regionD (by kernel_rfl) (by kernel_rfl) ?_
   refine RunZ.y (v := .slice Aa a.length ca) (y_move rfl rfl) rfl rfl (by decide) ?_
   refine RunZ.y (v := .int .i64 (k : Int)) (y_move rfl rfl) rfl rfl (by decide) ?_
   obtain ⟨x19, p19_1, cs19_1, hx19, hp19_1, hcs19_1, hrc19_1⟩ := Sl.at_ (P := Tryz.prog) (T := tTape) Tryz.runUnderlying22 Tryz.sizeOf45 ha (k := .i64) (i := (k : Int)) (by omega) (by omega)
   replace hx19 : a[k]? = some x19 := hx19
   obtain ⟨A19_1_2, c19_1_2, rfl, f19_1_0, f19_1_1, f19_1_2⟩ := hcs19_1
   have hsm19_1_2 := f19_1_2.small
   refine RunZ.y (v := .pointer (some p19_1)) (y_index rfl rfl rfl hp19_1) rfl rfl (by decide) ?_
   refine RunZ.y (v := .agg [.int .i64 x19.label, .int .i64 x19.cap, .slice A19_1_2 x19.blocks.length c19_1_2, .bool x19.lost].toArray) (y_loadA (cs := [.int .i64 x19.label, .int .i64 x19.cap, .slice A19_1_2 x19.blocks.length c19_1_2, .bool x19.lost]) rfl Tryz.isAgg45 Tryz.sizeOf45 rfl hrc19_1 rfl) rfl rfl (by decide) ?_
   refine RunZ.y (v := .slice Ab b.length cb) (y_move rfl rfl) rfl rfl (by decide) ?_
   refine RunZ.y (v := .int .i64 (k : Int)) (y_move rfl rfl) rfl rfl (by decide) ?_
   obtain ⟨x23, p23_2, cs23_2, hx23, hp23_2, hcs23_2, hrc23_2⟩ := Sl.at_ (P := Tryz.prog) (T := tTape) Tryz.runUnderlying22 Tryz.sizeOf45 hb (k := .i64) (i := (k : Int)) (by omega) (by omega)
   replace hx23 : b[k]? = some x23 := hx23
   obtain ⟨A23_2_2, c23_2_2, rfl, f23_2_0, f23_2_1, f23_2_2⟩ := hcs23_2
   have hsm23_2_2 := f23_2_2.small
   refine RunZ.y (v := .pointer (some p23_2)) (y_index rfl rfl rfl hp23_2) rfl rfl (by decide) ?_
   refine RunZ.y (v := .agg [.int .i64 x23.label, .int .i64 x23.cap, .slice A23_2_2 x23.blocks.length c23_2_2, .bool x23.lost].toArray) (y_loadA (cs := [.int .i64 x23.label, .int .i64 x23.cap, .slice A23_2_2 x23.blocks.length c23_2_2, .bool x23.lost]) rfl Tryz.isAgg45 Tryz.sizeOf45 rfl hrc23_2 rfl) rfl rfl (by decide) ?_
   refine RunZ.call (en_func rfl Tryz.call37 rfl) (con_bool (c_cartridgeref1_SameTape _ x19 ⟨_, _, rfl, f19_1_0, f19_1_1, f19_1_2⟩ x23 ⟨_, _, rfl, f23_2_0, f23_2_1, f23_2_2⟩ (Option.some.inj (hx19.symm.trans (hab ▸ hx23))))) rfl rfl (by decide) ?_
   refine RunZ.y (v := .bool false) (y_not (b := true) rfl rfl) rfl rfl (by decide) ?_
   refine RunZ.nil ?_
   refine RunQ.next ?_
   refine RunC.condF rfl ?_
   refine RunC.skip ?_
   refine RunQ.inB ?_
   refine RunQ.next ?_
   refine RunC.region ?_
   refine Run.mv ?_
   refine Run.m (v := .int .i64 ((k : Int) + 1)) (y_bin rfl rfl rfl (bn_add (by omega) (by omega))) ?_
   refine Run.as ?_
   refine Run.nil ?_
   exact RunQ.thenI (fun aa ww hF hS => ⟨_, (by omega), (hInv0 _ _ _).2 ⟨(k + 1), (by omega), rfl, hF.sub (Sub.of rfl), hS.sub (perm_self _)⟩⟩)
  ·
   try simp only [z1, z2, z3, z4, z5, z6, z7, z8, z9, z10, z11, z12, z13, z14, z15, z16] at hc1
   refine RunC.exit ?_
   refine RunQ.pass (fun h => by cases h) ?_
   refine RunQ.pass (fun h => by cases h) ?_
   refine RunQ.out ?_
   refine RunQ.next ?_
   refine RunC.sr ?_
   refine Run.as ?_
   refine Run.nx ?_
   refine RunC.ret ?_
   refine RunQ.weak Sub.refl (perm_nil _) ?_
   refine RunQ.fin1 (.inl rfl) Tryz.results10 (rv_tmp rfl) ?_
   exact ⟨rfl, _, rfl, (rd_eq (T := tBool) (x := true) rfl (by rfl))⟩
end Go.Proofs.YtmelbclhkkbmiaaGreat.K
