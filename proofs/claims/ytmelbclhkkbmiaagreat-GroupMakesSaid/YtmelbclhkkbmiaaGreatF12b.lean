/- Contracts of functions of the program, each proved by a walk through its operations, for all memory and all arguments that the theorem names. Printed by a program of mine. -/
import Derived.Test.YtmelbclhkkbmiaaGreatF11
set_option linter.unusedVariables false
set_option linter.unusedSimpArgs false
set_option maxRecDepth 100000
namespace Go.Proofs.YtmelbclhkkbmiaaGreat.K
open Go Go.RowKit

theorem c_cartridgelaw8_Few (I : Imm) {cst : List Value} (t : ATape) (ht : tTape.rd I cst t) : Con Tryz.prog 25 [.agg cst.toArray].toArray I [] (Ret1 (tBool.o) (fewT t)) := by
 obtain ⟨At_2, ct_2, rfl, ft_0, ft_1, ft_2⟩ := ht
 have hsmt_2 := ft_2.small
 refine Con.enter (n := 26) (L := [(0, .agg [.int .i64 t.label, .int .i64 t.cap, .slice At_2 t.blocks.length ct_2, .bool t.lost].toArray)]) Tryz.func25 rfl rfl (Nat.le_of_ble_eq_true rfl) rfl (fun E => ?_)
 refine RunC.sr ?_
 refine Run.box (cs := [.int .i64 t.label, .int .i64 t.cap, .slice At_2 t.blocks.length ct_2, .bool t.lost]) rfl rfl rfl rfl rfl (by decide) (fun g1 => ?_)
 refine Run.as ?_
 refine Run.nx ?_
 refine RunC.seq ?_
 refine RunC.sr ?_
 refine Run.as ?_
 refine Run.nx ?_
 refine RunC.block ?_
 obtain ⟨Inv0, hInv0⟩ : ∃ Inv : Nat → Act → World → Prop, ∀ mm aa ww, Inv mm aa ww ↔ (∃ (k : Nat), (k ≤ t.blocks.length) ∧ (k ≤ 100) ∧ (∀ b ∈ t.blocks.take k, b.length ≤ 300) ∧ (mm = (t.blocks.length - k)) ∧ Frm aa 26 [(1, .pointer (some ⟨g1, 0, none⟩)), (3, .int .i64 (k : Int))] ∧ S E ww I [blk g1 [.int .i64 t.label, .int .i64 t.cap, .slice At_2 t.blocks.length ct_2, .bool t.lost] 45]) := ⟨_, fun _ _ _ => Iff.rfl⟩
 refine RunC.loopX Inv0 (fun aa ww hF hS => ⟨_, (hInv0 _ _ _).2 ⟨0, (by omega), (by omega), (by simp), rfl, hF.sub (Sub.of rfl), hS.sub (perm_self _)⟩⟩) ?_
 intro mm0 aa ww hv
 obtain ⟨k, hk, hk2, hn, hmm_, hF, hS⟩ := (hInv0 _ _ _).1 hv
 clear hv
 refine RunC.go ?_ hF hS
 clear hF hS aa ww
 refine RunC.seq ?_
 refine RunC.sr ?_
 refine Run.mv ?_
 refine Run.m (v := .pointer (some ⟨g1, 2, none⟩)) (y_fieldAddr rfl rfl Tryz.runUnderlying45 rfl Tryz.sizeOf43 (by decide) rfl) ?_
 refine Run.m (v := .slice At_2 t.blocks.length ct_2) (y_loadB1 0 rfl Tryz.isAgg43 rfl rfl rfl) ?_
 refine Run.m (y_len rfl Tryz.runUnderlying43 rfl) ?_
 refine Run.m (v := .bool (decide ((k : Int) < (t.blocks.length : Int)))) (y_bin rfl rfl rfl bn_lss) ?_
 refine Run.mv ?_
 refine Run.split 3 rfl (b := decide ((k : Int) < (t.blocks.length : Int))) (d := 12) (v := .bool ((decide ((k : Int) < (t.blocks.length : Int))) && (decide ((k : Int) < 100)))) (fun hb9 K9 => ?_) (fun hb9 K9 => ?_) ?_
 ·
  have hc1009 := hb9; try simp only [z1, z2, z3, z4, z5, z6, z7, z8, z9, z10, z11, z12, z13, z14, z15, z16] at hc1009
  refine Run.yes (v := .int .i64 (k : Int)) (y_move rfl rfl) rfl rfl rfl rfl (hb9) rfl (by decide) ?_
  refine Run.yes (v := .bool (decide ((k : Int) < 100))) (y_bin rfl rfl rfl bn_lss) rfl rfl rfl rfl (hb9) rfl (by decide) ?_
  refine Run.y (y_pickB rfl rfl (hb9) rfl) rfl rfl (by decide) ?_
  exact K9 _ _ _ (Imm.le.refl _) (by rw [hb9]; simp) (Sub.tl 2 rfl rfl)
 ·
  have hc1009 := hb9; try simp only [z1, z2, z3, z4, z5, z6, z7, z8, z9, z10, z11, z12, z13, z14, z15, z16] at hc1009
  refine Run.no rfl rfl rfl rfl (hb9) rfl (by decide) ?_
  refine Run.no rfl rfl rfl rfl (hb9) rfl (by decide) ?_
  refine Run.y (y_pickB rfl rfl (hb9) rfl) rfl rfl (by decide) ?_
  exact K9 _ _ _ (Imm.le.refl _) (by rw [hb9]; simp) (Sub.tl 2 rfl rfl)
 refine Run.nx ?_
 refine RunC.cond rfl (fun hc0 => ?_) (fun hc0 => ?_)
 ·
  try simp only [z1, z2, z3, z4, z5, z6, z7, z8, z9, z10, z11, z12, z13, z14, z15, z16] at hc0
  refine RunC.skip ?_
  refine RunQ.next ?_
  refine RunC.seq ?_
  refine RunC.block ?_
  refine RunC.sr ?_
  refine Run.m (v := .pointer (some ⟨g1, 2, none⟩)) (y_fieldAddr rfl rfl Tryz.runUnderlying45 rfl Tryz.sizeOf43 (by decide) rfl) ?_
  refine Run.m (v := .slice At_2 t.blocks.length ct_2) (y_loadB1 0 rfl Tryz.isAgg43 rfl rfl rfl) ?_
  refine Run.mv ?_
  obtain ⟨x18, p18_1, cs18_1, hx18, hp18_1, hcs18_1, hrc18_1⟩ := Sl.at_ (P := Tryz.prog) (T := (tSl tU8)) Tryz.runUnderlying43 Tryz.sizeOf42 ft_2 (k := .i64) (i := (k : Int)) (by omega) (by omega)
  replace hx18 : t.blocks[k]? = some x18 := hx18
  obtain ⟨A18_1_0, c18_1_0, rfl, f18_1_0⟩ := hcs18_1
  have hsm18_1_0 := f18_1_0.small
  refine Run.m (v := .pointer (some p18_1)) (y_index rfl rfl rfl hp18_1) ?_
  refine Run.m (v := .slice A18_1_0 x18.length c18_1_0) (y_load1 rfl Tryz.isAgg42 rfl (RCells.hd hrc18_1)) ?_
  refine Run.m (y_len rfl Tryz.runUnderlying42 rfl) ?_
  refine Run.m (v := .bool (decide ((x18.length : Int) > 300))) (y_bin rfl rfl rfl bn_gtr) ?_
  refine Run.nx ?_
  refine RunC.cond rfl (fun hc1 => ?_) (fun hc1 => ?_)
  ·
   try simp only [z1, z2, z3, z4, z5, z6, z7, z8, z9, z10, z11, z12, z13, z14, z15, z16] at hc1
   refine RunC.sr ?_
   refine Run.as ?_
   refine Run.nx ?_
   refine RunC.ret ?_
   refine RunQ.inR ?_
   refine RunQ.pass (fun h => by cases h) ?_
   refine RunQ.pass (fun h => by cases h) ?_
   refine RunQ.inR ?_
   refine RunQ.pass (fun h => by cases h) ?_
   refine RunQ.weak Sub.refl (perm_nil _) ?_
   refine RunQ.fin1 (.inl rfl) Tryz.results25 (rv_tmp rfl) ?_
   exact ⟨rfl, _, rfl, (rd_eq (T := tBool) (x := false) rfl (by first | exact (fewT_no (by omega) hx18 hc1).symm | exact fewT_end (by omega) hk hk2 hn))⟩
  ·
   try simp only [z1, z2, z3, z4, z5, z6, z7, z8, z9, z10, z11, z12, z13, z14, z15, z16] at hc1
   refine RunC.skip ?_
   refine RunQ.inB ?_
   refine RunQ.next ?_
   refine RunC.region ?_
   refine Run.mv ?_
   refine Run.m (v := .int .i64 ((k : Int) + 1)) (y_bin rfl rfl rfl (bn_add (by omega) (by omega))) ?_
   refine Run.as ?_
   refine Run.nil ?_
   exact RunQ.thenI (fun aa ww hF hS => ⟨_, (by omega), (hInv0 _ _ _).2 ⟨(k + 1), (by omega), (by omega), (by rw [take_snoc' hx18]; intro y hy; rcases List.mem_append.1 hy with hy | hy; exact hn y hy; simp at hy; subst hy; omega), rfl, hF.sub (Sub.of rfl), hS.sub (perm_self _)⟩⟩)
 ·
  try simp only [z1, z2, z3, z4, z5, z6, z7, z8, z9, z10, z11, z12, z13, z14, z15, z16] at hc0
  refine RunC.exit ?_
  refine RunQ.pass (fun h => by cases h) ?_
  refine RunQ.pass (fun h => by cases h) ?_
  refine RunQ.out ?_
  refine RunQ.next ?_
  refine RunC.sr ?_
  refine Run.m (v := .pointer (some ⟨g1, 2, none⟩)) (y_fieldAddr rfl rfl Tryz.runUnderlying45 rfl Tryz.sizeOf43 (by decide) rfl) ?_
  refine Run.m (v := .slice At_2 t.blocks.length ct_2) (y_loadB1 0 rfl Tryz.isAgg43 rfl rfl rfl) ?_
  refine Run.m (y_len rfl Tryz.runUnderlying43 rfl) ?_
  refine Run.m (v := .bool (decide ((t.blocks.length : Int) ≤ 90))) (y_bin rfl rfl rfl bn_leq) ?_
  refine Run.as ?_
  refine Run.nx ?_
  refine RunC.ret ?_
  refine RunQ.weak Sub.refl (perm_nil _) ?_
  refine RunQ.fin1 (.inl rfl) Tryz.results25 (rv_tmp rfl) ?_
  exact ⟨rfl, _, rfl, (rd_eq (T := tBool) (x := decide ((t.blocks.length : Int) ≤ 90)) rfl (by first | exact (fewT_no (by omega) hx18 hc1).symm | exact fewT_end (by omega) hk hk2 hn))⟩

theorem c_cartridgelaw13_Few (I : Imm) {Al : Option Addr} {cl : Nat} (l : List ATape) (hl : Sl tTape I Al cl l) : Con Tryz.prog 7 [.slice Al l.length cl].toArray I [] (Ret1 (tBool.o) (fewL l)) := by
 have hsml := hl.small
 refine Con.enter (n := 36) (L := [(0, .slice Al l.length cl)]) Tryz.func7 rfl rfl (Nat.le_of_ble_eq_true rfl) rfl (fun E => ?_)
 refine RunC.sr ?_
 refine Run.as ?_
 refine Run.nx ?_
 refine RunC.sr ?_
 refine Run.as ?_
 refine Run.nx ?_
 refine RunC.seq ?_
 refine RunC.sr ?_
 refine Run.as ?_
 refine Run.nx ?_
 refine RunC.block ?_
 obtain ⟨Inv0, hInv0⟩ : ∃ Inv : Nat → Act → World → Prop, ∀ mm aa ww, Inv mm aa ww ↔ (∃ (k : Nat) (n1 : Nat), (k ≤ l.length) ∧ (k ≤ 20) ∧ (∀ t ∈ l.take k, fewT t = true) ∧ (n1 = blkN (l.take k)) ∧ (n1 ≤ 90 * k) ∧ (mm = (l.length - k)) ∧ Frm aa 36 [(0, .slice Al l.length cl), (4, .int .i64 (k : Int)), (3, .int .i64 (n1 : Int))] ∧ S E ww I []) := ⟨_, fun _ _ _ => Iff.rfl⟩
 refine RunC.loopX Inv0 (fun aa ww hF hS => ⟨_, (hInv0 _ _ _).2 ⟨0, 0, (by omega), (by omega), (by simp), rfl, (by omega), rfl, hF.sub (Sub.of rfl), hS.sub (perm_self _)⟩⟩) ?_
 intro mm0 aa ww hv
 obtain ⟨k, n1, hk, hk2, hn, hnn, hnb, hmm_, hF, hS⟩ := (hInv0 _ _ _).1 hv
 clear hv
 refine RunC.go ?_ hF hS
 clear hF hS aa ww
 refine RunC.seq ?_
 refine RunC.sr ?_
 refine Run.mv ?_
 refine Run.mv ?_
 refine Run.m (y_len rfl Tryz.runUnderlying22 rfl) ?_
 refine Run.m (v := .bool (decide ((k : Int) < (l.length : Int)))) (y_bin rfl rfl rfl bn_lss) ?_
 refine Run.mv ?_
 refine Run.split 3 rfl (b := decide ((k : Int) < (l.length : Int))) (d := 12) (v := .bool ((decide ((k : Int) < (l.length : Int))) && (decide ((k : Int) < 20)))) (fun hb9 K9 => ?_) (fun hb9 K9 => ?_) ?_
 ·
  have hc1009 := hb9; try simp only [z1, z2, z3, z4, z5, z6, z7, z8, z9, z10, z11, z12, z13, z14, z15, z16] at hc1009
  refine Run.yes (v := .int .i64 (k : Int)) (y_move rfl rfl) rfl rfl rfl rfl (hb9) rfl (by decide) ?_
  refine Run.yes (v := .bool (decide ((k : Int) < 20))) (y_bin rfl rfl rfl bn_lss) rfl rfl rfl rfl (hb9) rfl (by decide) ?_
  refine Run.y (y_pickB rfl rfl (hb9) rfl) rfl rfl (by decide) ?_
  exact K9 _ _ _ (Imm.le.refl _) (by rw [hb9]; simp) (Sub.tl 2 rfl rfl)
 ·
  have hc1009 := hb9; try simp only [z1, z2, z3, z4, z5, z6, z7, z8, z9, z10, z11, z12, z13, z14, z15, z16] at hc1009
  refine Run.no rfl rfl rfl rfl (hb9) rfl (by decide) ?_
  refine Run.no rfl rfl rfl rfl (hb9) rfl (by decide) ?_
  refine Run.y (y_pickB rfl rfl (hb9) rfl) rfl rfl (by decide) ?_
  exact K9 _ _ _ (Imm.le.refl _) (by rw [hb9]; simp) (Sub.tl 2 rfl rfl)
 refine Run.nx ?_
 refine RunC.cond rfl (fun hc0 => ?_) (fun hc0 => ?_)
 ·
  try simp only [z1, z2, z3, z4, z5, z6, z7, z8, z9, z10, z11, z12, z13, z14, z15, z16] at hc0
  refine RunC.skip ?_
  refine RunQ.next ?_
  refine RunC.seq ?_
  refine RunC.block ?_
  refine RunC.seq ?_
  refine RunC.sr ?_
  refine Run.mv ?_
  refine Run.mv ?_
  obtain ⟨x17, p17_1, cs17_1, hx17, hp17_1, hcs17_1, hrc17_1⟩ := Sl.at_ (P := Tryz.prog) (T := tTape) Tryz.runUnderlying22 Tryz.sizeOf45 hl (k := .i64) (i := (k : Int)) (by omega) (by omega)
  replace hx17 : l[k]? = some x17 := hx17
  obtain ⟨A17_1_2, c17_1_2, rfl, f17_1_0, f17_1_1, f17_1_2⟩ := hcs17_1
  have hsm17_1_2 := f17_1_2.small
  refine Run.m (v := .pointer (some p17_1)) (y_index rfl rfl rfl hp17_1) ?_
  refine Run.m (v := .agg [.int .i64 x17.label, .int .i64 x17.cap, .slice A17_1_2 x17.blocks.length c17_1_2, .bool x17.lost].toArray) (y_loadA (cs := [.int .i64 x17.label, .int .i64 x17.cap, .slice A17_1_2 x17.blocks.length c17_1_2, .bool x17.lost]) rfl Tryz.isAgg45 Tryz.sizeOf45 rfl hrc17_1 rfl) ?_
  refine Run.callV (en_func rfl Tryz.call25 rfl) (conv_bool (c_cartridgelaw8_Few _ x17 ⟨_, _, rfl, f17_1_0, f17_1_1, f17_1_2⟩)) rfl rfl (by decide) (fun hI2 => ?_)
  refine Run.m (v := .bool (!(fewT x17))) (y_not (b := (fewT x17)) rfl rfl) ?_
  refine Run.nx ?_
  refine RunC.cond rfl (fun hc1 => ?_) (fun hc1 => ?_)
  ·
   try simp only [z1, z2, z3, z4, z5, z6, z7, z8, z9, z10, z11, z12, z13, z14, z15, z16] at hc1
   refine RunC.sr ?_
   refine Run.as ?_
   refine Run.nx ?_
   refine RunC.ret ?_
   refine RunQ.pass (fun h => by cases h) ?_
   refine RunQ.inR ?_
   refine RunQ.pass (fun h => by cases h) ?_
   refine RunQ.pass (fun h => by cases h) ?_
   refine RunQ.inR ?_
   refine RunQ.pass (fun h => by cases h) ?_
   refine RunQ.weak Sub.refl (perm_nil _) ?_
   refine RunQ.fin1 (.inl rfl) Tryz.results7 (rv_tmp rfl) ?_
   exact ⟨rfl, _, rfl, (rd_eq (T := tBool) (x := false) rfl (by first | exact (fewL_no (by omega) hx17 hc1).symm | (rw [hnn]; exact fewL_end (by omega) hk hk2 hn)))⟩
  ·
   try simp only [z1, z2, z3, z4, z5, z6, z7, z8, z9, z10, z11, z12, z13, z14, z15, z16] at hc1
   refine RunC.skip ?_
   refine RunQ.next ?_
   refine RunC.region ?_
   refine Run.mv ?_
   refine Run.mv ?_
   refine Run.mv ?_
   obtain ⟨x24, p24_3, cs24_3, hx24, hp24_3, hcs24_3, hrc24_3⟩ := Sl.at_ (P := Tryz.prog) (T := tTape) Tryz.runUnderlying22 Tryz.sizeOf45 hl (k := .i64) (i := (k : Int)) (by omega) (by omega)
   replace hx24 : l[k]? = some x24 := hx24
   obtain ⟨A24_3_2, c24_3_2, rfl, f24_3_0, f24_3_1, f24_3_2⟩ := hcs24_3
   have hsm24_3_2 := f24_3_2.small
   have e9 : x24 = x17 := Option.some.inj (hx24.symm.trans hx17)
   have h90 : x24.blocks.length ≤ 90 := by rw [e9]; exact (fewT_bd hc1).1
   refine Run.m (v := .pointer (some p24_3)) (y_index rfl rfl rfl hp24_3) ?_
   refine Run.m (v := .pointer (some (p24_3.add 2))) (y_fieldAddr rfl rfl Tryz.runUnderlying45 rfl Tryz.sizeOf43 (by decide) rfl) ?_
   refine Run.m (v := .slice A24_3_2 x24.blocks.length c24_3_2) (y_load1 rfl Tryz.isAgg43 rfl (RCells.at_ hrc24_3 2 rfl rfl)) ?_
   refine Run.m (y_len rfl Tryz.runUnderlying43 rfl) ?_
   refine Run.m (v := .int .i64 ((n1 : Int) + (x24.blocks.length : Int))) (y_bin rfl rfl rfl (bn_add (by omega) (by omega))) ?_
   refine Run.as ?_
   refine Run.nil ?_
   refine RunQ.inB ?_
   refine RunQ.next ?_
   refine RunC.region ?_
   refine Run.mv ?_
   refine Run.m (v := .int .i64 ((k : Int) + 1)) (y_bin rfl rfl rfl (bn_add (by omega) (by omega))) ?_
   refine Run.as ?_
   refine Run.nil ?_
   exact RunQ.thenI (fun aa ww hF hS => ⟨_, (by omega), (hInv0 _ _ _).2 ⟨(k + 1), (n1 + x24.blocks.length), (by omega), (by omega), (few_snoc hx17 hn hc1), (by rw [blkN_snoc hx24]; omega), (by omega), rfl, hF.sub (Sub.of rfl), hS.sub (perm_self _)⟩⟩)
 ·
  try simp only [z1, z2, z3, z4, z5, z6, z7, z8, z9, z10, z11, z12, z13, z14, z15, z16] at hc0
  refine RunC.exit ?_
  refine RunQ.pass (fun h => by cases h) ?_
  refine RunQ.pass (fun h => by cases h) ?_
  refine RunQ.out ?_
  refine RunQ.next ?_
  refine RunC.sr ?_
  refine Run.mv ?_
  refine Run.m (y_len rfl Tryz.runUnderlying22 rfl) ?_
  refine Run.m (v := .bool (decide ((l.length : Int) ≤ 14))) (y_bin rfl rfl rfl bn_leq) ?_
  refine Run.mv ?_
  refine Run.split 3 rfl (b := decide ((l.length : Int) ≤ 14)) (d := 35) (v := .bool ((decide ((l.length : Int) ≤ 14)) && (decide ((n1 : Int) ≤ 300)))) (fun hb32 K32 => ?_) (fun hb32 K32 => ?_) ?_
  ·
   have hc1032 := hb32; try simp only [z1, z2, z3, z4, z5, z6, z7, z8, z9, z10, z11, z12, z13, z14, z15, z16] at hc1032
   refine Run.yes (v := .int .i64 (n1 : Int)) (y_move rfl rfl) rfl rfl rfl rfl (hb32) rfl (by decide) ?_
   refine Run.yes (v := .bool (decide ((n1 : Int) ≤ 300))) (y_bin rfl rfl rfl bn_leq) rfl rfl rfl rfl (hb32) rfl (by decide) ?_
   refine Run.y (y_pickB rfl rfl (hb32) rfl) rfl rfl (by decide) ?_
   exact K32 _ _ _ (Imm.le.refl _) (by rw [hb32]; simp) (Sub.tl 2 rfl rfl)
  ·
   have hc1032 := hb32; try simp only [z1, z2, z3, z4, z5, z6, z7, z8, z9, z10, z11, z12, z13, z14, z15, z16] at hc1032
   refine Run.no rfl rfl rfl rfl (hb32) rfl (by decide) ?_
   refine Run.no rfl rfl rfl rfl (hb32) rfl (by decide) ?_
   refine Run.y (y_pickB rfl rfl (hb32) rfl) rfl rfl (by decide) ?_
   exact K32 _ _ _ (Imm.le.refl _) (by rw [hb32]; simp) (Sub.tl 2 rfl rfl)
  refine Run.as ?_
  refine Run.nx ?_
  refine RunC.ret ?_
  refine RunQ.weak Sub.refl (perm_nil _) ?_
  refine RunQ.fin1 (.inl rfl) Tryz.results7 (rv_tmp rfl) ?_
  exact ⟨rfl, _, rfl, (rd_eq (T := tBool) (x := ((decide ((l.length : Int) ≤ 14)) && (decide ((n1 : Int) ≤ 300)))) rfl (by first | exact (fewL_no (by omega) hx17 hc1).symm | (rw [hnn]; exact fewL_end (by omega) hk hk2 hn)))⟩
end Go.Proofs.YtmelbclhkkbmiaaGreat.K
