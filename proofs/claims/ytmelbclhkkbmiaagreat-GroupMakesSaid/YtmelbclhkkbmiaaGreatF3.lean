/- Contracts of functions of the program, each proved by a walk through its operations, for all memory and all arguments that the theorem names. Printed by a program of mine. -/
import Derived.Test.YtmelbclhkkbmiaaGreatF2
set_option linter.unusedVariables false
set_option linter.unusedSimpArgs false
set_option maxRecDepth 100000
namespace Go.Proofs.YtmelbclhkkbmiaaGreat.K
open Go Go.RowKit

theorem c_volume_Good (I : Imm) {cst : List Value} (t : ATape) (ht : tTape.rd I cst t) (n : Int) (hn : I64 n) (hsz : ∀ b ∈ t.blocks, b.length ≤ 1000000) : Con Tryz.prog 86 [.agg cst.toArray, .int .i64 n].toArray I [] (Ret2 (tUnit.g) (tBool.o) ((vGood t n).1) ((vGood t n).2)) := by
 obtain ⟨At_2, ct_2, rfl, ft_0, ft_1, ft_2⟩ := ht
 have hsmt_2 := ft_2.small
 refine Con.enter (n := 48) (L := [(0, .agg [.int .i64 t.label, .int .i64 t.cap, .slice At_2 t.blocks.length ct_2, .bool t.lost].toArray), (1, .int .i64 n)]) Tryz.func86 rfl rfl (Nat.le_of_ble_eq_true rfl) rfl (fun E => ?_)
 refine RunC.sr ?_
 refine Run.box (cs := [.int .i64 t.label, .int .i64 t.cap, .slice At_2 t.blocks.length ct_2, .bool t.lost]) rfl rfl rfl rfl rfl (by decide) (fun g2 => ?_)
 refine Run.alloc (cs := [.int .i64 0, .int .i64 0, .int .i64 0, .slice none 0 0]) rfl Tryz.zeroValue63 rfl rfl rfl (by decide) (fun g4_1 => ?_)
 refine Run.as ?_
 refine Run.nx ?_
 refine RunC.seq ?_
 refine RunC.sr ?_
 refine Run.m (v := .pointer (some ⟨g2, 3, none⟩)) (y_fieldAddr rfl rfl Tryz.runUnderlying45 rfl Tryz.sizeOf4 (by decide) rfl) ?_
 refine Run.m (v := .bool t.lost) (y_loadB1 1 rfl Tryz.isAgg4 rfl rfl rfl) ?_
 refine Run.mv ?_
 refine Run.split 3 rfl (b := t.lost) (d := 13) (v := .bool (t.lost || (decide (n < 0)))) (fun hb10 K10 => ?_) (fun hb10 K10 => ?_) ?_
 ·
  have hc1010 := hb10; try simp only [z1, z2, z3, z4, z5, z6, z7, z8, z9, z10, z11, z12, z13, z14, z15, z16] at hc1010
  refine Run.no rfl rfl rfl rfl (hb10) rfl (by decide) ?_
  refine Run.no rfl rfl rfl rfl (hb10) rfl (by decide) ?_
  refine Run.y (y_pickB rfl rfl (hb10) rfl) rfl rfl (by decide) ?_
  exact K10 _ _ _ (Imm.le.refl _) (by rw [hb10]; simp) (Sub.tl 2 rfl rfl)
 ·
  have hc1010 := hb10; try simp only [z1, z2, z3, z4, z5, z6, z7, z8, z9, z10, z11, z12, z13, z14, z15, z16] at hc1010
  refine Run.yes (v := .int .i64 n) (y_move rfl rfl) rfl rfl rfl rfl (hb10) rfl (by decide) ?_
  refine Run.yes (v := .bool (decide (n < 0))) (y_bin rfl rfl rfl bn_lss) rfl rfl rfl rfl (hb10) rfl (by decide) ?_
  refine Run.y (y_pickB rfl rfl (hb10) rfl) rfl rfl (by decide) ?_
  exact K10 _ _ _ (Imm.le.refl _) (by rw [hb10]; simp) (Sub.tl 2 rfl rfl)
 refine Run.mv ?_
 refine Run.split 6 rfl (b := (t.lost || (decide (n < 0)))) (d := 20) (v := .bool ((t.lost || (decide (n < 0))) || (decide (n ≥ (t.blocks.length : Int))))) (fun hb14 K14 => ?_) (fun hb14 K14 => ?_) ?_
 ·
  have hc1014 := hb14; try simp only [z1, z2, z3, z4, z5, z6, z7, z8, z9, z10, z11, z12, z13, z14, z15, z16] at hc1014
  refine Run.no rfl rfl rfl rfl (hb14) rfl (by decide) ?_
  refine Run.no rfl rfl rfl rfl (hb14) rfl (by decide) ?_
  refine Run.no rfl rfl rfl rfl (hb14) rfl (by decide) ?_
  refine Run.no rfl rfl rfl rfl (hb14) rfl (by decide) ?_
  refine Run.no rfl rfl rfl rfl (hb14) rfl (by decide) ?_
  refine Run.y (y_pickB rfl rfl (hb14) rfl) rfl rfl (by decide) ?_
  exact K14 _ _ _ (Imm.le.refl _) (by rw [hb14]; simp) (Sub.tl 5 rfl rfl)
 ·
  have hc1014 := hb14; try simp only [z1, z2, z3, z4, z5, z6, z7, z8, z9, z10, z11, z12, z13, z14, z15, z16] at hc1014
  refine Run.yes (v := .int .i64 n) (y_move rfl rfl) rfl rfl rfl rfl (hb14) rfl (by decide) ?_
  refine Run.yes (v := .pointer (some ⟨g2, 2, none⟩)) (y_fieldAddr rfl rfl Tryz.runUnderlying45 rfl Tryz.sizeOf43 (by decide) rfl) rfl rfl rfl rfl (hb14) rfl (by decide) ?_
  refine Run.yes (v := .slice At_2 t.blocks.length ct_2) (y_loadB1 1 rfl Tryz.isAgg43 rfl rfl rfl) rfl rfl rfl rfl (hb14) rfl (by decide) ?_
  refine Run.yes (v := .int .i64 (t.blocks.length : Int)) (y_len rfl Tryz.runUnderlying43 rfl) rfl rfl rfl rfl (hb14) rfl (by decide) ?_
  refine Run.yes (v := .bool (decide (n ≥ (t.blocks.length : Int)))) (y_bin rfl rfl rfl bn_geq) rfl rfl rfl rfl (hb14) rfl (by decide) ?_
  refine Run.y (y_pickB rfl rfl (hb14) rfl) rfl rfl (by decide) ?_
  exact K14 _ _ _ (Imm.le.refl _) (by rw [hb14]; simp) (Sub.tl 5 rfl rfl)
 refine Run.nx ?_
 refine RunC.cond rfl (fun hc0 => ?_) (fun hc0 => ?_)
 ·
  try simp only [z1, z2, z3, z4, z5, z6, z7, z8, z9, z10, z11, z12, z13, z14, z15, z16] at hc0
  refine RunC.sr ?_
  refine Run.m (v := .agg [.int .i64 0, .int .i64 0, .int .i64 0, .slice none 0 0].toArray) (y_build (vs := []) rfl rfl (fun w => by simp [Instr.build, Tryz.zeroValue63, Tryz.runUnderlying63, Tryz.sizeOf3, Tryz.sizeOf42, Instr.fill, Value.cells])) ?_
  refine Run.storeB (vs := [.int .i64 0, .int .i64 0, .int .i64 0, .slice none 0 0]) (cs' := [.int .i64 0, .int .i64 0, .int .i64 0, .slice none 0 0]) (own' := [blk g2 [.int .i64 t.label, .int .i64 t.cap, .slice At_2 t.blocks.length ct_2, .bool t.lost] 45]) 0 rfl rfl rfl Tryz.sizeOf63 rfl rfl rfl rfl rfl (Nat.le_of_ble_eq_true rfl) rfl rfl rfl ?_
  refine Run.as ?_
  refine Run.nx ?_
  refine RunC.ret ?_
  refine RunQ.pass (fun h => by cases h) ?_
  refine RunQ.end2 (.inl rfl) Tryz.results86 (rv_cellA (i := 0) rfl Tryz.isAgg63 Tryz.sizeOf63 rfl rfl) (rv_tmp rfl) ?_
  exact ⟨rfl, _, _, rfl, (rd_eq (T := tUnit) (x := (⟨0, 0, 0, ([] : List UInt8)⟩ : AUnit)) ⟨_, _, rfl, (by first | omega | (dsimp only; omega)), (by first | omega | (dsimp only; omega)), (by first | omega | (dsimp only; omega)), sl_nil0⟩ (by first | (rw [vGood_no1 hc0] <;> rfl) | (rw [vGood_no2 hx26 hc1] <;> rfl) | (rw [vGood_yes hc0 hx26 hc1] <;> rfl))), (rd_eq (T := tBool) (x := false) rfl (by first | (rw [vGood_no1 hc0] <;> rfl) | (rw [vGood_no2 hx26 hc1] <;> rfl) | (rw [vGood_yes hc0 hx26 hc1] <;> rfl)))⟩
 ·
  try simp only [z1, z2, z3, z4, z5, z6, z7, z8, z9, z10, z11, z12, z13, z14, z15, z16] at hc0
  refine RunC.skip ?_
  refine RunQ.next ?_
  refine RunC.sr ?_
  refine Run.m (v := .pointer (some ⟨g2, 2, none⟩)) (y_fieldAddr rfl rfl Tryz.runUnderlying45 rfl Tryz.sizeOf43 (by decide) rfl) ?_
  refine Run.m (v := .slice At_2 t.blocks.length ct_2) (y_loadB1 1 rfl Tryz.isAgg43 rfl rfl rfl) ?_
  refine Run.mv ?_
  obtain ⟨x26, p26_2, cs26_2, hx26, hp26_2, hcs26_2, hrc26_2⟩ := Sl.at_ (P := Tryz.prog) (T := (tSl tU8)) Tryz.runUnderlying43 Tryz.sizeOf42 ft_2 (k := .i64) (i := n) (by omega) (by omega)
  obtain ⟨A26_2_0, c26_2_0, rfl, f26_2_0⟩ := hcs26_2
  have hsm26_2_0 := f26_2_0.small
  refine Run.m (v := .pointer (some p26_2)) (y_index rfl rfl rfl hp26_2) ?_
  refine Run.m (v := .slice A26_2_0 x26.length c26_2_0) (y_load1 rfl Tryz.isAgg42 rfl (RCells.hd hrc26_2)) ?_
  refine Run.call0 (en_func rfl Tryz.call117 rfl) (c_frame_Get _ x26 f26_2_0 (hsz _ (List.mem_of_getElem? hx26))) rfl rfl (by decide) (fun J3 o3 v3 hleJ3 hq3 => ?_)
  obtain ⟨rfl, cs3a, cs3b, rfl, h3a, h3b⟩ := hq3
  replace h3a : tUnit.rd J3 cs3a ((fGet x26).1) := h3a
  obtain ⟨A3a_3, c3a_3, rfl, f3a_0, f3a_1, f3a_2, f3a_3⟩ := h3a
  have hsm3a_3 := f3a_3.small
  replace h3b : tInt.rd J3 cs3b ((fGet x26).2) := h3b
  obtain ⟨rfl, f3b_0⟩ := h3b
  refine Run.mv ?_
  refine Run.m (y_extract rfl rfl rfl) ?_
  refine Run.m (y_extract rfl rfl rfl) ?_
  refine Run.alloc (cs := [.int .i64 0, .int .i64 0, .int .i64 0, .slice none 0 0]) rfl Tryz.zeroValue63 rfl rfl rfl (by decide) (fun g6_4 => ?_)
  refine Run.storeB (vs := [.int .i64 (((fGet x26).1).kind), .int .i64 (((fGet x26).1).label), .int .i64 (((fGet x26).1).number), .slice A3a_3 ((((fGet x26).1).load).length) c3a_3]) (cs' := [.int .i64 (((fGet x26).1).kind), .int .i64 (((fGet x26).1).label), .int .i64 (((fGet x26).1).number), .slice A3a_3 ((((fGet x26).1).load).length) c3a_3]) (own' := [blk g4_1 [.int .i64 0, .int .i64 0, .int .i64 0, .slice none 0 0] 63, blk g2 [.int .i64 t.label, .int .i64 t.cap, .slice At_2 t.blocks.length ct_2, .bool t.lost] 45]) 0 rfl rfl rfl Tryz.sizeOf63 rfl rfl rfl rfl rfl (Nat.le_of_ble_eq_true rfl) rfl rfl rfl ?_
  refine Run.as ?_
  refine Run.nx ?_
  refine RunC.seq ?_
  refine RunC.sr ?_
  refine Run.mv ?_
  refine Run.m (v := .bool (decide ((fGet x26).2 ≠ 0))) (y_bin rfl rfl rfl bn_neq) ?_
  refine Run.mv ?_
  refine Run.split 6 rfl (b := decide ((fGet x26).2 ≠ 0)) (d := 39) (v := .bool ((decide ((fGet x26).2 ≠ 0)) || (decide (((fGet x26).1).label ≠ t.label)))) (fun hb33 K33 => ?_) (fun hb33 K33 => ?_) ?_
  ·
   have hc1033 := hb33; try simp only [z1, z2, z3, z4, z5, z6, z7, z8, z9, z10, z11, z12, z13, z14, z15, z16] at hc1033
   refine Run.no rfl rfl rfl rfl (hb33) rfl (by decide) ?_
   refine Run.no rfl rfl rfl rfl (hb33) rfl (by decide) ?_
   refine Run.no rfl rfl rfl rfl (hb33) rfl (by decide) ?_
   refine Run.no rfl rfl rfl rfl (hb33) rfl (by decide) ?_
   refine Run.no rfl rfl rfl rfl (hb33) rfl (by decide) ?_
   refine Run.y (y_pickB rfl rfl (hb33) rfl) rfl rfl (by decide) ?_
   exact K33 _ _ _ (Imm.le.refl _) (by rw [hb33]; simp) (Sub.tl 5 rfl rfl)
  ·
   have hc1033 := hb33; try simp only [z1, z2, z3, z4, z5, z6, z7, z8, z9, z10, z11, z12, z13, z14, z15, z16] at hc1033
   refine Run.yes (v := .pointer (some ⟨g6_4, 1, none⟩)) (y_fieldAddr rfl rfl Tryz.runUnderlying63 rfl Tryz.sizeOf3 (by decide) rfl) rfl rfl rfl rfl (hb33) rfl (by decide) ?_
   refine Run.yes (v := .int .i64 (((fGet x26).1).label)) (y_loadB1 0 rfl Tryz.isAgg3 rfl rfl rfl) rfl rfl rfl rfl (hb33) rfl (by decide) ?_
   refine Run.yes (v := .pointer (some ⟨g2, 0, none⟩)) (y_fieldAddr rfl rfl Tryz.runUnderlying45 rfl Tryz.sizeOf3 (by decide) rfl) rfl rfl rfl rfl (hb33) rfl (by decide) ?_
   refine Run.yes (v := .int .i64 t.label) (y_loadB1 2 rfl Tryz.isAgg3 rfl rfl rfl) rfl rfl rfl rfl (hb33) rfl (by decide) ?_
   refine Run.yes (v := .bool (decide (((fGet x26).1).label ≠ t.label))) (y_bin rfl rfl rfl bn_neq) rfl rfl rfl rfl (hb33) rfl (by decide) ?_
   refine Run.y (y_pickB rfl rfl (hb33) rfl) rfl rfl (by decide) ?_
   exact K33 _ _ _ (Imm.le.refl _) (by rw [hb33]; simp) (Sub.tl 5 rfl rfl)
  refine Run.mv ?_
  refine Run.split 5 rfl (b := ((decide ((fGet x26).2 ≠ 0)) || (decide (((fGet x26).1).label ≠ t.label)))) (d := 45) (v := .bool (((decide ((fGet x26).2 ≠ 0)) || (decide (((fGet x26).1).label ≠ t.label))) || (decide (((fGet x26).1).number ≠ n)))) (fun hb40 K40 => ?_) (fun hb40 K40 => ?_) ?_
  ·
   have hc1040 := hb40; try simp only [z1, z2, z3, z4, z5, z6, z7, z8, z9, z10, z11, z12, z13, z14, z15, z16] at hc1040
   refine Run.no rfl rfl rfl rfl (hb40) rfl (by decide) ?_
   refine Run.no rfl rfl rfl rfl (hb40) rfl (by decide) ?_
   refine Run.no rfl rfl rfl rfl (hb40) rfl (by decide) ?_
   refine Run.no rfl rfl rfl rfl (hb40) rfl (by decide) ?_
   refine Run.y (y_pickB rfl rfl (hb40) rfl) rfl rfl (by decide) ?_
   exact K40 _ _ _ (Imm.le.refl _) (by rw [hb40]; simp) (Sub.tl 4 rfl rfl)
  ·
   have hc1040 := hb40; try simp only [z1, z2, z3, z4, z5, z6, z7, z8, z9, z10, z11, z12, z13, z14, z15, z16] at hc1040
   refine Run.yes (v := .pointer (some ⟨g6_4, 2, none⟩)) (y_fieldAddr rfl rfl Tryz.runUnderlying63 rfl Tryz.sizeOf3 (by decide) rfl) rfl rfl rfl rfl (hb40) rfl (by decide) ?_
   refine Run.yes (v := .int .i64 (((fGet x26).1).number)) (y_loadB1 0 rfl Tryz.isAgg3 rfl rfl rfl) rfl rfl rfl rfl (hb40) rfl (by decide) ?_
   refine Run.yes (v := .int .i64 n) (y_move rfl rfl) rfl rfl rfl rfl (hb40) rfl (by decide) ?_
   refine Run.yes (v := .bool (decide (((fGet x26).1).number ≠ n))) (y_bin rfl rfl rfl bn_neq) rfl rfl rfl rfl (hb40) rfl (by decide) ?_
   refine Run.y (y_pickB rfl rfl (hb40) rfl) rfl rfl (by decide) ?_
   exact K40 _ _ _ (Imm.le.refl _) (by rw [hb40]; simp) (Sub.tl 4 rfl rfl)
  refine Run.nx ?_
  refine RunC.cond rfl (fun hc1 => ?_) (fun hc1 => ?_)
  ·
   try simp only [z1, z2, z3, z4, z5, z6, z7, z8, z9, z10, z11, z12, z13, z14, z15, z16] at hc1
   refine RunC.sr ?_
   refine Run.m (v := .agg [.int .i64 0, .int .i64 0, .int .i64 0, .slice none 0 0].toArray) (y_build (vs := []) rfl rfl (fun w => by simp [Instr.build, Tryz.zeroValue63, Tryz.runUnderlying63, Tryz.sizeOf3, Tryz.sizeOf42, Instr.fill, Value.cells])) ?_
   refine Run.storeB (vs := [.int .i64 0, .int .i64 0, .int .i64 0, .slice none 0 0]) (cs' := [.int .i64 0, .int .i64 0, .int .i64 0, .slice none 0 0]) (own' := [blk g6_4 [.int .i64 (((fGet x26).1).kind), .int .i64 (((fGet x26).1).label), .int .i64 (((fGet x26).1).number), .slice A3a_3 ((((fGet x26).1).load).length) c3a_3] 63, blk g2 [.int .i64 t.label, .int .i64 t.cap, .slice At_2 t.blocks.length ct_2, .bool t.lost] 45]) 1 rfl rfl rfl Tryz.sizeOf63 rfl rfl rfl rfl rfl (Nat.le_of_ble_eq_true rfl) rfl rfl rfl ?_
   refine Run.as ?_
   refine Run.nx ?_
   refine RunC.ret ?_
   refine RunQ.pass (fun h => by cases h) ?_
   refine RunQ.end2 (.inl rfl) Tryz.results86 (rv_cellA (i := 0) rfl Tryz.isAgg63 Tryz.sizeOf63 rfl rfl) (rv_tmp rfl) ?_
   exact ⟨rfl, _, _, rfl, (rd_eq (T := tUnit) (x := (⟨0, 0, 0, ([] : List UInt8)⟩ : AUnit)) ⟨_, _, rfl, (by first | omega | (dsimp only; omega)), (by first | omega | (dsimp only; omega)), (by first | omega | (dsimp only; omega)), sl_nil0⟩ (by first | (rw [vGood_no1 hc0] <;> rfl) | (rw [vGood_no2 hx26 hc1] <;> rfl) | (rw [vGood_yes hc0 hx26 hc1] <;> rfl))), (rd_eq (T := tBool) (x := false) rfl (by first | (rw [vGood_no1 hc0] <;> rfl) | (rw [vGood_no2 hx26 hc1] <;> rfl) | (rw [vGood_yes hc0 hx26 hc1] <;> rfl)))⟩
  ·
   try simp only [z1, z2, z3, z4, z5, z6, z7, z8, z9, z10, z11, z12, z13, z14, z15, z16] at hc1
   refine RunC.skip ?_
   refine RunQ.next ?_
   refine RunC.sr ?_
   refine Run.m (v := .agg [.int .i64 (((fGet x26).1).kind), .int .i64 (((fGet x26).1).label), .int .i64 (((fGet x26).1).number), .slice A3a_3 ((((fGet x26).1).load).length) c3a_3].toArray) (y_loadBA 0 rfl Tryz.isAgg63 Tryz.sizeOf63 rfl rfl rfl rfl) ?_
   refine Run.storeB (vs := [.int .i64 (((fGet x26).1).kind), .int .i64 (((fGet x26).1).label), .int .i64 (((fGet x26).1).number), .slice A3a_3 ((((fGet x26).1).load).length) c3a_3]) (cs' := [.int .i64 (((fGet x26).1).kind), .int .i64 (((fGet x26).1).label), .int .i64 (((fGet x26).1).number), .slice A3a_3 ((((fGet x26).1).load).length) c3a_3]) (own' := [blk g6_4 [.int .i64 (((fGet x26).1).kind), .int .i64 (((fGet x26).1).label), .int .i64 (((fGet x26).1).number), .slice A3a_3 ((((fGet x26).1).load).length) c3a_3] 63, blk g2 [.int .i64 t.label, .int .i64 t.cap, .slice At_2 t.blocks.length ct_2, .bool t.lost] 45]) 1 rfl rfl rfl Tryz.sizeOf63 rfl rfl rfl rfl rfl (Nat.le_of_ble_eq_true rfl) rfl rfl rfl ?_
   refine Run.as ?_
   refine Run.nx ?_
   refine RunC.ret ?_
   refine RunQ.end2 (.inl rfl) Tryz.results86 (rv_cellA (i := 0) rfl Tryz.isAgg63 Tryz.sizeOf63 rfl rfl) (rv_tmp rfl) ?_
   exact ⟨rfl, _, _, rfl, (rd_eq (T := tUnit) (x := ((fGet x26).1)) ⟨_, _, rfl, f3a_0, f3a_1, f3a_2, f3a_3⟩ (by first | (rw [vGood_no1 hc0] <;> rfl) | (rw [vGood_no2 hx26 hc1] <;> rfl) | (rw [vGood_yes hc0 hx26 hc1] <;> rfl))), (rd_eq (T := tBool) (x := true) rfl (by first | (rw [vGood_no1 hc0] <;> rfl) | (rw [vGood_no2 hx26 hc1] <;> rfl) | (rw [vGood_yes hc0 hx26 hc1] <;> rfl)))⟩

theorem c_volume_Sealed (I : Imm) {cst : List Value} (t : ATape) (ht : tTape.rd I cst t) (hsz : ∀ b ∈ t.blocks, b.length ≤ 1000000) : Con Tryz.prog 38 [.agg cst.toArray].toArray I [] (Ret2 (tSeal.g) (tBool.o) ((vSealed t).1) ((vSealed t).2)) := by
 obtain ⟨At_2, ct_2, rfl, ft_0, ft_1, ft_2⟩ := ht
 have hsmt_2 := ft_2.small
 refine Con.enter (n := 34) (L := [(0, .agg [.int .i64 t.label, .int .i64 t.cap, .slice At_2 t.blocks.length ct_2, .bool t.lost].toArray)]) Tryz.func38 rfl rfl (Nat.le_of_ble_eq_true rfl) rfl (fun E => ?_)
 refine RunC.sr ?_
 refine Run.box (cs := [.int .i64 t.label, .int .i64 t.cap, .slice At_2 t.blocks.length ct_2, .bool t.lost]) rfl rfl rfl rfl rfl (by decide) (fun g1 => ?_)
 refine Run.alloc (cs := [.int .i64 0, .int .i64 0, .int .i64 0, .int .i64 0, .slice none 0 0]) rfl Tryz.zeroValue38 rfl rfl rfl (by decide) (fun g2_1 => ?_)
 refine Run.as ?_
 refine Run.nx ?_
 refine RunC.sr ?_
 refine Run.m (v := .agg [.int .i64 t.label, .int .i64 t.cap, .slice At_2 t.blocks.length ct_2, .bool t.lost].toArray) (y_loadBA 1 rfl Tryz.isAgg45 Tryz.sizeOf45 rfl rfl rfl rfl) ?_
 refine Run.m (v := .pointer (some ⟨g1, 2, none⟩)) (y_fieldAddr rfl rfl Tryz.runUnderlying45 rfl Tryz.sizeOf43 (by decide) rfl) ?_
 refine Run.m (v := .slice At_2 t.blocks.length ct_2) (y_loadB1 1 rfl Tryz.isAgg43 rfl rfl rfl) ?_
 refine Run.m (y_len rfl Tryz.runUnderlying43 rfl) ?_
 refine Run.m (v := .int .i64 ((t.blocks.length : Int) - 1)) (y_bin rfl rfl rfl (bn_sub (by omega) (by omega))) ?_
 refine Run.call0 (en_func rfl Tryz.call86 rfl) (c_volume_Good _ t ⟨_, _, rfl, ft_0, ft_1, ft_2⟩ ((t.blocks.length : Int) - 1) (by omega) hsz) rfl rfl (by decide) (fun J2 o2 v2 hleJ2 hq2 => ?_)
 obtain ⟨rfl, cs2a, cs2b, rfl, h2a, h2b⟩ := hq2
 replace h2a : tUnit.rd J2 cs2a ((vGood t ((t.blocks.length : Int) - 1)).1) := h2a
 obtain ⟨A2a_3, c2a_3, rfl, f2a_0, f2a_1, f2a_2, f2a_3⟩ := h2a
 have hsm2a_3 := f2a_3.small
 replace h2b : tBool.rd J2 cs2b ((vGood t ((t.blocks.length : Int) - 1)).2) := h2b
 obtain rfl := h2b
 refine Run.mv ?_
 refine Run.m (y_extract rfl rfl rfl) ?_
 refine Run.m (y_extract rfl rfl rfl) ?_
 refine Run.alloc (cs := [.int .i64 0, .int .i64 0, .int .i64 0, .slice none 0 0]) rfl Tryz.zeroValue63 rfl rfl rfl (by decide) (fun g4_3 => ?_)
 refine Run.storeB (vs := [.int .i64 (((vGood t ((t.blocks.length : Int) - 1)).1).kind), .int .i64 (((vGood t ((t.blocks.length : Int) - 1)).1).label), .int .i64 (((vGood t ((t.blocks.length : Int) - 1)).1).number), .slice A2a_3 ((((vGood t ((t.blocks.length : Int) - 1)).1).load).length) c2a_3]) (cs' := [.int .i64 (((vGood t ((t.blocks.length : Int) - 1)).1).kind), .int .i64 (((vGood t ((t.blocks.length : Int) - 1)).1).label), .int .i64 (((vGood t ((t.blocks.length : Int) - 1)).1).number), .slice A2a_3 ((((vGood t ((t.blocks.length : Int) - 1)).1).load).length) c2a_3]) (own' := [blk g2_1 [.int .i64 0, .int .i64 0, .int .i64 0, .int .i64 0, .slice none 0 0] 38, blk g1 [.int .i64 t.label, .int .i64 t.cap, .slice At_2 t.blocks.length ct_2, .bool t.lost] 45]) 0 rfl rfl rfl Tryz.sizeOf63 rfl rfl rfl rfl rfl (Nat.le_of_ble_eq_true rfl) rfl rfl rfl ?_
 refine Run.as ?_
 refine Run.nx ?_
 refine RunC.seq ?_
 refine RunC.sr ?_
 refine Run.mv ?_
 refine Run.m (v := .bool (!((vGood t ((t.blocks.length : Int) - 1)).2))) (y_not (b := ((vGood t ((t.blocks.length : Int) - 1)).2)) rfl rfl) ?_
 refine Run.mv ?_
 refine Run.split 4 rfl (b := (!((vGood t ((t.blocks.length : Int) - 1)).2))) (d := 23) (v := .bool ((!((vGood t ((t.blocks.length : Int) - 1)).2)) || (decide (((vGood t ((t.blocks.length : Int) - 1)).1).kind ≠ 5)))) (fun hb19 K19 => ?_) (fun hb19 K19 => ?_) ?_
 ·
  have hc1019 := hb19; try simp only [z1, z2, z3, z4, z5, z6, z7, z8, z9, z10, z11, z12, z13, z14, z15, z16] at hc1019
  refine Run.no rfl rfl rfl rfl (hb19) rfl (by decide) ?_
  refine Run.no rfl rfl rfl rfl (hb19) rfl (by decide) ?_
  refine Run.no rfl rfl rfl rfl (hb19) rfl (by decide) ?_
  refine Run.y (y_pickB rfl rfl (hb19) rfl) rfl rfl (by decide) ?_
  exact K19 _ _ _ (Imm.le.refl _) (by rw [hb19]; simp) (Sub.tl 3 rfl rfl)
 ·
  have hc1019 := hb19; try simp only [z1, z2, z3, z4, z5, z6, z7, z8, z9, z10, z11, z12, z13, z14, z15, z16] at hc1019
  refine Run.yes (v := .pointer (some ⟨g4_3, 0, none⟩)) (y_fieldAddr rfl rfl Tryz.runUnderlying63 rfl Tryz.sizeOf3 (by decide) rfl) rfl rfl rfl rfl (hb19) rfl (by decide) ?_
  refine Run.yes (v := .int .i64 (((vGood t ((t.blocks.length : Int) - 1)).1).kind)) (y_loadB1 0 rfl Tryz.isAgg3 rfl rfl rfl) rfl rfl rfl rfl (hb19) rfl (by decide) ?_
  refine Run.yes (v := .bool (decide (((vGood t ((t.blocks.length : Int) - 1)).1).kind ≠ 5))) (y_bin rfl rfl rfl bn_neq) rfl rfl rfl rfl (hb19) rfl (by decide) ?_
  refine Run.y (y_pickB rfl rfl (hb19) rfl) rfl rfl (by decide) ?_
  exact K19 _ _ _ (Imm.le.refl _) (by rw [hb19]; simp) (Sub.tl 3 rfl rfl)
 refine Run.nx ?_
 refine RunC.cond rfl (fun hc0 => ?_) (fun hc0 => ?_)
 ·
  try simp only [z1, z2, z3, z4, z5, z6, z7, z8, z9, z10, z11, z12, z13, z14, z15, z16] at hc0
  refine RunC.sr ?_
  refine Run.m (v := .agg [.int .i64 0, .int .i64 0, .int .i64 0, .int .i64 0, .slice none 0 0].toArray) (y_build (vs := []) rfl rfl (fun w => by simp [Instr.build, Tryz.zeroValue38, Tryz.runUnderlying38, Tryz.sizeOf3, Tryz.sizeOf36, Instr.fill, Value.cells])) ?_
  refine Run.storeB (vs := [.int .i64 0, .int .i64 0, .int .i64 0, .int .i64 0, .slice none 0 0]) (cs' := [.int .i64 0, .int .i64 0, .int .i64 0, .int .i64 0, .slice none 0 0]) (own' := [blk g4_3 [.int .i64 (((vGood t ((t.blocks.length : Int) - 1)).1).kind), .int .i64 (((vGood t ((t.blocks.length : Int) - 1)).1).label), .int .i64 (((vGood t ((t.blocks.length : Int) - 1)).1).number), .slice A2a_3 ((((vGood t ((t.blocks.length : Int) - 1)).1).load).length) c2a_3] 63, blk g1 [.int .i64 t.label, .int .i64 t.cap, .slice At_2 t.blocks.length ct_2, .bool t.lost] 45]) 1 rfl rfl rfl Tryz.sizeOf38 rfl rfl rfl rfl rfl (Nat.le_of_ble_eq_true rfl) rfl rfl rfl ?_
  refine Run.as ?_
  refine Run.nx ?_
  refine RunC.ret ?_
  refine RunQ.pass (fun h => by cases h) ?_
  refine RunQ.end2 (.inl rfl) Tryz.results38 (rv_cellA (i := 0) rfl Tryz.isAgg38 Tryz.sizeOf38 rfl rfl) (rv_tmp rfl) ?_
  exact ⟨rfl, _, _, rfl, (rd_eq (T := tSeal) (x := (⟨0, 0, 0, 0, ([] : List Int)⟩ : ASeal)) ⟨_, _, rfl, (by first | omega | (dsimp only; omega)), (by first | omega | (dsimp only; omega)), (by first | omega | (dsimp only; omega)), (by first | omega | (dsimp only; omega)), sl_nil0⟩ (by first | (rw [vSealed_no hc0] <;> rfl) | (rw [vSealed_yes hc0] <;> rfl))), (rd_eq (T := tBool) (x := false) rfl (by first | (rw [vSealed_no hc0] <;> rfl) | (rw [vSealed_yes hc0] <;> rfl)))⟩
 ·
  try simp only [z1, z2, z3, z4, z5, z6, z7, z8, z9, z10, z11, z12, z13, z14, z15, z16] at hc0
  refine RunC.skip ?_
  refine RunQ.next ?_
  refine RunC.sr ?_
  refine Run.m (v := .pointer (some ⟨g4_3, 3, none⟩)) (y_fieldAddr rfl rfl Tryz.runUnderlying63 rfl Tryz.sizeOf42 (by decide) rfl) ?_
  refine Run.m (v := .slice A2a_3 ((((vGood t ((t.blocks.length : Int) - 1)).1).load).length) c2a_3) (y_loadB1 0 rfl Tryz.isAgg42 rfl rfl rfl) ?_
  refine Run.call0 (en_func rfl Tryz.call87 rfl) (c_record_ReadSeal _ (((vGood t ((t.blocks.length : Int) - 1)).1).load) f2a_3 (Nat.le_trans (vGood_load _ _) (by decide))) rfl rfl (by decide) (fun J4 o4 v4 hleJ4 hq4 => ?_)
  obtain ⟨rfl, cs4a, cs4b, rfl, h4a, h4b⟩ := hq4
  replace h4a : tSeal.rd J4 cs4a ((sRead (((vGood t ((t.blocks.length : Int) - 1)).1).load)).1) := h4a
  obtain ⟨A4a_4, c4a_4, rfl, f4a_0, f4a_1, f4a_2, f4a_3, f4a_4⟩ := h4a
  have hsm4a_4 := f4a_4.small
  replace h4b : tInt.rd J4 cs4b ((sRead (((vGood t ((t.blocks.length : Int) - 1)).1).load)).2) := h4b
  obtain ⟨rfl, f4b_0⟩ := h4b
  refine Run.mv ?_
  refine Run.m (y_extract rfl rfl rfl) ?_
  refine Run.m (y_extract rfl rfl rfl) ?_
  refine Run.alloc (cs := [.int .i64 0, .int .i64 0, .int .i64 0, .int .i64 0, .slice none 0 0]) rfl Tryz.zeroValue38 rfl rfl rfl (by decide) (fun g6_5 => ?_)
  refine Run.storeB (vs := [.int .i64 (((sRead (((vGood t ((t.blocks.length : Int) - 1)).1).load)).1).number), .int .i64 (((sRead (((vGood t ((t.blocks.length : Int) - 1)).1).load)).1).index), .int .i64 (((sRead (((vGood t ((t.blocks.length : Int) - 1)).1).load)).1).data), .int .i64 (((sRead (((vGood t ((t.blocks.length : Int) - 1)).1).load)).1).parity), .slice A4a_4 ((((sRead (((vGood t ((t.blocks.length : Int) - 1)).1).load)).1).labels).length) c4a_4]) (cs' := [.int .i64 (((sRead (((vGood t ((t.blocks.length : Int) - 1)).1).load)).1).number), .int .i64 (((sRead (((vGood t ((t.blocks.length : Int) - 1)).1).load)).1).index), .int .i64 (((sRead (((vGood t ((t.blocks.length : Int) - 1)).1).load)).1).data), .int .i64 (((sRead (((vGood t ((t.blocks.length : Int) - 1)).1).load)).1).parity), .slice A4a_4 ((((sRead (((vGood t ((t.blocks.length : Int) - 1)).1).load)).1).labels).length) c4a_4]) (own' := [blk g4_3 [.int .i64 (((vGood t ((t.blocks.length : Int) - 1)).1).kind), .int .i64 (((vGood t ((t.blocks.length : Int) - 1)).1).label), .int .i64 (((vGood t ((t.blocks.length : Int) - 1)).1).number), .slice A2a_3 ((((vGood t ((t.blocks.length : Int) - 1)).1).load).length) c2a_3] 63, blk g2_1 [.int .i64 0, .int .i64 0, .int .i64 0, .int .i64 0, .slice none 0 0] 38, blk g1 [.int .i64 t.label, .int .i64 t.cap, .slice At_2 t.blocks.length ct_2, .bool t.lost] 45]) 0 rfl rfl rfl Tryz.sizeOf38 rfl rfl rfl rfl rfl (Nat.le_of_ble_eq_true rfl) rfl rfl rfl ?_
  refine Run.as ?_
  refine Run.nx ?_
  refine RunC.sr ?_
  refine Run.m (v := .agg [.int .i64 (((sRead (((vGood t ((t.blocks.length : Int) - 1)).1).load)).1).number), .int .i64 (((sRead (((vGood t ((t.blocks.length : Int) - 1)).1).load)).1).index), .int .i64 (((sRead (((vGood t ((t.blocks.length : Int) - 1)).1).load)).1).data), .int .i64 (((sRead (((vGood t ((t.blocks.length : Int) - 1)).1).load)).1).parity), .slice A4a_4 ((((sRead (((vGood t ((t.blocks.length : Int) - 1)).1).load)).1).labels).length) c4a_4].toArray) (y_loadBA 0 rfl Tryz.isAgg38 Tryz.sizeOf38 rfl rfl rfl rfl) ?_
  refine Run.mv ?_
  refine Run.m (v := .bool (decide ((sRead (((vGood t ((t.blocks.length : Int) - 1)).1).load)).2 = 0))) (y_bin rfl rfl rfl bn_eql) ?_
  refine Run.storeB (vs := [.int .i64 (((sRead (((vGood t ((t.blocks.length : Int) - 1)).1).load)).1).number), .int .i64 (((sRead (((vGood t ((t.blocks.length : Int) - 1)).1).load)).1).index), .int .i64 (((sRead (((vGood t ((t.blocks.length : Int) - 1)).1).load)).1).data), .int .i64 (((sRead (((vGood t ((t.blocks.length : Int) - 1)).1).load)).1).parity), .slice A4a_4 ((((sRead (((vGood t ((t.blocks.length : Int) - 1)).1).load)).1).labels).length) c4a_4]) (cs' := [.int .i64 (((sRead (((vGood t ((t.blocks.length : Int) - 1)).1).load)).1).number), .int .i64 (((sRead (((vGood t ((t.blocks.length : Int) - 1)).1).load)).1).index), .int .i64 (((sRead (((vGood t ((t.blocks.length : Int) - 1)).1).load)).1).data), .int .i64 (((sRead (((vGood t ((t.blocks.length : Int) - 1)).1).load)).1).parity), .slice A4a_4 ((((sRead (((vGood t ((t.blocks.length : Int) - 1)).1).load)).1).labels).length) c4a_4]) (own' := [blk g6_5 [.int .i64 (((sRead (((vGood t ((t.blocks.length : Int) - 1)).1).load)).1).number), .int .i64 (((sRead (((vGood t ((t.blocks.length : Int) - 1)).1).load)).1).index), .int .i64 (((sRead (((vGood t ((t.blocks.length : Int) - 1)).1).load)).1).data), .int .i64 (((sRead (((vGood t ((t.blocks.length : Int) - 1)).1).load)).1).parity), .slice A4a_4 ((((sRead (((vGood t ((t.blocks.length : Int) - 1)).1).load)).1).labels).length) c4a_4] 38, blk g4_3 [.int .i64 (((vGood t ((t.blocks.length : Int) - 1)).1).kind), .int .i64 (((vGood t ((t.blocks.length : Int) - 1)).1).label), .int .i64 (((vGood t ((t.blocks.length : Int) - 1)).1).number), .slice A2a_3 ((((vGood t ((t.blocks.length : Int) - 1)).1).load).length) c2a_3] 63, blk g1 [.int .i64 t.label, .int .i64 t.cap, .slice At_2 t.blocks.length ct_2, .bool t.lost] 45]) 2 rfl rfl rfl Tryz.sizeOf38 rfl rfl rfl rfl rfl (Nat.le_of_ble_eq_true rfl) rfl rfl rfl ?_
  refine Run.as ?_
  refine Run.nx ?_
  refine RunC.ret ?_
  refine RunQ.end2 (.inl rfl) Tryz.results38 (rv_cellA (i := 0) rfl Tryz.isAgg38 Tryz.sizeOf38 rfl rfl) (rv_tmp rfl) ?_
  exact ⟨rfl, _, _, rfl, (rd_eq (T := tSeal) (x := ((sRead (((vGood t ((t.blocks.length : Int) - 1)).1).load)).1)) ⟨_, _, rfl, f4a_0, f4a_1, f4a_2, f4a_3, f4a_4⟩ (by first | (rw [vSealed_no hc0] <;> rfl) | (rw [vSealed_yes hc0] <;> rfl))), (rd_eq (T := tBool) (x := decide ((sRead (((vGood t ((t.blocks.length : Int) - 1)).1).load)).2 = 0)) rfl (by first | (rw [vSealed_no hc0] <;> rfl) | (rw [vSealed_yes hc0] <;> rfl)))⟩

theorem c_stripe_Len (I : Imm) {Al : Option Addr} {cl : Nat} (l : List ATape) (hl : Sl tTape I Al cl l) : Con Tryz.prog 72 [.slice Al l.length cl].toArray I [] (Ret1 (tInt.o) (tLenL l)) := by
 have hsml := hl.small
 refine Con.enter (n := 22) (L := [(0, .slice Al l.length cl)]) Tryz.func72 rfl rfl (Nat.le_of_ble_eq_true rfl) rfl (fun E => ?_)
 refine RunC.sr ?_
 refine Run.as ?_
 refine Run.nx ?_
 refine RunC.sr ?_
 refine Run.as ?_
 refine Run.nx ?_
 refine RunC.seq ?_
 refine RunC.sr ?_
 refine Run.mv ?_
 refine Run.m (y_len rfl Tryz.runUnderlying22 rfl) ?_
 refine Run.mv ?_
 refine Run.nx ?_
 refine RunC.block ?_
 obtain ⟨Inv0, hInv0⟩ : ∃ Inv : Nat → Act → World → Prop, ∀ mm aa ww, Inv mm aa ww ↔ (∃ (k : Nat) (n1 : Int), (k ≤ l.length) ∧ (I64 n1) ∧ (n1 = tLenL (l.take k)) ∧ (mm = (l.length - k)) ∧ Frm aa 22 [(2, .int .i64 0), (6, .slice Al l.length cl), (7, .int .i64 (l.length : Int)), (8, .int .i64 (k : Int)), (3, .int .i64 n1)] ∧ S E ww I []) := ⟨_, fun _ _ _ => Iff.rfl⟩
 refine RunC.loopX Inv0 (fun aa ww hF hS => ⟨_, (hInv0 _ _ _).2 ⟨0, 0, (by omega), (by decide), (by simp [tLenL]), rfl, hF.sub (Sub.of rfl), hS.sub (perm_self _)⟩⟩) ?_
 intro mm0 aa ww hv
 obtain ⟨k, n1, hk, hi1, hn1, hmm_, hF, hS⟩ := (hInv0 _ _ _).1 hv
 clear hv
 refine RunC.go ?_ hF hS
 clear hF hS aa ww
 refine RunC.sr ?_
 refine Run.m (v := .bool (decide ((k : Int) < (l.length : Int)))) (y_bin rfl rfl rfl bn_lss) ?_
 refine Run.nx ?_
 refine RunC.seq ?_
 refine RunC.cond rfl (fun hc0 => ?_) (fun hc0 => ?_)
 ·
  try simp only [z1, z2, z3, z4, z5, z6, z7, z8, z9, z10, z11, z12, z13, z14, z15, z16] at hc0
  refine RunC.skip ?_
  refine RunQ.next ?_
  refine RunC.seq ?_
  refine RunC.block ?_
  refine RunC.sr ?_
  obtain ⟨x10, p10_1, cs10_1, hx10, hp10_1, hcs10_1, hrc10_1⟩ := Sl.at_ (P := Tryz.prog) (T := tTape) Tryz.runUnderlying22 Tryz.sizeOf45 hl (k := .i64) (i := (k : Int)) (by omega) (by omega)
  replace hx10 : l[k]? = some x10 := hx10
  obtain ⟨A10_1_2, c10_1_2, rfl, f10_1_0, f10_1_1, f10_1_2⟩ := hcs10_1
  have hsm10_1_2 := f10_1_2.small
  refine Run.m (v := .pointer (some p10_1)) (y_index rfl rfl rfl hp10_1) ?_
  refine Run.m (v := .agg [.int .i64 x10.label, .int .i64 x10.cap, .slice A10_1_2 x10.blocks.length c10_1_2, .bool x10.lost].toArray) (y_loadA (cs := [.int .i64 x10.label, .int .i64 x10.cap, .slice A10_1_2 x10.blocks.length c10_1_2, .bool x10.lost]) rfl Tryz.isAgg45 Tryz.sizeOf45 rfl hrc10_1 rfl) ?_
  refine Run.alloc (cs := [.int .i64 0, .int .i64 0, .slice none 0 0, .bool false]) rfl Tryz.zeroValue45 rfl rfl rfl (by decide) (fun g5_2 => ?_)
  refine Run.storeB (vs := [.int .i64 x10.label, .int .i64 x10.cap, .slice A10_1_2 x10.blocks.length c10_1_2, .bool x10.lost]) (cs' := [.int .i64 x10.label, .int .i64 x10.cap, .slice A10_1_2 x10.blocks.length c10_1_2, .bool x10.lost]) (own' := []) 0 rfl rfl rfl Tryz.sizeOf45 rfl rfl rfl rfl rfl (Nat.le_of_ble_eq_true rfl) rfl rfl rfl ?_
  refine Run.nx ?_
  refine RunC.sr ?_
  refine Run.m (v := .pointer (some ⟨g5_2, 3, none⟩)) (y_fieldAddr rfl rfl Tryz.runUnderlying45 rfl Tryz.sizeOf4 (by decide) rfl) ?_
  refine Run.m (v := .bool x10.lost) (y_loadB1 0 rfl Tryz.isAgg4 rfl rfl rfl) ?_
  refine Run.m (v := .bool (!x10.lost)) (y_not (b := x10.lost) rfl rfl) ?_
  refine Run.nx ?_
  refine RunC.cond rfl (fun hc1 => ?_) (fun hc1 => ?_)
  ·
   try simp only [z1, z2, z3, z4, z5, z6, z7, z8, z9, z10, z11, z12, z13, z14, z15, z16] at hc1
   refine RunC.region ?_
   refine Run.mv ?_
   refine Run.m (v := .pointer (some ⟨g5_2, 2, none⟩)) (y_fieldAddr rfl rfl Tryz.runUnderlying45 rfl Tryz.sizeOf43 (by decide) rfl) ?_
   refine Run.m (v := .slice A10_1_2 x10.blocks.length c10_1_2) (y_loadB1 0 rfl Tryz.isAgg43 rfl rfl rfl) ?_
   refine Run.m (y_len rfl Tryz.runUnderlying43 rfl) ?_
   refine Run.m (v := .int .i64 (max n1 (x10.blocks.length : Int))) (y_max rfl rfl rfl) ?_
   refine Run.as ?_
   refine Run.nil ?_
   refine RunQ.inB ?_
   refine RunQ.next ?_
   refine RunC.region ?_
   refine Run.m (v := .int .i64 ((k : Int) + 1)) (y_bin rfl rfl rfl (bn_add (by omega) (by omega))) ?_
   refine Run.mv ?_
   refine Run.nil ?_
   exact RunQ.thenI (fun aa ww hF hS => ⟨_, (by omega), (hInv0 _ _ _).2 ⟨(k + 1), max n1 (x10.blocks.length : Int), (by omega), (by omega), (by rw [take_snoc' hx10, tLenL_snoc, ← hn1]; simp [hc1]), rfl, hF.sub (Sub.of rfl), hS.sub (perm_nil _)⟩⟩)
  ·
   try simp only [z1, z2, z3, z4, z5, z6, z7, z8, z9, z10, z11, z12, z13, z14, z15, z16] at hc1
   refine RunC.skip ?_
   refine RunQ.inB ?_
   refine RunQ.next ?_
   refine RunC.region ?_
   refine Run.m (v := .int .i64 ((k : Int) + 1)) (y_bin rfl rfl rfl (bn_add (by omega) (by omega))) ?_
   refine Run.mv ?_
   refine Run.nil ?_
   exact RunQ.thenI (fun aa ww hF hS => ⟨_, (by omega), (hInv0 _ _ _).2 ⟨(k + 1), n1, (by omega), (by omega), (by rw [take_snoc' hx10, tLenL_snoc, ← hn1]; simp [hc1]), rfl, hF.sub (Sub.of rfl), hS.sub (perm_nil _)⟩⟩)
 ·
  try simp only [z1, z2, z3, z4, z5, z6, z7, z8, z9, z10, z11, z12, z13, z14, z15, z16] at hc0
  refine RunC.exit ?_
  refine RunQ.pass (fun h => by cases h) ?_
  refine RunQ.pass (fun h => by cases h) ?_
  refine RunQ.out ?_
  refine RunQ.next ?_
  refine RunC.sr ?_
  refine Run.mv ?_
  refine Run.as ?_
  refine Run.nx ?_
  refine RunC.ret ?_
  refine RunQ.weak Sub.refl (perm_nil _) ?_
  refine RunQ.fin1 (.inl rfl) Tryz.results72 (rv_tmp rfl) ?_
  exact ⟨rfl, _, rfl, (rd_eq (T := tInt) (x := n1) ⟨rfl, (by first | omega | (dsimp only; omega))⟩ (by rw [hn1, List.take_of_length_le (by omega)]))⟩

theorem c_stripe_cell (I : Imm) {cst : List Value} (t : ATape) (ht : tTape.rd I cst t) (n : Int) (hn : I64 n) : Con Tryz.prog 108 [.agg cst.toArray, .int .i64 n].toArray I [] (fun J o v => ∃ (yr0 : List UInt8) (Ar0 : Option Addr) (cr0 : Nat) (clr0 : List Value), yr0 = (tCell t n) ∧ o = [row (.slice Ar0 yr0.length cr0) 5 1 clr0] ∧ v = .slice Ar0 yr0.length cr0 ∧ tU8.all J clr0 yr0) := by
 obtain ⟨At_2, ct_2, rfl, ft_0, ft_1, ft_2⟩ := ht
 have hsmt_2 := ft_2.small
 refine Con.enter (n := 32) (L := [(0, .agg [.int .i64 t.label, .int .i64 t.cap, .slice At_2 t.blocks.length ct_2, .bool t.lost].toArray), (1, .int .i64 n)]) Tryz.func108 rfl rfl (Nat.le_of_ble_eq_true rfl) rfl (fun E => ?_)
 refine RunC.sr ?_
 refine Run.box (cs := [.int .i64 t.label, .int .i64 t.cap, .slice At_2 t.blocks.length ct_2, .bool t.lost]) rfl rfl rfl rfl rfl (by decide) (fun g2 => ?_)
 refine Run.as ?_
 refine Run.nx ?_
 refine RunC.seq ?_
 refine RunC.sr ?_
 refine Run.m (v := .pointer (some ⟨g2, 3, none⟩)) (y_fieldAddr rfl rfl Tryz.runUnderlying45 rfl Tryz.sizeOf4 (by decide) rfl) ?_
 refine Run.m (v := .bool t.lost) (y_loadB1 0 rfl Tryz.isAgg4 rfl rfl rfl) ?_
 refine Run.mv ?_
 refine Run.split 3 rfl (b := t.lost) (d := 10) (v := .bool (t.lost || (decide (n < 0)))) (fun hb7 K7 => ?_) (fun hb7 K7 => ?_) ?_
 ·
  have hc1007 := hb7; try simp only [z1, z2, z3, z4, z5, z6, z7, z8, z9, z10, z11, z12, z13, z14, z15, z16] at hc1007
  refine Run.no rfl rfl rfl rfl (hb7) rfl (by decide) ?_
  refine Run.no rfl rfl rfl rfl (hb7) rfl (by decide) ?_
  refine Run.y (y_pickB rfl rfl (hb7) rfl) rfl rfl (by decide) ?_
  exact K7 _ _ _ (Imm.le.refl _) (by rw [hb7]; simp) (Sub.tl 2 rfl rfl)
 ·
  have hc1007 := hb7; try simp only [z1, z2, z3, z4, z5, z6, z7, z8, z9, z10, z11, z12, z13, z14, z15, z16] at hc1007
  refine Run.yes (v := .int .i64 n) (y_move rfl rfl) rfl rfl rfl rfl (hb7) rfl (by decide) ?_
  refine Run.yes (v := .bool (decide (n < 0))) (y_bin rfl rfl rfl bn_lss) rfl rfl rfl rfl (hb7) rfl (by decide) ?_
  refine Run.y (y_pickB rfl rfl (hb7) rfl) rfl rfl (by decide) ?_
  exact K7 _ _ _ (Imm.le.refl _) (by rw [hb7]; simp) (Sub.tl 2 rfl rfl)
 refine Run.mv ?_
 refine Run.split 6 rfl (b := (t.lost || (decide (n < 0)))) (d := 17) (v := .bool ((t.lost || (decide (n < 0))) || (decide (n ≥ (t.blocks.length : Int))))) (fun hb11 K11 => ?_) (fun hb11 K11 => ?_) ?_
 ·
  have hc1011 := hb11; try simp only [z1, z2, z3, z4, z5, z6, z7, z8, z9, z10, z11, z12, z13, z14, z15, z16] at hc1011
  refine Run.no rfl rfl rfl rfl (hb11) rfl (by decide) ?_
  refine Run.no rfl rfl rfl rfl (hb11) rfl (by decide) ?_
  refine Run.no rfl rfl rfl rfl (hb11) rfl (by decide) ?_
  refine Run.no rfl rfl rfl rfl (hb11) rfl (by decide) ?_
  refine Run.no rfl rfl rfl rfl (hb11) rfl (by decide) ?_
  refine Run.y (y_pickB rfl rfl (hb11) rfl) rfl rfl (by decide) ?_
  exact K11 _ _ _ (Imm.le.refl _) (by rw [hb11]; simp) (Sub.tl 5 rfl rfl)
 ·
  have hc1011 := hb11; try simp only [z1, z2, z3, z4, z5, z6, z7, z8, z9, z10, z11, z12, z13, z14, z15, z16] at hc1011
  refine Run.yes (v := .int .i64 n) (y_move rfl rfl) rfl rfl rfl rfl (hb11) rfl (by decide) ?_
  refine Run.yes (v := .pointer (some ⟨g2, 2, none⟩)) (y_fieldAddr rfl rfl Tryz.runUnderlying45 rfl Tryz.sizeOf43 (by decide) rfl) rfl rfl rfl rfl (hb11) rfl (by decide) ?_
  refine Run.yes (v := .slice At_2 t.blocks.length ct_2) (y_loadB1 0 rfl Tryz.isAgg43 rfl rfl rfl) rfl rfl rfl rfl (hb11) rfl (by decide) ?_
  refine Run.yes (v := .int .i64 (t.blocks.length : Int)) (y_len rfl Tryz.runUnderlying43 rfl) rfl rfl rfl rfl (hb11) rfl (by decide) ?_
  refine Run.yes (v := .bool (decide (n ≥ (t.blocks.length : Int)))) (y_bin rfl rfl rfl bn_geq) rfl rfl rfl rfl (hb11) rfl (by decide) ?_
  refine Run.y (y_pickB rfl rfl (hb11) rfl) rfl rfl (by decide) ?_
  exact K11 _ _ _ (Imm.le.refl _) (by rw [hb11]; simp) (Sub.tl 5 rfl rfl)
 refine Run.nx ?_
 refine RunC.cond rfl (fun hc0 => ?_) (fun hc0 => ?_)
 ·
  try simp only [z1, z2, z3, z4, z5, z6, z7, z8, z9, z10, z11, z12, z13, z14, z15, z16] at hc0
  refine RunC.sr ?_
  refine Run.make (m := 79) (k := .i64) rfl rfl rfl (mk_run Tryz.runUnderlying42 Tryz.typeInfo5 (by_ := 1) rfl Tryz.sizeOf5 Tryz.zeroValue5 rfl (by omega) (by omega)) (by simp only [maxLen]; omega) rfl rfl (by decide) (fun g18 => ?_)
  have hall1 : tU8.all I (List.replicate 79 (.int .u8 ((0 : UInt8).toNat : Int))) (List.replicate 79 ((0 : UInt8) : UInt8)) := all_replicate (by rfl) _
  refine Run.as ?_
  refine Run.nx ?_
  refine RunC.ret ?_
  refine RunQ.pass (fun h => by cases h) ?_
  refine RunQ.weak Sub.refl (perm_take (i := 0) rfl (perm_nil _)) ?_
  refine RunQ.fin1 (.inl rfl) Tryz.results108 (rv_tmp rfl) ?_
  exact ⟨(List.replicate 79 ((0 : UInt8) : UInt8)), (some ⟨g18, 0, none⟩), 79, (List.replicate 79 (.int .u8 ((0 : UInt8).toNat : Int))), (by first | (rw [tCell_out hc0]; done) | (rw [tCell_at hc0 hx22, if_neg hc1]; done) | (rw [tCell_at hc0 hx22, if_pos (by omega)]; exact e29)), rfl, rfl, hall1⟩
 ·
  try simp only [z1, z2, z3, z4, z5, z6, z7, z8, z9, z10, z11, z12, z13, z14, z15, z16] at hc0
  refine RunC.skip ?_
  refine RunQ.next ?_
  refine RunC.seq ?_
  refine RunC.sr ?_
  refine Run.m (v := .pointer (some ⟨g2, 2, none⟩)) (y_fieldAddr rfl rfl Tryz.runUnderlying45 rfl Tryz.sizeOf43 (by decide) rfl) ?_
  refine Run.m (v := .slice At_2 t.blocks.length ct_2) (y_loadB1 0 rfl Tryz.isAgg43 rfl rfl rfl) ?_
  refine Run.mv ?_
  obtain ⟨x22, p22_2, cs22_2, hx22, hp22_2, hcs22_2, hrc22_2⟩ := Sl.at_ (P := Tryz.prog) (T := (tSl tU8)) Tryz.runUnderlying43 Tryz.sizeOf42 ft_2 (k := .i64) (i := n) (by omega) (by omega)
  obtain ⟨A22_2_0, c22_2_0, rfl, f22_2_0⟩ := hcs22_2
  have hsm22_2_0 := f22_2_0.small
  refine Run.m (v := .pointer (some p22_2)) (y_index rfl rfl rfl hp22_2) ?_
  refine Run.m (v := .slice A22_2_0 x22.length c22_2_0) (y_load1 rfl Tryz.isAgg42 rfl (RCells.hd hrc22_2)) ?_
  refine Run.m (y_len rfl Tryz.runUnderlying42 rfl) ?_
  refine Run.m (v := .bool (decide ((x22.length : Int) ≠ 79))) (y_bin rfl rfl rfl bn_neq) ?_
  refine Run.nx ?_
  refine RunC.cond rfl (fun hc1 => ?_) (fun hc1 => ?_)
  ·
   try simp only [z1, z2, z3, z4, z5, z6, z7, z8, z9, z10, z11, z12, z13, z14, z15, z16] at hc1
   refine RunC.sr ?_
   refine Run.as ?_
   refine Run.nx ?_
   refine RunC.ret ?_
   refine RunQ.pass (fun h => by cases h) ?_
   refine RunQ.nilrow none 5 1 ?_
   refine RunQ.weak Sub.refl (perm_take (i := 0) rfl (perm_nil _)) ?_
   refine RunQ.fin1 (.inl rfl) Tryz.results108 (rv_tmp rfl) ?_
   exact ⟨([] : List UInt8), none, 0, [], (by first | (rw [tCell_out hc0]; done) | (rw [tCell_at hc0 hx22, if_neg hc1]; done) | (rw [tCell_at hc0 hx22, if_pos (by omega)]; exact e29)), rfl, rfl, all_nil⟩
  ·
   try simp only [z1, z2, z3, z4, z5, z6, z7, z8, z9, z10, z11, z12, z13, z14, z15, z16] at hc1
   refine RunC.skip ?_
   refine RunQ.next ?_
   refine RunC.sr ?_
   refine Run.m (v := .pointer (some ⟨g2, 2, none⟩)) (y_fieldAddr rfl rfl Tryz.runUnderlying45 rfl Tryz.sizeOf43 (by decide) rfl) ?_
   refine Run.m (v := .slice At_2 t.blocks.length ct_2) (y_loadB1 0 rfl Tryz.isAgg43 rfl rfl rfl) ?_
   refine Run.mv ?_
   obtain ⟨x29, p29_3, cs29_3, hx29, hp29_3, hcs29_3, hrc29_3⟩ := Sl.at_ (P := Tryz.prog) (T := (tSl tU8)) Tryz.runUnderlying43 Tryz.sizeOf42 ft_2 (k := .i64) (i := n) (by omega) (by omega)
   obtain ⟨A29_3_0, c29_3_0, rfl, f29_3_0⟩ := hcs29_3
   have hsm29_3_0 := f29_3_0.small
   have e29 : x29 = x22 := Option.some.inj (hx29.symm.trans hx22)
   refine Run.m (v := .pointer (some p29_3)) (y_index rfl rfl rfl hp29_3) ?_
   refine Run.m (v := .slice A29_3_0 x29.length c29_3_0) (y_load1 rfl Tryz.isAgg42 rfl (RCells.hd hrc29_3)) ?_
   refine Run.call (own1 := []) (own2 := [blk g2 [.int .i64 t.label, .int .i64 t.cap, .slice At_2 t.blocks.length ct_2, .bool t.lost] 45]) (en_func rfl Tryz.call143 rfl) (c_slices_Clone_byte_byte _ x29 f29_3_0 (by rw [e29]; omega)) (List.Perm.refl _) rfl rfl (by decide) (fun J4 o4 v4 hleJ4 hq4 => ?_)
   obtain ⟨yr4_0, Ar4_0, cr4_0, clr4_0, er4_0, rfl, rfl, hr4_0⟩ := hq4
   obtain rfl : x29 = yr4_0 := er4_0.symm
   refine Run.as ?_
   refine Run.nx ?_
   refine RunC.ret ?_
   refine RunQ.weak Sub.refl (perm_take (i := 0) rfl (perm_nil _)) ?_
   refine RunQ.fin1 (.inl rfl) Tryz.results108 (rv_tmp rfl) ?_
   exact ⟨x29, Ar4_0, cr4_0, clr4_0, (by first | (rw [tCell_out hc0]; done) | (rw [tCell_at hc0 hx22, if_neg hc1]; done) | (rw [tCell_at hc0 hx22, if_pos (by omega)]; exact e29)), rfl, rfl, hr4_0⟩

theorem c_stripe_Row (I : Imm) {Al : Option Addr} {cl : Nat} (l : List ATape) (hl : Sl tTape I Al cl l) (n : Int) (hn : I64 n) (hsz : l.length ≤ 1000000) : Con Tryz.prog 78 [.slice Al l.length cl, .int .i64 n].toArray I [] (Ret1 ((tSl (tSl tU8)).o) (tRow l n)) := by
 have hsml := hl.small
 refine Con.enter (n := 22) (L := [(0, .slice Al l.length cl), (1, .int .i64 n)]) Tryz.func78 rfl rfl (Nat.le_of_ble_eq_true rfl) rfl (fun E => ?_)
 refine RunC.sr ?_
 refine Run.as ?_
 refine Run.nx ?_
 refine RunC.sr ?_
 refine Run.as ?_
 refine Run.nx ?_
 refine RunC.seq ?_
 refine RunC.sr ?_
 refine Run.mv ?_
 refine Run.m (y_len rfl Tryz.runUnderlying22 rfl) ?_
 refine Run.mv ?_
 refine Run.nx ?_
 refine RunC.block ?_
 refine RunC.nilrow none 42 1 ?_
 obtain ⟨Inv0, hInv0⟩ : ∃ Inv : Nat → Act → World → Prop, ∀ mm aa ww, Inv mm aa ww ↔ (∃ (k : Nat) (out : List (List UInt8)) (Aout : Option Addr) (cout : Nat) (clout : List Value) (J : Imm), (I.le J) ∧ ((tSl tU8).all J clout out) ∧ (k ≤ l.length) ∧ (out = (l.take k).map fun t => tCell t n) ∧ (mm = (l.length - k)) ∧ Frm aa 22 [(1, .int .i64 n), (4, .slice none 0 0), (8, .slice Al l.length cl), (9, .int .i64 (l.length : Int)), (10, .int .i64 (k : Int)), (5, .slice Aout out.length cout)] ∧ S E ww J [row (.slice Aout out.length cout) 42 1 clout]) := ⟨_, fun _ _ _ => Iff.rfl⟩
 refine RunC.loopX Inv0 (fun aa ww hF hS => ⟨_, (hInv0 _ _ _).2 ⟨0, [], none, 0, [], I, (Imm.le.refl _), all_nil, (by omega), (by simp), rfl, hF.sub (Sub.of rfl), hS.sub (perm_self _)⟩⟩) ?_
 intro mm0 aa ww hv
 obtain ⟨k, out, Aout, cout, clout, J, hJ_le, hout, hk, ho, hmm_, hF, hS⟩ := (hInv0 _ _ _).1 hv
 clear hv
 refine RunC.go ?_ hF hS
 clear hF hS aa ww
 refine RunC.sr ?_
 refine Run.m (v := .bool (decide ((k : Int) < (l.length : Int)))) (y_bin rfl rfl rfl bn_lss) ?_
 refine Run.nx ?_
 refine RunC.seq ?_
 refine RunC.cond rfl (fun hc0 => ?_) (fun hc0 => ?_)
 ·
  try simp only [z1, z2, z3, z4, z5, z6, z7, z8, z9, z10, z11, z12, z13, z14, z15, z16] at hc0
  refine RunC.skip ?_
  refine RunQ.next ?_
  refine RunC.seq ?_
  refine RunC.block ?_
  refine RunC.sr ?_
  obtain ⟨x12, p12_1, cs12_1, hx12, hp12_1, hcs12_1, hrc12_1⟩ := Sl.at_ (P := Tryz.prog) (T := tTape) Tryz.runUnderlying22 Tryz.sizeOf45 (hl.mono hJ_le) (k := .i64) (i := (k : Int)) (by omega) (by omega)
  replace hx12 : l[k]? = some x12 := hx12
  obtain ⟨A12_1_2, c12_1_2, rfl, f12_1_0, f12_1_1, f12_1_2⟩ := hcs12_1
  have hsm12_1_2 := f12_1_2.small
  refine Run.m (v := .pointer (some p12_1)) (y_index rfl rfl rfl hp12_1) ?_
  refine Run.m (v := .agg [.int .i64 x12.label, .int .i64 x12.cap, .slice A12_1_2 x12.blocks.length c12_1_2, .bool x12.lost].toArray) (y_loadA (cs := [.int .i64 x12.label, .int .i64 x12.cap, .slice A12_1_2 x12.blocks.length c12_1_2, .bool x12.lost]) rfl Tryz.isAgg45 Tryz.sizeOf45 rfl hrc12_1 rfl) ?_
  refine Run.alloc (cs := [.int .i64 0, .int .i64 0, .slice none 0 0, .bool false]) rfl Tryz.zeroValue45 rfl rfl rfl (by decide) (fun g7_2 => ?_)
  refine Run.storeB (vs := [.int .i64 x12.label, .int .i64 x12.cap, .slice A12_1_2 x12.blocks.length c12_1_2, .bool x12.lost]) (cs' := [.int .i64 x12.label, .int .i64 x12.cap, .slice A12_1_2 x12.blocks.length c12_1_2, .bool x12.lost]) (own' := [row (.slice Aout out.length cout) 42 1 clout]) 0 rfl rfl rfl Tryz.sizeOf45 rfl rfl rfl rfl rfl (Nat.le_of_ble_eq_true rfl) rfl rfl rfl ?_
  refine Run.nx ?_
  refine RunC.region ?_
  refine Run.mv ?_
  refine Run.m (v := .agg [.int .i64 x12.label, .int .i64 x12.cap, .slice A12_1_2 x12.blocks.length c12_1_2, .bool x12.lost].toArray) (y_loadBA 0 rfl Tryz.isAgg45 Tryz.sizeOf45 rfl rfl rfl rfl) ?_
  refine Run.mv ?_
  refine Run.call (own1 := []) (own2 := [blk g7_2 [.int .i64 x12.label, .int .i64 x12.cap, .slice A12_1_2 x12.blocks.length c12_1_2, .bool x12.lost] 45, row (.slice Aout out.length cout) 42 1 clout]) (en_func rfl Tryz.call108 rfl) (c_stripe_cell _ x12 ⟨_, _, rfl, f12_1_0, f12_1_1, f12_1_2⟩ n hn) (List.Perm.refl _) rfl rfl (by decide) (fun J3 o3 v3 hleJ3 hq3 => ?_)
  obtain ⟨yr3_0, Ar3_0, cr3_0, clr3_0, er3_0, rfl, rfl, hr3_0⟩ := hq3
  obtain rfl : (tCell x12 n) = yr3_0 := er3_0.symm
  refine Run.freezeR 0 rfl (own' := [blk g7_2 [.int .i64 x12.label, .int .i64 x12.cap, .slice A12_1_2 x12.blocks.length c12_1_2, .bool x12.lost] 45, row (.slice Aout out.length cout) 42 1 clout]) rfl (fun J4 hleJ4 hfzJ4 => ?_)
  have hslJ4 : Sl tU8 J4 Ar3_0 cr3_0 (tCell x12 n) := Sl.of_rowN hfzJ4 rfl rfl (hr3_0.mono hleJ4)
  refine Run.lit (vs := [(0, .slice Ar3_0 ((tCell x12 n).length) cr3_0)]) (cs := [.slice Ar3_0 ((tCell x12 n).length) cr3_0]) (el := 42) (sz := 1) rfl rfl (fun w => by simp [Instr.buildSlice, Tryz.runUnderlying43, Tryz.sizeOf42, Tryz.zeroValue42, Instr.fill, Value.cells, newRow, (show Array.range 1 = #[0] from rfl)]) rfl (by simp [maxLen]) rfl rfl (by decide) (fun g18 => ?_)
  have hlit5 : (tSl tU8).all J4 [.slice Ar3_0 ((tCell x12 n).length) cr3_0] [(tCell x12 n)] := (all_snoc (T := (tSl tU8)) all_nil ⟨_, _, rfl, hslJ4⟩)
  have hall6 : (tSl tU8).all J4 (clout ++ ([.slice Ar3_0 ((tCell x12 n).length) cr3_0])) (out ++ ([(tCell x12 n)])) := all_append (hout.mono (hleJ3.trans hleJ4)) hlit5
  refine Run.append (by_ := 24) (ys := [.slice Ar3_0 ((tCell x12 n).length) cr3_0]) (k := 1) (own' := [row (.slice (some ⟨g18, 0, none⟩) 1 1) 42 1 ([.slice Ar3_0 ((tCell x12 n).length) cr3_0]), blk g7_2 [.int .i64 x12.label, .int .i64 x12.cap, .slice A12_1_2 x12.blocks.length c12_1_2, .bool x12.lost] 45]) 2 rfl rfl rfl Tryz.runUnderlying43 (.inl Tryz.runUnderlying43) Tryz.sizeOf42 Tryz.typeInfo42 rfl Tryz.zeroValue42 rfl rfl rfl (fun w hS => src_own hS (i := 0) rfl) (row_len hlit5 (by first | rfl | (simp; done) | (simp; omega)) rfl) (all_one hlit5) ((out ++ ([(tCell x12 n)])).length) (by first | (simp; done) | (simp; omega)) (by rw [ho]; simp; omega) (by rw [ho]; simp [maxLen]; omega) rfl rfl (by decide) (fun A19_6 c19_6 => ?_)
  refine Run.weak Sub.refl (perm_take (i := 0) rfl (perm_take (i := 1) rfl (perm_nil _))) ?_
  refine Run.as ?_
  refine Run.nil ?_
  refine RunQ.inB ?_
  refine RunQ.next ?_
  refine RunC.region ?_
  refine Run.m (v := .int .i64 ((k : Int) + 1)) (y_bin rfl rfl rfl (bn_add (by omega) (by omega))) ?_
  refine Run.mv ?_
  refine Run.nil ?_
  exact RunQ.thenI (fun aa ww hF hS => ⟨_, (by omega), (hInv0 _ _ _).2 ⟨(k + 1), (out ++ ([(tCell x12 n)])), A19_6, c19_6, clout ++ ([.slice Ar3_0 ((tCell x12 n).length) cr3_0]), J4, ((hJ_le.trans hleJ3).trans hleJ4), hall6, (by omega), (by rw [take_snoc' hx12]; simp [ho]), rfl, hF.sub (Sub.of rfl), hS.sub (perm_take (i := 0) rfl (perm_nil _))⟩⟩)
 ·
  try simp only [z1, z2, z3, z4, z5, z6, z7, z8, z9, z10, z11, z12, z13, z14, z15, z16] at hc0
  refine RunC.exit ?_
  refine RunQ.pass (fun h => by cases h) ?_
  refine RunQ.pass (fun h => by cases h) ?_
  refine RunQ.out ?_
  refine RunQ.next ?_
  refine RunC.sr ?_
  refine Run.mv ?_
  refine Run.as ?_
  refine Run.nx ?_
  refine RunC.ret ?_
  refine RunQ.freezeR 0 rfl (own' := []) rfl (fun J7 hleJ7 hfzJ7 => ?_)
  have hslJ7 : Sl (tSl tU8) J7 Aout cout out := Sl.of_rowN hfzJ7 rfl rfl (hout.mono hleJ7)
  refine RunQ.weak Sub.refl (perm_nil _) ?_
  refine RunQ.fin1 (.inl rfl) Tryz.results78 (rv_tmp rfl) ?_
  exact ⟨rfl, _, rfl, (rd_eq (T := (tSl (tSl tU8))) (x := out) ⟨_, _, rfl, hslJ7⟩ (by rw [ho, List.take_of_length_le (by omega)]; rfl))⟩

theorem c_stripe_Parity_1 (I : Imm) {Ab : Option Addr} {cb : Nat} (b : List UInt8) (hb : Sl tU8 I Ab cb b) : Con Tryz.prog 80 [.slice Ab b.length cb].toArray I [] (Ret1 (tBool.o) (decide (b.length = 0))) := by
 have hsmb := hb.small
 refine Con.enter (n := 6) (L := [(0, .slice Ab b.length cb)]) Tryz.func80 rfl rfl (Nat.le_of_ble_eq_true rfl) rfl (fun E => ?_)
 refine RunC.sr ?_
 refine Run.as ?_
 refine Run.nx ?_
 refine RunC.sr ?_
 refine Run.mv ?_
 refine Run.m (y_len rfl Tryz.runUnderlying42 rfl) ?_
 refine Run.m (v := .bool (decide ((b.length : Int) = 0))) (y_bin rfl rfl rfl bn_eql) ?_
 refine Run.as ?_
 refine Run.nx ?_
 refine RunC.ret ?_
 refine RunQ.weak Sub.refl (perm_nil _) ?_
 refine RunQ.fin1 (.inl rfl) Tryz.results80 (rv_tmp rfl) ?_
 exact ⟨rfl, _, rfl, (rd_eq (T := tBool) (x := decide ((b.length : Int) = 0)) rfl (by first | rfl | (simp; done) | (congr 1; simp)))⟩
end Go.Proofs.YtmelbclhkkbmiaaGreat.K
