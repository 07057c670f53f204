/- Contracts of functions of the program, each proved by a walk through its operations, for all memory and all arguments that the theorem names. Printed by a program of mine. -/
import Derived.Test.YtmelbclhkkbmiaaGreatF1
import Derived.Test.YtmelbclhkkbmiaaGreatSp2
set_option linter.unusedVariables false
set_option linter.unusedSimpArgs false
set_option maxRecDepth 100000
namespace Go.Proofs.YtmelbclhkkbmiaaGreat.K
open Go Go.RowKit

theorem c_record_RightSeal (I : Imm) {css : List Value} (s : ASeal) (hs : tSeal.rd I css s) : Con Tryz.prog 70 [.agg css.toArray].toArray I [] (Ret1 (tBool.o) (sRight s)) := by
 obtain ⟨As_4, cs_4, rfl, fs_0, fs_1, fs_2, fs_3, fs_4⟩ := hs
 have hsms_4 := fs_4.small
 refine Con.enter (n := 63) (L := [(0, .agg [.int .i64 s.number, .int .i64 s.index, .int .i64 s.data, .int .i64 s.parity, .slice As_4 s.labels.length cs_4].toArray)]) Tryz.func70 rfl rfl (Nat.le_of_ble_eq_true rfl) rfl (fun E => ?_)
 refine RunC.sr ?_
 refine Run.box (cs := [.int .i64 s.number, .int .i64 s.index, .int .i64 s.data, .int .i64 s.parity, .slice As_4 s.labels.length cs_4]) rfl rfl rfl rfl rfl (by decide) (fun g1 => ?_)
 refine Run.as ?_
 refine Run.nx ?_
 refine RunC.seq ?_
 refine RunC.sr ?_
 refine Run.m (v := .pointer (some ⟨g1, 0, none⟩)) (y_fieldAddr rfl rfl Tryz.runUnderlying38 rfl Tryz.sizeOf3 (by decide) rfl) ?_
 refine Run.m (v := .int .i64 s.number) (y_loadB1 0 rfl Tryz.isAgg3 rfl rfl rfl) ?_
 refine Run.callV (en_func rfl Tryz.call103 rfl) (conv_bool (c_record_within _ s.number 1 1073741824)) rfl rfl (by decide) (fun hI1 => ?_)
 refine Run.m (v := .bool (!(decide (s.number ≥ (1 : Int)) && decide (s.number ≤ (1073741824 : Int))))) (y_not (b := (decide (s.number ≥ (1 : Int)) && decide (s.number ≤ (1073741824 : Int)))) rfl rfl) ?_
 refine Run.mv ?_
 refine Run.split 5 rfl (b := (!(decide (s.number ≥ (1 : Int)) && decide (s.number ≤ (1073741824 : Int))))) (d := 15) (v := .bool ((!(decide (s.number ≥ (1 : Int)) && decide (s.number ≤ (1073741824 : Int)))) || (!(decide (s.data ≥ (1 : Int)) && decide (s.data ≤ (14 : Int)))))) (fun hb10 K10 => ?_) (fun hb10 K10 => ?_) ?_
 ·
  have hc1010 := hb10; try simp only [z1, z2, z3, z4, z5, z6, z7, z8, z9, z10, z11, z12, z13, z14, z15, z16] at hc1010
  refine Run.no rfl rfl rfl rfl (hb10) rfl (by decide) ?_
  refine Run.no rfl rfl rfl rfl (hb10) rfl (by decide) ?_
  refine Run.no rfl rfl rfl rfl (hb10) rfl (by decide) ?_
  refine Run.no rfl rfl rfl rfl (hb10) rfl (by decide) ?_
  refine Run.y (y_pickB rfl rfl (hb10) rfl) rfl rfl (by decide) ?_
  exact K10 _ _ _ (Imm.le.refl _) (by rw [hb10]; simp) (Sub.tl 4 rfl rfl)
 ·
  have hc1010 := hb10; try simp only [z1, z2, z3, z4, z5, z6, z7, z8, z9, z10, z11, z12, z13, z14, z15, z16] at hc1010
  refine Run.yes (v := .pointer (some ⟨g1, 2, none⟩)) (y_fieldAddr rfl rfl Tryz.runUnderlying38 rfl Tryz.sizeOf3 (by decide) rfl) rfl rfl rfl rfl (hb10) rfl (by decide) ?_
  refine Run.yes (v := .int .i64 s.data) (y_loadB1 0 rfl Tryz.isAgg3 rfl rfl rfl) rfl rfl rfl rfl (hb10) rfl (by decide) ?_
  refine Run.callVYes (en_func rfl Tryz.call103 rfl) (conv_bool (c_record_within _ s.data 1 14)) rfl rfl rfl rfl (hb10) rfl (by decide) (fun hI2 => ?_)
  refine Run.yes (v := .bool (!(decide (s.data ≥ (1 : Int)) && decide (s.data ≤ (14 : Int))))) (y_not (b := (decide (s.data ≥ (1 : Int)) && decide (s.data ≤ (14 : Int)))) rfl rfl) rfl rfl rfl rfl (hb10) rfl (by decide) ?_
  refine Run.y (y_pickB rfl rfl (hb10) rfl) rfl rfl (by decide) ?_
  exact K10 _ _ _ (Imm.le.refl _) (by rw [hb10]; simp) (Sub.tl 4 rfl rfl)
 refine Run.mv ?_
 refine Run.split 8 rfl (b := ((!(decide (s.number ≥ (1 : Int)) && decide (s.number ≤ (1073741824 : Int)))) || (!(decide (s.data ≥ (1 : Int)) && decide (s.data ≤ (14 : Int)))))) (d := 24) (v := .bool (((!(decide (s.number ≥ (1 : Int)) && decide (s.number ≤ (1073741824 : Int)))) || (!(decide (s.data ≥ (1 : Int)) && decide (s.data ≤ (14 : Int))))) || (!(decide (s.parity ≥ (1 : Int)) && decide (s.parity ≤ (14 - s.data)))))) (fun hb16 K16 => ?_) (fun hb16 K16 => ?_) ?_
 ·
  have hc1016 := hb16; try simp only [z1, z2, z3, z4, z5, z6, z7, z8, z9, z10, z11, z12, z13, z14, z15, z16] at hc1016
  refine Run.no rfl rfl rfl rfl (hb16) rfl (by decide) ?_
  refine Run.no rfl rfl rfl rfl (hb16) rfl (by decide) ?_
  refine Run.no rfl rfl rfl rfl (hb16) rfl (by decide) ?_
  refine Run.no rfl rfl rfl rfl (hb16) rfl (by decide) ?_
  refine Run.no rfl rfl rfl rfl (hb16) rfl (by decide) ?_
  refine Run.no rfl rfl rfl rfl (hb16) rfl (by decide) ?_
  refine Run.no rfl rfl rfl rfl (hb16) rfl (by decide) ?_
  refine Run.y (y_pickB rfl rfl (hb16) rfl) rfl rfl (by decide) ?_
  exact K16 _ _ _ (Imm.le.refl _) (by rw [hb16]; simp) (Sub.tl 7 rfl rfl)
 ·
  have hc1016 := hb16; try simp only [z1, z2, z3, z4, z5, z6, z7, z8, z9, z10, z11, z12, z13, z14, z15, z16] at hc1016
  refine Run.yes (v := .pointer (some ⟨g1, 3, none⟩)) (y_fieldAddr rfl rfl Tryz.runUnderlying38 rfl Tryz.sizeOf3 (by decide) rfl) rfl rfl rfl rfl (hb16) rfl (by decide) ?_
  refine Run.yes (v := .int .i64 s.parity) (y_loadB1 0 rfl Tryz.isAgg3 rfl rfl rfl) rfl rfl rfl rfl (hb16) rfl (by decide) ?_
  refine Run.yes (v := .pointer (some ⟨g1, 2, none⟩)) (y_fieldAddr rfl rfl Tryz.runUnderlying38 rfl Tryz.sizeOf3 (by decide) rfl) rfl rfl rfl rfl (hb16) rfl (by decide) ?_
  refine Run.yes (v := .int .i64 s.data) (y_loadB1 0 rfl Tryz.isAgg3 rfl rfl rfl) rfl rfl rfl rfl (hb16) rfl (by decide) ?_
  refine Run.yes (v := .int .i64 (14 - s.data)) (y_bin rfl rfl rfl (bn_sub (by omega) (by omega))) rfl rfl rfl rfl (hb16) rfl (by decide) ?_
  refine Run.callVYes (en_func rfl Tryz.call103 rfl) (conv_bool (c_record_within _ s.parity 1 (14 - s.data))) rfl rfl rfl rfl (hb16) rfl (by decide) (fun hI3 => ?_)
  refine Run.yes (v := .bool (!(decide (s.parity ≥ (1 : Int)) && decide (s.parity ≤ (14 - s.data))))) (y_not (b := (decide (s.parity ≥ (1 : Int)) && decide (s.parity ≤ (14 - s.data)))) rfl rfl) rfl rfl rfl rfl (hb16) rfl (by decide) ?_
  refine Run.y (y_pickB rfl rfl (hb16) rfl) rfl rfl (by decide) ?_
  exact K16 _ _ _ (Imm.le.refl _) (by rw [hb16]; simp) (Sub.tl 7 rfl rfl)
 refine Run.nx ?_
 refine RunC.cond rfl (fun hc0 => ?_) (fun hc0 => ?_)
 ·
  try simp only [z1, z2, z3, z4, z5, z6, z7, z8, z9, z10, z11, z12, z13, z14, z15, z16] at hc0
  refine RunC.sr ?_
  refine Run.as ?_
  refine Run.nx ?_
  refine RunC.ret ?_
  refine RunQ.pass (fun h => by cases h) ?_
  refine RunQ.weak Sub.refl (perm_nil _) ?_
  refine RunQ.fin1 (.inl rfl) Tryz.results70 (rv_tmp rfl) ?_
  exact ⟨rfl, _, rfl, (rd_eq (T := tBool) (x := false) rfl (by first | exact (sRight_no (by unfold sRightP; omega)).symm | (rw [sRight_yes (by unfold sRightP; omega), ← hg, lblsL_at hx49]; simp only [List.drop_zero] at hc3; rcases hc3 with h | h; (rw [show decide (1 ≤ x49 ∧ x49 ≤ 2147483647) = false from decide_eq_false (by omega)]; rfl); (rw [h]; simp)) | (rw [sRight_yes (by unfold sRightP; omega), ← hg, List.drop_eq_nil_of_le (by omega)]; rfl)))⟩
 ·
  try simp only [z1, z2, z3, z4, z5, z6, z7, z8, z9, z10, z11, z12, z13, z14, z15, z16] at hc0
  refine RunC.skip ?_
  refine RunQ.next ?_
  refine RunC.sr ?_
  refine Run.m (v := .pointer (some ⟨g1, 2, none⟩)) (y_fieldAddr rfl rfl Tryz.runUnderlying38 rfl Tryz.sizeOf3 (by decide) rfl) ?_
  refine Run.m (v := .int .i64 s.data) (y_loadB1 0 rfl Tryz.isAgg3 rfl rfl rfl) ?_
  refine Run.m (v := .pointer (some ⟨g1, 3, none⟩)) (y_fieldAddr rfl rfl Tryz.runUnderlying38 rfl Tryz.sizeOf3 (by decide) rfl) ?_
  refine Run.m (v := .int .i64 s.parity) (y_loadB1 0 rfl Tryz.isAgg3 rfl rfl rfl) ?_
  refine Run.m (v := .int .i64 (s.data + s.parity)) (y_bin rfl rfl rfl (bn_add (by omega) (by omega))) ?_
  refine Run.as ?_
  refine Run.nx ?_
  refine RunC.seq ?_
  refine RunC.sr ?_
  refine Run.m (v := .pointer (some ⟨g1, 1, none⟩)) (y_fieldAddr rfl rfl Tryz.runUnderlying38 rfl Tryz.sizeOf3 (by decide) rfl) ?_
  refine Run.m (v := .int .i64 s.index) (y_loadB1 0 rfl Tryz.isAgg3 rfl rfl rfl) ?_
  refine Run.mv ?_
  refine Run.m (v := .int .i64 ((s.data + s.parity) - 1)) (y_bin rfl rfl rfl (bn_sub (by omega) (by omega))) ?_
  refine Run.callV (en_func rfl Tryz.call103 rfl) (conv_bool (c_record_within _ s.index 0 ((s.data + s.parity) - 1))) rfl rfl (by decide) (fun hI4 => ?_)
  refine Run.m (v := .bool (!(decide (s.index ≥ (0 : Int)) && decide (s.index ≤ ((s.data + s.parity) - 1))))) (y_not (b := (decide (s.index ≥ (0 : Int)) && decide (s.index ≤ ((s.data + s.parity) - 1)))) rfl rfl) ?_
  refine Run.mv ?_
  refine Run.split 6 rfl (b := (!(decide (s.index ≥ (0 : Int)) && decide (s.index ≤ ((s.data + s.parity) - 1))))) (d := 42) (v := .bool ((!(decide (s.index ≥ (0 : Int)) && decide (s.index ≤ ((s.data + s.parity) - 1)))) || (decide ((s.labels.length : Int) ≠ s.data + s.parity)))) (fun hb36 K36 => ?_) (fun hb36 K36 => ?_) ?_
  ·
   have hc1036 := hb36; try simp only [z1, z2, z3, z4, z5, z6, z7, z8, z9, z10, z11, z12, z13, z14, z15, z16] at hc1036
   refine Run.no rfl rfl rfl rfl (hb36) rfl (by decide) ?_
   refine Run.no rfl rfl rfl rfl (hb36) rfl (by decide) ?_
   refine Run.no rfl rfl rfl rfl (hb36) rfl (by decide) ?_
   refine Run.no rfl rfl rfl rfl (hb36) rfl (by decide) ?_
   refine Run.no rfl rfl rfl rfl (hb36) rfl (by decide) ?_
   refine Run.y (y_pickB rfl rfl (hb36) rfl) rfl rfl (by decide) ?_
   exact K36 _ _ _ (Imm.le.refl _) (by rw [hb36]; simp) (Sub.tl 5 rfl rfl)
  ·
   have hc1036 := hb36; try simp only [z1, z2, z3, z4, z5, z6, z7, z8, z9, z10, z11, z12, z13, z14, z15, z16] at hc1036
   refine Run.yes (v := .pointer (some ⟨g1, 4, none⟩)) (y_fieldAddr rfl rfl Tryz.runUnderlying38 rfl Tryz.sizeOf36 (by decide) rfl) rfl rfl rfl rfl (hb36) rfl (by decide) ?_
   refine Run.yes (v := .slice As_4 s.labels.length cs_4) (y_loadB1 0 rfl Tryz.isAgg36 rfl rfl rfl) rfl rfl rfl rfl (hb36) rfl (by decide) ?_
   refine Run.yes (v := .int .i64 (s.labels.length : Int)) (y_len rfl Tryz.runUnderlying36 rfl) rfl rfl rfl rfl (hb36) rfl (by decide) ?_
   refine Run.yes (v := .int .i64 (s.data + s.parity)) (y_move rfl rfl) rfl rfl rfl rfl (hb36) rfl (by decide) ?_
   refine Run.yes (v := .bool (decide ((s.labels.length : Int) ≠ s.data + s.parity))) (y_bin rfl rfl rfl bn_neq) rfl rfl rfl rfl (hb36) rfl (by decide) ?_
   refine Run.y (y_pickB rfl rfl (hb36) rfl) rfl rfl (by decide) ?_
   exact K36 _ _ _ (Imm.le.refl _) (by rw [hb36]; simp) (Sub.tl 5 rfl rfl)
  refine Run.nx ?_
  refine RunC.cond rfl (fun hc1 => ?_) (fun hc1 => ?_)
  ·
   try simp only [z1, z2, z3, z4, z5, z6, z7, z8, z9, z10, z11, z12, z13, z14, z15, z16] at hc1
   refine RunC.sr ?_
   refine Run.as ?_
   refine Run.nx ?_
   refine RunC.ret ?_
   refine RunQ.pass (fun h => by cases h) ?_
   refine RunQ.weak Sub.refl (perm_nil _) ?_
   refine RunQ.fin1 (.inl rfl) Tryz.results70 (rv_tmp rfl) ?_
   exact ⟨rfl, _, rfl, (rd_eq (T := tBool) (x := false) rfl (by first | exact (sRight_no (by unfold sRightP; omega)).symm | (rw [sRight_yes (by unfold sRightP; omega), ← hg, lblsL_at hx49]; simp only [List.drop_zero] at hc3; rcases hc3 with h | h; (rw [show decide (1 ≤ x49 ∧ x49 ≤ 2147483647) = false from decide_eq_false (by omega)]; rfl); (rw [h]; simp)) | (rw [sRight_yes (by unfold sRightP; omega), ← hg, List.drop_eq_nil_of_le (by omega)]; rfl)))⟩
  ·
   try simp only [z1, z2, z3, z4, z5, z6, z7, z8, z9, z10, z11, z12, z13, z14, z15, z16] at hc1
   refine RunC.skip ?_
   refine RunQ.next ?_
   refine RunC.seq ?_
   refine RunC.sr ?_
   refine Run.m (v := .pointer (some ⟨g1, 4, none⟩)) (y_fieldAddr rfl rfl Tryz.runUnderlying38 rfl Tryz.sizeOf36 (by decide) rfl) ?_
   refine Run.m (v := .slice As_4 s.labels.length cs_4) (y_loadB1 0 rfl Tryz.isAgg36 rfl rfl rfl) ?_
   refine Run.m (y_len rfl Tryz.runUnderlying36 rfl) ?_
   refine Run.mv ?_
   refine Run.nx ?_
   refine RunC.block ?_
   obtain ⟨Inv0, hInv0⟩ : ∃ Inv : Nat → Act → World → Prop, ∀ mm aa ww, Inv mm aa ww ↔ (∃ (k : Nat), (k ≤ s.labels.length) ∧ (lblsL (s.labels.take k) (s.labels.drop k) = lblsL [] s.labels) ∧ (mm = (s.labels.length - k)) ∧ Frm aa 63 [(1, .pointer (some ⟨g1, 0, none⟩)), (44, .slice As_4 s.labels.length cs_4), (45, .int .i64 (s.labels.length : Int)), (46, .int .i64 (k : Int))] ∧ S E ww I [blk g1 [.int .i64 s.number, .int .i64 s.index, .int .i64 s.data, .int .i64 s.parity, .slice As_4 s.labels.length cs_4] 38]) := ⟨_, fun _ _ _ => Iff.rfl⟩
   refine RunC.loopX Inv0 (fun aa ww hF hS => ⟨_, (hInv0 _ _ _).2 ⟨0, (by omega), (by simp), rfl, hF.sub (Sub.of rfl), hS.sub (perm_self _)⟩⟩) ?_
   intro mm0 aa ww hv
   obtain ⟨k, hk, hg, hmm_, hF, hS⟩ := (hInv0 _ _ _).1 hv
   clear hv
   refine RunC.go ?_ hF hS
   clear hF hS aa ww
   refine RunC.sr ?_
   refine Run.m (v := .bool (decide ((k : Int) < (s.labels.length : Int)))) (y_bin rfl rfl rfl bn_lss) ?_
   refine Run.nx ?_
   refine RunC.seq ?_
   refine RunC.cond rfl (fun hc2 => ?_) (fun hc2 => ?_)
   ·
    try simp only [z1, z2, z3, z4, z5, z6, z7, z8, z9, z10, z11, z12, z13, z14, z15, z16] at hc2
    refine RunC.skip ?_
    refine RunQ.next ?_
    refine RunC.seq ?_
    refine RunC.block ?_
    refine RunC.sr ?_
    refine Run.mv ?_
    obtain ⟨x49, p49_5, cs49_5, hx49, hp49_5, hcs49_5, hrc49_5⟩ := Sl.at_ (P := Tryz.prog) (T := tInt) Tryz.runUnderlying36 Tryz.sizeOf3 fs_4 (k := .i64) (i := (k : Int)) (by omega) (by omega)
    replace hx49 : s.labels[k]? = some x49 := hx49
    obtain ⟨rfl, f49_5_0⟩ := hcs49_5
    refine Run.m (v := .pointer (some p49_5)) (y_index rfl rfl rfl hp49_5) ?_
    refine Run.m (v := .int .i64 x49) (y_load1 rfl Tryz.isAgg3 rfl (RCells.hd hrc49_5)) ?_
    refine Run.as ?_
    refine Run.as ?_
    refine Run.nx ?_
    refine RunC.sr ?_
    refine Run.mv ?_
    refine Run.callV (en_func rfl Tryz.call103 rfl) (conv_bool (c_record_within _ x49 1 2147483647)) rfl rfl (by decide) (fun hI6 => ?_)
    refine Run.m (v := .bool (!(decide (x49 ≥ (1 : Int)) && decide (x49 ≤ (2147483647 : Int))))) (y_not (b := (decide (x49 ≥ (1 : Int)) && decide (x49 ≤ (2147483647 : Int)))) rfl rfl) ?_
    refine Run.mv ?_
    refine Run.split 7 rfl (b := (!(decide (x49 ≥ (1 : Int)) && decide (x49 ≤ (2147483647 : Int))))) (d := 61) (v := .bool ((!(decide (x49 ≥ (1 : Int)) && decide (x49 ≤ (2147483647 : Int)))) || (((s.labels.take k).drop 0).contains x49))) (fun hb54 K54 => ?_) (fun hb54 K54 => ?_) ?_
    ·
     have hc1054 := hb54; try simp only [z1, z2, z3, z4, z5, z6, z7, z8, z9, z10, z11, z12, z13, z14, z15, z16] at hc1054
     refine Run.no rfl rfl rfl rfl (hb54) rfl (by decide) ?_
     refine Run.no rfl rfl rfl rfl (hb54) rfl (by decide) ?_
     refine Run.no rfl rfl rfl rfl (hb54) rfl (by decide) ?_
     refine Run.no rfl rfl rfl rfl (hb54) rfl (by decide) ?_
     refine Run.no rfl rfl rfl rfl (hb54) rfl (by decide) ?_
     refine Run.no rfl rfl rfl rfl (hb54) rfl (by decide) ?_
     refine Run.y (y_pickB rfl rfl (hb54) rfl) rfl rfl (by decide) ?_
     exact K54 _ _ _ (Imm.le.refl _) (by rw [hb54]; simp) (Sub.tl 6 rfl rfl)
    ·
     have hc1054 := hb54; try simp only [z1, z2, z3, z4, z5, z6, z7, z8, z9, z10, z11, z12, z13, z14, z15, z16] at hc1054
     refine Run.yes (v := .pointer (some ⟨g1, 4, none⟩)) (y_fieldAddr rfl rfl Tryz.runUnderlying38 rfl Tryz.sizeOf36 (by decide) rfl) rfl rfl rfl rfl (hb54) rfl (by decide) ?_
     refine Run.yes (v := .slice As_4 s.labels.length cs_4) (y_loadB1 0 rfl Tryz.isAgg36 rfl rfl rfl) rfl rfl rfl rfl (hb54) rfl (by decide) ?_
     refine Run.yes (v := .int .i64 (k : Int)) (y_move rfl rfl) rfl rfl rfl rfl (hb54) rfl (by decide) ?_
     obtain ⟨A58_7, hsl7, hcut7⟩ := Sl.cut (P := Tryz.prog) (T := tInt) Tryz.runUnderlying36 Tryz.sizeOf3 fs_4 (vl := none) (vh := some (.int .i64 (k : Int))) (l := 0) (m := k) (.inr ⟨rfl, rfl⟩) (.inl rfl) (by omega) (by omega)
     refine Run.yes (v := .slice A58_7 (((s.labels.take k).drop 0).length) (cs_4 - 0)) (y_slice (vl := none) (vh := some (.int .i64 (k : Int))) rfl rfl rfl rfl rfl hsl7) rfl rfl rfl rfl (hb54) rfl (by decide) ?_
     refine Run.yes (v := .int .i64 x49) (y_move rfl rfl) rfl rfl rfl rfl (hb54) rfl (by decide) ?_
     refine Run.callVYes (en_func rfl Tryz.call45 rfl) (conv_bool (c_slices_Contains_int_int _ ((s.labels.take k).drop 0) hcut7 x49)) rfl rfl rfl rfl (hb54) rfl (by decide) (fun hI8 => ?_)
     refine Run.y (y_pickB rfl rfl (hb54) rfl) rfl rfl (by decide) ?_
     exact K54 _ _ _ (Imm.le.refl _) (by rw [hb54]; simp) (Sub.tl 6 rfl rfl)
    refine Run.nx ?_
    refine RunC.cond rfl (fun hc3 => ?_) (fun hc3 => ?_)
    ·
     try simp only [z1, z2, z3, z4, z5, z6, z7, z8, z9, z10, z11, z12, z13, z14, z15, z16] at hc3
     refine RunC.sr ?_
     refine Run.as ?_
     refine Run.nx ?_
     refine RunC.ret ?_
     refine RunQ.inR ?_
     refine RunQ.pass (fun h => by cases h) ?_
     refine RunQ.pass (fun h => by cases h) ?_
     refine RunQ.inR ?_
     refine RunQ.pass (fun h => by cases h) ?_
     refine RunQ.weak Sub.refl (perm_nil _) ?_
     refine RunQ.fin1 (.inl rfl) Tryz.results70 (rv_tmp rfl) ?_
     exact ⟨rfl, _, rfl, (rd_eq (T := tBool) (x := false) rfl (by first | exact (sRight_no (by unfold sRightP; omega)).symm | (rw [sRight_yes (by unfold sRightP; omega), ← hg, lblsL_at hx49]; simp only [List.drop_zero] at hc3; rcases hc3 with h | h; (rw [show decide (1 ≤ x49 ∧ x49 ≤ 2147483647) = false from decide_eq_false (by omega)]; rfl); (rw [h]; simp)) | (rw [sRight_yes (by unfold sRightP; omega), ← hg, List.drop_eq_nil_of_le (by omega)]; rfl)))⟩
    ·
     try simp only [z1, z2, z3, z4, z5, z6, z7, z8, z9, z10, z11, z12, z13, z14, z15, z16] at hc3
     refine RunC.skip ?_
     refine RunQ.inB ?_
     refine RunQ.next ?_
     refine RunC.region ?_
     refine Run.m (v := .int .i64 ((k : Int) + 1)) (y_bin rfl rfl rfl (bn_add (by omega) (by omega))) ?_
     refine Run.mv ?_
     refine Run.nil ?_
     exact RunQ.thenI (fun aa ww hF hS => ⟨_, (by omega), (hInv0 _ _ _).2 ⟨(k + 1), (by omega), (by rw [← hg, lblsL_at hx49]; simp only [List.drop_zero] at hc3; rw [hc3.2]; simp [hc3.1]), rfl, hF.sub (Sub.of rfl), hS.sub (perm_self _)⟩⟩)
   ·
    try simp only [z1, z2, z3, z4, z5, z6, z7, z8, z9, z10, z11, z12, z13, z14, z15, z16] at hc2
    refine RunC.exit ?_
    refine RunQ.pass (fun h => by cases h) ?_
    refine RunQ.pass (fun h => by cases h) ?_
    refine RunQ.out ?_
    refine RunQ.next ?_
    refine RunC.sr ?_
    refine Run.as ?_
    refine Run.nx ?_
    refine RunC.ret ?_
    refine RunQ.weak Sub.refl (perm_nil _) ?_
    refine RunQ.fin1 (.inl rfl) Tryz.results70 (rv_tmp rfl) ?_
    exact ⟨rfl, _, rfl, (rd_eq (T := tBool) (x := true) rfl (by first | exact (sRight_no (by unfold sRightP; omega)).symm | (rw [sRight_yes (by unfold sRightP; omega), ← hg, lblsL_at hx49]; simp only [List.drop_zero] at hc3; rcases hc3 with h | h; (rw [show decide (1 ≤ x49 ∧ x49 ≤ 2147483647) = false from decide_eq_false (by omega)]; rfl); (rw [h]; simp)) | (rw [sRight_yes (by unfold sRightP; omega), ← hg, List.drop_eq_nil_of_le (by omega)]; rfl)))⟩

theorem c_record_SealBytes (I : Imm) {css : List Value} (s : ASeal) (hs : tSeal.rd I css s) : Con Tryz.prog 81 [.agg css.toArray].toArray I [] (fun J o v => ∃ (yr0 : List UInt8) (Ar0 : Option Addr) (cr0 : Nat) (clr0 : List Value), yr0 = (if sRight s = true then sBytes s else []) ∧ o = [row (.slice Ar0 yr0.length cr0) 5 1 clr0] ∧ v = .slice Ar0 yr0.length cr0 ∧ tU8.all J clr0 yr0) := by
 obtain ⟨As_4, cs_4, rfl, fs_0, fs_1, fs_2, fs_3, fs_4⟩ := hs
 have hsms_4 := fs_4.small
 refine Con.enter (n := 47) (L := [(0, .agg [.int .i64 s.number, .int .i64 s.index, .int .i64 s.data, .int .i64 s.parity, .slice As_4 s.labels.length cs_4].toArray)]) Tryz.func81 rfl rfl (Nat.le_of_ble_eq_true rfl) rfl (fun E => ?_)
 refine RunC.sr ?_
 refine Run.box (cs := [.int .i64 s.number, .int .i64 s.index, .int .i64 s.data, .int .i64 s.parity, .slice As_4 s.labels.length cs_4]) rfl rfl rfl rfl rfl (by decide) (fun g1 => ?_)
 refine Run.as ?_
 refine Run.nx ?_
 refine RunC.seq ?_
 refine RunC.sr ?_
 refine Run.m (v := .agg [.int .i64 s.number, .int .i64 s.index, .int .i64 s.data, .int .i64 s.parity, .slice As_4 s.labels.length cs_4].toArray) (y_loadBA 0 rfl Tryz.isAgg38 Tryz.sizeOf38 rfl rfl rfl rfl) ?_
 refine Run.callV (en_func rfl Tryz.call70 rfl) (conv_bool (c_record_RightSeal _ s ⟨_, _, rfl, fs_0, fs_1, fs_2, fs_3, fs_4⟩)) rfl rfl (by decide) (fun hI1 => ?_)
 refine Run.m (v := .bool (!(sRight s))) (y_not (b := (sRight s)) rfl rfl) ?_
 refine Run.nx ?_
 refine RunC.cond rfl (fun hc0 => ?_) (fun hc0 => ?_)
 ·
  try simp only [z1, z2, z3, z4, z5, z6, z7, z8, z9, z10, z11, z12, z13, z14, z15, z16] at hc0
  refine RunC.sr ?_
  refine Run.as ?_
  refine Run.nx ?_
  refine RunC.ret ?_
  refine RunQ.pass (fun h => by cases h) ?_
  refine RunQ.nilrow none 5 1 ?_
  refine RunQ.weak Sub.refl (perm_take (i := 0) rfl (perm_nil _)) ?_
  refine RunQ.fin1 (.inl rfl) Tryz.results81 (rv_tmp rfl) ?_
  exact ⟨([] : List UInt8), none, 0, [], (by first | (rw [if_neg (by simp [hc0])]; done) | (rw [if_pos hc0, sBytes, hw_, List.take_of_length_le (by omega)])), rfl, rfl, all_nil⟩
 ·
  try simp only [z1, z2, z3, z4, z5, z6, z7, z8, z9, z10, z11, z12, z13, z14, z15, z16] at hc0
  have hP := sRight_P hc0; unfold sRightP at hP
  refine RunC.skip ?_
  refine RunQ.next ?_
  refine RunC.sr ?_
  refine Run.m (v := .agg [.slice none 0 0].toArray) (y_build (vs := []) rfl rfl (fun w => by simp [Instr.build, Tryz.zeroValue174, Tryz.runUnderlying174, Tryz.sizeOf42, Instr.fill, Value.cells])) ?_
  refine Run.box (cs := [.slice none 0 0]) rfl rfl rfl rfl rfl (by decide) (fun g12 => ?_)
  refine Run.as ?_
  refine Run.nx ?_
  refine RunC.sr ?_
  refine Run.mv ?_
  refine Run.m (v := .pointer (some ⟨g1, 0, none⟩)) (y_fieldAddr rfl rfl Tryz.runUnderlying38 rfl Tryz.sizeOf3 (by decide) rfl) ?_
  refine Run.m (v := .int .i64 s.number) (y_loadB1 1 rfl Tryz.isAgg3 rfl rfl rfl) ?_
  refine Run.nilrow none 5 1 ?_
  refine Run.call (own1 := [blk g12 [.slice none 0 0] 174, row (.slice none 0 0) 5 1 ([])]) (own2 := [blk g1 [.int .i64 s.number, .int .i64 s.index, .int .i64 s.data, .int .i64 s.parity, .slice As_4 s.labels.length cs_4] 38]) (en_func rfl Tryz.call110 rfl) (c_code_Writer_Int _ g12 none 0 ([]) ([] : List UInt8) all_nil s.number (by first | omega | (simp; done) | (rw [hw_, List.length_append, be4_len, List.length_map, List.length_take]; simp; omega) | (rw [hw_]; exact sLen hP.1 (by omega) hP.2.2.2) | (simp; omega))) (permC (i := 1) rfl rfl (permC (i := 0) rfl rfl (List.Perm.refl _))) rfl rfl (by decide) (fun J2 o2 v2 hleJ2 hq2 => ?_)
  obtain ⟨y2b, A2b, c2b, cl2b, e2b, rfl, rfl, h2b⟩ := hq2
  obtain rfl : (([] : List UInt8) ++ be4 (b32 s.number)) = y2b := e2b.symm
  refine Run.nx ?_
  refine RunC.seq ?_
  refine RunC.sr ?_
  refine Run.m (v := .pointer (some ⟨g1, 1, none⟩)) (y_fieldAddr rfl rfl Tryz.runUnderlying38 rfl Tryz.sizeOf3 (by decide) rfl) ?_
  refine Run.m (v := .int .i64 s.index) (y_loadB1 2 rfl Tryz.isAgg3 rfl rfl rfl) ?_
  refine Run.m (v := .pointer (some ⟨g1, 2, none⟩)) (y_fieldAddr rfl rfl Tryz.runUnderlying38 rfl Tryz.sizeOf3 (by decide) rfl) ?_
  refine Run.m (v := .int .i64 s.data) (y_loadB1 2 rfl Tryz.isAgg3 rfl rfl rfl) ?_
  refine Run.m (v := .pointer (some ⟨g1, 3, none⟩)) (y_fieldAddr rfl rfl Tryz.runUnderlying38 rfl Tryz.sizeOf3 (by decide) rfl) ?_
  refine Run.m (v := .int .i64 s.parity) (y_loadB1 2 rfl Tryz.isAgg3 rfl rfl rfl) ?_
  refine Run.lit (vs := [(0, .int .i64 s.index), (1, .int .i64 s.data), (2, .int .i64 s.parity)]) (cs := [.int .i64 s.index, .int .i64 s.data, .int .i64 s.parity]) (el := 3) (sz := 1) rfl rfl (fun w => by simp [Instr.buildSlice, Tryz.runUnderlying36, Tryz.sizeOf3, Tryz.zeroValue3, Instr.fill, Value.cells, newRow, (show Array.range 3 = #[0, 1, 2] from rfl)]) rfl (by simp [maxLen]) rfl rfl (by decide) (fun g23 => ?_)
  refine Run.m (y_len rfl Tryz.runUnderlying36 rfl) ?_
  refine Run.mv ?_
  refine Run.nx ?_
  refine RunC.block ?_
  have hlit3 : tInt.all J2 [.int .i64 s.index, .int .i64 s.data, .int .i64 s.parity] [s.index, s.data, s.parity] := (all_snoc (T := tInt) (all_snoc (T := tInt) (all_snoc (T := tInt) all_nil ⟨rfl, fs_1⟩) ⟨rfl, fs_2⟩) ⟨rfl, fs_3⟩)
  refine RunC.freezeR 0 rfl (own' := [blk g12 [.slice A2b ((([] : List UInt8) ++ be4 (b32 s.number)).length) c2b] 174, row (.slice A2b ((([] : List UInt8) ++ be4 (b32 s.number)).length) c2b) 5 1 cl2b, blk g1 [.int .i64 s.number, .int .i64 s.index, .int .i64 s.data, .int .i64 s.parity, .slice As_4 s.labels.length cs_4] 38]) rfl (fun J4 hleJ4 hfzJ4 => ?_)
  have hslJ4 : Sl tInt J4 (some ⟨g23, 0, none⟩) 3 ([s.index, s.data, s.parity]) := Sl.of_rowN hfzJ4 (by simp) rfl (hlit3.mono hleJ4)
  refine RunC.cast (s := 23) (v' := .slice (some ⟨g23, 0, none⟩) ([s.index, s.data, s.parity]).length 3) rfl (congrArg (fun n => Value.slice (some ⟨g23, 0, none⟩) n 3) (show 3 = _ from (show ([s.index, s.data, s.parity]).length = 3 from (by simp)).symm)) ?_
  obtain ⟨Inv0, hInv0⟩ : ∃ Inv : Nat → Act → World → Prop, ∀ mm aa ww, Inv mm aa ww ↔ (∃ (k : Nat) (w : List UInt8) (Aw : Option Addr) (cw : Nat) (clw : List Value) (Jw : Imm), (J4.le Jw) ∧ (tU8.all Jw clw w) ∧ (k ≤ 3) ∧ (w = be4 (b32 s.number) ++ ([s.index, s.data, s.parity].take k).map b8) ∧ (mm = (3 - k)) ∧ Frm aa 47 [(1, .pointer (some ⟨g1, 0, none⟩)), (2, .slice none 0 0), (3, .pointer (some ⟨g12, 0, none⟩)), (23, .slice (some ⟨g23, 0, none⟩) (([s.index, s.data, s.parity]).length) 3), (24, .int .i64 (3 : Int)), (25, .int .i64 (k : Int))] ∧ S E ww Jw [blk g12 [.slice Aw w.length cw] 174, row (.slice Aw w.length cw) 5 1 clw, blk g1 [.int .i64 s.number, .int .i64 s.index, .int .i64 s.data, .int .i64 s.parity, .slice As_4 s.labels.length cs_4] 38]) := ⟨_, fun _ _ _ => Iff.rfl⟩
  refine RunC.loopX Inv0 (fun aa ww hF hS => ⟨_, (hInv0 _ _ _).2 ⟨0, (([] : List UInt8) ++ be4 (b32 s.number)), A2b, c2b, cl2b, J4, (Imm.le.refl _), (h2b.mono hleJ4), (by omega), (by simp), rfl, hF.sub (Sub.of rfl), hS.sub (perm_self _)⟩⟩) ?_
  intro mm0 aa ww hv
  obtain ⟨k, w, Aw, cw, clw, Jw, hJw_le, hw, hk, hw_, hmm_, hF, hS⟩ := (hInv0 _ _ _).1 hv
  clear hv
  refine RunC.go ?_ hF hS
  clear hF hS aa ww
  refine RunC.sr ?_
  refine Run.m (v := .bool (decide ((k : Int) < (3 : Int)))) (y_bin rfl rfl rfl bn_lss) ?_
  refine Run.nx ?_
  refine RunC.seq ?_
  refine RunC.cond rfl (fun hc1 => ?_) (fun hc1 => ?_)
  ·
   try simp only [z1, z2, z3, z4, z5, z6, z7, z8, z9, z10, z11, z12, z13, z14, z15, z16] at hc1
   refine RunC.skip ?_
   refine RunQ.next ?_
   refine RunC.seq ?_
   refine RunC.block ?_
   refine RunC.sr ?_
   obtain ⟨x27, p27_5, cs27_5, hx27, hp27_5, hcs27_5, hrc27_5⟩ := Sl.at_ (P := Tryz.prog) (T := tInt) Tryz.runUnderlying36 Tryz.sizeOf3 (hslJ4.mono hJw_le) (k := .i64) (i := (k : Int)) (by omega) (by omega)
   replace hx27 : ([s.index, s.data, s.parity])[k]? = some x27 := hx27
   obtain ⟨rfl, f27_5_0⟩ := hcs27_5
   refine Run.m (v := .pointer (some p27_5)) (y_index rfl rfl rfl hp27_5) ?_
   refine Run.m (v := .int .i64 x27) (y_load1 rfl Tryz.isAgg3 rfl (RCells.hd hrc27_5)) ?_
   refine Run.as ?_
   refine Run.nx ?_
   refine RunC.region ?_
   refine Run.mv ?_
   refine Run.mv ?_
   refine Run.m (v := .int .u8 ((b8 x27).toNat : Int)) (y_conv rfl rfl (cv_int Tryz.underlying3 Tryz.underlying5 (wrapu8 _))) ?_
   refine Run.call (own1 := [blk g12 [.slice Aw w.length cw] 174, row (.slice Aw w.length cw) 5 1 clw]) (own2 := [blk g1 [.int .i64 s.number, .int .i64 s.index, .int .i64 s.data, .int .i64 s.parity, .slice As_4 s.labels.length cs_4] 38]) (en_func rfl Tryz.call111 rfl) (c_code_Writer_Byte _ g12 Aw cw clw w hw (b8 x27) (by first | omega | (simp; done) | (rw [hw_, List.length_append, be4_len, List.length_map, List.length_take]; simp; omega) | (rw [hw_]; exact sLen hP.1 (by omega) hP.2.2.2) | (simp; omega))) (permC (i := 0) rfl rfl (permC (i := 0) rfl rfl (List.Perm.refl _))) rfl rfl (by decide) (fun J6 o6 v6 hleJ6 hq6 => ?_)
   obtain ⟨y6b, A6b, c6b, cl6b, e6b, rfl, rfl, h6b⟩ := hq6
   obtain rfl : (w ++ [(b8 x27)]) = y6b := e6b.symm
   refine Run.nil ?_
   refine RunQ.inB ?_
   refine RunQ.next ?_
   refine RunC.region ?_
   refine Run.m (v := .int .i64 ((k : Int) + 1)) (y_bin rfl rfl rfl (bn_add (by omega) (by omega))) ?_
   refine Run.mv ?_
   refine Run.nil ?_
   exact RunQ.thenI (fun aa ww hF hS => ⟨_, (by omega), (hInv0 _ _ _).2 ⟨(k + 1), (w ++ [(b8 x27)]), A6b, c6b, cl6b, J6, (hJw_le.trans hleJ6), h6b, (by omega), (by rw [take_snoc' hx27]; simp [hw_]), rfl, hF.sub (Sub.of rfl), hS.sub (perm_self _)⟩⟩)
  ·
   try simp only [z1, z2, z3, z4, z5, z6, z7, z8, z9, z10, z11, z12, z13, z14, z15, z16] at hc1
   refine RunC.exit ?_
   refine RunQ.pass (fun h => by cases h) ?_
   refine RunQ.pass (fun h => by cases h) ?_
   refine RunQ.out ?_
   refine RunQ.next ?_
   refine RunC.seq ?_
   refine RunC.sr ?_
   refine Run.m (v := .pointer (some ⟨g1, 4, none⟩)) (y_fieldAddr rfl rfl Tryz.runUnderlying38 rfl Tryz.sizeOf36 (by decide) rfl) ?_
   refine Run.m (v := .slice As_4 s.labels.length cs_4) (y_loadB1 2 rfl Tryz.isAgg36 rfl rfl rfl) ?_
   refine Run.m (y_len rfl Tryz.runUnderlying36 rfl) ?_
   refine Run.mv ?_
   refine Run.nx ?_
   refine RunC.block ?_
   obtain ⟨Inv1, hInv1⟩ : ∃ Inv : Nat → Act → World → Prop, ∀ mm aa ww, Inv mm aa ww ↔ (∃ (k : Nat) (w : List UInt8) (Aw : Option Addr) (cw : Nat) (clw : List Value) (Jv : Imm), (Jw.le Jv) ∧ (tU8.all Jv clw w) ∧ (k ≤ s.labels.length) ∧ (w = sHead s ++ (s.labels.take k).flatMap (fun x => be4 (b32 x))) ∧ (mm = (s.labels.length - k)) ∧ Frm aa 47 [(2, .slice none 0 0), (3, .pointer (some ⟨g12, 0, none⟩)), (35, .slice As_4 s.labels.length cs_4), (36, .int .i64 (s.labels.length : Int)), (37, .int .i64 (k : Int))] ∧ S E ww Jv [blk g12 [.slice Aw w.length cw] 174, row (.slice Aw w.length cw) 5 1 clw, blk g1 [.int .i64 s.number, .int .i64 s.index, .int .i64 s.data, .int .i64 s.parity, .slice As_4 s.labels.length cs_4] 38]) := ⟨_, fun _ _ _ => Iff.rfl⟩
   refine RunC.loopX Inv1 (fun aa ww hF hS => ⟨_, (hInv1 _ _ _).2 ⟨0, w, Aw, cw, clw, Jw, (Imm.le.refl _), hw, (by omega), (by simp [sHead, hw_, show k = 3 from by omega]), rfl, hF.sub (Sub.of rfl), hS.sub (perm_self _)⟩⟩) ?_
   intro mm1 aa ww hv
   obtain ⟨k, w, Aw, cw, clw, Jv, hJv_le, hw, hk, hw_, hmm_, hF, hS⟩ := (hInv1 _ _ _).1 hv
   clear hv
   refine RunC.go ?_ hF hS
   clear hF hS aa ww
   refine RunC.sr ?_
   refine Run.m (v := .bool (decide ((k : Int) < (s.labels.length : Int)))) (y_bin rfl rfl rfl bn_lss) ?_
   refine Run.nx ?_
   refine RunC.seq ?_
   refine RunC.cond rfl (fun hc2 => ?_) (fun hc2 => ?_)
   ·
    try simp only [z1, z2, z3, z4, z5, z6, z7, z8, z9, z10, z11, z12, z13, z14, z15, z16] at hc2
    refine RunC.skip ?_
    refine RunQ.next ?_
    refine RunC.seq ?_
    refine RunC.block ?_
    refine RunC.sr ?_
    obtain ⟨x39, p39_7, cs39_7, hx39, hp39_7, hcs39_7, hrc39_7⟩ := Sl.at_ (P := Tryz.prog) (T := tInt) Tryz.runUnderlying36 Tryz.sizeOf3 (fs_4.mono (((hleJ2.trans hleJ4).trans hJw_le).trans hJv_le)) (k := .i64) (i := (k : Int)) (by omega) (by omega)
    replace hx39 : s.labels[k]? = some x39 := hx39
    obtain ⟨rfl, f39_7_0⟩ := hcs39_7
    refine Run.m (v := .pointer (some p39_7)) (y_index rfl rfl rfl hp39_7) ?_
    refine Run.m (v := .int .i64 x39) (y_load1 rfl Tryz.isAgg3 rfl (RCells.hd hrc39_7)) ?_
    refine Run.as ?_
    refine Run.nx ?_
    refine RunC.region ?_
    refine Run.mv ?_
    refine Run.mv ?_
    refine Run.call (own1 := [blk g12 [.slice Aw w.length cw] 174, row (.slice Aw w.length cw) 5 1 clw]) (own2 := [blk g1 [.int .i64 s.number, .int .i64 s.index, .int .i64 s.data, .int .i64 s.parity, .slice As_4 s.labels.length cs_4] 38]) (en_func rfl Tryz.call110 rfl) (c_code_Writer_Int _ g12 Aw cw clw w hw x39 (by first | omega | (simp; done) | (rw [hw_, List.length_append, be4_len, List.length_map, List.length_take]; simp; omega) | (rw [hw_]; exact sLen hP.1 (by omega) hP.2.2.2) | (simp; omega))) (permC (i := 0) rfl rfl (permC (i := 0) rfl rfl (List.Perm.refl _))) rfl rfl (by decide) (fun J8 o8 v8 hleJ8 hq8 => ?_)
    obtain ⟨y8b, A8b, c8b, cl8b, e8b, rfl, rfl, h8b⟩ := hq8
    obtain rfl : (w ++ be4 (b32 x39)) = y8b := e8b.symm
    refine Run.nil ?_
    refine RunQ.inB ?_
    refine RunQ.next ?_
    refine RunC.region ?_
    refine Run.m (v := .int .i64 ((k : Int) + 1)) (y_bin rfl rfl rfl (bn_add (by omega) (by omega))) ?_
    refine Run.mv ?_
    refine Run.nil ?_
    exact RunQ.thenI (fun aa ww hF hS => ⟨_, (by omega), (hInv1 _ _ _).2 ⟨(k + 1), (w ++ be4 (b32 x39)), A8b, c8b, cl8b, J8, (hJv_le.trans hleJ8), h8b, (by omega), (by rw [take_snoc' hx39]; simp [hw_]), rfl, hF.sub (Sub.of rfl), hS.sub (perm_self _)⟩⟩)
   ·
    try simp only [z1, z2, z3, z4, z5, z6, z7, z8, z9, z10, z11, z12, z13, z14, z15, z16] at hc2
    refine RunC.exit ?_
    refine RunQ.pass (fun h => by cases h) ?_
    refine RunQ.pass (fun h => by cases h) ?_
    refine RunQ.out ?_
    refine RunQ.next ?_
    refine RunC.sr ?_
    refine Run.mv ?_
    refine Run.freezeR 1 rfl (own' := [blk g12 [.slice Aw w.length cw] 174, blk g1 [.int .i64 s.number, .int .i64 s.index, .int .i64 s.data, .int .i64 s.parity, .slice As_4 s.labels.length cs_4] 38]) rfl (fun J10 hleJ10 hfzJ10 => ?_)
    have hslJ10 : Sl tU8 J10 Aw cw w := Sl.of_rowN hfzJ10 rfl rfl (hw.mono hleJ10)
    refine Run.call (own1 := [blk g12 [.slice Aw w.length cw] 174]) (own2 := [blk g1 [.int .i64 s.number, .int .i64 s.index, .int .i64 s.data, .int .i64 s.parity, .slice As_4 s.labels.length cs_4] 38]) (en_func rfl Tryz.call112 rfl) (c_code_Writer_Bytes _ g12 Aw cw w hslJ10 (by first | omega | (simp; done) | (rw [hw_, List.length_append, be4_len, List.length_map, List.length_take]; simp; omega) | (rw [hw_]; exact sLen hP.1 (by omega) hP.2.2.2) | (simp; omega))) (permC (i := 0) rfl rfl (List.Perm.refl _)) rfl rfl (by decide) (fun J9 o9 v9 hleJ9 hq9 => ?_)
    obtain ⟨y9b, A9b, c9b, yr9_0, Ar9_0, cr9_0, clr9_0, e9b, er9_0, rfl, rfl, h9b, hr9_0⟩ := hq9
    obtain rfl : w = y9b := e9b.symm
    obtain rfl : w = yr9_0 := er9_0.symm
    refine Run.as ?_
    refine Run.nx ?_
    refine RunC.ret ?_
    refine RunQ.weak Sub.refl (perm_take (i := 1) rfl (perm_nil _)) ?_
    refine RunQ.fin1 (.inl rfl) Tryz.results81 (rv_tmp rfl) ?_
    exact ⟨w, Ar9_0, cr9_0, clr9_0, (by first | (rw [if_neg (by simp [hc0])]; done) | (rw [if_pos hc0, sBytes, hw_, List.take_of_length_le (by omega)])), rfl, rfl, hr9_0⟩

theorem c_record_ReadSeal (I : Imm) {Ab : Option Addr} {cb : Nat} (b : List UInt8) (hb : Sl tU8 I Ab cb b) (hsz : b.length ≤ 1000000) : Con Tryz.prog 87 [.slice Ab b.length cb].toArray I [] (Ret2 (tSeal.g) (tInt.o) ((sRead b).1) ((sRead b).2)) := by
 have hsmb := hb.small
 refine Con.enter (n := 47) (L := [(0, .slice Ab b.length cb)]) Tryz.func87 rfl rfl (Nat.le_of_ble_eq_true rfl) rfl (fun E => ?_)
 refine RunC.sr ?_
 refine Run.alloc (cs := [.int .i64 0, .int .i64 0, .int .i64 0, .int .i64 0, .slice none 0 0]) rfl Tryz.zeroValue38 rfl rfl rfl (by decide) (fun g2_1 => ?_)
 refine Run.as ?_
 refine Run.nx ?_
 refine RunC.sr ?_
 refine Run.mv ?_
 refine Run.call (own1 := []) (own2 := [blk g2_1 [.int .i64 0, .int .i64 0, .int .i64 0, .int .i64 0, .slice none 0 0] 38]) (en_func rfl Tryz.call118 rfl) (c_code_NewReader _ b hb (by omega)) (List.Perm.refl _) rfl rfl (by decide) (fun J2 o2 v2 hleJ2 hq2 => ?_)
 obtain ⟨gr2_0, yr2_0_b, Ar2_0_b, cr2_0_b, er2_0_b, rfl, rfl, hr2_0_b⟩ := hq2
 obtain rfl : b = yr2_0_b := er2_0_b.symm
 refine Run.as ?_
 refine Run.nx ?_
 refine RunC.sr ?_
 refine Run.mv ?_
 refine Run.call (own1 := [blk gr2_0 [.slice Ar2_0_b b.length cr2_0_b, .bool false] 208]) (own2 := [blk g2_1 [.int .i64 0, .int .i64 0, .int .i64 0, .int .i64 0, .slice none 0 0] 38]) (en_func rfl Tryz.call119 rfl) (c_code_Reader_Int _ gr2_0 Ar2_0_b cr2_0_b b hr2_0_b false hsz) (permC (i := 0) rfl rfl (List.Perm.refl _)) rfl rfl (by decide) (fun J3 o3 v3 hleJ3 hq3 => ?_)
 obtain ⟨y3b, A3b, c3b, y3bad, csr3_0, e3b, e3bad, rfl, rfl, h3b, hr3_0⟩ := hq3
 obtain rfl : (rdB 4 (b, false)).1 = y3b := e3b.symm
 obtain rfl : (rdB 4 (b, false)).2 = y3bad := e3bad.symm
 replace hr3_0 : tInt.rd J3 csr3_0 ((rd4 (rdV 4 (b, false))).toNat : Int) := hr3_0
 obtain ⟨rfl, f3_0_0⟩ := hr3_0
 refine Run.m (v := .agg [.int .i64 ((rd4 (rdV 4 (b, false))).toNat : Int), .int .i64 0, .int .i64 0, .int .i64 0, .slice none 0 0].toArray) (y_build (vs := [(0, .int .i64 ((rd4 (rdV 4 (b, false))).toNat : Int))]) rfl rfl (fun w => by simp [Instr.build, Tryz.zeroValue38, Tryz.runUnderlying38, Tryz.sizeOf3, Tryz.sizeOf36, Instr.fill, Value.cells])) ?_
 refine Run.alloc (cs := [.int .i64 0, .int .i64 0, .int .i64 0, .int .i64 0, .slice none 0 0]) rfl Tryz.zeroValue38 rfl rfl rfl (by decide) (fun g5_4 => ?_)
 refine Run.storeB (vs := [.int .i64 ((rd4 (rdV 4 (b, false))).toNat : Int), .int .i64 0, .int .i64 0, .int .i64 0, .slice none 0 0]) (cs' := [.int .i64 ((rd4 (rdV 4 (b, false))).toNat : Int), .int .i64 0, .int .i64 0, .int .i64 0, .slice none 0 0]) (own' := [blk gr2_0 [.slice A3b (((rdB 4 (b, false)).1).length) c3b, .bool ((rdB 4 (b, false)).2)] 208, blk g2_1 [.int .i64 0, .int .i64 0, .int .i64 0, .int .i64 0, .slice none 0 0] 38]) 0 rfl rfl rfl Tryz.sizeOf38 rfl rfl rfl rfl rfl (Nat.le_of_ble_eq_true rfl) rfl rfl rfl ?_
 refine Run.nx ?_
 refine RunC.seq ?_
 refine RunC.sr ?_
 refine Run.m (v := .pointer (some ⟨g5_4, 1, none⟩)) (y_fieldAddr rfl rfl Tryz.runUnderlying38 rfl Tryz.sizeOf3 (by decide) rfl) ?_
 refine Run.m (v := .pointer (some ⟨g5_4, 2, none⟩)) (y_fieldAddr rfl rfl Tryz.runUnderlying38 rfl Tryz.sizeOf3 (by decide) rfl) ?_
 refine Run.m (v := .pointer (some ⟨g5_4, 3, none⟩)) (y_fieldAddr rfl rfl Tryz.runUnderlying38 rfl Tryz.sizeOf3 (by decide) rfl) ?_
 refine Run.lit (vs := [(0, .pointer (some ⟨g5_4, 1, none⟩)), (1, .pointer (some ⟨g5_4, 2, none⟩)), (2, .pointer (some ⟨g5_4, 3, none⟩))]) (cs := [.pointer (some ⟨g5_4, 1, none⟩), .pointer (some ⟨g5_4, 2, none⟩), .pointer (some ⟨g5_4, 3, none⟩)]) (el := 184) (sz := 1) rfl rfl (fun w => by simp [Instr.buildSlice, Tryz.runUnderlying185, Tryz.sizeOf184, Tryz.zeroValue184, Instr.fill, Value.cells, newRow, (show Array.range 3 = #[0, 1, 2] from rfl)]) rfl (by simp [maxLen]) rfl rfl (by decide) (fun g16 => ?_)
 refine Run.m (y_len rfl Tryz.runUnderlying185 rfl) ?_
 refine Run.mv ?_
 refine Run.nx ?_
 refine RunC.block ?_
 refine RunC.loopN 4 ?_
 refine RunC.sr ?_
 refine Run.m (v := .bool true) (y_bin rfl rfl rfl (bn_lss (a := 0) (b := (3 : Int)))) ?_
 refine Run.nx ?_
 refine RunC.seq ?_
 refine RunC.condT rfl ?_
 refine RunC.skip ?_
 refine RunQ.next ?_
 refine RunC.seq ?_
 refine RunC.block ?_
 refine RunC.sr ?_
 refine Run.m (v := .pointer (some (pt (some ⟨g16, 0, none⟩) (0 * 1)))) (y_indexR (q := 0) (m := 3) 0 rfl rfl rfl Tryz.runUnderlying185 Tryz.sizeOf184 rfl (by decide) (by decide)) ?_
 refine Run.m (v := .pointer (some ⟨g5_4, 1, none⟩)) (y_loadR1 0 rfl Tryz.isAgg184 rfl rfl rfl) ?_
 refine Run.as ?_
 refine Run.nx ?_
 refine RunC.region ?_
 refine Run.mv ?_
 refine Run.mv ?_
 refine Run.call (own1 := [blk gr2_0 [.slice A3b (((rdB 4 (b, false)).1).length) c3b, .bool ((rdB 4 (b, false)).2)] 208]) (own2 := [row (.slice (some ⟨g16, 0, none⟩) 3 3) 184 1 ([.pointer (some ⟨g5_4, 1, none⟩), .pointer (some ⟨g5_4, 2, none⟩), .pointer (some ⟨g5_4, 3, none⟩)]), blk g5_4 [.int .i64 ((rd4 (rdV 4 (b, false))).toNat : Int), .int .i64 0, .int .i64 0, .int .i64 0, .slice none 0 0] 38, blk g2_1 [.int .i64 0, .int .i64 0, .int .i64 0, .int .i64 0, .slice none 0 0] 38]) (en_func rfl Tryz.call120 rfl) (c_code_Reader_Byte _ gr2_0 A3b c3b ((rdB 4 (b, false)).1) h3b ((rdB 4 (b, false)).2) (Nat.le_trans (rdB_len _ _) (show (b, false).1.length ≤ 1000000 from hsz))) (permC (i := 2) rfl rfl (List.Perm.refl _)) rfl rfl (by decide) (fun J5 o5 v5 hleJ5 hq5 => ?_)
 obtain ⟨y5b, A5b, c5b, y5bad, csr5_0, e5b, e5bad, rfl, rfl, h5b, hr5_0⟩ := hq5
 obtain rfl : (rdB 1 (rdB 4 (b, false))).1 = y5b := e5b.symm
 obtain rfl : (rdB 1 (rdB 4 (b, false))).2 = y5bad := e5bad.symm
 replace hr5_0 : tU8.rd J5 csr5_0 (u8at (rdV 1 (rdB 4 (b, false)))) := hr5_0
 obtain rfl := hr5_0
 refine Run.m (v := .int .i64 ((u8at (rdV 1 (rdB 4 (b, false)))).toNat : Int)) (y_conv rfl rfl (cv_int Tryz.underlying5 Tryz.underlying3 (wrap64_u8 _))) ?_
 refine Run.m (y_nilCheck rfl rfl) ?_
 refine Run.storeB (vs := [.int .i64 ((u8at (rdV 1 (rdB 4 (b, false)))).toNat : Int)]) (cs' := [.int .i64 ((rd4 (rdV 4 (b, false))).toNat : Int), .int .i64 ((u8at (rdV 1 (rdB 4 (b, false)))).toNat : Int), .int .i64 0, .int .i64 0, .slice none 0 0]) (own' := [blk gr2_0 [.slice A5b (((rdB 1 (rdB 4 (b, false))).1).length) c5b, .bool ((rdB 1 (rdB 4 (b, false))).2)] 208, row (.slice (some ⟨g16, 0, none⟩) 3 3) 184 1 ([.pointer (some ⟨g5_4, 1, none⟩), .pointer (some ⟨g5_4, 2, none⟩), .pointer (some ⟨g5_4, 3, none⟩)]), blk g2_1 [.int .i64 0, .int .i64 0, .int .i64 0, .int .i64 0, .slice none 0 0] 38]) 2 rfl rfl rfl Tryz.sizeOf3 rfl rfl rfl rfl rfl (Nat.le_of_ble_eq_true rfl) rfl rfl rfl ?_
 refine Run.nil ?_
 refine RunQ.inB ?_
 refine RunQ.next ?_
 refine RunC.region ?_
 refine Run.m (v := .int .i64 1) (y_bin rfl rfl rfl (bn_add (a := 0) (b := 1) (by decide) (by decide))) ?_
 refine Run.mv ?_
 refine Run.nil ?_
 refine RunQ.more ?_
 refine RunC.weak (L' := [(2, .pointer (some ⟨g2_1, 0, none⟩)), (3, .int .i64 0), (4, .pointer (some ⟨gr2_0, 0, none⟩)), (5, .pointer (some ⟨g5_4, 0, none⟩)), (16, .slice (some ⟨g16, 0, none⟩) 3 3), (17, .int .i64 (3 : Int)), (19, .bool true), (20, .pointer (some (pt (some ⟨g16, 0, none⟩) (0 * 1)))), (21, .pointer (some ⟨g5_4, 1, none⟩)), (7, .pointer (some ⟨g5_4, 1, none⟩)), (22, .pointer (some ⟨g5_4, 1, none⟩)), (23, .pointer (some ⟨gr2_0, 0, none⟩)), (24, .int .u8 ((u8at (rdV 1 (rdB 4 (b, false)))).toNat : Int)), (25, .int .i64 ((u8at (rdV 1 (rdB 4 (b, false)))).toNat : Int)), (26, .pointer (some ⟨g5_4, 1, none⟩)), (27, .int .i64 1), (18, .int .i64 1)]) (Sub.of rfl) (perm_self _) ?_
 refine RunC.sr ?_
 refine Run.m (v := .bool true) (y_bin rfl rfl rfl (bn_lss (a := 1) (b := (3 : Int)))) ?_
 refine Run.nx ?_
 refine RunC.seq ?_
 refine RunC.condT rfl ?_
 refine RunC.skip ?_
 refine RunQ.next ?_
 refine RunC.seq ?_
 refine RunC.block ?_
 refine RunC.sr ?_
 refine Run.m (v := .pointer (some (pt (some ⟨g16, 0, none⟩) (1 * 1)))) (y_indexR (q := 1) (m := 3) 2 rfl rfl rfl Tryz.runUnderlying185 Tryz.sizeOf184 rfl (by decide) (by decide)) ?_
 refine Run.m (v := .pointer (some ⟨g5_4, 2, none⟩)) (y_loadR1 2 rfl Tryz.isAgg184 rfl rfl rfl) ?_
 refine Run.as ?_
 refine Run.nx ?_
 refine RunC.region ?_
 refine Run.mv ?_
 refine Run.mv ?_
 refine Run.call (own1 := [blk gr2_0 [.slice A5b (((rdB 1 (rdB 4 (b, false))).1).length) c5b, .bool ((rdB 1 (rdB 4 (b, false))).2)] 208]) (own2 := [blk g5_4 [.int .i64 ((rd4 (rdV 4 (b, false))).toNat : Int), .int .i64 ((u8at (rdV 1 (rdB 4 (b, false)))).toNat : Int), .int .i64 0, .int .i64 0, .slice none 0 0] 38, row (.slice (some ⟨g16, 0, none⟩) 3 3) 184 1 ([.pointer (some ⟨g5_4, 1, none⟩), .pointer (some ⟨g5_4, 2, none⟩), .pointer (some ⟨g5_4, 3, none⟩)]), blk g2_1 [.int .i64 0, .int .i64 0, .int .i64 0, .int .i64 0, .slice none 0 0] 38]) (en_func rfl Tryz.call120 rfl) (c_code_Reader_Byte _ gr2_0 A5b c5b ((rdB 1 (rdB 4 (b, false))).1) h5b ((rdB 1 (rdB 4 (b, false))).2) (Nat.le_trans (rdB_len _ _) (Nat.le_trans (rdB_len _ _) (show (b, false).1.length ≤ 1000000 from hsz)))) (permC (i := 1) rfl rfl (List.Perm.refl _)) rfl rfl (by decide) (fun J6 o6 v6 hleJ6 hq6 => ?_)
 obtain ⟨y6b, A6b, c6b, y6bad, csr6_0, e6b, e6bad, rfl, rfl, h6b, hr6_0⟩ := hq6
 obtain rfl : (rdB 1 (rdB 1 (rdB 4 (b, false)))).1 = y6b := e6b.symm
 obtain rfl : (rdB 1 (rdB 1 (rdB 4 (b, false)))).2 = y6bad := e6bad.symm
 replace hr6_0 : tU8.rd J6 csr6_0 (u8at (rdV 1 (rdB 1 (rdB 4 (b, false))))) := hr6_0
 obtain rfl := hr6_0
 refine Run.m (v := .int .i64 ((u8at (rdV 1 (rdB 1 (rdB 4 (b, false))))).toNat : Int)) (y_conv rfl rfl (cv_int Tryz.underlying5 Tryz.underlying3 (wrap64_u8 _))) ?_
 refine Run.m (y_nilCheck rfl rfl) ?_
 refine Run.storeB (vs := [.int .i64 ((u8at (rdV 1 (rdB 1 (rdB 4 (b, false))))).toNat : Int)]) (cs' := [.int .i64 ((rd4 (rdV 4 (b, false))).toNat : Int), .int .i64 ((u8at (rdV 1 (rdB 4 (b, false)))).toNat : Int), .int .i64 ((u8at (rdV 1 (rdB 1 (rdB 4 (b, false))))).toNat : Int), .int .i64 0, .slice none 0 0]) (own' := [blk gr2_0 [.slice A6b (((rdB 1 (rdB 1 (rdB 4 (b, false)))).1).length) c6b, .bool ((rdB 1 (rdB 1 (rdB 4 (b, false)))).2)] 208, row (.slice (some ⟨g16, 0, none⟩) 3 3) 184 1 ([.pointer (some ⟨g5_4, 1, none⟩), .pointer (some ⟨g5_4, 2, none⟩), .pointer (some ⟨g5_4, 3, none⟩)]), blk g2_1 [.int .i64 0, .int .i64 0, .int .i64 0, .int .i64 0, .slice none 0 0] 38]) 1 rfl rfl rfl Tryz.sizeOf3 rfl rfl rfl rfl rfl (Nat.le_of_ble_eq_true rfl) rfl rfl rfl ?_
 refine Run.nil ?_
 refine RunQ.inB ?_
 refine RunQ.next ?_
 refine RunC.region ?_
 refine Run.m (v := .int .i64 2) (y_bin rfl rfl rfl (bn_add (a := 1) (b := 1) (by decide) (by decide))) ?_
 refine Run.mv ?_
 refine Run.nil ?_
 refine RunQ.more ?_
 refine RunC.weak (L' := [(2, .pointer (some ⟨g2_1, 0, none⟩)), (3, .int .i64 0), (4, .pointer (some ⟨gr2_0, 0, none⟩)), (5, .pointer (some ⟨g5_4, 0, none⟩)), (16, .slice (some ⟨g16, 0, none⟩) 3 3), (17, .int .i64 (3 : Int)), (19, .bool true), (20, .pointer (some (pt (some ⟨g16, 0, none⟩) (1 * 1)))), (21, .pointer (some ⟨g5_4, 2, none⟩)), (7, .pointer (some ⟨g5_4, 2, none⟩)), (22, .pointer (some ⟨g5_4, 2, none⟩)), (23, .pointer (some ⟨gr2_0, 0, none⟩)), (24, .int .u8 ((u8at (rdV 1 (rdB 1 (rdB 4 (b, false))))).toNat : Int)), (25, .int .i64 ((u8at (rdV 1 (rdB 1 (rdB 4 (b, false))))).toNat : Int)), (26, .pointer (some ⟨g5_4, 2, none⟩)), (27, .int .i64 2), (18, .int .i64 2)]) (Sub.of rfl) (perm_self _) ?_
 refine RunC.sr ?_
 refine Run.m (v := .bool true) (y_bin rfl rfl rfl (bn_lss (a := 2) (b := (3 : Int)))) ?_
 refine Run.nx ?_
 refine RunC.seq ?_
 refine RunC.condT rfl ?_
 refine RunC.skip ?_
 refine RunQ.next ?_
 refine RunC.seq ?_
 refine RunC.block ?_
 refine RunC.sr ?_
 refine Run.m (v := .pointer (some (pt (some ⟨g16, 0, none⟩) (2 * 1)))) (y_indexR (q := 2) (m := 3) 2 rfl rfl rfl Tryz.runUnderlying185 Tryz.sizeOf184 rfl (by decide) (by decide)) ?_
 refine Run.m (v := .pointer (some ⟨g5_4, 3, none⟩)) (y_loadR1 2 rfl Tryz.isAgg184 rfl rfl rfl) ?_
 refine Run.as ?_
 refine Run.nx ?_
 refine RunC.region ?_
 refine Run.mv ?_
 refine Run.mv ?_
 refine Run.call (own1 := [blk gr2_0 [.slice A6b (((rdB 1 (rdB 1 (rdB 4 (b, false)))).1).length) c6b, .bool ((rdB 1 (rdB 1 (rdB 4 (b, false)))).2)] 208]) (own2 := [blk g5_4 [.int .i64 ((rd4 (rdV 4 (b, false))).toNat : Int), .int .i64 ((u8at (rdV 1 (rdB 4 (b, false)))).toNat : Int), .int .i64 ((u8at (rdV 1 (rdB 1 (rdB 4 (b, false))))).toNat : Int), .int .i64 0, .slice none 0 0] 38, row (.slice (some ⟨g16, 0, none⟩) 3 3) 184 1 ([.pointer (some ⟨g5_4, 1, none⟩), .pointer (some ⟨g5_4, 2, none⟩), .pointer (some ⟨g5_4, 3, none⟩)]), blk g2_1 [.int .i64 0, .int .i64 0, .int .i64 0, .int .i64 0, .slice none 0 0] 38]) (en_func rfl Tryz.call120 rfl) (c_code_Reader_Byte _ gr2_0 A6b c6b ((rdB 1 (rdB 1 (rdB 4 (b, false)))).1) h6b ((rdB 1 (rdB 1 (rdB 4 (b, false)))).2) (Nat.le_trans (rdB_len _ _) (Nat.le_trans (rdB_len _ _) (Nat.le_trans (rdB_len _ _) (show (b, false).1.length ≤ 1000000 from hsz))))) (permC (i := 1) rfl rfl (List.Perm.refl _)) rfl rfl (by decide) (fun J7 o7 v7 hleJ7 hq7 => ?_)
 obtain ⟨y7b, A7b, c7b, y7bad, csr7_0, e7b, e7bad, rfl, rfl, h7b, hr7_0⟩ := hq7
 obtain rfl : (rdB 1 (rdB 1 (rdB 1 (rdB 4 (b, false))))).1 = y7b := e7b.symm
 obtain rfl : (rdB 1 (rdB 1 (rdB 1 (rdB 4 (b, false))))).2 = y7bad := e7bad.symm
 replace hr7_0 : tU8.rd J7 csr7_0 (u8at (rdV 1 (rdB 1 (rdB 1 (rdB 4 (b, false)))))) := hr7_0
 obtain rfl := hr7_0
 refine Run.m (v := .int .i64 ((u8at (rdV 1 (rdB 1 (rdB 1 (rdB 4 (b, false)))))).toNat : Int)) (y_conv rfl rfl (cv_int Tryz.underlying5 Tryz.underlying3 (wrap64_u8 _))) ?_
 refine Run.m (y_nilCheck rfl rfl) ?_
 refine Run.storeB (vs := [.int .i64 ((u8at (rdV 1 (rdB 1 (rdB 1 (rdB 4 (b, false)))))).toNat : Int)]) (cs' := [.int .i64 ((rd4 (rdV 4 (b, false))).toNat : Int), .int .i64 ((u8at (rdV 1 (rdB 4 (b, false)))).toNat : Int), .int .i64 ((u8at (rdV 1 (rdB 1 (rdB 4 (b, false))))).toNat : Int), .int .i64 ((u8at (rdV 1 (rdB 1 (rdB 1 (rdB 4 (b, false)))))).toNat : Int), .slice none 0 0]) (own' := [blk gr2_0 [.slice A7b (((rdB 1 (rdB 1 (rdB 1 (rdB 4 (b, false))))).1).length) c7b, .bool ((rdB 1 (rdB 1 (rdB 1 (rdB 4 (b, false))))).2)] 208, row (.slice (some ⟨g16, 0, none⟩) 3 3) 184 1 ([.pointer (some ⟨g5_4, 1, none⟩), .pointer (some ⟨g5_4, 2, none⟩), .pointer (some ⟨g5_4, 3, none⟩)]), blk g2_1 [.int .i64 0, .int .i64 0, .int .i64 0, .int .i64 0, .slice none 0 0] 38]) 1 rfl rfl rfl Tryz.sizeOf3 rfl rfl rfl rfl rfl (Nat.le_of_ble_eq_true rfl) rfl rfl rfl ?_
 refine Run.nil ?_
 refine RunQ.inB ?_
 refine RunQ.next ?_
 refine RunC.region ?_
 refine Run.m (v := .int .i64 3) (y_bin rfl rfl rfl (bn_add (a := 2) (b := 1) (by decide) (by decide))) ?_
 refine Run.mv ?_
 refine Run.nil ?_
 refine RunQ.more ?_
 refine RunC.weak (L' := [(2, .pointer (some ⟨g2_1, 0, none⟩)), (3, .int .i64 0), (4, .pointer (some ⟨gr2_0, 0, none⟩)), (5, .pointer (some ⟨g5_4, 0, none⟩)), (16, .slice (some ⟨g16, 0, none⟩) 3 3), (17, .int .i64 (3 : Int)), (19, .bool true), (20, .pointer (some (pt (some ⟨g16, 0, none⟩) (2 * 1)))), (21, .pointer (some ⟨g5_4, 3, none⟩)), (7, .pointer (some ⟨g5_4, 3, none⟩)), (22, .pointer (some ⟨g5_4, 3, none⟩)), (23, .pointer (some ⟨gr2_0, 0, none⟩)), (24, .int .u8 ((u8at (rdV 1 (rdB 1 (rdB 1 (rdB 4 (b, false)))))).toNat : Int)), (25, .int .i64 ((u8at (rdV 1 (rdB 1 (rdB 1 (rdB 4 (b, false)))))).toNat : Int)), (26, .pointer (some ⟨g5_4, 3, none⟩)), (27, .int .i64 3), (18, .int .i64 3)]) (Sub.of rfl) (perm_self _) ?_
 refine RunC.sr ?_
 refine Run.m (v := .bool false) (y_bin rfl rfl rfl (bn_lss (a := 3) (b := (3 : Int)))) ?_
 refine Run.nx ?_
 refine RunC.seq ?_
 refine RunC.condF rfl ?_
 refine RunC.exit ?_
 refine RunQ.pass (fun h => by cases h) ?_
 refine RunQ.pass (fun h => by cases h) ?_
 refine RunQ.out ?_
 refine RunQ.next ?_
 refine RunC.seq ?_
 refine RunC.block ?_
 refine RunC.nilrow none 3 1 ?_
 obtain ⟨Inv1, hInv1⟩ : ∃ Inv : Nat → Act → World → Prop, ∀ mm aa ww, Inv mm aa ww ↔ (∃ (rb : List UInt8 × Bool) (Ar : Option Addr) (cr : Nat) (l : List Int) (Al : Option Addr) (cl : Nat) (cll : List Value) (m : Nat) (J : Imm), (J7.le J) ∧ (Sl tU8 J Ar cr rb.1) ∧ (tInt.all J cll l) ∧ (Rok rb) ∧ (l.length + rb.1.length ≤ 1000000) ∧ (rb.1.length ≤ m) ∧ (lblRd m rb l = sLbl b) ∧ (mm = (m)) ∧ Frm aa 47 [(2, .pointer (some ⟨g2_1, 0, none⟩)), (3, .int .i64 0), (4, .pointer (some ⟨gr2_0, 0, none⟩)), (5, .pointer (some ⟨g5_4, 0, none⟩))] ∧ S E ww J [blk gr2_0 [.slice Ar rb.1.length cr, .bool rb.2] 208, blk g5_4 [.int .i64 ((rd4 (rdV 4 (b, false))).toNat : Int), .int .i64 ((u8at (rdV 1 (rdB 4 (b, false)))).toNat : Int), .int .i64 ((u8at (rdV 1 (rdB 1 (rdB 4 (b, false))))).toNat : Int), .int .i64 ((u8at (rdV 1 (rdB 1 (rdB 1 (rdB 4 (b, false)))))).toNat : Int), .slice Al l.length cl] 38, row (.slice Al l.length cl) 3 1 cll, row (.slice (some ⟨g16, 0, none⟩) 3 3) 184 1 ([.pointer (some ⟨g5_4, 1, none⟩), .pointer (some ⟨g5_4, 2, none⟩), .pointer (some ⟨g5_4, 3, none⟩)]), blk g2_1 [.int .i64 0, .int .i64 0, .int .i64 0, .int .i64 0, .slice none 0 0] 38]) := ⟨_, fun _ _ _ => Iff.rfl⟩
 refine RunC.loopX Inv1 (fun aa ww hF hS => ⟨_, (hInv1 _ _ _).2 ⟨(rdB 1 (rdB 1 (rdB 1 (rdB 4 (b, false))))), A7b, c7b, ([] : List Int), none, 0, [], (sRest b).1.length, J7, (Imm.le.refl _), h7b, all_nil, ((((rok0 b).rdB 4).rdB 1).rdB 1 |>.rdB 1), (by have := rlen b; simp only [sRest] at this; simp; omega), (Nat.le_refl _), rfl, rfl, hF.sub (Sub.of rfl), hS.sub (perm_take (i := 2) rfl (perm_take (i := 1) rfl (perm_take (i := 0) rfl (perm_take (i := 0) rfl (perm_take (i := 0) rfl (perm_nil _))))))⟩⟩) ?_
 intro mm1 aa ww hv
 obtain ⟨rb, Ar, cr, l, Al, cl, cll, m, J, hJ_le, hrb, hl, hrok, hlen, hm, hg, hmm_, hF, hS⟩ := (hInv1 _ _ _).1 hv
 clear hv
 refine RunC.go ?_ hF hS
 clear hF hS aa ww
 refine RunC.seq ?_
 refine RunC.sr ?_
 refine Run.mv ?_
 refine Run.call (own1 := [blk gr2_0 [.slice Ar rb.1.length cr, .bool rb.2] 208]) (own2 := [blk g5_4 [.int .i64 ((rd4 (rdV 4 (b, false))).toNat : Int), .int .i64 ((u8at (rdV 1 (rdB 4 (b, false)))).toNat : Int), .int .i64 ((u8at (rdV 1 (rdB 1 (rdB 4 (b, false))))).toNat : Int), .int .i64 ((u8at (rdV 1 (rdB 1 (rdB 1 (rdB 4 (b, false)))))).toNat : Int), .slice Al l.length cl] 38, row (.slice Al l.length cl) 3 1 cll, row (.slice (some ⟨g16, 0, none⟩) 3 3) 184 1 ([.pointer (some ⟨g5_4, 1, none⟩), .pointer (some ⟨g5_4, 2, none⟩), .pointer (some ⟨g5_4, 3, none⟩)]), blk g2_1 [.int .i64 0, .int .i64 0, .int .i64 0, .int .i64 0, .slice none 0 0] 38]) (en_func rfl Tryz.call121 rfl) (c_code_Reader_Left _ gr2_0 Ar cr rb.1 hrb rb.2 (by omega)) (permC (i := 0) rfl rfl (List.Perm.refl _)) rfl rfl (by decide) (fun J8 o8 v8 hleJ8 hq8 => ?_)
 obtain ⟨y8b, A8b, c8b, y8bad, csr8_0, e8b, e8bad, rfl, rfl, h8b, hr8_0⟩ := hq8
 obtain rfl : rb.1 = y8b := e8b.symm
 obtain rfl : rb.2 = y8bad := e8bad.symm
 replace hr8_0 : tInt.rd J8 csr8_0 (rb.1.length : Int) := hr8_0
 obtain ⟨rfl, f8_0_0⟩ := hr8_0
 refine Run.m (v := .bool (decide ((rb.1.length : Int) > 0))) (y_bin rfl rfl rfl bn_gtr) ?_
 refine Run.nx ?_
 refine RunC.cond rfl (fun hc1 => ?_) (fun hc1 => ?_)
 ·
  try simp only [z1, z2, z3, z4, z5, z6, z7, z8, z9, z10, z11, z12, z13, z14, z15, z16] at hc1
  obtain ⟨m, rfl⟩ : ∃ j, m = j + 1 := ⟨m - 1, by omega⟩
  refine RunC.skip ?_
  refine RunQ.next ?_
  refine RunC.block ?_
  refine RunC.regionT [7] [blk g5_4 [.int .i64 ((rd4 (rdV 4 (b, false))).toNat : Int), .int .i64 ((u8at (rdV 1 (rdB 4 (b, false)))).toNat : Int), .int .i64 ((u8at (rdV 1 (rdB 1 (rdB 4 (b, false))))).toNat : Int), .int .i64 ((u8at (rdV 1 (rdB 1 (rdB 1 (rdB 4 (b, false)))))).toNat : Int), .slice Al l.length cl] 38] (by kernel_rfl) rfl ?_
  refine RunT.p (v := .pointer (some ⟨g5_4, 4, none⟩)) (listed' := #[true, false, false, false, false, false, false, false]) 0 rfl (by kernel_rfl) (by kernel_rfl) (by kernel_rfl) rfl (fun _ => ⟨(Imm.le.refl _), (perm_take (i := 1) rfl (perm_nil _))⟩) (y_fieldAddr rfl rfl Tryz.runUnderlying38 rfl Tryz.sizeOf36 (by decide) rfl) (.plain rfl) rfl (by decide) rfl ?_
  refine RunT.y (v := .slice Al l.length cl) (listed' := #[true, true, false, false, false, false, false, false]) 1 rfl (by kernel_rfl) (by kernel_rfl) (by kernel_rfl) (by kernel_rfl) rfl (Imm.le.refl _) (perm_take (i := 1) rfl (perm_nil _)) (y_loadB1 0 rfl Tryz.isAgg36 rfl rfl rfl) (.plain rfl) rfl (by decide) rfl ?_
  refine RunT.p (v := .pointer (some ⟨gr2_0, 0, none⟩)) (listed' := #[true, true, true, false, false, false, false, false]) 2 rfl (by kernel_rfl) (by kernel_rfl) (by kernel_rfl) rfl (fun _ => ⟨(Imm.le.refl _), (perm_take (i := 1) rfl (perm_nil _))⟩) (y_move rfl rfl) (.plain rfl) rfl (by decide) rfl ?_
  refine RunT.step (listed' := #[true, true, true, true, false, false, false, false]) 3 rfl (by kernel_rfl) rfl ?_
  refine Run.call (own1 := [blk gr2_0 [.slice A8b rb.1.length c8b, .bool rb.2] 208]) (own2 := [blk g5_4 [.int .i64 ((rd4 (rdV 4 (b, false))).toNat : Int), .int .i64 ((u8at (rdV 1 (rdB 4 (b, false)))).toNat : Int), .int .i64 ((u8at (rdV 1 (rdB 1 (rdB 4 (b, false))))).toNat : Int), .int .i64 ((u8at (rdV 1 (rdB 1 (rdB 1 (rdB 4 (b, false)))))).toNat : Int), .slice Al l.length cl] 38, row (.slice Al l.length cl) 3 1 cll, row (.slice (some ⟨g16, 0, none⟩) 3 3) 184 1 ([.pointer (some ⟨g5_4, 1, none⟩), .pointer (some ⟨g5_4, 2, none⟩), .pointer (some ⟨g5_4, 3, none⟩)]), blk g2_1 [.int .i64 0, .int .i64 0, .int .i64 0, .int .i64 0, .slice none 0 0] 38]) (en_func rfl Tryz.call119 rfl) (c_code_Reader_Int _ gr2_0 A8b c8b rb.1 h8b rb.2 (by omega)) (permC (i := 0) rfl rfl (List.Perm.refl _)) rfl rfl (by decide) (fun J9 o9 v9 hleJ9 hq9 => ?_)
  obtain ⟨y9b, A9b, c9b, y9bad, csr9_0, e9b, e9bad, rfl, rfl, h9b, hr9_0⟩ := hq9
  obtain rfl : (rdB 4 rb).1 = y9b := e9b.symm
  obtain rfl : (rdB 4 rb).2 = y9bad := e9bad.symm
  replace hr9_0 : tInt.rd J9 csr9_0 ((rd4 (rdV 4 rb)).toNat : Int) := hr9_0
  obtain ⟨rfl, f9_0_0⟩ := hr9_0
  refine Run.nil ?_
  refine RunQ.stepEnd (fun _ => ⟨hleJ9, (perm_take (i := 1) rfl (perm_nil _))⟩) ?_
  refine RunT.step (listed' := #[true, true, true, true, true, false, false, false]) 4 rfl (by kernel_rfl) rfl ?_
  refine Run.lit (vs := [(0, .int .i64 ((rd4 (rdV 4 rb)).toNat : Int))]) (cs := [.int .i64 ((rd4 (rdV 4 rb)).toNat : Int)]) (el := 3) (sz := 1) rfl rfl (fun w => by simp [Instr.buildSlice, Tryz.runUnderlying36, Tryz.sizeOf3, Tryz.zeroValue3, Instr.fill, Value.cells, newRow, (show Array.range 1 = #[0] from rfl)]) rfl (by simp [maxLen]) rfl rfl (by decide) (fun g35 => ?_)
  refine Run.nil ?_
  refine RunQ.stepEnd (fun _ => ⟨hleJ9, (perm_take (i := 2) rfl (perm_nil _))⟩) ?_
  refine RunT.step (listed' := #[true, true, true, true, true, true, false, false]) 5 rfl (by kernel_rfl) rfl ?_
  have hlit10 : tInt.all J9 [.int .i64 ((rd4 (rdV 4 rb)).toNat : Int)] [((rd4 (rdV 4 rb)).toNat : Int)] := (all_snoc (T := tInt) all_nil ⟨rfl, f9_0_0⟩)
  have hall11 : tInt.all J9 (cll ++ ([.int .i64 ((rd4 (rdV 4 rb)).toNat : Int)])) (l ++ ([((rd4 (rdV 4 rb)).toNat : Int)])) := all_append (hl.mono (hleJ8.trans hleJ9)) hlit10
  refine Run.append (by_ := 8) (ys := [.int .i64 ((rd4 (rdV 4 rb)).toNat : Int)]) (k := 1) (own' := [row (.slice (some ⟨g35, 0, none⟩) 1 1) 3 1 ([.int .i64 ((rd4 (rdV 4 rb)).toNat : Int)]), blk gr2_0 [.slice A9b (((rdB 4 rb).1).length) c9b, .bool ((rdB 4 rb).2)] 208, blk g5_4 [.int .i64 ((rd4 (rdV 4 (b, false))).toNat : Int), .int .i64 ((u8at (rdV 1 (rdB 4 (b, false)))).toNat : Int), .int .i64 ((u8at (rdV 1 (rdB 1 (rdB 4 (b, false))))).toNat : Int), .int .i64 ((u8at (rdV 1 (rdB 1 (rdB 1 (rdB 4 (b, false)))))).toNat : Int), .slice Al l.length cl] 38, row (.slice (some ⟨g16, 0, none⟩) 3 3) 184 1 ([.pointer (some ⟨g5_4, 1, none⟩), .pointer (some ⟨g5_4, 2, none⟩), .pointer (some ⟨g5_4, 3, none⟩)]), blk g2_1 [.int .i64 0, .int .i64 0, .int .i64 0, .int .i64 0, .slice none 0 0] 38]) 3 rfl rfl rfl Tryz.runUnderlying36 (.inl Tryz.runUnderlying36) Tryz.sizeOf3 Tryz.typeInfo3 rfl Tryz.zeroValue3 rfl rfl rfl (fun w hS => src_own hS (i := 0) rfl) (row_len hlit10 (by first | rfl | (simp; done) | (simp; omega)) rfl) (all_one hlit10) ((l ++ ([((rd4 (rdV 4 rb)).toNat : Int)])).length) (by first | (simp; done) | (simp; omega)) (by simp; omega) (by simp [maxLen]; omega) rfl rfl (by decide) (fun A36_11 c36_11 => ?_)
  refine Run.weak Sub.refl (perm_take (i := 0) rfl (perm_take (i := 1) rfl (perm_take (i := 1) rfl (perm_take (i := 1) rfl (perm_take (i := 1) rfl (perm_nil _)))))) ?_
  refine Run.nil ?_
  refine RunQ.stepEnd (fun _ => ⟨hleJ9, (perm_take (i := 2) rfl (perm_nil _))⟩) ?_
  refine RunT.p (v := .pointer (some ⟨g5_4, 4, none⟩)) (listed' := #[true, true, true, true, true, true, true, false]) 6 rfl (by kernel_rfl) (by kernel_rfl) (by kernel_rfl) rfl (fun _ => ⟨hleJ9, (perm_take (i := 2) rfl (perm_nil _))⟩) (y_fieldAddr rfl rfl Tryz.runUnderlying38 rfl Tryz.sizeOf36 (by decide) rfl) (.plain rfl) rfl (by decide) rfl ?_
  refine RunT.step (listed' := #[true, true, true, true, true, true, true, true]) 7 rfl (by kernel_rfl) rfl ?_
  refine Run.storeB (vs := [.slice A36_11 ((l ++ ([((rd4 (rdV 4 rb)).toNat : Int)])).length) c36_11]) (cs' := [.int .i64 ((rd4 (rdV 4 (b, false))).toNat : Int), .int .i64 ((u8at (rdV 1 (rdB 4 (b, false)))).toNat : Int), .int .i64 ((u8at (rdV 1 (rdB 1 (rdB 4 (b, false))))).toNat : Int), .int .i64 ((u8at (rdV 1 (rdB 1 (rdB 1 (rdB 4 (b, false)))))).toNat : Int), .slice A36_11 ((l ++ ([((rd4 (rdV 4 rb)).toNat : Int)])).length) c36_11]) (own' := [row (.slice A36_11 ((l ++ ([((rd4 (rdV 4 rb)).toNat : Int)])).length) c36_11) 3 1 (cll ++ ([.int .i64 ((rd4 (rdV 4 rb)).toNat : Int)])), blk gr2_0 [.slice A9b (((rdB 4 rb).1).length) c9b, .bool ((rdB 4 rb).2)] 208, row (.slice (some ⟨g16, 0, none⟩) 3 3) 184 1 ([.pointer (some ⟨g5_4, 1, none⟩), .pointer (some ⟨g5_4, 2, none⟩), .pointer (some ⟨g5_4, 3, none⟩)]), blk g2_1 [.int .i64 0, .int .i64 0, .int .i64 0, .int .i64 0, .slice none 0 0] 38]) 2 rfl rfl rfl Tryz.sizeOf36 rfl rfl rfl rfl rfl (Nat.le_of_ble_eq_true rfl) rfl rfl rfl ?_
  refine Run.nil ?_
  refine RunQ.stepEnd (fun h => absurd (show false = true from h) Bool.false_ne_true) ?_
  refine RunT.done (by kernel_rfl) ?_
  refine RunQ.inB ?_
  exact RunQ.thenI (fun aa ww hF hS => ⟨_, (by omega), (hInv1 _ _ _).2 ⟨(rdB 4 rb), A9b, c9b, (l ++ ([((rd4 (rdV 4 rb)).toNat : Int)])), A36_11, c36_11, cll ++ ([.int .i64 ((rd4 (rdV 4 rb)).toNat : Int)]), m, J9, ((hJ_le.trans hleJ8).trans hleJ9), h9b, hall11, (hrok.rdB 4), (by have := rdB_less hrok (by omega); simp; omega), (by have := rdB_less hrok (by omega); omega), (by rw [← hg, lblRd, if_neg (by omega)]), rfl, hF.sub (Sub.of rfl), hS.sub (perm_take (i := 2) rfl (perm_take (i := 0) rfl (perm_take (i := 0) rfl (perm_take (i := 0) rfl (perm_take (i := 0) rfl (perm_nil _))))))⟩⟩)
 ·
  try simp only [z1, z2, z3, z4, z5, z6, z7, z8, z9, z10, z11, z12, z13, z14, z15, z16] at hc1
  have hsl : sLbl b = (l, rb.2) := by rw [← hg]; exact lblRd_nil (by omega)
  have hsd : sRd b = ⟨(sRd b).number, (sRd b).index, (sRd b).data, (sRd b).parity, l⟩ := by rw [← show (sLbl b).1 = l from by rw [hsl]]; rfl
  refine RunC.exit ?_
  refine RunQ.pass (fun h => by cases h) ?_
  refine RunQ.pass (fun h => by cases h) ?_
  refine RunQ.out ?_
  refine RunQ.next ?_
  refine RunC.seq ?_
  refine RunC.sr ?_
  refine Run.mv ?_
  refine Run.call (own1 := [blk gr2_0 [.slice A8b rb.1.length c8b, .bool rb.2] 208]) (own2 := [blk g5_4 [.int .i64 ((rd4 (rdV 4 (b, false))).toNat : Int), .int .i64 ((u8at (rdV 1 (rdB 4 (b, false)))).toNat : Int), .int .i64 ((u8at (rdV 1 (rdB 1 (rdB 4 (b, false))))).toNat : Int), .int .i64 ((u8at (rdV 1 (rdB 1 (rdB 1 (rdB 4 (b, false)))))).toNat : Int), .slice Al l.length cl] 38, row (.slice Al l.length cl) 3 1 cll, row (.slice (some ⟨g16, 0, none⟩) 3 3) 184 1 ([.pointer (some ⟨g5_4, 1, none⟩), .pointer (some ⟨g5_4, 2, none⟩), .pointer (some ⟨g5_4, 3, none⟩)]), blk g2_1 [.int .i64 0, .int .i64 0, .int .i64 0, .int .i64 0, .slice none 0 0] 38]) (en_func rfl Tryz.call122 rfl) (c_code_Reader_Bad _ gr2_0 A8b c8b rb.1 h8b rb.2 (by omega)) (permC (i := 0) rfl rfl (List.Perm.refl _)) rfl rfl (by decide) (fun J12 o12 v12 hleJ12 hq12 => ?_)
  obtain ⟨y12b, A12b, c12b, y12bad, csr12_0, e12b, e12bad, rfl, rfl, h12b, hr12_0⟩ := hq12
  obtain rfl : rb.1 = y12b := e12b.symm
  obtain rfl : rb.2 = y12bad := e12bad.symm
  replace hr12_0 : tBool.rd J12 csr12_0 rb.2 := hr12_0
  obtain rfl := hr12_0
  refine Run.mv ?_
  refine Run.split 4 rfl (b := rb.2) (d := 44) (v := .bool (rb.2 || (!(sRight (⟨((rd4 (rdV 4 (b, false))).toNat : Int), ((u8at (rdV 1 (rdB 4 (b, false)))).toNat : Int), ((u8at (rdV 1 (rdB 1 (rdB 4 (b, false))))).toNat : Int), ((u8at (rdV 1 (rdB 1 (rdB 1 (rdB 4 (b, false)))))).toNat : Int), l⟩ : ASeal))))) (fun hb40 K40 => ?_) (fun hb40 K40 => ?_) ?_
  ·
   have hc1040 := hb40; try simp only [z1, z2, z3, z4, z5, z6, z7, z8, z9, z10, z11, z12, z13, z14, z15, z16] at hc1040
   refine Run.no rfl rfl rfl rfl (hb40) rfl (by decide) ?_
   refine Run.no rfl rfl rfl rfl (hb40) rfl (by decide) ?_
   refine Run.no rfl rfl rfl rfl (hb40) rfl (by decide) ?_
   refine Run.y (y_pickB rfl rfl (hb40) rfl) rfl rfl (by decide) ?_
   exact K40 _ _ _ (Imm.le.refl _) (by rw [hb40]; simp) (Sub.tl 3 rfl rfl)
  ·
   have hc1040 := hb40; try simp only [z1, z2, z3, z4, z5, z6, z7, z8, z9, z10, z11, z12, z13, z14, z15, z16] at hc1040
   refine Run.yes (v := .agg [.int .i64 ((rd4 (rdV 4 (b, false))).toNat : Int), .int .i64 ((u8at (rdV 1 (rdB 4 (b, false)))).toNat : Int), .int .i64 ((u8at (rdV 1 (rdB 1 (rdB 4 (b, false))))).toNat : Int), .int .i64 ((u8at (rdV 1 (rdB 1 (rdB 1 (rdB 4 (b, false)))))).toNat : Int), .slice Al l.length cl].toArray) (y_loadBA 1 rfl Tryz.isAgg38 Tryz.sizeOf38 rfl rfl rfl rfl) rfl rfl rfl rfl (hb40) rfl (by decide) ?_
   refine Run.callVBYes (en_func rfl Tryz.call70 rfl) (Bor.row (own' := [blk gr2_0 [.slice A12b rb.1.length c12b, .bool rb.2] 208, blk g5_4 [.int .i64 ((rd4 (rdV 4 (b, false))).toNat : Int), .int .i64 ((u8at (rdV 1 (rdB 4 (b, false)))).toNat : Int), .int .i64 ((u8at (rdV 1 (rdB 1 (rdB 4 (b, false))))).toNat : Int), .int .i64 ((u8at (rdV 1 (rdB 1 (rdB 1 (rdB 4 (b, false)))))).toNat : Int), .slice Al l.length cl] 38, row (.slice (some ⟨g16, 0, none⟩) 3 3) 184 1 ([.pointer (some ⟨g5_4, 1, none⟩), .pointer (some ⟨g5_4, 2, none⟩), .pointer (some ⟨g5_4, 3, none⟩)]), blk g2_1 [.int .i64 0, .int .i64 0, .int .i64 0, .int .i64 0, .slice none 0 0] 38]) 2 rfl rfl (fun Jb13_0 hleJb13_0 hb13_0 => Bor.base (conv_bool (c_record_RightSeal _ (⟨((rd4 (rdV 4 (b, false))).toNat : Int), ((u8at (rdV 1 (rdB 4 (b, false)))).toNat : Int), ((u8at (rdV 1 (rdB 1 (rdB 4 (b, false))))).toNat : Int), ((u8at (rdV 1 (rdB 1 (rdB 1 (rdB 4 (b, false)))))).toNat : Int), l⟩ : ASeal) ⟨_, _, rfl, f3_0_0, (i64_u8 _), (i64_u8 _), (i64_u8 _), (Sl.of_rowN hb13_0 rfl rfl (hl.mono ((hleJ8.trans hleJ12).trans hleJb13_0)))⟩)))) rfl rfl rfl rfl (hb40) rfl (by decide) (fun hI13 => ?_)
   refine Run.yes (v := .bool (!(sRight (⟨((rd4 (rdV 4 (b, false))).toNat : Int), ((u8at (rdV 1 (rdB 4 (b, false)))).toNat : Int), ((u8at (rdV 1 (rdB 1 (rdB 4 (b, false))))).toNat : Int), ((u8at (rdV 1 (rdB 1 (rdB 1 (rdB 4 (b, false)))))).toNat : Int), l⟩ : ASeal)))) (y_not (b := (sRight (⟨((rd4 (rdV 4 (b, false))).toNat : Int), ((u8at (rdV 1 (rdB 4 (b, false)))).toNat : Int), ((u8at (rdV 1 (rdB 1 (rdB 4 (b, false))))).toNat : Int), ((u8at (rdV 1 (rdB 1 (rdB 1 (rdB 4 (b, false)))))).toNat : Int), l⟩ : ASeal))) rfl rfl) rfl rfl rfl rfl (hb40) rfl (by decide) ?_
   refine Run.y (y_pickB rfl rfl (hb40) rfl) rfl rfl (by decide) ?_
   exact K40 _ _ _ (Imm.le.refl _) (by rw [hb40]; simp) (Sub.tl 3 rfl rfl)
  refine Run.nx ?_
  refine RunC.cond rfl (fun hc2 => ?_) (fun hc2 => ?_)
  ·
   try simp only [z1, z2, z3, z4, z5, z6, z7, z8, z9, z10, z11, z12, z13, z14, z15, z16] at hc2
   refine RunC.sr ?_
   refine Run.m (v := .agg [.int .i64 0, .int .i64 0, .int .i64 0, .int .i64 0, .slice none 0 0].toArray) (y_build (vs := []) rfl rfl (fun w => by simp [Instr.build, Tryz.zeroValue38, Tryz.runUnderlying38, Tryz.sizeOf3, Tryz.sizeOf36, Instr.fill, Value.cells])) ?_
   refine Run.storeB (vs := [.int .i64 0, .int .i64 0, .int .i64 0, .int .i64 0, .slice none 0 0]) (cs' := [.int .i64 0, .int .i64 0, .int .i64 0, .int .i64 0, .slice none 0 0]) (own' := [blk gr2_0 [.slice A12b rb.1.length c12b, .bool rb.2] 208, blk g5_4 [.int .i64 ((rd4 (rdV 4 (b, false))).toNat : Int), .int .i64 ((u8at (rdV 1 (rdB 4 (b, false)))).toNat : Int), .int .i64 ((u8at (rdV 1 (rdB 1 (rdB 4 (b, false))))).toNat : Int), .int .i64 ((u8at (rdV 1 (rdB 1 (rdB 1 (rdB 4 (b, false)))))).toNat : Int), .slice Al l.length cl] 38, row (.slice Al l.length cl) 3 1 cll, row (.slice (some ⟨g16, 0, none⟩) 3 3) 184 1 ([.pointer (some ⟨g5_4, 1, none⟩), .pointer (some ⟨g5_4, 2, none⟩), .pointer (some ⟨g5_4, 3, none⟩)])]) 4 rfl rfl rfl Tryz.sizeOf38 rfl rfl rfl rfl rfl (Nat.le_of_ble_eq_true rfl) rfl rfl rfl ?_
   refine Run.as ?_
   refine Run.nx ?_
   refine RunC.ret ?_
   refine RunQ.pass (fun h => by cases h) ?_
   refine RunQ.end2 (.inl rfl) Tryz.results87 (rv_cellA (i := 0) rfl Tryz.isAgg38 Tryz.sizeOf38 rfl rfl) (rv_tmp rfl) ?_
   exact ⟨rfl, _, _, rfl, (rd_eq (T := tSeal) (x := (⟨0, 0, 0, 0, ([] : List Int)⟩ : ASeal)) ⟨_, _, rfl, (by first | omega | (dsimp only; omega)), (by first | omega | (dsimp only; omega)), (by first | omega | (dsimp only; omega)), (by first | omega | (dsimp only; omega)), sl_nil0⟩ (by first | (rw [sRead_bad (by rw [hsl, hsd]; exact hc2)] <;> rfl) | (rw [sRead_ok (by rw [hsl, hsd]; exact hc2)] <;> first | exact hsd.symm | rfl))), (rd_eq (T := tInt) (x := 2) ⟨rfl, (by first | omega | (dsimp only; omega))⟩ (by first | (rw [sRead_bad (by rw [hsl, hsd]; exact hc2)] <;> rfl) | (rw [sRead_ok (by rw [hsl, hsd]; exact hc2)] <;> first | exact hsd.symm | rfl)))⟩
  ·
   try simp only [z1, z2, z3, z4, z5, z6, z7, z8, z9, z10, z11, z12, z13, z14, z15, z16] at hc2
   refine RunC.skip ?_
   refine RunQ.next ?_
   refine RunC.sr ?_
   refine Run.m (v := .agg [.int .i64 ((rd4 (rdV 4 (b, false))).toNat : Int), .int .i64 ((u8at (rdV 1 (rdB 4 (b, false)))).toNat : Int), .int .i64 ((u8at (rdV 1 (rdB 1 (rdB 4 (b, false))))).toNat : Int), .int .i64 ((u8at (rdV 1 (rdB 1 (rdB 1 (rdB 4 (b, false)))))).toNat : Int), .slice Al l.length cl].toArray) (y_loadBA 1 rfl Tryz.isAgg38 Tryz.sizeOf38 rfl rfl rfl rfl) ?_
   refine Run.storeB (vs := [.int .i64 ((rd4 (rdV 4 (b, false))).toNat : Int), .int .i64 ((u8at (rdV 1 (rdB 4 (b, false)))).toNat : Int), .int .i64 ((u8at (rdV 1 (rdB 1 (rdB 4 (b, false))))).toNat : Int), .int .i64 ((u8at (rdV 1 (rdB 1 (rdB 1 (rdB 4 (b, false)))))).toNat : Int), .slice Al l.length cl]) (cs' := [.int .i64 ((rd4 (rdV 4 (b, false))).toNat : Int), .int .i64 ((u8at (rdV 1 (rdB 4 (b, false)))).toNat : Int), .int .i64 ((u8at (rdV 1 (rdB 1 (rdB 4 (b, false))))).toNat : Int), .int .i64 ((u8at (rdV 1 (rdB 1 (rdB 1 (rdB 4 (b, false)))))).toNat : Int), .slice Al l.length cl]) (own' := [blk gr2_0 [.slice A12b rb.1.length c12b, .bool rb.2] 208, blk g5_4 [.int .i64 ((rd4 (rdV 4 (b, false))).toNat : Int), .int .i64 ((u8at (rdV 1 (rdB 4 (b, false)))).toNat : Int), .int .i64 ((u8at (rdV 1 (rdB 1 (rdB 4 (b, false))))).toNat : Int), .int .i64 ((u8at (rdV 1 (rdB 1 (rdB 1 (rdB 4 (b, false)))))).toNat : Int), .slice Al l.length cl] 38, row (.slice Al l.length cl) 3 1 cll, row (.slice (some ⟨g16, 0, none⟩) 3 3) 184 1 ([.pointer (some ⟨g5_4, 1, none⟩), .pointer (some ⟨g5_4, 2, none⟩), .pointer (some ⟨g5_4, 3, none⟩)])]) 4 rfl rfl rfl Tryz.sizeOf38 rfl rfl rfl rfl rfl (Nat.le_of_ble_eq_true rfl) rfl rfl rfl ?_
   refine Run.as ?_
   refine Run.nx ?_
   refine RunC.ret ?_
   refine RunQ.freezeR 3 rfl (own' := [blk g2_1 [.int .i64 ((rd4 (rdV 4 (b, false))).toNat : Int), .int .i64 ((u8at (rdV 1 (rdB 4 (b, false)))).toNat : Int), .int .i64 ((u8at (rdV 1 (rdB 1 (rdB 4 (b, false))))).toNat : Int), .int .i64 ((u8at (rdV 1 (rdB 1 (rdB 1 (rdB 4 (b, false)))))).toNat : Int), .slice Al l.length cl] 38, blk gr2_0 [.slice A12b rb.1.length c12b, .bool rb.2] 208, blk g5_4 [.int .i64 ((rd4 (rdV 4 (b, false))).toNat : Int), .int .i64 ((u8at (rdV 1 (rdB 4 (b, false)))).toNat : Int), .int .i64 ((u8at (rdV 1 (rdB 1 (rdB 4 (b, false))))).toNat : Int), .int .i64 ((u8at (rdV 1 (rdB 1 (rdB 1 (rdB 4 (b, false)))))).toNat : Int), .slice Al l.length cl] 38, row (.slice (some ⟨g16, 0, none⟩) 3 3) 184 1 ([.pointer (some ⟨g5_4, 1, none⟩), .pointer (some ⟨g5_4, 2, none⟩), .pointer (some ⟨g5_4, 3, none⟩)])]) rfl (fun J14 hleJ14 hfzJ14 => ?_)
   have hslJ14 : Sl tInt J14 Al cl l := Sl.of_rowN hfzJ14 rfl rfl (hl.mono ((hleJ8.trans hleJ12).trans hleJ14))
   refine RunQ.end2 (.inl rfl) Tryz.results87 (rv_cellA (i := 0) rfl Tryz.isAgg38 Tryz.sizeOf38 rfl rfl) (rv_tmp rfl) ?_
   exact ⟨rfl, _, _, rfl, (rd_eq (T := tSeal) (x := (⟨((rd4 (rdV 4 (b, false))).toNat : Int), ((u8at (rdV 1 (rdB 4 (b, false)))).toNat : Int), ((u8at (rdV 1 (rdB 1 (rdB 4 (b, false))))).toNat : Int), ((u8at (rdV 1 (rdB 1 (rdB 1 (rdB 4 (b, false)))))).toNat : Int), l⟩ : ASeal)) ⟨_, _, rfl, f3_0_0, (i64_u8 _), (i64_u8 _), (i64_u8 _), hslJ14⟩ (by first | (rw [sRead_bad (by rw [hsl, hsd]; exact hc2)] <;> rfl) | (rw [sRead_ok (by rw [hsl, hsd]; exact hc2)] <;> first | exact hsd.symm | rfl))), (rd_eq (T := tInt) (x := 0) ⟨rfl, (by first | omega | (dsimp only; omega))⟩ (by first | (rw [sRead_bad (by rw [hsl, hsd]; exact hc2)] <;> rfl) | (rw [sRead_ok (by rw [hsl, hsd]; exact hc2)] <;> first | exact hsd.symm | rfl)))⟩
end Go.Proofs.YtmelbclhkkbmiaaGreat.K
