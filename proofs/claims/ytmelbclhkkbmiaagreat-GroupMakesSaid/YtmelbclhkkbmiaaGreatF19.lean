/- Contracts of functions of the program, each proved by a walk through its operations, for all memory and all arguments that the theorem names. Printed by a program of mine. -/
import Derived.Test.YtmelbclhkkbmiaaGreatF18
import Derived.Test.YtmelbclhkkbmiaaGreatF9
import Derived.Test.YtmelbclhkkbmiaaGreatF12b
set_option linter.unusedVariables false
set_option linter.unusedSimpArgs false
set_option maxRecDepth 100000
namespace Go.Proofs.YtmelbclhkkbmiaaGreat.K
open Go Go.RowKit

theorem c_cartridgelaw14_GroupMakes (I : Imm) {Adata : Option Addr} {cdata : Nat} (data : List ATape) (hdata : Sl tTape I Adata cdata data) {Ablank : Option Addr} {cblank : Nat} (blank : List ATape) (hblank : Sl tTape I Ablank cblank blank) (number : Int) (hnumber : I64 number) : Con Tryz.prog 3 [.slice Adata data.length cdata, .slice Ablank blank.length cblank, .int .i64 number].toArray I [] (Ret1 (tBool.o) true) := by
 have hsmdata := hdata.small
 have hsmblank := hblank.small
 refine Con.enter (n := 49) (L := [(0, .slice Adata data.length cdata), (1, .slice Ablank blank.length cblank), (2, .int .i64 number)]) Tryz.func3 rfl rfl (Nat.le_of_ble_eq_true rfl) rfl (fun E => ?_)
 refine RunC.sr ?_
 refine Run.as ?_
 refine Run.nx ?_
 refine RunC.sr ?_
 refine Run.callV (en_func rfl Tryz.call6 rfl) (conv_bool (c_cartridgelaw14_alive _)) rfl rfl (by decide) (fun hI1 => ?_)
 refine Run.as ?_
 refine Run.nx ?_
 refine RunC.seq ?_
 refine RunC.sr ?_
 refine Run.mv ?_
 refine Run.m (v := .bool false) (y_not (b := true) rfl rfl) ?_
 refine Run.mv ?_
 refine Run.yes (v := .slice Adata data.length cdata) (y_move rfl rfl) rfl rfl rfl rfl (rfl) rfl (by decide) ?_
 refine Run.callVYes (en_func rfl Tryz.call7 rfl) (conv_bool (c_cartridgelaw13_Few _ data hdata)) rfl rfl rfl rfl (rfl) rfl (by decide) (fun hI2 => ?_)
 refine Run.yes (v := .bool (!(fewL data))) (y_not (b := (fewL data)) rfl rfl) rfl rfl rfl rfl (rfl) rfl (by decide) ?_
 refine Run.m (v := .bool (!(fewL data))) (y_pick rfl rfl rfl) ?_
 refine Run.mv ?_
 refine Run.split 4 rfl (b := (!(fewL data))) (d := 24) (v := .bool ((!(fewL data)) || (!(fewL blank)))) (fun hb20 K20 => ?_) (fun hb20 K20 => ?_) ?_
 ·
  have hc1020 := hb20; try simp only [z1, z2, z3, z4, z5, z6, z7, z8, z9, z10, z11, z12, z13, z14, z15, z16] at hc1020
  refine Run.no rfl rfl rfl rfl (hb20) rfl (by decide) ?_
  refine Run.no rfl rfl rfl rfl (hb20) rfl (by decide) ?_
  refine Run.no rfl rfl rfl rfl (hb20) rfl (by decide) ?_
  refine Run.y (y_pickB rfl rfl (hb20) rfl) rfl rfl (by decide) ?_
  exact K20 _ _ _ (Imm.le.refl _) (by rw [hb20]; simp) (Sub.tl 3 rfl rfl)
 ·
  have hc1020 := hb20; try simp only [z1, z2, z3, z4, z5, z6, z7, z8, z9, z10, z11, z12, z13, z14, z15, z16] at hc1020
  refine Run.yes (v := .slice Ablank blank.length cblank) (y_move rfl rfl) rfl rfl rfl rfl (hb20) rfl (by decide) ?_
  refine Run.callVYes (en_func rfl Tryz.call7 rfl) (conv_bool (c_cartridgelaw13_Few _ blank hblank)) rfl rfl rfl rfl (hb20) rfl (by decide) (fun hI3 => ?_)
  refine Run.yes (v := .bool (!(fewL blank))) (y_not (b := (fewL blank)) rfl rfl) rfl rfl rfl rfl (hb20) rfl (by decide) ?_
  refine Run.y (y_pickB rfl rfl (hb20) rfl) rfl rfl (by decide) ?_
  exact K20 _ _ _ (Imm.le.refl _) (by rw [hb20]; simp) (Sub.tl 3 rfl rfl)
 refine Run.nx ?_
 refine RunC.cond rfl (fun hc0 => ?_) (fun hc0 => ?_)
 ·
  try simp only [z1, z2, z3, z4, z5, z6, z7, z8, z9, z10, z11, z12, z13, z14, z15, z16] at hc0
  refine RunC.sr ?_
  refine Run.mv ?_
  refine Run.as ?_
  refine Run.nx ?_
  refine RunC.ret ?_
  refine RunQ.pass (fun h => by cases h) ?_
  refine RunQ.weak Sub.refl (perm_nil _) ?_
  refine RunQ.fin1 (.inl rfl) Tryz.results3 (rv_tmp rfl) ?_
  exact ⟨rfl, _, rfl, (rd_eq (T := tBool) (x := true) rfl (by first | rfl | simp))⟩
 ·
  try simp only [z1, z2, z3, z4, z5, z6, z7, z8, z9, z10, z11, z12, z13, z14, z15, z16] at hc0
  have hfd := fewL_bd hc0.1
  have hfb := fewL_bd hc0.2
  have htl := few_tlen hfd.2
  refine RunC.skip ?_
  refine RunQ.next ?_
  refine RunC.sr ?_
  refine Run.mv ?_
  refine Run.mv ?_
  refine Run.mv ?_
  refine Run.call0 (en_func rfl Tryz.call8 rfl) (c_group_Make _ data hdata blank hblank number hnumber (by omega) (by omega) (fun t ht x hx => by have := (hfd.2 t ht).2 x hx; omega) htl) rfl rfl (by decide) (fun J4 o4 v4 hleJ4 hq4 => ?_)
  obtain ⟨rfl, cs4a, cs4b, rfl, h4a, h4b⟩ := hq4
  replace h4a : (tSl tTape).rd J4 cs4a ((gMake data blank number).1) := h4a
  obtain ⟨A4a_0, c4a_0, rfl, f4a_0⟩ := h4a
  have hsm4a_0 := f4a_0.small
  replace h4b : tInt.rd J4 cs4b ((gMake data blank number).2) := h4b
  obtain ⟨rfl, f4b_0⟩ := h4b
  refine Run.mv ?_
  refine Run.m (y_extract rfl rfl rfl) ?_
  refine Run.m (y_extract rfl rfl rfl) ?_
  refine Run.as ?_
  refine Run.as ?_
  refine Run.nx ?_
  refine RunC.sr ?_
  refine Run.mv ?_
  refine Run.mv ?_
  refine Run.mv ?_
  refine Run.call0 (en_func rfl Tryz.call9 rfl) (c_cartridgeref10_Make _ data (hdata.mono hleJ4) blank (hblank.mono hleJ4) number hnumber (by omega) (by omega) (fun t ht x hx => by have := (hfd.2 t ht).2 x hx; omega) htl) rfl rfl (by decide) (fun J5 o5 v5 hleJ5 hq5 => ?_)
  obtain ⟨rfl, cs5a, cs5b, rfl, h5a, h5b⟩ := hq5
  replace h5a : (tSl tTape).rd J5 cs5a ((gMake data blank number).1) := h5a
  obtain ⟨A5a_0, c5a_0, rfl, f5a_0⟩ := h5a
  have hsm5a_0 := f5a_0.small
  replace h5b : tInt.rd J5 cs5b ((gMake data blank number).2) := h5b
  obtain ⟨rfl, f5b_0⟩ := h5b
  refine Run.mv ?_
  refine Run.m (y_extract rfl rfl rfl) ?_
  refine Run.m (y_extract rfl rfl rfl) ?_
  refine Run.as ?_
  refine Run.as ?_
  refine Run.nx ?_
  refine RunC.sr ?_
  refine Run.mv ?_
  refine Run.mv ?_
  refine Run.callV (en_func rfl Tryz.call10 rfl) (conv_bool (c_cartridgeref1_SameTapes _ ((gMake data blank number).1) (f4a_0.mono hleJ5) ((gMake data blank number).1) f5a_0 rfl)) rfl rfl (by decide) (fun hI6 => ?_)
  refine Run.mv ?_
  refine Run.yes (v := .int .i64 ((gMake data blank number).2)) (y_move rfl rfl) rfl rfl rfl rfl (rfl) rfl (by decide) ?_
  refine Run.callVYes (en_func rfl Tryz.call11 rfl) (conv_int (c_cartridgelaw14_num _ ((gMake data blank number).2) f4b_0)) rfl rfl rfl rfl (rfl) rfl (by decide) (fun hI7 => ?_)
  refine Run.yes (v := .int .i64 ((gMake data blank number).2)) (y_move rfl rfl) rfl rfl rfl rfl (rfl) rfl (by decide) ?_
  refine Run.yes (v := .bool (decide (((gMake data blank number).2) = (gMake data blank number).2))) (y_bin rfl rfl rfl bn_eql) rfl rfl rfl rfl (rfl) rfl (by decide) ?_
  refine Run.m (v := .bool (decide (((gMake data blank number).2) = (gMake data blank number).2))) (y_pick rfl rfl rfl) ?_
  refine Run.as ?_
  refine Run.nx ?_
  refine RunC.weak (L' := [(6, .bool (decide (((gMake data blank number).2) = (gMake data blank number).2)))]) (Sub.of rfl) (perm_self _) ?_
  refine RunC.ret ?_
  refine RunQ.weak Sub.refl (perm_nil _) ?_
  refine RunQ.fin1 (.inl rfl) Tryz.results3 (rv_tmp rfl) ?_
  exact ⟨rfl, _, rfl, (rd_eq (T := tBool) (x := decide (((gMake data blank number).2) = (gMake data blank number).2)) rfl (by first | rfl | simp))⟩
end Go.Proofs.YtmelbclhkkbmiaaGreat.K
