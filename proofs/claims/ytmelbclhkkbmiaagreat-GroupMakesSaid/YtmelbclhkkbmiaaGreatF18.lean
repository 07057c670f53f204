/- Contracts of functions of the program, each proved by a walk through its operations, for all memory and all arguments that the theorem names. Printed by a program of mine. -/
import Derived.Test.YtmelbclhkkbmiaaGreatF17
import Derived.Test.YtmelbclhkkbmiaaGreatF11
import Derived.Test.YtmelbclhkkbmiaaGreatSp8
set_option linter.unusedVariables false
set_option linter.unusedSimpArgs false
set_option maxRecDepth 100000
namespace Go.Proofs.YtmelbclhkkbmiaaGreat.K
open Go Go.RowKit

set_option maxHeartbeats 4000000 in
theorem c_cartridgeref10_Make (I : Imm) {Ad : Option Addr} {cd : Nat} (d : List ATape) (hd : Sl tTape I Ad cd d) {Ab : Option Addr} {cb : Nat} (b : List ATape) (hb : Sl tTape I Ab cb b) (n : Int) (hn : I64 n) (hsd : d.length ≤ 1000) (hsb : b.length ≤ 1000) (hszd : ∀ t ∈ d, ∀ x ∈ t.blocks, x.length ≤ 1000000) (hln : tLenL d ≤ 1000000) : Con Tryz.prog 9 [.slice Ad d.length cd, .slice Ab b.length cb, .int .i64 n].toArray I [] (Ret2 ((tSl tTape).o) (tInt.o) ((gMake d b n).1) ((gMake d b n).2)) := by
 have hsmd := hd.small
 have hsmb := hb.small
 have hnn := tLenL_nonneg d
 refine Con.enter (n := 231) (L := [(0, .slice Ad d.length cd), (1, .slice Ab b.length cb), (2, .int .i64 n)]) Tryz.func9 rfl rfl (Nat.le_of_ble_eq_true rfl) rfl (fun E => ?_)
 refine RunC.sr ?_
 refine Run.as ?_
 refine Run.as ?_
 refine Run.nx ?_
 refine RunC.sr ?_
 refine Run.mv ?_
 refine Run.mv ?_
 refine Run.m (y_len rfl Tryz.runUnderlying22 rfl) ?_
 refine Run.mv ?_
 refine Run.m (y_len rfl Tryz.runUnderlying22 rfl) ?_
 refine Run.m (v := .agg [.int .i64 n, .int .i64 0, .int .i64 (d.length : Int), .int .i64 (b.length : Int), .slice none 0 0].toArray) (y_build (vs := [(0, .int .i64 n), (2, .int .i64 (d.length : Int)), (3, .int .i64 (b.length : Int))]) rfl rfl (fun w => by simp [Instr.build, Tryz.zeroValue38, Tryz.runUnderlying38, Tryz.sizeOf3, Tryz.sizeOf36, Instr.fill, Value.cells])) ?_
 refine Run.alloc (cs := [.int .i64 0, .int .i64 0, .int .i64 0, .int .i64 0, .slice none 0 0]) rfl Tryz.zeroValue38 rfl rfl rfl (by decide) (fun g8_1 => ?_)
 refine Run.storeB (vs := [.int .i64 n, .int .i64 0, .int .i64 (d.length : Int), .int .i64 (b.length : Int), .slice none 0 0]) (cs' := [.int .i64 n, .int .i64 0, .int .i64 (d.length : Int), .int .i64 (b.length : Int), .slice none 0 0]) (own' := []) 0 rfl rfl rfl Tryz.sizeOf38 rfl rfl rfl rfl rfl (Nat.le_of_ble_eq_true rfl) rfl rfl rfl ?_
 refine Run.nx ?_
 refine RunC.sr ?_
 refine Run.as ?_
 refine Run.nx ?_
 refine RunC.sr ?_
 refine Run.mv ?_
 refine Run.callV (en_func rfl Tryz.call31 rfl) (conv_int (c_cartridgeref10_StripeLen _ d hd)) rfl rfl (by decide) (fun hI2 => ?_)
 refine Run.m (v := .bool (decide ((tLenL d) = 0))) (y_bin rfl rfl rfl bn_eql) ?_
 refine Run.as ?_
 refine Run.nx ?_
 refine RunC.seq ?_
 refine RunC.sr ?_
 refine Run.as ?_
 refine Run.nx ?_
 refine RunC.block ?_
 refine RunC.nilrow none 3 1 ?_
 obtain ⟨Inv0, hInv0⟩ : ∃ Inv : Nat → Act → World → Prop, ∀ mm aa ww, Inv mm aa ww ↔ (∃ (k : Nat) (lb : Bool) (bb : Bool) (o : List (Int)) (Ao : Option Addr) (co : Nat) (clo : List Value) (Jo : Imm), (I.le Jo) ∧ (tInt.all Jo clo o) ∧ (k ≤ d.length) ∧ (o = gLabels (d.take k)) ∧ (o.length = k) ∧ (lb = (d.take k).any (fun t => t.lost)) ∧ (bb = (decide (tLenL d = 0) || !(d.take k).all goodAll)) ∧ (mm = (d.length - k)) ∧ Frm aa 231 [(0, .slice Ad d.length cd), (1, .slice Ab b.length cb), (6, .slice none 0 0), (7, .int .i64 0), (8, .pointer (some ⟨g8_1, 0, none⟩)), (11, .int .i64 (k : Int)), (9, .bool lb), (10, .bool bb)] ∧ S E ww Jo [blk g8_1 [.int .i64 n, .int .i64 0, .int .i64 (d.length : Int), .int .i64 (b.length : Int), .slice Ao o.length co] 38, row (.slice Ao o.length co) 3 1 clo]) := ⟨_, fun _ _ _ => Iff.rfl⟩
 refine RunC.loopX Inv0 (fun aa ww hF hS => ⟨_, (hInv0 _ _ _).2 ⟨0, false, decide ((tLenL d) = 0), ([] : List Int), none, 0, [], I, (Imm.le.refl _), all_nil, (by omega), rfl, rfl, rfl, (by simp), rfl, hF.sub (Sub.of rfl), hS.sub (perm_take (i := 1) rfl (perm_take (i := 0) rfl (perm_nil _)))⟩⟩) ?_
 intro mm0 aa ww hv
 obtain ⟨k, lb, bb, o, Ao, co, clo, Jo, hJo_le, ho, hk, ho_, hol, hlb, hbb, hmm_, hF, hS⟩ := (hInv0 _ _ _).1 hv
 clear hv
 refine RunC.go ?_ hF hS
 clear hF hS aa ww
 refine RunC.seq ?_
 refine RunC.sr ?_
 refine Run.mv ?_
 refine Run.mv ?_
 refine Run.m (y_len rfl Tryz.runUnderlying22 rfl) ?_
 refine Run.m (v := .bool (decide ((k : Int) < (d.length : Int)))) (y_bin rfl rfl rfl bn_lss) ?_
 refine Run.nx ?_
 refine RunC.cond rfl (fun hc0 => ?_) (fun hc0 => ?_)
 ·
  try simp only [z1, z2, z3, z4, z5, z6, z7, z8, z9, z10, z11, z12, z13, z14, z15, z16] at hc0
  refine RunC.skip ?_
  refine RunQ.next ?_
  refine RunC.seq ?_
  refine RunC.block ?_
  refine RunC.seq ?_
  refine RunC.regionT [10] [blk g8_1 [.int .i64 n, .int .i64 0, .int .i64 (d.length : Int), .int .i64 (b.length : Int), .slice Ao o.length co] 38] (by kernel_rfl) rfl ?_
  refine RunT.p (v := .pointer (some ⟨g8_1, 4, none⟩)) (listed' := #[true, false, false, false, false, false, false, false, false, false, false]) 0 rfl (by kernel_rfl) (by kernel_rfl) (by kernel_rfl) rfl (fun _ => ⟨(Imm.le.refl _), (perm_take (i := 0) rfl (perm_nil _))⟩) (y_fieldAddr rfl rfl Tryz.runUnderlying38 rfl Tryz.sizeOf36 (by decide) rfl) (.plain rfl) rfl (by decide) rfl ?_
  refine RunT.y (v := .slice Ao o.length co) (listed' := #[true, true, false, false, false, false, false, false, false, false, false]) 1 rfl (by kernel_rfl) (by kernel_rfl) (by kernel_rfl) (by kernel_rfl) rfl (Imm.le.refl _) (perm_take (i := 0) rfl (perm_nil _)) (y_loadB1 0 rfl Tryz.isAgg36 rfl rfl rfl) (.plain rfl) rfl (by decide) rfl ?_
  refine RunT.p (v := .slice Ad d.length cd) (listed' := #[true, true, true, false, false, false, false, false, false, false, false]) 2 rfl (by kernel_rfl) (by kernel_rfl) (by kernel_rfl) rfl (fun _ => ⟨(Imm.le.refl _), (perm_take (i := 0) rfl (perm_nil _))⟩) (y_move rfl rfl) (.plain rfl) rfl (by decide) rfl ?_
  refine RunT.p (v := .int .i64 (k : Int)) (listed' := #[true, true, true, true, false, false, false, false, false, false, false]) 3 rfl (by kernel_rfl) (by kernel_rfl) (by kernel_rfl) rfl (fun _ => ⟨(Imm.le.refl _), (perm_take (i := 0) rfl (perm_nil _))⟩) (y_move rfl rfl) (.plain rfl) rfl (by decide) rfl ?_
  obtain ⟨x43, p43_3, cs43_3, hx43, hp43_3, hcs43_3, hrc43_3⟩ := Sl.at_ (P := Tryz.prog) (T := tTape) Tryz.runUnderlying22 Tryz.sizeOf45 (hd.mono hJo_le) (k := .i64) (i := (k : Int)) (by omega) (by omega)
  replace hx43 : d[k]? = some x43 := hx43
  obtain ⟨A43_3_2, c43_3_2, rfl, f43_3_0, f43_3_1, f43_3_2⟩ := hcs43_3
  have hsm43_3_2 := f43_3_2.small
  refine RunT.p (v := .pointer (some p43_3)) (listed' := #[true, true, true, true, true, false, false, false, false, false, false]) 4 rfl (by kernel_rfl) (by kernel_rfl) (by kernel_rfl) rfl (fun _ => ⟨(Imm.le.refl _), (perm_take (i := 0) rfl (perm_nil _))⟩) (y_index rfl rfl rfl hp43_3) (.plain rfl) rfl (by decide) rfl ?_
  refine RunT.p (v := .pointer (some p43_3)) (listed' := #[true, true, true, true, true, true, false, false, false, false, false]) 5 rfl (by kernel_rfl) (by kernel_rfl) (by kernel_rfl) rfl (fun _ => ⟨(Imm.le.refl _), (perm_take (i := 0) rfl (perm_nil _))⟩) (y_fieldAddr rfl rfl Tryz.runUnderlying45 rfl Tryz.sizeOf3 (by decide) (add_zero' _)) (.plain rfl) rfl (by decide) rfl ?_
  refine RunT.y (v := .int .i64 x43.label) (listed' := #[true, true, true, true, true, true, true, false, false, false, false]) 6 rfl (by kernel_rfl) (by kernel_rfl) (by kernel_rfl) (by kernel_rfl) rfl (Imm.le.refl _) (perm_take (i := 0) rfl (perm_nil _)) (y_load1 rfl Tryz.isAgg3 rfl (RCells.hd hrc43_3)) (.plain rfl) rfl (by decide) rfl ?_
  refine RunT.step (listed' := #[true, true, true, true, true, true, true, true, false, false, false]) 7 rfl (by kernel_rfl) rfl ?_
  refine Run.lit (vs := [(0, .int .i64 x43.label)]) (cs := [.int .i64 x43.label]) (el := 3) (sz := 1) rfl rfl (fun w => by simp [Instr.buildSlice, Tryz.runUnderlying36, Tryz.sizeOf3, Tryz.zeroValue3, Instr.fill, Value.cells, newRow, (show Array.range 1 = #[0] from rfl)]) rfl (by simp [maxLen]) rfl rfl (by decide) (fun g46 => ?_)
  refine Run.nil ?_
  refine RunQ.stepEnd (fun _ => ⟨(Imm.le.refl _), (perm_take (i := 1) rfl (perm_nil _))⟩) ?_
  refine RunT.step (listed' := #[true, true, true, true, true, true, true, true, true, false, false]) 8 rfl (by kernel_rfl) rfl ?_
  have hlit4 : tInt.all Jo [.int .i64 x43.label] [x43.label] := (all_snoc (T := tInt) all_nil ⟨rfl, f43_3_0⟩)
  have hall5 : tInt.all Jo (clo ++ ([.int .i64 x43.label])) (o ++ ([x43.label])) := all_append ho hlit4
  refine Run.append (by_ := 8) (ys := [.int .i64 x43.label]) (k := 1) (own' := [row (.slice (some ⟨g46, 0, none⟩) 1 1) 3 1 ([.int .i64 x43.label]), blk g8_1 [.int .i64 n, .int .i64 0, .int .i64 (d.length : Int), .int .i64 (b.length : Int), .slice Ao o.length co] 38]) 2 rfl rfl rfl Tryz.runUnderlying36 (.inl Tryz.runUnderlying36) Tryz.sizeOf3 Tryz.typeInfo3 rfl Tryz.zeroValue3 rfl rfl rfl (fun w hS => src_own hS (i := 0) rfl) (row_len hlit4 (by first | rfl | (simp; done) | (simp; omega)) rfl) (all_one hlit4) ((o ++ ([x43.label])).length) (by first | (simp; done) | (simp; omega)) (by first | (rw [List.length_append]; simp only [List.length_singleton, List.length_nil]; omega) | omega) (by first | (rw [List.length_append]; simp only [List.length_singleton, List.length_nil, maxLen]; omega) | (simp [maxLen]; omega)) rfl rfl (by decide) (fun A47_5 c47_5 => ?_)
  refine Run.weak Sub.refl (perm_take (i := 0) rfl (perm_take (i := 1) rfl (perm_nil _))) ?_
  refine Run.nil ?_
  refine RunQ.stepEnd (fun _ => ⟨(Imm.le.refl _), (perm_take (i := 1) rfl (perm_nil _))⟩) ?_
  refine RunT.p (v := .pointer (some ⟨g8_1, 4, none⟩)) (listed' := #[true, true, true, true, true, true, true, true, true, true, false]) 9 rfl (by kernel_rfl) (by kernel_rfl) (by kernel_rfl) rfl (fun _ => ⟨(Imm.le.refl _), (perm_take (i := 1) rfl (perm_nil _))⟩) (y_fieldAddr rfl rfl Tryz.runUnderlying38 rfl Tryz.sizeOf36 (by decide) rfl) (.plain rfl) rfl (by decide) rfl ?_
  refine RunT.step (listed' := #[true, true, true, true, true, true, true, true, true, true, true]) 10 rfl (by kernel_rfl) rfl ?_
  refine Run.storeB (vs := [.slice A47_5 ((o ++ ([x43.label])).length) c47_5]) (cs' := [.int .i64 n, .int .i64 0, .int .i64 (d.length : Int), .int .i64 (b.length : Int), .slice A47_5 ((o ++ ([x43.label])).length) c47_5]) (own' := [row (.slice A47_5 ((o ++ ([x43.label])).length) c47_5) 3 1 (clo ++ ([.int .i64 x43.label]))]) 1 rfl rfl rfl Tryz.sizeOf36 rfl rfl rfl rfl rfl (Nat.le_of_ble_eq_true rfl) rfl rfl rfl ?_
  refine Run.nil ?_
  refine RunQ.stepEnd (fun h => absurd (show false = true from h) Bool.false_ne_true) ?_
  refine RunT.done (by kernel_rfl) ?_
  refine RunQ.next ?_
  refine RunC.sr ?_
  refine Run.mv ?_
  refine Run.mv ?_
  refine Run.split 6 rfl (b := lb) (d := 56) (v := .bool (lb || x43.lost)) (fun hb50 K50 => ?_) (fun hb50 K50 => ?_) ?_
  ·
   have hc1050 := hb50; try simp only [z1, z2, z3, z4, z5, z6, z7, z8, z9, z10, z11, z12, z13, z14, z15, z16] at hc1050
   refine Run.no rfl rfl rfl rfl (hb50) rfl (by decide) ?_
   refine Run.no rfl rfl rfl rfl (hb50) rfl (by decide) ?_
   refine Run.no rfl rfl rfl rfl (hb50) rfl (by decide) ?_
   refine Run.no rfl rfl rfl rfl (hb50) rfl (by decide) ?_
   refine Run.no rfl rfl rfl rfl (hb50) rfl (by decide) ?_
   refine Run.y (y_pickB rfl rfl (hb50) rfl) rfl rfl (by decide) ?_
   exact K50 _ _ _ (Imm.le.refl _) (by rw [hb50]; first | rfl | (rw [e53]; rfl) | (simp; done) | (rw [e53]; simp; done)) (Sub.tl 5 rfl rfl)
  ·
   have hc1050 := hb50; try simp only [z1, z2, z3, z4, z5, z6, z7, z8, z9, z10, z11, z12, z13, z14, z15, z16] at hc1050
   refine Run.yes (v := .slice Ad d.length cd) (y_move rfl rfl) rfl rfl rfl rfl (hb50) rfl (by decide) ?_
   refine Run.yes (v := .int .i64 (k : Int)) (y_move rfl rfl) rfl rfl rfl rfl (hb50) rfl (by decide) ?_
   obtain ⟨x53, p53_6, cs53_6, hx53, hp53_6, hcs53_6, hrc53_6⟩ := Sl.at_ (P := Tryz.prog) (T := tTape) Tryz.runUnderlying22 Tryz.sizeOf45 (hd.mono hJo_le) (k := .i64) (i := (k : Int)) (by omega) (by omega)
   replace hx53 : d[k]? = some x53 := hx53
   obtain ⟨A53_6_2, c53_6_2, rfl, f53_6_0, f53_6_1, f53_6_2⟩ := hcs53_6
   have hsm53_6_2 := f53_6_2.small
   have e53 : x53 = x43 := Option.some.inj (hx53.symm.trans hx43)
   refine Run.yes (v := .pointer (some p53_6)) (y_index rfl rfl rfl hp53_6) rfl rfl rfl rfl (hb50) rfl (by decide) ?_
   refine Run.yes (v := .pointer (some (p53_6.add 3))) (y_fieldAddr rfl rfl Tryz.runUnderlying45 rfl Tryz.sizeOf4 (by decide) rfl) rfl rfl rfl rfl (hb50) rfl (by decide) ?_
   refine Run.yes (v := .bool x53.lost) (y_load1 rfl Tryz.isAgg4 rfl (RCells.at_ hrc53_6 3 rfl rfl)) rfl rfl rfl rfl (hb50) rfl (by decide) ?_
   refine Run.y (y_pickB rfl rfl (hb50) rfl) rfl rfl (by decide) ?_
   exact K50 _ _ _ (Imm.le.refl _) (by rw [hb50]; first | rfl | (rw [e53]; rfl) | (simp; done) | (rw [e53]; simp; done)) (Sub.tl 5 rfl rfl)
  refine Run.as ?_
  refine Run.nx ?_
  refine RunC.sr ?_
  refine Run.as ?_
  refine Run.nx ?_
  refine RunC.block ?_
  obtain ⟨Inv1, hInv1⟩ : ∃ Inv : Nat → Act → World → Prop, ∀ mm aa ww, Inv mm aa ww ↔ (∃ (q : Nat) (b2 : Bool) (Ji : Imm), (Jo.le Ji) ∧ (q ≤ x43.blocks.length) ∧ (b2 = (bb || !((List.range q).all fun a => (vGood x43 (a : Int)).2))) ∧ (mm = (x43.blocks.length - q)) ∧ Frm aa 231 [(0, .slice Ad d.length cd), (1, .slice Ab b.length cb), (6, .slice none 0 0), (7, .int .i64 0), (8, .pointer (some ⟨g8_1, 0, none⟩)), (11, .int .i64 (k : Int)), (33, .int .i64 (k : Int)), (34, .slice Ad d.length cd), (35, .int .i64 (d.length : Int)), (36, .bool (decide ((k : Int) < (d.length : Int)))), (39, .pointer (some ⟨g8_1, 4, none⟩)), (40, .slice Ao o.length co), (41, .slice Ad d.length cd), (42, .int .i64 (k : Int)), (43, .pointer (some p43_3)), (44, .pointer (some p43_3)), (45, .int .i64 x43.label), (46, .slice (some ⟨g46, 0, none⟩) 1 1), (47, .slice A47_5 ((o ++ ([x43.label])).length) c47_5), (48, .pointer (some ⟨g8_1, 4, none⟩)), (49, .bool lb), (50, .bool lb), (56, .bool (lb || x43.lost)), (9, .bool (lb || x43.lost)), (12, .int .i64 (q : Int)), (10, .bool b2)] ∧ S E ww Ji [blk g8_1 [.int .i64 n, .int .i64 0, .int .i64 (d.length : Int), .int .i64 (b.length : Int), .slice A47_5 ((o ++ ([x43.label])).length) c47_5] 38, row (.slice A47_5 ((o ++ ([x43.label])).length) c47_5) 3 1 (clo ++ ([.int .i64 x43.label]))]) := ⟨_, fun _ _ _ => Iff.rfl⟩
  refine RunC.loopX Inv1 (fun aa ww hF hS => ⟨_, (hInv1 _ _ _).2 ⟨0, bb, Jo, (Imm.le.refl _), (by omega), (by simp), rfl, hF.sub (Sub.of rfl), hS.sub (perm_self _)⟩⟩) ?_
  intro mm1 aa ww hv
  obtain ⟨q, b2, Ji, hJi_le, hq, hb2, hmm_, hF, hS⟩ := (hInv1 _ _ _).1 hv
  clear hv
  refine RunC.go ?_ hF hS
  clear hF hS aa ww
  refine RunC.seq ?_
  refine RunC.sr ?_
  refine Run.mv ?_
  refine Run.mv ?_
  refine Run.mv ?_
  obtain ⟨x60, p60_7, cs60_7, hx60, hp60_7, hcs60_7, hrc60_7⟩ := Sl.at_ (P := Tryz.prog) (T := tTape) Tryz.runUnderlying22 Tryz.sizeOf45 (hd.mono (hJo_le.trans hJi_le)) (k := .i64) (i := (k : Int)) (by omega) (by omega)
  replace hx60 : d[k]? = some x60 := hx60
  obtain ⟨A60_7_2, c60_7_2, rfl, f60_7_0, f60_7_1, f60_7_2⟩ := hcs60_7
  have hsm60_7_2 := f60_7_2.small
  have e60 : x60 = x43 := Option.some.inj (hx60.symm.trans hx43)
  have e60l : x60.blocks.length = x43.blocks.length := by rw [e60]
  refine Run.m (v := .pointer (some p60_7)) (y_index rfl rfl rfl hp60_7) ?_
  refine Run.m (v := .pointer (some (p60_7.add 2))) (y_fieldAddr rfl rfl Tryz.runUnderlying45 rfl Tryz.sizeOf43 (by decide) rfl) ?_
  refine Run.m (v := .slice A60_7_2 x60.blocks.length c60_7_2) (y_load1 rfl Tryz.isAgg43 rfl (RCells.at_ hrc60_7 2 rfl rfl)) ?_
  refine Run.m (y_len rfl Tryz.runUnderlying43 rfl) ?_
  refine Run.m (v := .bool (decide ((q : Int) < (x60.blocks.length : Int)))) (y_bin rfl rfl rfl bn_lss) ?_
  refine Run.nx ?_
  refine RunC.cond rfl (fun hc1 => ?_) (fun hc1 => ?_)
  ·
   try simp only [z1, z2, z3, z4, z5, z6, z7, z8, z9, z10, z11, z12, z13, z14, z15, z16] at hc1
   refine RunC.skip ?_
   refine RunQ.next ?_
   refine RunC.seq ?_
   refine RunC.block ?_
   refine RunC.sr ?_
   refine Run.mv ?_
   refine Run.mv ?_
   obtain ⟨x70, p70_8, cs70_8, hx70, hp70_8, hcs70_8, hrc70_8⟩ := Sl.at_ (P := Tryz.prog) (T := tTape) Tryz.runUnderlying22 Tryz.sizeOf45 (hd.mono (hJo_le.trans hJi_le)) (k := .i64) (i := (k : Int)) (by omega) (by omega)
   replace hx70 : d[k]? = some x70 := hx70
   obtain ⟨A70_8_2, c70_8_2, rfl, f70_8_0, f70_8_1, f70_8_2⟩ := hcs70_8
   have hsm70_8_2 := f70_8_2.small
   have e70 : x70 = x43 := Option.some.inj (hx70.symm.trans hx43)
   refine Run.m (v := .pointer (some p70_8)) (y_index rfl rfl rfl hp70_8) ?_
   refine Run.m (v := .agg [.int .i64 x70.label, .int .i64 x70.cap, .slice A70_8_2 x70.blocks.length c70_8_2, .bool x70.lost].toArray) (y_loadA (cs := [.int .i64 x70.label, .int .i64 x70.cap, .slice A70_8_2 x70.blocks.length c70_8_2, .bool x70.lost]) rfl Tryz.isAgg45 Tryz.sizeOf45 rfl hrc70_8 rfl) ?_
   refine Run.mv ?_
   refine Run.call0 (en_func rfl Tryz.call32 rfl) (c_cartridgeref10_Good _ x70 ⟨_, _, rfl, f70_8_0, f70_8_1, f70_8_2⟩ (q : Int) (by omega) (hszd _ (List.mem_of_getElem? hx70))) rfl rfl (by decide) (fun J9 o9 v9 hleJ9 hq9 => ?_)
   obtain ⟨rfl, cs9a, cs9b, rfl, h9a, h9b⟩ := hq9
   replace h9a : tUnit.rd J9 cs9a ((vGood x70 (q : Int)).1) := h9a
   obtain ⟨A9a_3, c9a_3, rfl, f9a_0, f9a_1, f9a_2, f9a_3⟩ := h9a
   have hsm9a_3 := f9a_3.small
   replace h9b : tBool.rd J9 cs9b ((vGood x70 (q : Int)).2) := h9b
   obtain rfl := h9b
   refine Run.mv ?_
   refine Run.m (y_extract rfl rfl rfl) ?_
   refine Run.m (y_extract rfl rfl rfl) ?_
   refine Run.alloc (cs := [.int .i64 0, .int .i64 0, .int .i64 0, .slice none 0 0]) rfl Tryz.zeroValue63 rfl rfl rfl (by decide) (fun g13_10 => ?_)
   refine Run.storeB (vs := [.int .i64 (((vGood x70 (q : Int)).1).kind), .int .i64 (((vGood x70 (q : Int)).1).label), .int .i64 (((vGood x70 (q : Int)).1).number), .slice A9a_3 ((((vGood x70 (q : Int)).1).load).length) c9a_3]) (cs' := [.int .i64 (((vGood x70 (q : Int)).1).kind), .int .i64 (((vGood x70 (q : Int)).1).label), .int .i64 (((vGood x70 (q : Int)).1).number), .slice A9a_3 ((((vGood x70 (q : Int)).1).load).length) c9a_3]) (own' := [blk g8_1 [.int .i64 n, .int .i64 0, .int .i64 (d.length : Int), .int .i64 (b.length : Int), .slice A47_5 ((o ++ ([x43.label])).length) c47_5] 38, row (.slice A47_5 ((o ++ ([x43.label])).length) c47_5) 3 1 (clo ++ ([.int .i64 x43.label]))]) 0 rfl rfl rfl Tryz.sizeOf63 rfl rfl rfl rfl rfl (Nat.le_of_ble_eq_true rfl) rfl rfl rfl ?_
   refine Run.as ?_
   refine Run.nx ?_
   refine RunC.region ?_
   refine Run.mv ?_
   refine Run.mv ?_
   refine Run.split 3 rfl (b := b2) (d := 80) (v := .bool (b2 || (!((vGood x70 (q : Int)).2)))) (fun hb77 K77 => ?_) (fun hb77 K77 => ?_) ?_
   ·
    have hc1077 := hb77; try simp only [z1, z2, z3, z4, z5, z6, z7, z8, z9, z10, z11, z12, z13, z14, z15, z16] at hc1077
    refine Run.no rfl rfl rfl rfl (hb77) rfl (by decide) ?_
    refine Run.no rfl rfl rfl rfl (hb77) rfl (by decide) ?_
    refine Run.y (y_pickB rfl rfl (hb77) rfl) rfl rfl (by decide) ?_
    exact K77 _ _ _ (Imm.le.refl _) (by rw [hb77]; simp) (Sub.tl 2 rfl rfl)
   ·
    have hc1077 := hb77; try simp only [z1, z2, z3, z4, z5, z6, z7, z8, z9, z10, z11, z12, z13, z14, z15, z16] at hc1077
    refine Run.yes (v := .bool ((vGood x70 (q : Int)).2)) (y_move rfl rfl) rfl rfl rfl rfl (hb77) rfl (by decide) ?_
    refine Run.yes (v := .bool (!((vGood x70 (q : Int)).2))) (y_not (b := ((vGood x70 (q : Int)).2)) rfl rfl) rfl rfl rfl rfl (hb77) rfl (by decide) ?_
    refine Run.y (y_pickB rfl rfl (hb77) rfl) rfl rfl (by decide) ?_
    exact K77 _ _ _ (Imm.le.refl _) (by rw [hb77]; simp) (Sub.tl 2 rfl rfl)
   refine Run.as ?_
   refine Run.nil ?_
   refine RunQ.inB ?_
   refine RunQ.next ?_
   refine RunC.region ?_
   refine Run.mv ?_
   refine Run.m (v := .int .i64 ((q : Int) + 1)) (y_bin rfl rfl rfl (bn_add (by omega) (by omega))) ?_
   refine Run.as ?_
   refine Run.nil ?_
   exact RunQ.thenI (fun aa ww hF hS => ⟨_, (by omega), (hInv1 _ _ _).2 ⟨(q + 1), (b2 || (!((vGood x70 (q : Int)).2))), J9, (hJi_le.trans hleJ9), (by omega), (by rw [e70, hb2, List.range_succ, List.all_append, List.all_cons, List.all_nil, Bool.and_true, Bool.not_and, Bool.or_assoc]), rfl, hF.sub (Sub.of rfl), hS.sub (perm_take (i := 1) rfl (perm_take (i := 1) rfl (perm_nil _)))⟩⟩)
  ·
   try simp only [z1, z2, z3, z4, z5, z6, z7, z8, z9, z10, z11, z12, z13, z14, z15, z16] at hc1
   refine RunC.exit ?_
   refine RunQ.pass (fun h => by cases h) ?_
   refine RunQ.pass (fun h => by cases h) ?_
   refine RunQ.out ?_
   refine RunQ.inB ?_
   refine RunQ.next ?_
   refine RunC.region ?_
   refine Run.mv ?_
   refine Run.m (v := .int .i64 ((k : Int) + 1)) (y_bin rfl rfl rfl (bn_add (by omega) (by omega))) ?_
   refine Run.as ?_
   refine Run.nil ?_
   exact RunQ.thenI (fun aa ww hF hS => ⟨_, (by omega), (hInv0 _ _ _).2 ⟨(k + 1), (lb || x43.lost), b2, (o ++ ([x43.label])), A47_5, c47_5, clo ++ ([.int .i64 x43.label]), Ji, (hJo_le.trans hJi_le), (hall5.mono hJi_le), (by omega), (by rw [ho_, take_snoc' hx43, gLabels, gLabels, List.map_append]; rfl), (by simp; omega), (by rw [hlb, take_snoc' hx43, List.any_append, List.any_cons, List.any_nil, Bool.or_false]), (by rw [hb2, hbb, take_snoc' hx43, List.all_append, List.all_cons, List.all_nil, Bool.and_true, Bool.not_and, Bool.or_assoc, goodAll, show q = x43.blocks.length from by omega]), rfl, hF.sub (Sub.of rfl), hS.sub (perm_self _)⟩⟩)
 ·
  try simp only [z1, z2, z3, z4, z5, z6, z7, z8, z9, z10, z11, z12, z13, z14, z15, z16] at hc0
  refine RunC.exit ?_
  refine RunQ.pass (fun h => by cases h) ?_
  refine RunQ.pass (fun h => by cases h) ?_
  refine RunQ.out ?_
  refine RunQ.next ?_
  refine RunC.seq ?_
  refine RunC.sr ?_
  refine Run.as ?_
  refine Run.nx ?_
  refine RunC.block ?_
  obtain ⟨Inv2, hInv2⟩ : ∃ Inv : Nat → Act → World → Prop, ∀ mm aa ww, Inv mm aa ww ↔ (∃ (j : Nat) (l2 : Bool) (o2 : List (Int)) (Ao2 : Option Addr) (co2 : Nat) (clo2 : List Value) (Jp : Imm), (Jo.le Jp) ∧ (tInt.all Jp clo2 o2) ∧ (j ≤ b.length) ∧ (o2 = gLabels d ++ gLabels (b.take j)) ∧ (o2.length = d.length + j) ∧ (l2 = (d.any (fun t => t.lost) || (b.take j).any (fun t => t.lost))) ∧ (mm = (b.length - j)) ∧ Frm aa 231 [(0, .slice Ad d.length cd), (1, .slice Ab b.length cb), (6, .slice none 0 0), (7, .int .i64 0), (8, .pointer (some ⟨g8_1, 0, none⟩)), (10, .bool bb), (15, .int .i64 (j : Int)), (9, .bool l2)] ∧ S E ww Jp [blk g8_1 [.int .i64 n, .int .i64 0, .int .i64 (d.length : Int), .int .i64 (b.length : Int), .slice Ao2 o2.length co2] 38, row (.slice Ao2 o2.length co2) 3 1 clo2]) := ⟨_, fun _ _ _ => Iff.rfl⟩
  refine RunC.loopX Inv2 (fun aa ww hF hS => ⟨_, (hInv2 _ _ _).2 ⟨0, lb, o, Ao, co, clo, Jo, (Imm.le.refl _), ho, (by omega), (by rw [ho_, List.take_of_length_le (by omega)]; simp [gLabels]), (by omega), (by rw [hlb, List.take_of_length_le (by omega)]; simp), rfl, hF.sub (Sub.of rfl), hS.sub (perm_self _)⟩⟩) ?_
  intro mm2 aa ww hv
  obtain ⟨j, l2, o2, Ao2, co2, clo2, Jp, hJp_le, ho2, hj, ho2_, ho2l, hl2, hmm_, hF, hS⟩ := (hInv2 _ _ _).1 hv
  clear hv
  refine RunC.go ?_ hF hS
  clear hF hS aa ww
  refine RunC.seq ?_
  refine RunC.sr ?_
  refine Run.mv ?_
  refine Run.mv ?_
  refine Run.m (y_len rfl Tryz.runUnderlying22 rfl) ?_
  refine Run.m (v := .bool (decide ((j : Int) < (b.length : Int)))) (y_bin rfl rfl rfl bn_lss) ?_
  refine Run.nx ?_
  refine RunC.cond rfl (fun hc2 => ?_) (fun hc2 => ?_)
  ·
   try simp only [z1, z2, z3, z4, z5, z6, z7, z8, z9, z10, z11, z12, z13, z14, z15, z16] at hc2
   refine RunC.skip ?_
   refine RunQ.next ?_
   refine RunC.seq ?_
   refine RunC.block ?_
   refine RunC.seq ?_
   refine RunC.regionT [10] [blk g8_1 [.int .i64 n, .int .i64 0, .int .i64 (d.length : Int), .int .i64 (b.length : Int), .slice Ao2 o2.length co2] 38] (by kernel_rfl) rfl ?_
   refine RunT.p (v := .pointer (some ⟨g8_1, 4, none⟩)) (listed' := #[true, false, false, false, false, false, false, false, false, false, false]) 0 rfl (by kernel_rfl) (by kernel_rfl) (by kernel_rfl) rfl (fun _ => ⟨(Imm.le.refl _), (perm_take (i := 0) rfl (perm_nil _))⟩) (y_fieldAddr rfl rfl Tryz.runUnderlying38 rfl Tryz.sizeOf36 (by decide) rfl) (.plain rfl) rfl (by decide) rfl ?_
   refine RunT.y (v := .slice Ao2 o2.length co2) (listed' := #[true, true, false, false, false, false, false, false, false, false, false]) 1 rfl (by kernel_rfl) (by kernel_rfl) (by kernel_rfl) (by kernel_rfl) rfl (Imm.le.refl _) (perm_take (i := 0) rfl (perm_nil _)) (y_loadB1 0 rfl Tryz.isAgg36 rfl rfl rfl) (.plain rfl) rfl (by decide) rfl ?_
   refine RunT.p (v := .slice Ab b.length cb) (listed' := #[true, true, true, false, false, false, false, false, false, false, false]) 2 rfl (by kernel_rfl) (by kernel_rfl) (by kernel_rfl) rfl (fun _ => ⟨(Imm.le.refl _), (perm_take (i := 0) rfl (perm_nil _))⟩) (y_move rfl rfl) (.plain rfl) rfl (by decide) rfl ?_
   refine RunT.p (v := .int .i64 (j : Int)) (listed' := #[true, true, true, true, false, false, false, false, false, false, false]) 3 rfl (by kernel_rfl) (by kernel_rfl) (by kernel_rfl) rfl (fun _ => ⟨(Imm.le.refl _), (perm_take (i := 0) rfl (perm_nil _))⟩) (y_move rfl rfl) (.plain rfl) rfl (by decide) rfl ?_
   obtain ⟨x91, p91_11, cs91_11, hx91, hp91_11, hcs91_11, hrc91_11⟩ := Sl.at_ (P := Tryz.prog) (T := tTape) Tryz.runUnderlying22 Tryz.sizeOf45 (hb.mono (hJo_le.trans hJp_le)) (k := .i64) (i := (j : Int)) (by omega) (by omega)
   replace hx91 : b[j]? = some x91 := hx91
   obtain ⟨A91_11_2, c91_11_2, rfl, f91_11_0, f91_11_1, f91_11_2⟩ := hcs91_11
   have hsm91_11_2 := f91_11_2.small
   refine RunT.p (v := .pointer (some p91_11)) (listed' := #[true, true, true, true, true, false, false, false, false, false, false]) 4 rfl (by kernel_rfl) (by kernel_rfl) (by kernel_rfl) rfl (fun _ => ⟨(Imm.le.refl _), (perm_take (i := 0) rfl (perm_nil _))⟩) (y_index rfl rfl rfl hp91_11) (.plain rfl) rfl (by decide) rfl ?_
   refine RunT.p (v := .pointer (some p91_11)) (listed' := #[true, true, true, true, true, true, false, false, false, false, false]) 5 rfl (by kernel_rfl) (by kernel_rfl) (by kernel_rfl) rfl (fun _ => ⟨(Imm.le.refl _), (perm_take (i := 0) rfl (perm_nil _))⟩) (y_fieldAddr rfl rfl Tryz.runUnderlying45 rfl Tryz.sizeOf3 (by decide) (add_zero' _)) (.plain rfl) rfl (by decide) rfl ?_
   refine RunT.y (v := .int .i64 x91.label) (listed' := #[true, true, true, true, true, true, true, false, false, false, false]) 6 rfl (by kernel_rfl) (by kernel_rfl) (by kernel_rfl) (by kernel_rfl) rfl (Imm.le.refl _) (perm_take (i := 0) rfl (perm_nil _)) (y_load1 rfl Tryz.isAgg3 rfl (RCells.hd hrc91_11)) (.plain rfl) rfl (by decide) rfl ?_
   refine RunT.step (listed' := #[true, true, true, true, true, true, true, true, false, false, false]) 7 rfl (by kernel_rfl) rfl ?_
   refine Run.lit (vs := [(0, .int .i64 x91.label)]) (cs := [.int .i64 x91.label]) (el := 3) (sz := 1) rfl rfl (fun w => by simp [Instr.buildSlice, Tryz.runUnderlying36, Tryz.sizeOf3, Tryz.zeroValue3, Instr.fill, Value.cells, newRow, (show Array.range 1 = #[0] from rfl)]) rfl (by simp [maxLen]) rfl rfl (by decide) (fun g94 => ?_)
   refine Run.nil ?_
   refine RunQ.stepEnd (fun _ => ⟨(Imm.le.refl _), (perm_take (i := 1) rfl (perm_nil _))⟩) ?_
   refine RunT.step (listed' := #[true, true, true, true, true, true, true, true, true, false, false]) 8 rfl (by kernel_rfl) rfl ?_
   have hlit12 : tInt.all Jp [.int .i64 x91.label] [x91.label] := (all_snoc (T := tInt) all_nil ⟨rfl, f91_11_0⟩)
   have hall13 : tInt.all Jp (clo2 ++ ([.int .i64 x91.label])) (o2 ++ ([x91.label])) := all_append ho2 hlit12
   refine Run.append (by_ := 8) (ys := [.int .i64 x91.label]) (k := 1) (own' := [row (.slice (some ⟨g94, 0, none⟩) 1 1) 3 1 ([.int .i64 x91.label]), blk g8_1 [.int .i64 n, .int .i64 0, .int .i64 (d.length : Int), .int .i64 (b.length : Int), .slice Ao2 o2.length co2] 38]) 2 rfl rfl rfl Tryz.runUnderlying36 (.inl Tryz.runUnderlying36) Tryz.sizeOf3 Tryz.typeInfo3 rfl Tryz.zeroValue3 rfl rfl rfl (fun w hS => src_own hS (i := 0) rfl) (row_len hlit12 (by first | rfl | (simp; done) | (simp; omega)) rfl) (all_one hlit12) ((o2 ++ ([x91.label])).length) (by first | (simp; done) | (simp; omega)) (by first | (rw [List.length_append]; simp only [List.length_singleton, List.length_nil]; omega) | omega) (by first | (rw [List.length_append]; simp only [List.length_singleton, List.length_nil, maxLen]; omega) | (simp [maxLen]; omega)) rfl rfl (by decide) (fun A95_13 c95_13 => ?_)
   refine Run.weak Sub.refl (perm_take (i := 0) rfl (perm_take (i := 1) rfl (perm_nil _))) ?_
   refine Run.nil ?_
   refine RunQ.stepEnd (fun _ => ⟨(Imm.le.refl _), (perm_take (i := 1) rfl (perm_nil _))⟩) ?_
   refine RunT.p (v := .pointer (some ⟨g8_1, 4, none⟩)) (listed' := #[true, true, true, true, true, true, true, true, true, true, false]) 9 rfl (by kernel_rfl) (by kernel_rfl) (by kernel_rfl) rfl (fun _ => ⟨(Imm.le.refl _), (perm_take (i := 1) rfl (perm_nil _))⟩) (y_fieldAddr rfl rfl Tryz.runUnderlying38 rfl Tryz.sizeOf36 (by decide) rfl) (.plain rfl) rfl (by decide) rfl ?_
   refine RunT.step (listed' := #[true, true, true, true, true, true, true, true, true, true, true]) 10 rfl (by kernel_rfl) rfl ?_
   refine Run.storeB (vs := [.slice A95_13 ((o2 ++ ([x91.label])).length) c95_13]) (cs' := [.int .i64 n, .int .i64 0, .int .i64 (d.length : Int), .int .i64 (b.length : Int), .slice A95_13 ((o2 ++ ([x91.label])).length) c95_13]) (own' := [row (.slice A95_13 ((o2 ++ ([x91.label])).length) c95_13) 3 1 (clo2 ++ ([.int .i64 x91.label]))]) 1 rfl rfl rfl Tryz.sizeOf36 rfl rfl rfl rfl rfl (Nat.le_of_ble_eq_true rfl) rfl rfl rfl ?_
   refine Run.nil ?_
   refine RunQ.stepEnd (fun h => absurd (show false = true from h) Bool.false_ne_true) ?_
   refine RunT.done (by kernel_rfl) ?_
   refine RunQ.next ?_
   refine RunC.region ?_
   refine Run.mv ?_
   refine Run.mv ?_
   refine Run.split 6 rfl (b := l2) (d := 104) (v := .bool (l2 || x91.lost)) (fun hb98 K98 => ?_) (fun hb98 K98 => ?_) ?_
   ·
    have hc1098 := hb98; try simp only [z1, z2, z3, z4, z5, z6, z7, z8, z9, z10, z11, z12, z13, z14, z15, z16] at hc1098
    refine Run.no rfl rfl rfl rfl (hb98) rfl (by decide) ?_
    refine Run.no rfl rfl rfl rfl (hb98) rfl (by decide) ?_
    refine Run.no rfl rfl rfl rfl (hb98) rfl (by decide) ?_
    refine Run.no rfl rfl rfl rfl (hb98) rfl (by decide) ?_
    refine Run.no rfl rfl rfl rfl (hb98) rfl (by decide) ?_
    refine Run.y (y_pickB rfl rfl (hb98) rfl) rfl rfl (by decide) ?_
    exact K98 _ _ _ (Imm.le.refl _) (by rw [hb98]; first | rfl | (rw [e101]; rfl) | (simp; done) | (rw [e101]; simp; done)) (Sub.tl 5 rfl rfl)
   ·
    have hc1098 := hb98; try simp only [z1, z2, z3, z4, z5, z6, z7, z8, z9, z10, z11, z12, z13, z14, z15, z16] at hc1098
    refine Run.yes (v := .slice Ab b.length cb) (y_move rfl rfl) rfl rfl rfl rfl (hb98) rfl (by decide) ?_
    refine Run.yes (v := .int .i64 (j : Int)) (y_move rfl rfl) rfl rfl rfl rfl (hb98) rfl (by decide) ?_
    obtain ⟨x101, p101_14, cs101_14, hx101, hp101_14, hcs101_14, hrc101_14⟩ := Sl.at_ (P := Tryz.prog) (T := tTape) Tryz.runUnderlying22 Tryz.sizeOf45 (hb.mono (hJo_le.trans hJp_le)) (k := .i64) (i := (j : Int)) (by omega) (by omega)
    replace hx101 : b[j]? = some x101 := hx101
    obtain ⟨A101_14_2, c101_14_2, rfl, f101_14_0, f101_14_1, f101_14_2⟩ := hcs101_14
    have hsm101_14_2 := f101_14_2.small
    have e101 : x101 = x91 := Option.some.inj (hx101.symm.trans hx91)
    refine Run.yes (v := .pointer (some p101_14)) (y_index rfl rfl rfl hp101_14) rfl rfl rfl rfl (hb98) rfl (by decide) ?_
    refine Run.yes (v := .pointer (some (p101_14.add 3))) (y_fieldAddr rfl rfl Tryz.runUnderlying45 rfl Tryz.sizeOf4 (by decide) rfl) rfl rfl rfl rfl (hb98) rfl (by decide) ?_
    refine Run.yes (v := .bool x101.lost) (y_load1 rfl Tryz.isAgg4 rfl (RCells.at_ hrc101_14 3 rfl rfl)) rfl rfl rfl rfl (hb98) rfl (by decide) ?_
    refine Run.y (y_pickB rfl rfl (hb98) rfl) rfl rfl (by decide) ?_
    exact K98 _ _ _ (Imm.le.refl _) (by rw [hb98]; first | rfl | (rw [e101]; rfl) | (simp; done) | (rw [e101]; simp; done)) (Sub.tl 5 rfl rfl)
   refine Run.as ?_
   refine Run.nil ?_
   refine RunQ.inB ?_
   refine RunQ.next ?_
   refine RunC.region ?_
   refine Run.mv ?_
   refine Run.m (v := .int .i64 ((j : Int) + 1)) (y_bin rfl rfl rfl (bn_add (by omega) (by omega))) ?_
   refine Run.as ?_
   refine Run.nil ?_
   exact RunQ.thenI (fun aa ww hF hS => ⟨_, (by omega), (hInv2 _ _ _).2 ⟨(j + 1), (l2 || x91.lost), (o2 ++ ([x91.label])), A95_13, c95_13, clo2 ++ ([.int .i64 x91.label]), Jp, hJp_le, hall13, (by omega), (by rw [ho2_, take_snoc' hx91, gLabels, gLabels, gLabels, List.map_append, List.append_assoc]; rfl), (by simp; omega), (by rw [hl2, take_snoc' hx91, List.any_append, List.any_cons, List.any_nil, Bool.or_false, Bool.or_assoc]), rfl, hF.sub (Sub.of rfl), hS.sub (perm_self _)⟩⟩)
  ·
   try simp only [z1, z2, z3, z4, z5, z6, z7, z8, z9, z10, z11, z12, z13, z14, z15, z16] at hc2
   refine RunC.exit ?_
   refine RunQ.pass (fun h => by cases h) ?_
   refine RunQ.pass (fun h => by cases h) ?_
   refine RunQ.out ?_
   refine RunQ.next ?_
   refine RunC.seq ?_
   refine RunC.seq ?_
   have hll : l2 = rLost d b := by rw [hl2, List.take_of_length_le (by omega)]; rfl
   have hlbb : bb = rBad d := by rw [hbb, List.take_of_length_le (by omega)]; rfl
   have hse : (⟨n, 0, (d.length : Int), (b.length : Int), o2⟩ : ASeal) = gSeal d b n := by rw [ho2_, List.take_of_length_le (by omega), gSeal]; simp [gLabels]
   refine RunC.freezeR 1 rfl (own' := [blk g8_1 [.int .i64 n, .int .i64 0, .int .i64 (d.length : Int), .int .i64 (b.length : Int), .slice Ao2 o2.length co2] 38]) rfl (fun J15 hleJ15 hfzJ15 => ?_)
   have hslJ15 : Sl tInt J15 Ao2 co2 o2 := Sl.of_rowN hfzJ15 rfl rfl (ho2.mono hleJ15)
   refine RunC.region ?_
   refine Run.m (v := .agg [.int .i64 n, .int .i64 0, .int .i64 (d.length : Int), .int .i64 (b.length : Int), .slice Ao2 o2.length co2].toArray) (y_loadBA 0 rfl Tryz.isAgg38 Tryz.sizeOf38 rfl rfl rfl rfl) ?_
   refine Run.callV (en_func rfl Tryz.call33 rfl) (conv_bool (c_cartridgeref10_RightSeal _ (⟨n, 0, (d.length : Int), (b.length : Int), o2⟩ : ASeal) ⟨_, _, rfl, hn, (by first | omega | (dsimp only; omega)), (by first | omega | (dsimp only; omega)), (by first | omega | (dsimp only; omega)), hslJ15⟩)) rfl rfl (by decide) (fun hI16 => ?_)
   refine Run.m (v := .bool (!(sRight (⟨n, 0, (d.length : Int), (b.length : Int), o2⟩ : ASeal)))) (y_not (b := (sRight (⟨n, 0, (d.length : Int), (b.length : Int), o2⟩ : ASeal))) rfl rfl) ?_
   refine Run.mv ?_
   refine Run.split 2 rfl (b := (!(sRight (⟨n, 0, (d.length : Int), (b.length : Int), o2⟩ : ASeal)))) (d := 110) (v := .bool ((!(sRight (⟨n, 0, (d.length : Int), (b.length : Int), o2⟩ : ASeal))) || l2)) (fun hb108 K108 => ?_) (fun hb108 K108 => ?_) ?_
   ·
    have hc1108 := hb108; try simp only [z1, z2, z3, z4, z5, z6, z7, z8, z9, z10, z11, z12, z13, z14, z15, z16] at hc1108
    refine Run.no rfl rfl rfl rfl (hb108) rfl (by decide) ?_
    refine Run.y (y_pickB rfl rfl (hb108) rfl) rfl rfl (by decide) ?_
    exact K108 _ _ _ (Imm.le.refl _) (by rw [hb108]; simp) (Sub.tl 1 rfl rfl)
   ·
    have hc1108 := hb108; try simp only [z1, z2, z3, z4, z5, z6, z7, z8, z9, z10, z11, z12, z13, z14, z15, z16] at hc1108
    refine Run.yes (v := .bool l2) (y_move rfl rfl) rfl rfl rfl rfl (hb108) rfl (by decide) ?_
    refine Run.y (y_pickB rfl rfl (hb108) rfl) rfl rfl (by decide) ?_
    exact K108 _ _ _ (Imm.le.refl _) (by rw [hb108]; simp) (Sub.tl 1 rfl rfl)
   refine Run.mv ?_
   refine Run.split 2 rfl (b := ((!(sRight (⟨n, 0, (d.length : Int), (b.length : Int), o2⟩ : ASeal))) || l2)) (d := 113) (v := .bool (((!(sRight (⟨n, 0, (d.length : Int), (b.length : Int), o2⟩ : ASeal))) || l2) || bb)) (fun hb111 K111 => ?_) (fun hb111 K111 => ?_) ?_
   ·
    have hc1111 := hb111; try simp only [z1, z2, z3, z4, z5, z6, z7, z8, z9, z10, z11, z12, z13, z14, z15, z16] at hc1111
    refine Run.no rfl rfl rfl rfl (hb111) rfl (by decide) ?_
    refine Run.y (y_pickB rfl rfl (hb111) rfl) rfl rfl (by decide) ?_
    exact K111 _ _ _ (Imm.le.refl _) (by rw [hb111]; simp) (Sub.tl 1 rfl rfl)
   ·
    have hc1111 := hb111; try simp only [z1, z2, z3, z4, z5, z6, z7, z8, z9, z10, z11, z12, z13, z14, z15, z16] at hc1111
    refine Run.yes (v := .bool bb) (y_move rfl rfl) rfl rfl rfl rfl (hb111) rfl (by decide) ?_
    refine Run.y (y_pickB rfl rfl (hb111) rfl) rfl rfl (by decide) ?_
    exact K111 _ _ _ (Imm.le.refl _) (by rw [hb111]; simp) (Sub.tl 1 rfl rfl)
   refine Run.nx ?_
   refine RunC.cond rfl (fun hc3 => ?_) (fun hc3 => ?_)
   ·
    try simp only [z1, z2, z3, z4, z5, z6, z7, z8, z9, z10, z11, z12, z13, z14, z15, z16] at hc3
    rw [hse] at hc3
    have hgm := gCheck_1 (d := d) (b := b) (n := n) (by rw [← hll, ← hlbb]; exact hc3)
    refine RunC.sr ?_
    refine Run.as ?_
    refine Run.as ?_
    refine Run.nx ?_
    refine RunC.ret ?_
    refine RunQ.pass (fun h => by cases h) ?_
    refine RunQ.weak Sub.refl (perm_nil _) ?_
    refine RunQ.fin2 (.inl rfl) Tryz.results9 (rv_tmp rfl) (rv_tmp rfl) ?_
    exact ⟨rfl, _, _, rfl, (rd_eq (T := (tSl tTape)) (x := ([] : List ATape)) ⟨_, _, rfl, sl_nil0⟩ (by rw [hgm] <;> rfl)), (rd_eq (T := tInt) (x := 1) ⟨rfl, (by first | omega | (dsimp only; omega))⟩ (by rw [hgm] <;> rfl))⟩
   ·
    try simp only [z1, z2, z3, z4, z5, z6, z7, z8, z9, z10, z11, z12, z13, z14, z15, z16] at hc3
    rw [hse] at hc3
    have hok : rOk d b n := ⟨⟨hc3.1.1, by rw [← hll]; exact hc3.1.2⟩, by rw [← hlbb]; exact hc3.2⟩
    have hP := sRight_P hok.1.1; unfold sRightP at hP; dsimp only [gSeal] at hP
    refine RunC.skip ?_
    refine RunQ.next ?_
    refine RunC.seq ?_
    refine RunC.sr ?_
    refine Run.as ?_
    refine Run.nx ?_
    refine RunC.block ?_
    obtain ⟨Inv3, hInv3⟩ : ∃ Inv : Nat → Act → World → Prop, ∀ mm aa ww, Inv mm aa ww ↔ (∃ (a : Nat), (a ≤ b.length) ∧ (∀ t ∈ b.take a, ¬ t.blocks.length > 0) ∧ (mm = (b.length - a)) ∧ Frm aa 231 [(0, .slice Ad d.length cd), (1, .slice Ab b.length cb), (8, .pointer (some ⟨g8_1, 0, none⟩)), (16, .int .i64 (a : Int))] ∧ S E ww J15 [blk g8_1 [.int .i64 n, .int .i64 0, .int .i64 (d.length : Int), .int .i64 (b.length : Int), .slice Ao2 o2.length co2] 38]) := ⟨_, fun _ _ _ => Iff.rfl⟩
    refine RunC.loopX Inv3 (fun aa ww hF hS => ⟨_, (hInv3 _ _ _).2 ⟨0, (by omega), (by simp), rfl, hF.sub (Sub.of rfl), hS.sub (perm_self _)⟩⟩) ?_
    intro mm3 aa ww hv
    obtain ⟨a, ha, h11, hmm_, hF, hS⟩ := (hInv3 _ _ _).1 hv
    clear hv
    refine RunC.go ?_ hF hS
    clear hF hS aa ww
    refine RunC.seq ?_
    refine RunC.sr ?_
    refine Run.mv ?_
    refine Run.mv ?_
    refine Run.m (y_len rfl Tryz.runUnderlying22 rfl) ?_
    refine Run.m (v := .bool (decide ((a : Int) < (b.length : Int)))) (y_bin rfl rfl rfl bn_lss) ?_
    refine Run.nx ?_
    refine RunC.cond rfl (fun hc4 => ?_) (fun hc4 => ?_)
    ·
     try simp only [z1, z2, z3, z4, z5, z6, z7, z8, z9, z10, z11, z12, z13, z14, z15, z16] at hc4
     refine RunC.skip ?_
     refine RunQ.next ?_
     refine RunC.seq ?_
     refine RunC.block ?_
     refine RunC.sr ?_
     refine Run.mv ?_
     refine Run.mv ?_
     obtain ⟨x122, p122_17, cs122_17, hx122, hp122_17, hcs122_17, hrc122_17⟩ := Sl.at_ (P := Tryz.prog) (T := tTape) Tryz.runUnderlying22 Tryz.sizeOf45 (hb.mono ((hJo_le.trans hJp_le).trans hleJ15)) (k := .i64) (i := (a : Int)) (by omega) (by omega)
     replace hx122 : b[a]? = some x122 := hx122
     obtain ⟨A122_17_2, c122_17_2, rfl, f122_17_0, f122_17_1, f122_17_2⟩ := hcs122_17
     have hsm122_17_2 := f122_17_2.small
     refine Run.m (v := .pointer (some p122_17)) (y_index rfl rfl rfl hp122_17) ?_
     refine Run.m (v := .pointer (some (p122_17.add 2))) (y_fieldAddr rfl rfl Tryz.runUnderlying45 rfl Tryz.sizeOf43 (by decide) rfl) ?_
     refine Run.m (v := .slice A122_17_2 x122.blocks.length c122_17_2) (y_load1 rfl Tryz.isAgg43 rfl (RCells.at_ hrc122_17 2 rfl rfl)) ?_
     refine Run.m (y_len rfl Tryz.runUnderlying43 rfl) ?_
     refine Run.m (v := .bool (decide ((x122.blocks.length : Int) > 0))) (y_bin rfl rfl rfl bn_gtr) ?_
     refine Run.nx ?_
     refine RunC.cond rfl (fun hc5 => ?_) (fun hc5 => ?_)
     ·
      try simp only [z1, z2, z3, z4, z5, z6, z7, z8, z9, z10, z11, z12, z13, z14, z15, z16] at hc5
      have hgm := gMake_11 hok hx122 (by omega)
      refine RunC.sr ?_
      refine Run.as ?_
      refine Run.as ?_
      refine Run.nx ?_
      refine RunC.ret ?_
      refine RunQ.inR ?_
      refine RunQ.pass (fun h => by cases h) ?_
      refine RunQ.pass (fun h => by cases h) ?_
      refine RunQ.inR ?_
      refine RunQ.pass (fun h => by cases h) ?_
      refine RunQ.weak Sub.refl (perm_nil _) ?_
      refine RunQ.fin2 (.inl rfl) Tryz.results9 (rv_tmp rfl) (rv_tmp rfl) ?_
      exact ⟨rfl, _, _, rfl, (rd_eq (T := (tSl tTape)) (x := ([] : List ATape)) ⟨_, _, rfl, sl_nil0⟩ (by rw [hgm] <;> rfl)), (rd_eq (T := tInt) (x := 11) ⟨rfl, (by first | omega | (dsimp only; omega))⟩ (by rw [hgm] <;> rfl))⟩
     ·
      try simp only [z1, z2, z3, z4, z5, z6, z7, z8, z9, z10, z11, z12, z13, z14, z15, z16] at hc5
      refine RunC.skip ?_
      refine RunQ.inB ?_
      refine RunQ.next ?_
      refine RunC.region ?_
      refine Run.mv ?_
      refine Run.m (v := .int .i64 ((a : Int) + 1)) (y_bin rfl rfl rfl (bn_add (by omega) (by omega))) ?_
      refine Run.as ?_
      refine Run.nil ?_
      exact RunQ.thenI (fun aa ww hF hS => ⟨_, (by omega), (hInv3 _ _ _).2 ⟨(a + 1), (by omega), (by rw [take_snoc' hx122]; intro y hy; rcases List.mem_append.1 hy with hy | hy; exact h11 y hy; simp at hy; subst hy; omega), rfl, hF.sub (Sub.of rfl), hS.sub (perm_self _)⟩⟩)
    ·
     try simp only [z1, z2, z3, z4, z5, z6, z7, z8, z9, z10, z11, z12, z13, z14, z15, z16] at hc4
     have h11a : ∀ t ∈ b, ¬ t.blocks.length > 0 := by rw [List.take_of_length_le (by omega)] at h11; exact h11
     refine RunC.exit ?_
     refine RunQ.pass (fun h => by cases h) ?_
     refine RunQ.pass (fun h => by cases h) ?_
     refine RunQ.out ?_
     refine RunQ.next ?_
     refine RunC.seq ?_
     refine RunC.sr ?_
     refine Run.as ?_
     refine Run.nx ?_
     refine RunC.block ?_
     obtain ⟨Inv4, hInv4⟩ : ∃ Inv : Nat → Act → World → Prop, ∀ mm aa ww, Inv mm aa ww ↔ (∃ (c : Nat), (c ≤ b.length) ∧ (∀ t ∈ b.take c, ¬ tLenL d + 2 > t.cap) ∧ (mm = (b.length - c)) ∧ Frm aa 231 [(0, .slice Ad d.length cd), (1, .slice Ab b.length cb), (8, .pointer (some ⟨g8_1, 0, none⟩)), (17, .int .i64 (c : Int))] ∧ S E ww J15 [blk g8_1 [.int .i64 n, .int .i64 0, .int .i64 (d.length : Int), .int .i64 (b.length : Int), .slice Ao2 o2.length co2] 38]) := ⟨_, fun _ _ _ => Iff.rfl⟩
     refine RunC.loopX Inv4 (fun aa ww hF hS => ⟨_, (hInv4 _ _ _).2 ⟨0, (by omega), (by simp), rfl, hF.sub (Sub.of rfl), hS.sub (perm_self _)⟩⟩) ?_
     intro mm4 aa ww hv
     obtain ⟨c, hc, h6, hmm_, hF, hS⟩ := (hInv4 _ _ _).1 hv
     clear hv
     refine RunC.go ?_ hF hS
     clear hF hS aa ww
     refine RunC.seq ?_
     refine RunC.sr ?_
     refine Run.mv ?_
     refine Run.mv ?_
     refine Run.m (y_len rfl Tryz.runUnderlying22 rfl) ?_
     refine Run.m (v := .bool (decide ((c : Int) < (b.length : Int)))) (y_bin rfl rfl rfl bn_lss) ?_
     refine Run.nx ?_
     refine RunC.cond rfl (fun hc6 => ?_) (fun hc6 => ?_)
     ·
      try simp only [z1, z2, z3, z4, z5, z6, z7, z8, z9, z10, z11, z12, z13, z14, z15, z16] at hc6
      refine RunC.skip ?_
      refine RunQ.next ?_
      refine RunC.seq ?_
      refine RunC.block ?_
      refine RunC.seq ?_
      refine RunC.regionD (by kernel_rfl) (by kernel_rfl) ?_
      refine RunZ.y (v := .slice Ad d.length cd) (y_move rfl rfl) rfl rfl (by decide) ?_
      refine RunZ.call (en_func rfl Tryz.call31 rfl) (con_int (c_cartridgeref10_StripeLen _ d (hd.mono ((hJo_le.trans hJp_le).trans hleJ15)))) rfl rfl (by decide) ?_
      refine RunZ.y (v := .int .i64 ((tLenL d) + 2)) (y_bin rfl rfl rfl (bn_add (by omega) (by omega))) rfl rfl (by decide) ?_
      refine RunZ.y (v := .slice Ab b.length cb) (y_move rfl rfl) rfl rfl (by decide) ?_
      refine RunZ.y (v := .int .i64 (c : Int)) (y_move rfl rfl) rfl rfl (by decide) ?_
      obtain ⟨x138, p138_19, cs138_19, hx138, hp138_19, hcs138_19, hrc138_19⟩ := Sl.at_ (P := Tryz.prog) (T := tTape) Tryz.runUnderlying22 Tryz.sizeOf45 (hb.mono ((hJo_le.trans hJp_le).trans hleJ15)) (k := .i64) (i := (c : Int)) (by omega) (by omega)
      replace hx138 : b[c]? = some x138 := hx138
      obtain ⟨A138_19_2, c138_19_2, rfl, f138_19_0, f138_19_1, f138_19_2⟩ := hcs138_19
      have hsm138_19_2 := f138_19_2.small
      refine RunZ.y (v := .pointer (some p138_19)) (y_index rfl rfl rfl hp138_19) rfl rfl (by decide) ?_
      refine RunZ.y (v := .pointer (some (p138_19.add 1))) (y_fieldAddr rfl rfl Tryz.runUnderlying45 rfl Tryz.sizeOf3 (by decide) rfl) rfl rfl (by decide) ?_
      refine RunZ.y (v := .int .i64 x138.cap) (y_load1 rfl Tryz.isAgg3 rfl (RCells.at_ hrc138_19 1 rfl rfl)) rfl rfl (by decide) ?_
      refine RunZ.y (v := .bool (decide ((tLenL d) + 2 > x138.cap))) (y_bin rfl rfl rfl bn_gtr) rfl rfl (by decide) ?_
      refine RunZ.nil ?_
      refine RunQ.next ?_
      refine RunC.cond rfl (fun hc7 => ?_) (fun hc7 => ?_)
      ·
       try simp only [z1, z2, z3, z4, z5, z6, z7, z8, z9, z10, z11, z12, z13, z14, z15, z16] at hc7
       have hgm := gMake_6 hok h11a hx138 (by omega)
       refine RunC.sr ?_
       refine Run.as ?_
       refine Run.as ?_
       refine Run.nx ?_
       refine RunC.ret ?_
       refine RunQ.inR ?_
       refine RunQ.pass (fun h => by cases h) ?_
       refine RunQ.pass (fun h => by cases h) ?_
       refine RunQ.inR ?_
       refine RunQ.pass (fun h => by cases h) ?_
       refine RunQ.weak Sub.refl (perm_nil _) ?_
       refine RunQ.fin2 (.inl rfl) Tryz.results9 (rv_tmp rfl) (rv_tmp rfl) ?_
       exact ⟨rfl, _, _, rfl, (rd_eq (T := (tSl tTape)) (x := ([] : List ATape)) ⟨_, _, rfl, sl_nil0⟩ (by rw [hgm] <;> rfl)), (rd_eq (T := tInt) (x := 6) ⟨rfl, (by first | omega | (dsimp only; omega))⟩ (by rw [hgm] <;> rfl))⟩
      ·
       try simp only [z1, z2, z3, z4, z5, z6, z7, z8, z9, z10, z11, z12, z13, z14, z15, z16] at hc7
       refine RunC.skip ?_
       refine RunQ.inB ?_
       refine RunQ.next ?_
       refine RunC.region ?_
       refine Run.mv ?_
       refine Run.m (v := .int .i64 ((c : Int) + 1)) (y_bin rfl rfl rfl (bn_add (by omega) (by omega))) ?_
       refine Run.as ?_
       refine Run.nil ?_
       exact RunQ.thenI (fun aa ww hF hS => ⟨_, (by omega), (hInv4 _ _ _).2 ⟨(c + 1), (by omega), (by rw [take_snoc' hx138]; intro y hy; rcases List.mem_append.1 hy with hy | hy; exact h6 y hy; simp at hy; subst hy; omega), rfl, hF.sub (Sub.of rfl), hS.sub (perm_self _)⟩⟩)
     ·
      try simp only [z1, z2, z3, z4, z5, z6, z7, z8, z9, z10, z11, z12, z13, z14, z15, z16] at hc6
      have hgc : gCheck d b (gSeal d b n) = 0 := gMake_0 hok h11a (by rw [List.take_of_length_le (by omega)] at h6; exact h6)
      refine RunC.exit ?_
      refine RunQ.pass (fun h => by cases h) ?_
      refine RunQ.pass (fun h => by cases h) ?_
      refine RunQ.out ?_
      refine RunQ.next ?_
      refine RunC.sr ?_
      refine Run.mv ?_
      refine Run.mv ?_
      refine Run.m (y_len rfl Tryz.runUnderlying22 rfl) ?_
      refine Run.call0 (en_func rfl Tryz.call34 rfl) (c_cartridgeref10_Parity _ d (hd.mono ((hJo_le.trans hJp_le).trans hleJ15)) (b.length : Int) (by omega) (by omega) (by omega) hln) rfl rfl (by decide) (fun J20 o20 v20 hleJ20 hq20 => ?_)
      obtain ⟨rfl, cs20a, cs20b, rfl, h20a, h20b⟩ := hq20
      replace h20a : (tSl (tSl (tSl tU8))).rd J20 cs20a ((sParity d (b.length : Int)).1) := h20a
      obtain ⟨A20a_0, c20a_0, rfl, f20a_0⟩ := h20a
      have hsm20a_0 := f20a_0.small
      replace h20b : tInt.rd J20 cs20b ((sParity d (b.length : Int)).2) := h20b
      obtain ⟨rfl, f20b_0⟩ := h20b
      refine Run.mv ?_
      refine Run.m (y_extract rfl rfl rfl) ?_
      refine Run.m (y_extract rfl rfl rfl) ?_
      refine Run.as ?_
      refine Run.as ?_
      refine Run.nx ?_
      refine RunC.seq ?_
      refine RunC.sr ?_
      refine Run.mv ?_
      refine Run.m (v := .bool (decide ((sParity d (b.length : Int)).2 ≠ 0))) (y_bin rfl rfl rfl bn_neq) ?_
      refine Run.nx ?_
      refine RunC.cond rfl (fun hc8 => ?_) (fun hc8 => ?_)
      ·
       try simp only [z1, z2, z3, z4, z5, z6, z7, z8, z9, z10, z11, z12, z13, z14, z15, z16] at hc8
       have hgm : gMake d b n = ([], (sParity d (b.length : Int)).2) := by rw [gMake, if_neg (fun h => h hgc), if_pos hc8]
       refine RunC.sr ?_
       refine Run.mv ?_
       refine Run.as ?_
       refine Run.as ?_
       refine Run.nx ?_
       refine RunC.ret ?_
       refine RunQ.pass (fun h => by cases h) ?_
       refine RunQ.weak Sub.refl (perm_nil _) ?_
       refine RunQ.fin2 (.inl rfl) Tryz.results9 (rv_tmp rfl) (rv_tmp rfl) ?_
       exact ⟨rfl, _, _, rfl, (rd_eq (T := (tSl tTape)) (x := ([] : List ATape)) ⟨_, _, rfl, sl_nil0⟩ (by rw [hgm] <;> rfl)), (rd_eq (T := tInt) (x := (sParity d (b.length : Int)).2) ⟨rfl, f20b_0⟩ (by rw [hgm] <;> rfl))⟩
      ·
       try simp only [z1, z2, z3, z4, z5, z6, z7, z8, z9, z10, z11, z12, z13, z14, z15, z16] at hc8
       have hspl := sParity_len hc8
       refine RunC.skip ?_
       refine RunQ.next ?_
       refine RunC.sr ?_
       refine Run.as ?_
       refine Run.nx ?_
       refine RunC.seq ?_
       refine RunC.sr ?_
       refine Run.as ?_
       refine Run.nx ?_
       refine RunC.block ?_
       refine RunC.nilrow none 45 4 ?_
       obtain ⟨Inv5, hInv5⟩ : ∃ Inv : Nat → Act → World → Prop, ∀ mm aa ww, Inv mm aa ww ↔ (∃ (z : Nat) (iv : Int) (ot : List (ATape)) (Aot : Option Addr) (cot : Nat) (clot : List Value) (Jt : Imm), (J20.le Jt) ∧ (tTape.all Jt clot ot) ∧ (z ≤ b.length) ∧ (I64 iv) ∧ (ot.length = z) ∧ (gTapes (d.length : Int) (gSeal d b n) (sParity d (b.length : Int)).1 z (b.drop z) ot = gTapes (d.length : Int) (gSeal d b n) (sParity d (b.length : Int)).1 0 b []) ∧ (mm = (b.length - z)) ∧ Frm aa 231 [(0, .slice Ad d.length cd), (1, .slice Ab b.length cb), (8, .pointer (some ⟨g8_1, 0, none⟩)), (18, .slice A20a_0 (((sParity d (b.length : Int)).1).length) c20a_0), (21, .int .i64 (z : Int)), (20, .slice Aot ot.length cot)] ∧ S E ww Jt [row (.slice Aot ot.length cot) 45 4 clot, blk g8_1 [.int .i64 n, .int .i64 iv, .int .i64 (d.length : Int), .int .i64 (b.length : Int), .slice Ao2 o2.length co2] 38]) := ⟨_, fun _ _ _ => Iff.rfl⟩
       refine RunC.loopX Inv5 (fun aa ww hF hS => ⟨_, (hInv5 _ _ _).2 ⟨0, 0, ([] : List ATape), none, 0, [], J20, (Imm.le.refl _), all_nil, (by omega), (by decide), rfl, rfl, rfl, hF.sub (Sub.of rfl), hS.sub (perm_self _)⟩⟩) ?_
       intro mm5 aa ww hv
       obtain ⟨z, iv, ot, Aot, cot, clot, Jt, hJt_le, hot, hz, hiv, hotl, hg, hmm_, hF, hS⟩ := (hInv5 _ _ _).1 hv
       clear hv
       refine RunC.go ?_ hF hS
       clear hF hS aa ww
       refine RunC.seq ?_
       refine RunC.sr ?_
       refine Run.mv ?_
       refine Run.mv ?_
       refine Run.m (y_len rfl Tryz.runUnderlying22 rfl) ?_
       refine Run.m (v := .bool (decide ((z : Int) < (b.length : Int)))) (y_bin rfl rfl rfl bn_lss) ?_
       refine Run.nx ?_
       refine RunC.cond rfl (fun hc9 => ?_) (fun hc9 => ?_)
       ·
        try simp only [z1, z2, z3, z4, z5, z6, z7, z8, z9, z10, z11, z12, z13, z14, z15, z16] at hc9
        refine RunC.skip ?_
        refine RunQ.next ?_
        refine RunC.seq ?_
        refine RunC.block ?_
        refine RunC.seq ?_
        refine RunC.regionT [12] [] (by kernel_rfl) rfl ?_
        refine RunT.p (v := .slice Ab b.length cb) (listed' := #[true, false, false, false, false, false, false, false, false, false, false, false, false]) 0 rfl (by kernel_rfl) (by kernel_rfl) (by kernel_rfl) rfl (fun _ => ⟨(Imm.le.refl _), (perm_nil _)⟩) (y_move rfl rfl) (.plain rfl) rfl (by decide) rfl ?_
        refine RunT.p (v := .int .i64 (z : Int)) (listed' := #[true, true, false, false, false, false, false, false, false, false, false, false, false]) 1 rfl (by kernel_rfl) (by kernel_rfl) (by kernel_rfl) rfl (fun _ => ⟨(Imm.le.refl _), (perm_nil _)⟩) (y_move rfl rfl) (.plain rfl) rfl (by decide) rfl ?_
        obtain ⟨x160, p160_21, cs160_21, hx160, hp160_21, hcs160_21, hrc160_21⟩ := Sl.at_ (P := Tryz.prog) (T := tTape) Tryz.runUnderlying22 Tryz.sizeOf45 (hb.mono ((((hJo_le.trans hJp_le).trans hleJ15).trans hleJ20).trans hJt_le)) (k := .i64) (i := (z : Int)) (by omega) (by omega)
        replace hx160 : b[z]? = some x160 := hx160
        obtain ⟨A160_21_2, c160_21_2, rfl, f160_21_0, f160_21_1, f160_21_2⟩ := hcs160_21
        have hsm160_21_2 := f160_21_2.small
        have hzlt := (List.getElem?_eq_some_iff.1 hx160).1
        have hlab := seal_lab hok.1.1 (List.mem_of_getElem? hx160)
        obtain ⟨rz, hrz⟩ : ∃ r, (sParity d (b.length : Int)).1[z]? = some r := ⟨_, List.getElem?_eq_getElem (by omega)⟩
        have hrz79 : ∀ x ∈ rz, x.length ≤ 79 := fun x hx => sParity_cell (List.mem_of_getElem? hrz) hx
        have hrzl := sParity_row (List.mem_of_getElem? hrz)
        have hsr : sRight (sAt (gSeal d b n) ((d.length : Int) + (z : Int))) = true := sAt_right hok.1.1 (by omega) (by show (d.length : Int) + (z : Int) ≤ (d.length : Int) + (b.length : Int) - 1; omega)
        have hgt := gTape_all (t := x160) hlab hsr hrz79 (by omega)
        refine RunT.p (v := .pointer (some p160_21)) (listed' := #[true, true, true, false, false, false, false, false, false, false, false, false, false]) 2 rfl (by kernel_rfl) (by kernel_rfl) (by kernel_rfl) rfl (fun _ => ⟨(Imm.le.refl _), (perm_nil _)⟩) (y_index rfl rfl rfl hp160_21) (.plain rfl) rfl (by decide) rfl ?_
        refine RunT.p (v := .pointer (some p160_21)) (listed' := #[true, true, true, true, false, false, false, false, false, false, false, false, false]) 3 rfl (by kernel_rfl) (by kernel_rfl) (by kernel_rfl) rfl (fun _ => ⟨(Imm.le.refl _), (perm_nil _)⟩) (y_fieldAddr rfl rfl Tryz.runUnderlying45 rfl Tryz.sizeOf3 (by decide) (add_zero' _)) (.plain rfl) rfl (by decide) rfl ?_
        refine RunT.y (v := .int .i64 x160.label) (listed' := #[true, true, true, true, true, false, false, false, false, false, false, false, false]) 4 rfl (by kernel_rfl) (by kernel_rfl) (by kernel_rfl) (by kernel_rfl) rfl (Imm.le.refl _) (perm_nil _) (y_load1 rfl Tryz.isAgg3 rfl (RCells.hd hrc160_21)) (.plain rfl) rfl (by decide) rfl ?_
        refine RunT.p (v := .slice Ab b.length cb) (listed' := #[true, true, true, true, true, true, false, false, false, false, false, false, false]) 5 rfl (by kernel_rfl) (by kernel_rfl) (by kernel_rfl) rfl (fun _ => ⟨(Imm.le.refl _), (perm_nil _)⟩) (y_move rfl rfl) (.plain rfl) rfl (by decide) rfl ?_
        refine RunT.p (v := .int .i64 (z : Int)) (listed' := #[true, true, true, true, true, true, true, false, false, false, false, false, false]) 6 rfl (by kernel_rfl) (by kernel_rfl) (by kernel_rfl) rfl (fun _ => ⟨(Imm.le.refl _), (perm_nil _)⟩) (y_move rfl rfl) (.plain rfl) rfl (by decide) rfl ?_
        obtain ⟨x165, p165_22, cs165_22, hx165, hp165_22, hcs165_22, hrc165_22⟩ := Sl.at_ (P := Tryz.prog) (T := tTape) Tryz.runUnderlying22 Tryz.sizeOf45 (hb.mono ((((hJo_le.trans hJp_le).trans hleJ15).trans hleJ20).trans hJt_le)) (k := .i64) (i := (z : Int)) (by omega) (by omega)
        replace hx165 : b[z]? = some x165 := hx165
        obtain ⟨A165_22_2, c165_22_2, rfl, f165_22_0, f165_22_1, f165_22_2⟩ := hcs165_22
        have hsm165_22_2 := f165_22_2.small
        have e165 : x165 = x160 := Option.some.inj (hx165.symm.trans hx160)
        refine RunT.p (v := .pointer (some p165_22)) (listed' := #[true, true, true, true, true, true, true, true, false, false, false, false, false]) 7 rfl (by kernel_rfl) (by kernel_rfl) (by kernel_rfl) rfl (fun _ => ⟨(Imm.le.refl _), (perm_nil _)⟩) (y_index rfl rfl rfl hp165_22) (.plain rfl) rfl (by decide) rfl ?_
        refine RunT.p (v := .pointer (some (p165_22.add 1))) (listed' := #[true, true, true, true, true, true, true, true, true, false, false, false, false]) 8 rfl (by kernel_rfl) (by kernel_rfl) (by kernel_rfl) rfl (fun _ => ⟨(Imm.le.refl _), (perm_nil _)⟩) (y_fieldAddr rfl rfl Tryz.runUnderlying45 rfl Tryz.sizeOf3 (by decide) rfl) (.plain rfl) rfl (by decide) rfl ?_
        refine RunT.y (v := .int .i64 x165.cap) (listed' := #[true, true, true, true, true, true, true, true, true, true, false, false, false]) 9 rfl (by kernel_rfl) (by kernel_rfl) (by kernel_rfl) (by kernel_rfl) rfl (Imm.le.refl _) (perm_nil _) (y_load1 rfl Tryz.isAgg3 rfl (RCells.at_ hrc165_22 1 rfl rfl)) (.plain rfl) rfl (by decide) rfl ?_
        refine RunT.p (v := .agg [.int .i64 x160.label, .int .i64 x165.cap, .slice none 0 0, .bool false].toArray) (listed' := #[true, true, true, true, true, true, true, true, true, true, true, false, false]) 10 rfl (by kernel_rfl) (by kernel_rfl) (by kernel_rfl) rfl (fun _ => ⟨(Imm.le.refl _), (perm_nil _)⟩) (y_build (vs := [(0, .int .i64 x160.label), (1, .int .i64 x165.cap)]) rfl rfl (fun w => by simp [Instr.build, Tryz.zeroValue45, Tryz.runUnderlying45, Tryz.sizeOf3, Tryz.sizeOf4, Tryz.sizeOf43, Instr.fill, Value.cells])) (.plain rfl) rfl (by decide) rfl ?_
        refine RunT.step (listed' := #[true, true, true, true, true, true, true, true, true, true, true, true, false]) 11 rfl (by kernel_rfl) rfl ?_
        refine Run.alloc (cs := [.int .i64 0, .int .i64 0, .slice none 0 0, .bool false]) rfl Tryz.zeroValue45 rfl rfl rfl (by decide) (fun g22_23 => ?_)
        refine Run.nil ?_
        refine RunQ.stepEnd (fun _ => ⟨(Imm.le.refl _), (perm_nil _)⟩) ?_
        refine RunT.step (listed' := #[true, true, true, true, true, true, true, true, true, true, true, true, true]) 12 rfl (by kernel_rfl) rfl ?_
        refine Run.storeB (vs := [.int .i64 x160.label, .int .i64 x165.cap, .slice none 0 0, .bool false]) (cs' := [.int .i64 x160.label, .int .i64 x165.cap, .slice none 0 0, .bool false]) (own' := [row (.slice Aot ot.length cot) 45 4 clot, blk g8_1 [.int .i64 n, .int .i64 iv, .int .i64 (d.length : Int), .int .i64 (b.length : Int), .slice Ao2 o2.length co2] 38]) 0 rfl rfl rfl Tryz.sizeOf45 rfl rfl rfl rfl rfl (Nat.le_of_ble_eq_true rfl) rfl rfl rfl ?_
        refine Run.nil ?_
        refine RunQ.stepEnd (fun h => absurd (show false = true from h) Bool.false_ne_true) ?_
        refine RunT.done (by kernel_rfl) ?_
        refine RunQ.next ?_
        refine RunC.seq ?_
        refine RunC.regionT [10] [blk g22_23 [.int .i64 x160.label, .int .i64 x165.cap, .slice none 0 0, .bool false] 45] (by kernel_rfl) rfl ?_
        refine RunT.p (v := .pointer (some ⟨g22_23, 2, none⟩)) (listed' := #[true, false, false, false, false, false, false, false, false, false, false]) 0 rfl (by kernel_rfl) (by kernel_rfl) (by kernel_rfl) rfl (fun _ => ⟨(Imm.le.refl _), (perm_take (i := 0) rfl (perm_nil _))⟩) (y_fieldAddr rfl rfl Tryz.runUnderlying45 rfl Tryz.sizeOf43 (by decide) rfl) (.plain rfl) rfl (by decide) rfl ?_
        refine RunT.y (v := .slice none 0 0) (listed' := #[true, true, false, false, false, false, false, false, false, false, false]) 1 rfl (by kernel_rfl) (by kernel_rfl) (by kernel_rfl) (by kernel_rfl) rfl (Imm.le.refl _) (perm_take (i := 0) rfl (perm_nil _)) (y_loadB1 0 rfl Tryz.isAgg43 rfl rfl rfl) (.plain rfl) rfl (by decide) rfl ?_
        refine RunT.p (v := .pointer (some ⟨g22_23, 0, none⟩)) (listed' := #[true, true, true, false, false, false, false, false, false, false, false]) 2 rfl (by kernel_rfl) (by kernel_rfl) (by kernel_rfl) rfl (fun _ => ⟨(Imm.le.refl _), (perm_take (i := 0) rfl (perm_nil _))⟩) (y_fieldAddr rfl rfl Tryz.runUnderlying45 rfl Tryz.sizeOf3 (by decide) rfl) (.plain rfl) rfl (by decide) rfl ?_
        refine RunT.y (v := .int .i64 x160.label) (listed' := #[true, true, true, true, false, false, false, false, false, false, false]) 3 rfl (by kernel_rfl) (by kernel_rfl) (by kernel_rfl) (by kernel_rfl) rfl (Imm.le.refl _) (perm_take (i := 0) rfl (perm_nil _)) (y_loadB1 0 rfl Tryz.isAgg3 rfl rfl rfl) (.plain rfl) rfl (by decide) rfl ?_
        refine RunT.step (listed' := #[true, true, true, true, true, false, false, false, false, false, false]) 4 rfl (by kernel_rfl) rfl ?_
        refine Run.lit (vs := [(0, .int .u8 ((80 : UInt8).toNat : Int))]) (cs := [.int .u8 ((80 : UInt8).toNat : Int)]) (el := 5) (sz := 1) rfl rfl (fun w => by simp [Instr.buildSlice, Tryz.runUnderlying42, Tryz.sizeOf5, Tryz.zeroValue5, Instr.fill, Value.cells, newRow, (show Array.range 1 = #[0] from rfl)]) rfl (by simp [maxLen]) rfl rfl (by decide) (fun g173 => ?_)
        refine Run.nil ?_
        refine RunQ.stepEnd (fun _ => ⟨(Imm.le.refl _), (perm_take (i := 1) rfl (perm_nil _))⟩) ?_
        refine RunT.step (listed' := #[true, true, true, true, true, true, false, false, false, false, false]) 5 rfl (by kernel_rfl) rfl ?_
        have hlit24 : tU8.all Jt [.int .u8 ((80 : UInt8).toNat : Int)] [(80 : UInt8)] := (all_snoc (T := tU8) all_nil rfl)
        refine Run.convS (own' := [blk g22_23 [.int .i64 x160.label, .int .i64 x165.cap, .slice none 0 0, .bool false] 45, row (.slice Aot ot.length cot) 45 4 clot, blk g8_1 [.int .i64 n, .int .i64 iv, .int .i64 (d.length : Int), .int .i64 (b.length : Int), .slice Ao2 o2.length co2] 38]) 0 rfl rfl Tryz.underlying42 Tryz.underlying5 rfl rfl (by decide) rfl rfl (by decide) (fun J25 hleJ25 hfzJ25 => ?_)
        have hslJ25 : Sl tU8 J25 (some ⟨g173, 0, none⟩) 1 ([(80 : UInt8)]) := Sl.of_rowN hfzJ25 rfl rfl (hlit24.mono hleJ25)
        refine Run.nil ?_
        refine RunQ.stepEnd (fun _ => ⟨hleJ25, (perm_take (i := 0) rfl (perm_nil _))⟩) ?_
        refine RunT.step (listed' := #[true, true, true, true, true, true, true, false, false, false, false]) 6 rfl (by kernel_rfl) rfl ?_
        refine Run.call (own1 := []) (own2 := [blk g22_23 [.int .i64 x160.label, .int .i64 x165.cap, .slice none 0 0, .bool false] 45, row (.slice Aot ot.length cot) 45 4 clot, blk g8_1 [.int .i64 n, .int .i64 iv, .int .i64 (d.length : Int), .int .i64 (b.length : Int), .slice Ao2 o2.length co2] 38]) (en_func rfl Tryz.call35 rfl) (c_cartridgeref10_frame _ 1 (by omega) x160.label f160_21_0 0 (by omega) ([(80 : UInt8)]) hslJ25) (List.Perm.refl _) rfl rfl (by decide) (fun J26 o26 v26 hleJ26 hq26 => ?_)
        obtain ⟨yr26_0, Ar26_0, cr26_0, clr26_0, er26_0, rfl, rfl, hr26_0⟩ := hq26
        obtain rfl : (if uCheck ⟨(1 : Int), x160.label, (0 : Int), ([(80 : UInt8)])⟩ = 0 then fMade ⟨(1 : Int), x160.label, (0 : Int), ([(80 : UInt8)])⟩ else []) = yr26_0 := er26_0.symm
        refine Run.nil ?_
        refine RunQ.stepEnd (fun _ => ⟨(hleJ25.trans hleJ26), (perm_take (i := 1) rfl (perm_nil _))⟩) ?_
        refine RunT.step (listed' := #[true, true, true, true, true, true, true, true, false, false, false]) 7 rfl (by kernel_rfl) rfl ?_
        refine Run.freezeR 0 rfl (own' := [blk g22_23 [.int .i64 x160.label, .int .i64 x165.cap, .slice none 0 0, .bool false] 45, row (.slice Aot ot.length cot) 45 4 clot, blk g8_1 [.int .i64 n, .int .i64 iv, .int .i64 (d.length : Int), .int .i64 (b.length : Int), .slice Ao2 o2.length co2] 38]) rfl (fun J27 hleJ27 hfzJ27 => ?_)
        have hslJ27 : Sl tU8 J27 Ar26_0 cr26_0 (if uCheck ⟨(1 : Int), x160.label, (0 : Int), ([(80 : UInt8)])⟩ = 0 then fMade ⟨(1 : Int), x160.label, (0 : Int), ([(80 : UInt8)])⟩ else []) := Sl.of_rowN hfzJ27 rfl rfl (hr26_0.mono hleJ27)
        refine Run.lit (vs := [(0, .slice Ar26_0 ((if uCheck ⟨(1 : Int), x160.label, (0 : Int), ([(80 : UInt8)])⟩ = 0 then fMade ⟨(1 : Int), x160.label, (0 : Int), ([(80 : UInt8)])⟩ else []).length) cr26_0)]) (cs := [.slice Ar26_0 ((if uCheck ⟨(1 : Int), x160.label, (0 : Int), ([(80 : UInt8)])⟩ = 0 then fMade ⟨(1 : Int), x160.label, (0 : Int), ([(80 : UInt8)])⟩ else []).length) cr26_0]) (el := 42) (sz := 1) rfl rfl (fun w => by simp [Instr.buildSlice, Tryz.runUnderlying43, Tryz.sizeOf42, Tryz.zeroValue42, Instr.fill, Value.cells, newRow, (show Array.range 1 = #[0] from rfl)]) rfl (by simp [maxLen]) rfl rfl (by decide) (fun g176 => ?_)
        refine Run.nil ?_
        refine RunQ.stepEnd (fun _ => ⟨((hleJ25.trans hleJ26).trans hleJ27), (perm_take (i := 1) rfl (perm_nil _))⟩) ?_
        refine RunT.step (listed' := #[true, true, true, true, true, true, true, true, true, false, false]) 8 rfl (by kernel_rfl) rfl ?_
        refine Run.nilrow none 42 1 ?_
        have hlit28 : (tSl tU8).all J27 [.slice Ar26_0 ((if uCheck ⟨(1 : Int), x160.label, (0 : Int), ([(80 : UInt8)])⟩ = 0 then fMade ⟨(1 : Int), x160.label, (0 : Int), ([(80 : UInt8)])⟩ else []).length) cr26_0] [(if uCheck ⟨(1 : Int), x160.label, (0 : Int), ([(80 : UInt8)])⟩ = 0 then fMade ⟨(1 : Int), x160.label, (0 : Int), ([(80 : UInt8)])⟩ else [])] := (all_snoc (T := (tSl tU8)) all_nil ⟨_, _, rfl, hslJ27⟩)
        have hall29 : (tSl tU8).all J27 (([]) ++ ([.slice Ar26_0 ((if uCheck ⟨(1 : Int), x160.label, (0 : Int), ([(80 : UInt8)])⟩ = 0 then fMade ⟨(1 : Int), x160.label, (0 : Int), ([(80 : UInt8)])⟩ else []).length) cr26_0])) (([] : List (List UInt8)) ++ ([(if uCheck ⟨(1 : Int), x160.label, (0 : Int), ([(80 : UInt8)])⟩ = 0 then fMade ⟨(1 : Int), x160.label, (0 : Int), ([(80 : UInt8)])⟩ else [])])) := all_append all_nil hlit28
        refine Run.append (by_ := 24) (ys := [.slice Ar26_0 ((if uCheck ⟨(1 : Int), x160.label, (0 : Int), ([(80 : UInt8)])⟩ = 0 then fMade ⟨(1 : Int), x160.label, (0 : Int), ([(80 : UInt8)])⟩ else []).length) cr26_0]) (k := 1) (own' := [row (.slice (some ⟨g176, 0, none⟩) 1 1) 42 1 ([.slice Ar26_0 ((if uCheck ⟨(1 : Int), x160.label, (0 : Int), ([(80 : UInt8)])⟩ = 0 then fMade ⟨(1 : Int), x160.label, (0 : Int), ([(80 : UInt8)])⟩ else []).length) cr26_0]), blk g22_23 [.int .i64 x160.label, .int .i64 x165.cap, .slice none 0 0, .bool false] 45, row (.slice Aot ot.length cot) 45 4 clot, blk g8_1 [.int .i64 n, .int .i64 iv, .int .i64 (d.length : Int), .int .i64 (b.length : Int), .slice Ao2 o2.length co2] 38]) 0 rfl rfl rfl Tryz.runUnderlying43 (.inl Tryz.runUnderlying43) Tryz.sizeOf42 Tryz.typeInfo42 rfl Tryz.zeroValue42 rfl rfl rfl (fun w hS => src_own hS (i := 1) rfl) (row_len hlit28 (by first | rfl | (simp; done) | (simp; omega)) rfl) (all_one hlit28) ((([] : List (List UInt8)) ++ ([(if uCheck ⟨(1 : Int), x160.label, (0 : Int), ([(80 : UInt8)])⟩ = 0 then fMade ⟨(1 : Int), x160.label, (0 : Int), ([(80 : UInt8)])⟩ else [])])).length) (by first | (simp; done) | (simp; omega)) (by first | (rw [List.length_append]; simp only [List.length_singleton, List.length_nil]; omega) | omega) (by first | (rw [List.length_append]; simp only [List.length_singleton, List.length_nil, maxLen]; omega) | (simp [maxLen]; omega)) rfl rfl (by decide) (fun A177_29 c177_29 => ?_)
        refine Run.weak Sub.refl (perm_take (i := 0) rfl (perm_take (i := 1) rfl (perm_take (i := 1) rfl (perm_take (i := 1) rfl (perm_nil _))))) ?_
        refine Run.nil ?_
        refine RunQ.stepEnd (fun _ => ⟨((hleJ25.trans hleJ26).trans hleJ27), (perm_take (i := 1) rfl (perm_nil _))⟩) ?_
        refine RunT.p (v := .pointer (some ⟨g22_23, 2, none⟩)) (listed' := #[true, true, true, true, true, true, true, true, true, true, false]) 9 rfl (by kernel_rfl) (by kernel_rfl) (by kernel_rfl) rfl (fun _ => ⟨((hleJ25.trans hleJ26).trans hleJ27), (perm_take (i := 1) rfl (perm_nil _))⟩) (y_fieldAddr rfl rfl Tryz.runUnderlying45 rfl Tryz.sizeOf43 (by decide) rfl) (.plain rfl) rfl (by decide) rfl ?_
        refine RunT.step (listed' := #[true, true, true, true, true, true, true, true, true, true, true]) 10 rfl (by kernel_rfl) rfl ?_
        refine Run.storeB (vs := [.slice A177_29 ((([] : List (List UInt8)) ++ ([(if uCheck ⟨(1 : Int), x160.label, (0 : Int), ([(80 : UInt8)])⟩ = 0 then fMade ⟨(1 : Int), x160.label, (0 : Int), ([(80 : UInt8)])⟩ else [])])).length) c177_29]) (cs' := [.int .i64 x160.label, .int .i64 x165.cap, .slice A177_29 ((([] : List (List UInt8)) ++ ([(if uCheck ⟨(1 : Int), x160.label, (0 : Int), ([(80 : UInt8)])⟩ = 0 then fMade ⟨(1 : Int), x160.label, (0 : Int), ([(80 : UInt8)])⟩ else [])])).length) c177_29, .bool false]) (own' := [row (.slice A177_29 ((([] : List (List UInt8)) ++ ([(if uCheck ⟨(1 : Int), x160.label, (0 : Int), ([(80 : UInt8)])⟩ = 0 then fMade ⟨(1 : Int), x160.label, (0 : Int), ([(80 : UInt8)])⟩ else [])])).length) c177_29) 42 1 (([]) ++ ([.slice Ar26_0 ((if uCheck ⟨(1 : Int), x160.label, (0 : Int), ([(80 : UInt8)])⟩ = 0 then fMade ⟨(1 : Int), x160.label, (0 : Int), ([(80 : UInt8)])⟩ else []).length) cr26_0])), row (.slice Aot ot.length cot) 45 4 clot, blk g8_1 [.int .i64 n, .int .i64 iv, .int .i64 (d.length : Int), .int .i64 (b.length : Int), .slice Ao2 o2.length co2] 38]) 1 rfl rfl rfl Tryz.sizeOf43 rfl rfl rfl rfl rfl (Nat.le_of_ble_eq_true rfl) rfl rfl rfl ?_
        refine Run.nil ?_
        refine RunQ.stepEnd (fun h => absurd (show false = true from h) Bool.false_ne_true) ?_
        refine RunT.done (by kernel_rfl) ?_
        refine RunQ.next ?_
        refine RunC.seq ?_
        refine RunC.sr ?_
        refine Run.as ?_
        refine Run.nx ?_
        refine RunC.block ?_
        obtain ⟨Inv6, hInv6⟩ : ∃ Inv : Nat → Act → World → Prop, ∀ mm aa ww, Inv mm aa ww ↔ (∃ (y : Nat) (f : List (List UInt8)) (Af : Option Addr) (cf : Nat) (clf : List Value) (Jf : Imm), (J27.le Jf) ∧ ((tSl tU8).all Jf clf f) ∧ (y ≤ rz.length) ∧ (f = rFr x160 (rz.take y)) ∧ (f.length = y + 1) ∧ (mm = (rz.length - y)) ∧ Frm aa 231 [(0, .slice Ad d.length cd), (1, .slice Ab b.length cb), (8, .pointer (some ⟨g8_1, 0, none⟩)), (18, .slice A20a_0 (((sParity d (b.length : Int)).1).length) c20a_0), (21, .int .i64 (z : Int)), (20, .slice Aot ot.length cot), (152, .int .i64 (z : Int)), (153, .slice Ab b.length cb), (154, .int .i64 (b.length : Int)), (155, .bool (decide ((z : Int) < (b.length : Int)))), (158, .slice Ab b.length cb), (159, .int .i64 (z : Int)), (160, .pointer (some p160_21)), (161, .pointer (some p160_21)), (162, .int .i64 x160.label), (163, .slice Ab b.length cb), (164, .int .i64 (z : Int)), (165, .pointer (some p165_22)), (166, .pointer (some (p165_22.add 1))), (167, .int .i64 x165.cap), (168, .agg [.int .i64 x160.label, .int .i64 x165.cap, .slice none 0 0, .bool false].toArray), (22, .pointer (some ⟨g22_23, 0, none⟩)), (169, .pointer (some ⟨g22_23, 2, none⟩)), (170, .slice none 0 0), (171, .pointer (some ⟨g22_23, 0, none⟩)), (172, .int .i64 x160.label), (173, .slice (some ⟨g173, 0, none⟩) 1 1), (174, .slice (some ⟨g173, 0, none⟩) 1 1), (175, .slice Ar26_0 ((if uCheck ⟨(1 : Int), x160.label, (0 : Int), ([(80 : UInt8)])⟩ = 0 then fMade ⟨(1 : Int), x160.label, (0 : Int), ([(80 : UInt8)])⟩ else []).length) cr26_0), (176, .slice (some ⟨g176, 0, none⟩) 1 1), (177, .slice A177_29 ((([] : List (List UInt8)) ++ ([(if uCheck ⟨(1 : Int), x160.label, (0 : Int), ([(80 : UInt8)])⟩ = 0 then fMade ⟨(1 : Int), x160.label, (0 : Int), ([(80 : UInt8)])⟩ else [])])).length) c177_29), (178, .pointer (some ⟨g22_23, 2, none⟩)), (23, .int .i64 (y : Int))] ∧ S E ww Jf [blk g22_23 [.int .i64 x160.label, .int .i64 x165.cap, .slice Af f.length cf, .bool false] 45, row (.slice Af f.length cf) 42 1 clf, row (.slice Aot ot.length cot) 45 4 clot, blk g8_1 [.int .i64 n, .int .i64 iv, .int .i64 (d.length : Int), .int .i64 (b.length : Int), .slice Ao2 o2.length co2] 38]) := ⟨_, fun _ _ _ => Iff.rfl⟩
        refine RunC.loopX Inv6 (fun aa ww hF hS => ⟨_, (hInv6 _ _ _).2 ⟨0, (([] : List (List UInt8)) ++ ([(if uCheck ⟨(1 : Int), x160.label, (0 : Int), ([(80 : UInt8)])⟩ = 0 then fMade ⟨(1 : Int), x160.label, (0 : Int), ([(80 : UInt8)])⟩ else [])])), A177_29, c177_29, ([]) ++ ([.slice Ar26_0 ((if uCheck ⟨(1 : Int), x160.label, (0 : Int), ([(80 : UInt8)])⟩ = 0 then fMade ⟨(1 : Int), x160.label, (0 : Int), ([(80 : UInt8)])⟩ else []).length) cr26_0]), J27, (Imm.le.refl _), hall29, (by omega), (by rw [if_pos (chk_1 hlab)]; rfl), (by simp), rfl, hF.sub (Sub.of rfl), hS.sub (perm_self _)⟩⟩) ?_
        intro mm6 aa ww hv
        obtain ⟨y, f, Af, cf, clf, Jf, hJf_le, hf, hy, hf_, hfl, hmm_, hF, hS⟩ := (hInv6 _ _ _).1 hv
        clear hv
        refine RunC.go ?_ hF hS
        clear hF hS aa ww
        refine RunC.seq ?_
        refine RunC.sr ?_
        refine Run.mv ?_
        refine Run.mv ?_
        refine Run.mv ?_
        obtain ⟨x182, p182_30, cs182_30, hx182, hp182_30, hcs182_30, hrc182_30⟩ := Sl.at_ (P := Tryz.prog) (T := (tSl (tSl tU8))) Tryz.runUnderlying75 Tryz.sizeOf43 (f20a_0.mono ((((hJt_le.trans hleJ25).trans hleJ26).trans hleJ27).trans hJf_le)) (k := .i64) (i := (z : Int)) (by omega) (by omega)
        replace hx182 : ((sParity d (b.length : Int)).1)[z]? = some x182 := hx182
        obtain ⟨A182_30_0, c182_30_0, rfl, f182_30_0⟩ := hcs182_30
        have hsm182_30_0 := f182_30_0.small
        have e182 : x182 = rz := Option.some.inj (hx182.symm.trans hrz)
        have e182l := congrArg List.length e182
        refine Run.m (v := .pointer (some p182_30)) (y_index rfl rfl rfl hp182_30) ?_
        refine Run.m (v := .slice A182_30_0 x182.length c182_30_0) (y_load1 rfl Tryz.isAgg43 rfl (RCells.hd hrc182_30)) ?_
        refine Run.m (y_len rfl Tryz.runUnderlying43 rfl) ?_
        refine Run.m (v := .bool (decide ((y : Int) < (x182.length : Int)))) (y_bin rfl rfl rfl bn_lss) ?_
        refine Run.nx ?_
        refine RunC.cond rfl (fun hc10 => ?_) (fun hc10 => ?_)
        ·
         try simp only [z1, z2, z3, z4, z5, z6, z7, z8, z9, z10, z11, z12, z13, z14, z15, z16] at hc10
         refine RunC.skip ?_
         refine RunQ.next ?_
         refine RunC.seq ?_
         refine RunC.block ?_
         refine RunC.regionT [17] [blk g22_23 [.int .i64 x160.label, .int .i64 x165.cap, .slice Af f.length cf, .bool false] 45] (by kernel_rfl) rfl ?_
         refine RunT.p (v := .pointer (some ⟨g22_23, 2, none⟩)) (listed' := #[true, false, false, false, false, false, false, false, false, false, false, false, false, false, false, false, false, false]) 0 rfl (by kernel_rfl) (by kernel_rfl) (by kernel_rfl) rfl (fun _ => ⟨(Imm.le.refl _), (perm_take (i := 0) rfl (perm_nil _))⟩) (y_fieldAddr rfl rfl Tryz.runUnderlying45 rfl Tryz.sizeOf43 (by decide) rfl) (.plain rfl) rfl (by decide) rfl ?_
         refine RunT.y (v := .slice Af f.length cf) (listed' := #[true, true, false, false, false, false, false, false, false, false, false, false, false, false, false, false, false, false]) 1 rfl (by kernel_rfl) (by kernel_rfl) (by kernel_rfl) (by kernel_rfl) rfl (Imm.le.refl _) (perm_take (i := 0) rfl (perm_nil _)) (y_loadB1 0 rfl Tryz.isAgg43 rfl rfl rfl) (.plain rfl) rfl (by decide) rfl ?_
         refine RunT.p (v := .pointer (some ⟨g22_23, 0, none⟩)) (listed' := #[true, true, true, false, false, false, false, false, false, false, false, false, false, false, false, false, false, false]) 2 rfl (by kernel_rfl) (by kernel_rfl) (by kernel_rfl) rfl (fun _ => ⟨(Imm.le.refl _), (perm_take (i := 0) rfl (perm_nil _))⟩) (y_fieldAddr rfl rfl Tryz.runUnderlying45 rfl Tryz.sizeOf3 (by decide) rfl) (.plain rfl) rfl (by decide) rfl ?_
         refine RunT.y (v := .int .i64 x160.label) (listed' := #[true, true, true, true, false, false, false, false, false, false, false, false, false, false, false, false, false, false]) 3 rfl (by kernel_rfl) (by kernel_rfl) (by kernel_rfl) (by kernel_rfl) rfl (Imm.le.refl _) (perm_take (i := 0) rfl (perm_nil _)) (y_loadB1 0 rfl Tryz.isAgg3 rfl rfl rfl) (.plain rfl) rfl (by decide) rfl ?_
         refine RunT.p (v := .int .i64 (y : Int)) (listed' := #[true, true, true, true, true, false, false, false, false, false, false, false, false, false, false, false, false, false]) 4 rfl (by kernel_rfl) (by kernel_rfl) (by kernel_rfl) rfl (fun _ => ⟨(Imm.le.refl _), (perm_take (i := 0) rfl (perm_nil _))⟩) (y_move rfl rfl) (.plain rfl) rfl (by decide) rfl ?_
         refine RunT.p (v := .int .i64 ((y : Int) + 1)) (listed' := #[true, true, true, true, true, true, false, false, false, false, false, false, false, false, false, false, false, false]) 5 rfl (by kernel_rfl) (by kernel_rfl) (by kernel_rfl) rfl (fun _ => ⟨(Imm.le.refl _), (perm_take (i := 0) rfl (perm_nil _))⟩) (y_bin rfl rfl rfl (bn_add (by omega) (by omega))) (.plain rfl) rfl (by decide) rfl ?_
         refine RunT.p (v := .slice A20a_0 (((sParity d (b.length : Int)).1).length) c20a_0) (listed' := #[true, true, true, true, true, true, true, false, false, false, false, false, false, false, false, false, false, false]) 6 rfl (by kernel_rfl) (by kernel_rfl) (by kernel_rfl) rfl (fun _ => ⟨(Imm.le.refl _), (perm_take (i := 0) rfl (perm_nil _))⟩) (y_move rfl rfl) (.plain rfl) rfl (by decide) rfl ?_
         refine RunT.p (v := .int .i64 (z : Int)) (listed' := #[true, true, true, true, true, true, true, true, false, false, false, false, false, false, false, false, false, false]) 7 rfl (by kernel_rfl) (by kernel_rfl) (by kernel_rfl) rfl (fun _ => ⟨(Imm.le.refl _), (perm_take (i := 0) rfl (perm_nil _))⟩) (y_move rfl rfl) (.plain rfl) rfl (by decide) rfl ?_
         obtain ⟨x196, p196_31, cs196_31, hx196, hp196_31, hcs196_31, hrc196_31⟩ := Sl.at_ (P := Tryz.prog) (T := (tSl (tSl tU8))) Tryz.runUnderlying75 Tryz.sizeOf43 (f20a_0.mono ((((hJt_le.trans hleJ25).trans hleJ26).trans hleJ27).trans hJf_le)) (k := .i64) (i := (z : Int)) (by omega) (by omega)
         replace hx196 : ((sParity d (b.length : Int)).1)[z]? = some x196 := hx196
         obtain ⟨A196_31_0, c196_31_0, rfl, f196_31_0⟩ := hcs196_31
         have hsm196_31_0 := f196_31_0.small
         have e196 : x196 = rz := Option.some.inj (hx196.symm.trans hrz)
         have e196l := congrArg List.length e196
         refine RunT.p (v := .pointer (some p196_31)) (listed' := #[true, true, true, true, true, true, true, true, true, false, false, false, false, false, false, false, false, false]) 8 rfl (by kernel_rfl) (by kernel_rfl) (by kernel_rfl) rfl (fun _ => ⟨(Imm.le.refl _), (perm_take (i := 0) rfl (perm_nil _))⟩) (y_index rfl rfl rfl hp196_31) (.plain rfl) rfl (by decide) rfl ?_
         refine RunT.y (v := .slice A196_31_0 x196.length c196_31_0) (listed' := #[true, true, true, true, true, true, true, true, true, true, false, false, false, false, false, false, false, false]) 9 rfl (by kernel_rfl) (by kernel_rfl) (by kernel_rfl) (by kernel_rfl) rfl (Imm.le.refl _) (perm_take (i := 0) rfl (perm_nil _)) (y_load1 rfl Tryz.isAgg43 rfl (RCells.hd hrc196_31)) (.plain rfl) rfl (by decide) rfl ?_
         refine RunT.p (v := .int .i64 (y : Int)) (listed' := #[true, true, true, true, true, true, true, true, true, true, true, false, false, false, false, false, false, false]) 10 rfl (by kernel_rfl) (by kernel_rfl) (by kernel_rfl) rfl (fun _ => ⟨(Imm.le.refl _), (perm_take (i := 0) rfl (perm_nil _))⟩) (y_move rfl rfl) (.plain rfl) rfl (by decide) rfl ?_
         obtain ⟨x199, p199_32, cs199_32, hx199, hp199_32, hcs199_32, hrc199_32⟩ := Sl.at_ (P := Tryz.prog) (T := (tSl tU8)) Tryz.runUnderlying43 Tryz.sizeOf42 f196_31_0 (k := .i64) (i := (y : Int)) (by omega) (by omega)
         replace hx199 : x196[y]? = some x199 := hx199
         obtain ⟨A199_32_0, c199_32_0, rfl, f199_32_0⟩ := hcs199_32
         have hsm199_32_0 := f199_32_0.small
         rw [e196] at hx199
         refine RunT.p (v := .pointer (some p199_32)) (listed' := #[true, true, true, true, true, true, true, true, true, true, true, true, false, false, false, false, false, false]) 11 rfl (by kernel_rfl) (by kernel_rfl) (by kernel_rfl) rfl (fun _ => ⟨(Imm.le.refl _), (perm_take (i := 0) rfl (perm_nil _))⟩) (y_index rfl rfl rfl hp199_32) (.plain rfl) rfl (by decide) rfl ?_
         refine RunT.y (v := .slice A199_32_0 x199.length c199_32_0) (listed' := #[true, true, true, true, true, true, true, true, true, true, true, true, true, false, false, false, false, false]) 12 rfl (by kernel_rfl) (by kernel_rfl) (by kernel_rfl) (by kernel_rfl) rfl (Imm.le.refl _) (perm_take (i := 0) rfl (perm_nil _)) (y_load1 rfl Tryz.isAgg42 rfl (RCells.hd hrc199_32)) (.plain rfl) rfl (by decide) rfl ?_
         refine RunT.step (listed' := #[true, true, true, true, true, true, true, true, true, true, true, true, true, true, false, false, false, false]) 13 rfl (by kernel_rfl) rfl ?_
         refine Run.call (own1 := []) (own2 := [blk g22_23 [.int .i64 x160.label, .int .i64 x165.cap, .slice Af f.length cf, .bool false] 45, row (.slice Af f.length cf) 42 1 clf, row (.slice Aot ot.length cot) 45 4 clot, blk g8_1 [.int .i64 n, .int .i64 iv, .int .i64 (d.length : Int), .int .i64 (b.length : Int), .slice Ao2 o2.length co2] 38]) (en_func rfl Tryz.call35 rfl) (c_cartridgeref10_frame _ 6 (by omega) x160.label f160_21_0 ((y : Int) + 1) (by omega) x199 f199_32_0) (List.Perm.refl _) rfl rfl (by decide) (fun J33 o33 v33 hleJ33 hq33 => ?_)
         obtain ⟨yr33_0, Ar33_0, cr33_0, clr33_0, er33_0, rfl, rfl, hr33_0⟩ := hq33
         obtain rfl : (if uCheck ⟨(6 : Int), x160.label, ((y : Int) + 1), x199⟩ = 0 then fMade ⟨(6 : Int), x160.label, ((y : Int) + 1), x199⟩ else []) = yr33_0 := er33_0.symm
         refine Run.nil ?_
         refine RunQ.stepEnd (fun _ => ⟨hleJ33, (perm_take (i := 1) rfl (perm_nil _))⟩) ?_
         refine RunT.step (listed' := #[true, true, true, true, true, true, true, true, true, true, true, true, true, true, true, false, false, false]) 14 rfl (by kernel_rfl) rfl ?_
         refine Run.freezeR 0 rfl (own' := [blk g22_23 [.int .i64 x160.label, .int .i64 x165.cap, .slice Af f.length cf, .bool false] 45, row (.slice Af f.length cf) 42 1 clf, row (.slice Aot ot.length cot) 45 4 clot, blk g8_1 [.int .i64 n, .int .i64 iv, .int .i64 (d.length : Int), .int .i64 (b.length : Int), .slice Ao2 o2.length co2] 38]) rfl (fun J34 hleJ34 hfzJ34 => ?_)
         have hslJ34 : Sl tU8 J34 Ar33_0 cr33_0 (if uCheck ⟨(6 : Int), x160.label, ((y : Int) + 1), x199⟩ = 0 then fMade ⟨(6 : Int), x160.label, ((y : Int) + 1), x199⟩ else []) := Sl.of_rowN hfzJ34 rfl rfl (hr33_0.mono hleJ34)
         refine Run.lit (vs := [(0, .slice Ar33_0 ((if uCheck ⟨(6 : Int), x160.label, ((y : Int) + 1), x199⟩ = 0 then fMade ⟨(6 : Int), x160.label, ((y : Int) + 1), x199⟩ else []).length) cr33_0)]) (cs := [.slice Ar33_0 ((if uCheck ⟨(6 : Int), x160.label, ((y : Int) + 1), x199⟩ = 0 then fMade ⟨(6 : Int), x160.label, ((y : Int) + 1), x199⟩ else []).length) cr33_0]) (el := 42) (sz := 1) rfl rfl (fun w => by simp [Instr.buildSlice, Tryz.runUnderlying43, Tryz.sizeOf42, Tryz.zeroValue42, Instr.fill, Value.cells, newRow, (show Array.range 1 = #[0] from rfl)]) rfl (by simp [maxLen]) rfl rfl (by decide) (fun g202 => ?_)
         refine Run.nil ?_
         refine RunQ.stepEnd (fun _ => ⟨(hleJ33.trans hleJ34), (perm_take (i := 1) rfl (perm_nil _))⟩) ?_
         refine RunT.step (listed' := #[true, true, true, true, true, true, true, true, true, true, true, true, true, true, true, true, false, false]) 15 rfl (by kernel_rfl) rfl ?_
         have hlit35 : (tSl tU8).all J34 [.slice Ar33_0 ((if uCheck ⟨(6 : Int), x160.label, ((y : Int) + 1), x199⟩ = 0 then fMade ⟨(6 : Int), x160.label, ((y : Int) + 1), x199⟩ else []).length) cr33_0] [(if uCheck ⟨(6 : Int), x160.label, ((y : Int) + 1), x199⟩ = 0 then fMade ⟨(6 : Int), x160.label, ((y : Int) + 1), x199⟩ else [])] := (all_snoc (T := (tSl tU8)) all_nil ⟨_, _, rfl, hslJ34⟩)
         have hall36 : (tSl tU8).all J34 (clf ++ ([.slice Ar33_0 ((if uCheck ⟨(6 : Int), x160.label, ((y : Int) + 1), x199⟩ = 0 then fMade ⟨(6 : Int), x160.label, ((y : Int) + 1), x199⟩ else []).length) cr33_0])) (f ++ ([(if uCheck ⟨(6 : Int), x160.label, ((y : Int) + 1), x199⟩ = 0 then fMade ⟨(6 : Int), x160.label, ((y : Int) + 1), x199⟩ else [])])) := all_append (hf.mono (hleJ33.trans hleJ34)) hlit35
         refine Run.append (by_ := 24) (ys := [.slice Ar33_0 ((if uCheck ⟨(6 : Int), x160.label, ((y : Int) + 1), x199⟩ = 0 then fMade ⟨(6 : Int), x160.label, ((y : Int) + 1), x199⟩ else []).length) cr33_0]) (k := 1) (own' := [row (.slice (some ⟨g202, 0, none⟩) 1 1) 42 1 ([.slice Ar33_0 ((if uCheck ⟨(6 : Int), x160.label, ((y : Int) + 1), x199⟩ = 0 then fMade ⟨(6 : Int), x160.label, ((y : Int) + 1), x199⟩ else []).length) cr33_0]), blk g22_23 [.int .i64 x160.label, .int .i64 x165.cap, .slice Af f.length cf, .bool false] 45, row (.slice Aot ot.length cot) 45 4 clot, blk g8_1 [.int .i64 n, .int .i64 iv, .int .i64 (d.length : Int), .int .i64 (b.length : Int), .slice Ao2 o2.length co2] 38]) 2 rfl rfl rfl Tryz.runUnderlying43 (.inl Tryz.runUnderlying43) Tryz.sizeOf42 Tryz.typeInfo42 rfl Tryz.zeroValue42 rfl rfl rfl (fun w hS => src_own hS (i := 0) rfl) (row_len hlit35 (by first | rfl | (simp; done) | (simp; omega)) rfl) (all_one hlit35) ((f ++ ([(if uCheck ⟨(6 : Int), x160.label, ((y : Int) + 1), x199⟩ = 0 then fMade ⟨(6 : Int), x160.label, ((y : Int) + 1), x199⟩ else [])])).length) (by first | (simp; done) | (simp; omega)) (by first | (rw [List.length_append]; simp only [List.length_singleton, List.length_nil]; omega) | omega) (by first | (rw [List.length_append]; simp only [List.length_singleton, List.length_nil, maxLen]; omega) | (simp [maxLen]; omega)) rfl rfl (by decide) (fun A203_36 c203_36 => ?_)
         refine Run.weak Sub.refl (perm_take (i := 0) rfl (perm_take (i := 1) rfl (perm_take (i := 1) rfl (perm_take (i := 1) rfl (perm_nil _))))) ?_
         refine Run.nil ?_
         refine RunQ.stepEnd (fun _ => ⟨(hleJ33.trans hleJ34), (perm_take (i := 1) rfl (perm_nil _))⟩) ?_
         refine RunT.p (v := .pointer (some ⟨g22_23, 2, none⟩)) (listed' := #[true, true, true, true, true, true, true, true, true, true, true, true, true, true, true, true, true, false]) 16 rfl (by kernel_rfl) (by kernel_rfl) (by kernel_rfl) rfl (fun _ => ⟨(hleJ33.trans hleJ34), (perm_take (i := 1) rfl (perm_nil _))⟩) (y_fieldAddr rfl rfl Tryz.runUnderlying45 rfl Tryz.sizeOf43 (by decide) rfl) (.plain rfl) rfl (by decide) rfl ?_
         refine RunT.step (listed' := #[true, true, true, true, true, true, true, true, true, true, true, true, true, true, true, true, true, true]) 17 rfl (by kernel_rfl) rfl ?_
         refine Run.storeB (vs := [.slice A203_36 ((f ++ ([(if uCheck ⟨(6 : Int), x160.label, ((y : Int) + 1), x199⟩ = 0 then fMade ⟨(6 : Int), x160.label, ((y : Int) + 1), x199⟩ else [])])).length) c203_36]) (cs' := [.int .i64 x160.label, .int .i64 x165.cap, .slice A203_36 ((f ++ ([(if uCheck ⟨(6 : Int), x160.label, ((y : Int) + 1), x199⟩ = 0 then fMade ⟨(6 : Int), x160.label, ((y : Int) + 1), x199⟩ else [])])).length) c203_36, .bool false]) (own' := [row (.slice A203_36 ((f ++ ([(if uCheck ⟨(6 : Int), x160.label, ((y : Int) + 1), x199⟩ = 0 then fMade ⟨(6 : Int), x160.label, ((y : Int) + 1), x199⟩ else [])])).length) c203_36) 42 1 (clf ++ ([.slice Ar33_0 ((if uCheck ⟨(6 : Int), x160.label, ((y : Int) + 1), x199⟩ = 0 then fMade ⟨(6 : Int), x160.label, ((y : Int) + 1), x199⟩ else []).length) cr33_0])), row (.slice Aot ot.length cot) 45 4 clot, blk g8_1 [.int .i64 n, .int .i64 iv, .int .i64 (d.length : Int), .int .i64 (b.length : Int), .slice Ao2 o2.length co2] 38]) 1 rfl rfl rfl Tryz.sizeOf43 rfl rfl rfl rfl rfl (Nat.le_of_ble_eq_true rfl) rfl rfl rfl ?_
         refine Run.nil ?_
         refine RunQ.stepEnd (fun h => absurd (show false = true from h) Bool.false_ne_true) ?_
         refine RunT.done (by kernel_rfl) ?_
         refine RunQ.inB ?_
         refine RunQ.next ?_
         refine RunC.region ?_
         refine Run.mv ?_
         refine Run.m (v := .int .i64 ((y : Int) + 1)) (y_bin rfl rfl rfl (bn_add (by omega) (by omega))) ?_
         refine Run.as ?_
         refine Run.nil ?_
         exact RunQ.thenI (fun aa ww hF hS => ⟨_, (by omega), (hInv6 _ _ _).2 ⟨(y + 1), (f ++ ([(if uCheck ⟨(6 : Int), x160.label, ((y : Int) + 1), x199⟩ = 0 then fMade ⟨(6 : Int), x160.label, ((y : Int) + 1), x199⟩ else [])])), A203_36, c203_36, clf ++ ([.slice Ar33_0 ((if uCheck ⟨(6 : Int), x160.label, ((y : Int) + 1), x199⟩ = 0 then fMade ⟨(6 : Int), x160.label, ((y : Int) + 1), x199⟩ else []).length) cr33_0]), J34, ((hJf_le.trans hleJ33).trans hleJ34), hall36, (by omega), (by rw [take_snoc' hx199, rFr_snoc, ← hf_, if_pos (chk_6 hlab (by omega) (hrz79 _ (List.mem_of_getElem? hx199))), List.length_take, Nat.min_eq_left (by omega)]), (by simp; omega), rfl, hF.sub (Sub.of rfl), hS.sub (perm_self _)⟩⟩)
        ·
         try simp only [z1, z2, z3, z4, z5, z6, z7, z8, z9, z10, z11, z12, z13, z14, z15, z16] at hc10
         refine RunC.exit ?_
         refine RunQ.pass (fun h => by cases h) ?_
         refine RunQ.pass (fun h => by cases h) ?_
         refine RunQ.out ?_
         refine RunQ.next ?_
         refine RunC.sr ?_
         refine Run.mv ?_
         refine Run.m (y_len rfl Tryz.runUnderlying22 rfl) ?_
         refine Run.mv ?_
         refine Run.m (v := .int .i64 ((d.length : Int) + (z : Int))) (y_bin rfl rfl rfl (bn_add (by omega) (by omega))) ?_
         refine Run.m (v := .pointer (some ⟨g8_1, 1, none⟩)) (y_fieldAddr rfl rfl Tryz.runUnderlying38 rfl Tryz.sizeOf3 (by decide) rfl) ?_
         refine Run.storeB (vs := [.int .i64 ((d.length : Int) + (z : Int))]) (cs' := [.int .i64 n, .int .i64 ((d.length : Int) + (z : Int)), .int .i64 (d.length : Int), .int .i64 (b.length : Int), .slice Ao2 o2.length co2]) (own' := [blk g22_23 [.int .i64 x160.label, .int .i64 x165.cap, .slice Af f.length cf, .bool false] 45, row (.slice Af f.length cf) 42 1 clf, row (.slice Aot ot.length cot) 45 4 clot]) 3 rfl rfl rfl Tryz.sizeOf3 rfl rfl rfl rfl rfl (Nat.le_of_ble_eq_true rfl) rfl rfl rfl ?_
         refine Run.nx ?_
         refine RunC.seq ?_
         have hq45 : (⟨n, (d.length : Int) + (z : Int), (d.length : Int), (b.length : Int), o2⟩ : ASeal) = sAt (gSeal d b n) ((d.length : Int) + (z : Int)) := by rw [← hse]; rfl
         refine RunC.regionT [16] [blk g22_23 [.int .i64 x160.label, .int .i64 x165.cap, .slice Af f.length cf, .bool false] 45, blk g8_1 [.int .i64 n, .int .i64 ((d.length : Int) + (z : Int)), .int .i64 (d.length : Int), .int .i64 (b.length : Int), .slice Ao2 o2.length co2] 38] (by kernel_rfl) rfl ?_
         refine RunT.p (v := .pointer (some ⟨g22_23, 2, none⟩)) (listed' := #[true, false, false, false, false, false, false, false, false, false, false, false, false, false, false, false, false]) 0 rfl (by kernel_rfl) (by kernel_rfl) (by kernel_rfl) rfl (fun _ => ⟨(Imm.le.refl _), (perm_take (i := 1) rfl (perm_take (i := 0) rfl (perm_nil _)))⟩) (y_fieldAddr rfl rfl Tryz.runUnderlying45 rfl Tryz.sizeOf43 (by decide) rfl) (.plain rfl) rfl (by decide) rfl ?_
         refine RunT.y (v := .slice Af f.length cf) (listed' := #[true, true, false, false, false, false, false, false, false, false, false, false, false, false, false, false, false]) 1 rfl (by kernel_rfl) (by kernel_rfl) (by kernel_rfl) (by kernel_rfl) rfl (Imm.le.refl _) (perm_take (i := 1) rfl (perm_take (i := 0) rfl (perm_nil _))) (y_loadB1 0 rfl Tryz.isAgg43 rfl rfl rfl) (.plain rfl) rfl (by decide) rfl ?_
         refine RunT.p (v := .pointer (some ⟨g22_23, 0, none⟩)) (listed' := #[true, true, true, false, false, false, false, false, false, false, false, false, false, false, false, false, false]) 2 rfl (by kernel_rfl) (by kernel_rfl) (by kernel_rfl) rfl (fun _ => ⟨(Imm.le.refl _), (perm_take (i := 1) rfl (perm_take (i := 0) rfl (perm_nil _)))⟩) (y_fieldAddr rfl rfl Tryz.runUnderlying45 rfl Tryz.sizeOf3 (by decide) rfl) (.plain rfl) rfl (by decide) rfl ?_
         refine RunT.y (v := .int .i64 x160.label) (listed' := #[true, true, true, true, false, false, false, false, false, false, false, false, false, false, false, false, false]) 3 rfl (by kernel_rfl) (by kernel_rfl) (by kernel_rfl) (by kernel_rfl) rfl (Imm.le.refl _) (perm_take (i := 1) rfl (perm_take (i := 0) rfl (perm_nil _))) (y_loadB1 0 rfl Tryz.isAgg3 rfl rfl rfl) (.plain rfl) rfl (by decide) rfl ?_
         refine RunT.p (v := .slice A20a_0 (((sParity d (b.length : Int)).1).length) c20a_0) (listed' := #[true, true, true, true, true, false, false, false, false, false, false, false, false, false, false, false, false]) 4 rfl (by kernel_rfl) (by kernel_rfl) (by kernel_rfl) rfl (fun _ => ⟨(Imm.le.refl _), (perm_take (i := 1) rfl (perm_take (i := 0) rfl (perm_nil _)))⟩) (y_move rfl rfl) (.plain rfl) rfl (by decide) rfl ?_
         refine RunT.p (v := .int .i64 (z : Int)) (listed' := #[true, true, true, true, true, true, false, false, false, false, false, false, false, false, false, false, false]) 5 rfl (by kernel_rfl) (by kernel_rfl) (by kernel_rfl) rfl (fun _ => ⟨(Imm.le.refl _), (perm_take (i := 1) rfl (perm_take (i := 0) rfl (perm_nil _)))⟩) (y_move rfl rfl) (.plain rfl) rfl (by decide) rfl ?_
         obtain ⟨x216, p216_37, cs216_37, hx216, hp216_37, hcs216_37, hrc216_37⟩ := Sl.at_ (P := Tryz.prog) (T := (tSl (tSl tU8))) Tryz.runUnderlying75 Tryz.sizeOf43 (f20a_0.mono ((((hJt_le.trans hleJ25).trans hleJ26).trans hleJ27).trans hJf_le)) (k := .i64) (i := (z : Int)) (by omega) (by omega)
         replace hx216 : ((sParity d (b.length : Int)).1)[z]? = some x216 := hx216
         obtain ⟨A216_37_0, c216_37_0, rfl, f216_37_0⟩ := hcs216_37
         have hsm216_37_0 := f216_37_0.small
         have e216 : x216 = rz := Option.some.inj (hx216.symm.trans hrz)
         have e216l := congrArg List.length e216
         refine RunT.p (v := .pointer (some p216_37)) (listed' := #[true, true, true, true, true, true, true, false, false, false, false, false, false, false, false, false, false]) 6 rfl (by kernel_rfl) (by kernel_rfl) (by kernel_rfl) rfl (fun _ => ⟨(Imm.le.refl _), (perm_take (i := 1) rfl (perm_take (i := 0) rfl (perm_nil _)))⟩) (y_index rfl rfl rfl hp216_37) (.plain rfl) rfl (by decide) rfl ?_
         refine RunT.y (v := .slice A216_37_0 x216.length c216_37_0) (listed' := #[true, true, true, true, true, true, true, true, false, false, false, false, false, false, false, false, false]) 7 rfl (by kernel_rfl) (by kernel_rfl) (by kernel_rfl) (by kernel_rfl) rfl (Imm.le.refl _) (perm_take (i := 1) rfl (perm_take (i := 0) rfl (perm_nil _))) (y_load1 rfl Tryz.isAgg43 rfl (RCells.hd hrc216_37)) (.plain rfl) rfl (by decide) rfl ?_
         refine RunT.p (v := .int .i64 (x216.length : Int)) (listed' := #[true, true, true, true, true, true, true, true, true, false, false, false, false, false, false, false, false]) 8 rfl (by kernel_rfl) (by kernel_rfl) (by kernel_rfl) rfl (fun _ => ⟨(Imm.le.refl _), (perm_take (i := 1) rfl (perm_take (i := 0) rfl (perm_nil _)))⟩) (y_len rfl Tryz.runUnderlying43 rfl) (.plain rfl) rfl (by decide) rfl ?_
         refine RunT.p (v := .int .i64 ((x216.length : Int) + 1)) (listed' := #[true, true, true, true, true, true, true, true, true, true, false, false, false, false, false, false, false]) 9 rfl (by kernel_rfl) (by kernel_rfl) (by kernel_rfl) rfl (fun _ => ⟨(Imm.le.refl _), (perm_take (i := 1) rfl (perm_take (i := 0) rfl (perm_nil _)))⟩) (y_bin rfl rfl rfl (bn_add (by omega) (by omega))) (.plain rfl) rfl (by decide) rfl ?_
         refine RunT.y (v := .agg [.int .i64 n, .int .i64 ((d.length : Int) + (z : Int)), .int .i64 (d.length : Int), .int .i64 (b.length : Int), .slice Ao2 o2.length co2].toArray) (listed' := #[true, true, true, true, true, true, true, true, true, true, true, false, false, false, false, false, false]) 10 rfl (by kernel_rfl) (by kernel_rfl) (by kernel_rfl) (by kernel_rfl) rfl (Imm.le.refl _) (perm_take (i := 1) rfl (perm_take (i := 0) rfl (perm_nil _))) (y_loadBA 1 rfl Tryz.isAgg38 Tryz.sizeOf38 rfl rfl rfl rfl) (.plain rfl) rfl (by decide) rfl ?_
         refine RunT.step (listed' := #[true, true, true, true, true, true, true, true, true, true, true, true, false, false, false, false, false]) 11 rfl (by kernel_rfl) rfl ?_
         refine Run.call (own1 := []) (own2 := [blk g8_1 [.int .i64 n, .int .i64 ((d.length : Int) + (z : Int)), .int .i64 (d.length : Int), .int .i64 (b.length : Int), .slice Ao2 o2.length co2] 38, blk g22_23 [.int .i64 x160.label, .int .i64 x165.cap, .slice Af f.length cf, .bool false] 45, row (.slice Af f.length cf) 42 1 clf, row (.slice Aot ot.length cot) 45 4 clot]) (en_func rfl Tryz.call36 rfl) (c_cartridgeref10_SealBytes _ (⟨n, (d.length : Int) + (z : Int), (d.length : Int), (b.length : Int), o2⟩ : ASeal) ⟨_, _, rfl, hn, (by first | omega | (dsimp only; omega)), (by first | omega | (dsimp only; omega)), (by first | omega | (dsimp only; omega)), (hslJ15.mono (((((hleJ20.trans hJt_le).trans hleJ25).trans hleJ26).trans hleJ27).trans hJf_le))⟩) (List.Perm.refl _) rfl rfl (by decide) (fun J38 o38 v38 hleJ38 hq38 => ?_)
         obtain ⟨yr38_0, Ar38_0, cr38_0, clr38_0, er38_0, rfl, rfl, hr38_0⟩ := hq38
         obtain rfl : (if sRight (⟨n, (d.length : Int) + (z : Int), (d.length : Int), (b.length : Int), o2⟩ : ASeal) = true then sBytes (⟨n, (d.length : Int) + (z : Int), (d.length : Int), (b.length : Int), o2⟩ : ASeal) else []) = yr38_0 := er38_0.symm
         refine Run.nil ?_
         refine RunQ.stepEnd (fun _ => ⟨hleJ38, (perm_take (i := 2) rfl (perm_take (i := 1) rfl (perm_nil _)))⟩) ?_
         refine RunT.step (listed' := #[true, true, true, true, true, true, true, true, true, true, true, true, true, false, false, false, false]) 12 rfl (by kernel_rfl) rfl ?_
         refine Run.freezeR 0 rfl (own' := [blk g8_1 [.int .i64 n, .int .i64 ((d.length : Int) + (z : Int)), .int .i64 (d.length : Int), .int .i64 (b.length : Int), .slice Ao2 o2.length co2] 38, blk g22_23 [.int .i64 x160.label, .int .i64 x165.cap, .slice Af f.length cf, .bool false] 45, row (.slice Af f.length cf) 42 1 clf, row (.slice Aot ot.length cot) 45 4 clot]) rfl (fun J40 hleJ40 hfzJ40 => ?_)
         have hslJ40 : Sl tU8 J40 Ar38_0 cr38_0 (if sRight (⟨n, (d.length : Int) + (z : Int), (d.length : Int), (b.length : Int), o2⟩ : ASeal) = true then sBytes (⟨n, (d.length : Int) + (z : Int), (d.length : Int), (b.length : Int), o2⟩ : ASeal) else []) := Sl.of_rowN hfzJ40 rfl rfl (hr38_0.mono hleJ40)
         refine Run.call (own1 := []) (own2 := [blk g8_1 [.int .i64 n, .int .i64 ((d.length : Int) + (z : Int)), .int .i64 (d.length : Int), .int .i64 (b.length : Int), .slice Ao2 o2.length co2] 38, blk g22_23 [.int .i64 x160.label, .int .i64 x165.cap, .slice Af f.length cf, .bool false] 45, row (.slice Af f.length cf) 42 1 clf, row (.slice Aot ot.length cot) 45 4 clot]) (en_func rfl Tryz.call35 rfl) (c_cartridgeref10_frame _ 5 (by omega) x160.label f160_21_0 ((x216.length : Int) + 1) (by omega) (if sRight (⟨n, (d.length : Int) + (z : Int), (d.length : Int), (b.length : Int), o2⟩ : ASeal) = true then sBytes (⟨n, (d.length : Int) + (z : Int), (d.length : Int), (b.length : Int), o2⟩ : ASeal) else []) hslJ40) (List.Perm.refl _) rfl rfl (by decide) (fun J39 o39 v39 hleJ39 hq39 => ?_)
         obtain ⟨yr39_0, Ar39_0, cr39_0, clr39_0, er39_0, rfl, rfl, hr39_0⟩ := hq39
         obtain rfl : (if uCheck ⟨(5 : Int), x160.label, ((x216.length : Int) + 1), (if sRight (⟨n, (d.length : Int) + (z : Int), (d.length : Int), (b.length : Int), o2⟩ : ASeal) = true then sBytes (⟨n, (d.length : Int) + (z : Int), (d.length : Int), (b.length : Int), o2⟩ : ASeal) else [])⟩ = 0 then fMade ⟨(5 : Int), x160.label, ((x216.length : Int) + 1), (if sRight (⟨n, (d.length : Int) + (z : Int), (d.length : Int), (b.length : Int), o2⟩ : ASeal) = true then sBytes (⟨n, (d.length : Int) + (z : Int), (d.length : Int), (b.length : Int), o2⟩ : ASeal) else [])⟩ else []) = yr39_0 := er39_0.symm
         refine Run.nil ?_
         refine RunQ.stepEnd (fun _ => ⟨((hleJ38.trans hleJ40).trans hleJ39), (perm_take (i := 2) rfl (perm_take (i := 1) rfl (perm_nil _)))⟩) ?_
         refine RunT.step (listed' := #[true, true, true, true, true, true, true, true, true, true, true, true, true, true, false, false, false]) 13 rfl (by kernel_rfl) rfl ?_
         refine Run.freezeR 0 rfl (own' := [blk g8_1 [.int .i64 n, .int .i64 ((d.length : Int) + (z : Int)), .int .i64 (d.length : Int), .int .i64 (b.length : Int), .slice Ao2 o2.length co2] 38, blk g22_23 [.int .i64 x160.label, .int .i64 x165.cap, .slice Af f.length cf, .bool false] 45, row (.slice Af f.length cf) 42 1 clf, row (.slice Aot ot.length cot) 45 4 clot]) rfl (fun J41 hleJ41 hfzJ41 => ?_)
         have hslJ41 : Sl tU8 J41 Ar39_0 cr39_0 (if uCheck ⟨(5 : Int), x160.label, ((x216.length : Int) + 1), (if sRight (⟨n, (d.length : Int) + (z : Int), (d.length : Int), (b.length : Int), o2⟩ : ASeal) = true then sBytes (⟨n, (d.length : Int) + (z : Int), (d.length : Int), (b.length : Int), o2⟩ : ASeal) else [])⟩ = 0 then fMade ⟨(5 : Int), x160.label, ((x216.length : Int) + 1), (if sRight (⟨n, (d.length : Int) + (z : Int), (d.length : Int), (b.length : Int), o2⟩ : ASeal) = true then sBytes (⟨n, (d.length : Int) + (z : Int), (d.length : Int), (b.length : Int), o2⟩ : ASeal) else [])⟩ else []) := Sl.of_rowN hfzJ41 rfl rfl (hr39_0.mono hleJ41)
         refine Run.lit (vs := [(0, .slice Ar39_0 ((if uCheck ⟨(5 : Int), x160.label, ((x216.length : Int) + 1), (if sRight (⟨n, (d.length : Int) + (z : Int), (d.length : Int), (b.length : Int), o2⟩ : ASeal) = true then sBytes (⟨n, (d.length : Int) + (z : Int), (d.length : Int), (b.length : Int), o2⟩ : ASeal) else [])⟩ = 0 then fMade ⟨(5 : Int), x160.label, ((x216.length : Int) + 1), (if sRight (⟨n, (d.length : Int) + (z : Int), (d.length : Int), (b.length : Int), o2⟩ : ASeal) = true then sBytes (⟨n, (d.length : Int) + (z : Int), (d.length : Int), (b.length : Int), o2⟩ : ASeal) else [])⟩ else []).length) cr39_0)]) (cs := [.slice Ar39_0 ((if uCheck ⟨(5 : Int), x160.label, ((x216.length : Int) + 1), (if sRight (⟨n, (d.length : Int) + (z : Int), (d.length : Int), (b.length : Int), o2⟩ : ASeal) = true then sBytes (⟨n, (d.length : Int) + (z : Int), (d.length : Int), (b.length : Int), o2⟩ : ASeal) else [])⟩ = 0 then fMade ⟨(5 : Int), x160.label, ((x216.length : Int) + 1), (if sRight (⟨n, (d.length : Int) + (z : Int), (d.length : Int), (b.length : Int), o2⟩ : ASeal) = true then sBytes (⟨n, (d.length : Int) + (z : Int), (d.length : Int), (b.length : Int), o2⟩ : ASeal) else [])⟩ else []).length) cr39_0]) (el := 42) (sz := 1) rfl rfl (fun w => by simp [Instr.buildSlice, Tryz.runUnderlying43, Tryz.sizeOf42, Tryz.zeroValue42, Instr.fill, Value.cells, newRow, (show Array.range 1 = #[0] from rfl)]) rfl (by simp [maxLen]) rfl rfl (by decide) (fun g223 => ?_)
         refine Run.nil ?_
         refine RunQ.stepEnd (fun _ => ⟨(((hleJ38.trans hleJ40).trans hleJ39).trans hleJ41), (perm_take (i := 2) rfl (perm_take (i := 1) rfl (perm_nil _)))⟩) ?_
         refine RunT.step (listed' := #[true, true, true, true, true, true, true, true, true, true, true, true, true, true, true, false, false]) 14 rfl (by kernel_rfl) rfl ?_
         have hlit42 : (tSl tU8).all J41 [.slice Ar39_0 ((if uCheck ⟨(5 : Int), x160.label, ((x216.length : Int) + 1), (if sRight (⟨n, (d.length : Int) + (z : Int), (d.length : Int), (b.length : Int), o2⟩ : ASeal) = true then sBytes (⟨n, (d.length : Int) + (z : Int), (d.length : Int), (b.length : Int), o2⟩ : ASeal) else [])⟩ = 0 then fMade ⟨(5 : Int), x160.label, ((x216.length : Int) + 1), (if sRight (⟨n, (d.length : Int) + (z : Int), (d.length : Int), (b.length : Int), o2⟩ : ASeal) = true then sBytes (⟨n, (d.length : Int) + (z : Int), (d.length : Int), (b.length : Int), o2⟩ : ASeal) else [])⟩ else []).length) cr39_0] [(if uCheck ⟨(5 : Int), x160.label, ((x216.length : Int) + 1), (if sRight (⟨n, (d.length : Int) + (z : Int), (d.length : Int), (b.length : Int), o2⟩ : ASeal) = true then sBytes (⟨n, (d.length : Int) + (z : Int), (d.length : Int), (b.length : Int), o2⟩ : ASeal) else [])⟩ = 0 then fMade ⟨(5 : Int), x160.label, ((x216.length : Int) + 1), (if sRight (⟨n, (d.length : Int) + (z : Int), (d.length : Int), (b.length : Int), o2⟩ : ASeal) = true then sBytes (⟨n, (d.length : Int) + (z : Int), (d.length : Int), (b.length : Int), o2⟩ : ASeal) else [])⟩ else [])] := (all_snoc (T := (tSl tU8)) all_nil ⟨_, _, rfl, hslJ41⟩)
         have hall43 : (tSl tU8).all J41 (clf ++ ([.slice Ar39_0 ((if uCheck ⟨(5 : Int), x160.label, ((x216.length : Int) + 1), (if sRight (⟨n, (d.length : Int) + (z : Int), (d.length : Int), (b.length : Int), o2⟩ : ASeal) = true then sBytes (⟨n, (d.length : Int) + (z : Int), (d.length : Int), (b.length : Int), o2⟩ : ASeal) else [])⟩ = 0 then fMade ⟨(5 : Int), x160.label, ((x216.length : Int) + 1), (if sRight (⟨n, (d.length : Int) + (z : Int), (d.length : Int), (b.length : Int), o2⟩ : ASeal) = true then sBytes (⟨n, (d.length : Int) + (z : Int), (d.length : Int), (b.length : Int), o2⟩ : ASeal) else [])⟩ else []).length) cr39_0])) (f ++ ([(if uCheck ⟨(5 : Int), x160.label, ((x216.length : Int) + 1), (if sRight (⟨n, (d.length : Int) + (z : Int), (d.length : Int), (b.length : Int), o2⟩ : ASeal) = true then sBytes (⟨n, (d.length : Int) + (z : Int), (d.length : Int), (b.length : Int), o2⟩ : ASeal) else [])⟩ = 0 then fMade ⟨(5 : Int), x160.label, ((x216.length : Int) + 1), (if sRight (⟨n, (d.length : Int) + (z : Int), (d.length : Int), (b.length : Int), o2⟩ : ASeal) = true then sBytes (⟨n, (d.length : Int) + (z : Int), (d.length : Int), (b.length : Int), o2⟩ : ASeal) else [])⟩ else [])])) := all_append (hf.mono (((hleJ38.trans hleJ40).trans hleJ39).trans hleJ41)) hlit42
         refine Run.append (by_ := 24) (ys := [.slice Ar39_0 ((if uCheck ⟨(5 : Int), x160.label, ((x216.length : Int) + 1), (if sRight (⟨n, (d.length : Int) + (z : Int), (d.length : Int), (b.length : Int), o2⟩ : ASeal) = true then sBytes (⟨n, (d.length : Int) + (z : Int), (d.length : Int), (b.length : Int), o2⟩ : ASeal) else [])⟩ = 0 then fMade ⟨(5 : Int), x160.label, ((x216.length : Int) + 1), (if sRight (⟨n, (d.length : Int) + (z : Int), (d.length : Int), (b.length : Int), o2⟩ : ASeal) = true then sBytes (⟨n, (d.length : Int) + (z : Int), (d.length : Int), (b.length : Int), o2⟩ : ASeal) else [])⟩ else []).length) cr39_0]) (k := 1) (own' := [row (.slice (some ⟨g223, 0, none⟩) 1 1) 42 1 ([.slice Ar39_0 ((if uCheck ⟨(5 : Int), x160.label, ((x216.length : Int) + 1), (if sRight (⟨n, (d.length : Int) + (z : Int), (d.length : Int), (b.length : Int), o2⟩ : ASeal) = true then sBytes (⟨n, (d.length : Int) + (z : Int), (d.length : Int), (b.length : Int), o2⟩ : ASeal) else [])⟩ = 0 then fMade ⟨(5 : Int), x160.label, ((x216.length : Int) + 1), (if sRight (⟨n, (d.length : Int) + (z : Int), (d.length : Int), (b.length : Int), o2⟩ : ASeal) = true then sBytes (⟨n, (d.length : Int) + (z : Int), (d.length : Int), (b.length : Int), o2⟩ : ASeal) else [])⟩ else []).length) cr39_0]), blk g8_1 [.int .i64 n, .int .i64 ((d.length : Int) + (z : Int)), .int .i64 (d.length : Int), .int .i64 (b.length : Int), .slice Ao2 o2.length co2] 38, blk g22_23 [.int .i64 x160.label, .int .i64 x165.cap, .slice Af f.length cf, .bool false] 45, row (.slice Aot ot.length cot) 45 4 clot]) 3 rfl rfl rfl Tryz.runUnderlying43 (.inl Tryz.runUnderlying43) Tryz.sizeOf42 Tryz.typeInfo42 rfl Tryz.zeroValue42 rfl rfl rfl (fun w hS => src_own hS (i := 0) rfl) (row_len hlit42 (by first | rfl | (simp; done) | (simp; omega)) rfl) (all_one hlit42) ((f ++ ([(if uCheck ⟨(5 : Int), x160.label, ((x216.length : Int) + 1), (if sRight (⟨n, (d.length : Int) + (z : Int), (d.length : Int), (b.length : Int), o2⟩ : ASeal) = true then sBytes (⟨n, (d.length : Int) + (z : Int), (d.length : Int), (b.length : Int), o2⟩ : ASeal) else [])⟩ = 0 then fMade ⟨(5 : Int), x160.label, ((x216.length : Int) + 1), (if sRight (⟨n, (d.length : Int) + (z : Int), (d.length : Int), (b.length : Int), o2⟩ : ASeal) = true then sBytes (⟨n, (d.length : Int) + (z : Int), (d.length : Int), (b.length : Int), o2⟩ : ASeal) else [])⟩ else [])])).length) (by first | (simp; done) | (simp; omega)) (by first | (rw [List.length_append]; simp only [List.length_singleton, List.length_nil]; omega) | omega) (by first | (rw [List.length_append]; simp only [List.length_singleton, List.length_nil, maxLen]; omega) | (simp [maxLen]; omega)) rfl rfl (by decide) (fun A224_43 c224_43 => ?_)
         refine Run.weak Sub.refl (perm_take (i := 0) rfl (perm_take (i := 1) rfl (perm_take (i := 1) rfl (perm_take (i := 1) rfl (perm_nil _))))) ?_
         refine Run.nil ?_
         refine RunQ.stepEnd (fun _ => ⟨(((hleJ38.trans hleJ40).trans hleJ39).trans hleJ41), (perm_take (i := 2) rfl (perm_take (i := 1) rfl (perm_nil _)))⟩) ?_
         refine RunT.p (v := .pointer (some ⟨g22_23, 2, none⟩)) (listed' := #[true, true, true, true, true, true, true, true, true, true, true, true, true, true, true, true, false]) 15 rfl (by kernel_rfl) (by kernel_rfl) (by kernel_rfl) rfl (fun _ => ⟨(((hleJ38.trans hleJ40).trans hleJ39).trans hleJ41), (perm_take (i := 2) rfl (perm_take (i := 1) rfl (perm_nil _)))⟩) (y_fieldAddr rfl rfl Tryz.runUnderlying45 rfl Tryz.sizeOf43 (by decide) rfl) (.plain rfl) rfl (by decide) rfl ?_
         refine RunT.step (listed' := #[true, true, true, true, true, true, true, true, true, true, true, true, true, true, true, true, true]) 16 rfl (by kernel_rfl) rfl ?_
         refine Run.storeB (vs := [.slice A224_43 ((f ++ ([(if uCheck ⟨(5 : Int), x160.label, ((x216.length : Int) + 1), (if sRight (⟨n, (d.length : Int) + (z : Int), (d.length : Int), (b.length : Int), o2⟩ : ASeal) = true then sBytes (⟨n, (d.length : Int) + (z : Int), (d.length : Int), (b.length : Int), o2⟩ : ASeal) else [])⟩ = 0 then fMade ⟨(5 : Int), x160.label, ((x216.length : Int) + 1), (if sRight (⟨n, (d.length : Int) + (z : Int), (d.length : Int), (b.length : Int), o2⟩ : ASeal) = true then sBytes (⟨n, (d.length : Int) + (z : Int), (d.length : Int), (b.length : Int), o2⟩ : ASeal) else [])⟩ else [])])).length) c224_43]) (cs' := [.int .i64 x160.label, .int .i64 x165.cap, .slice A224_43 ((f ++ ([(if uCheck ⟨(5 : Int), x160.label, ((x216.length : Int) + 1), (if sRight (⟨n, (d.length : Int) + (z : Int), (d.length : Int), (b.length : Int), o2⟩ : ASeal) = true then sBytes (⟨n, (d.length : Int) + (z : Int), (d.length : Int), (b.length : Int), o2⟩ : ASeal) else [])⟩ = 0 then fMade ⟨(5 : Int), x160.label, ((x216.length : Int) + 1), (if sRight (⟨n, (d.length : Int) + (z : Int), (d.length : Int), (b.length : Int), o2⟩ : ASeal) = true then sBytes (⟨n, (d.length : Int) + (z : Int), (d.length : Int), (b.length : Int), o2⟩ : ASeal) else [])⟩ else [])])).length) c224_43, .bool false]) (own' := [row (.slice A224_43 ((f ++ ([(if uCheck ⟨(5 : Int), x160.label, ((x216.length : Int) + 1), (if sRight (⟨n, (d.length : Int) + (z : Int), (d.length : Int), (b.length : Int), o2⟩ : ASeal) = true then sBytes (⟨n, (d.length : Int) + (z : Int), (d.length : Int), (b.length : Int), o2⟩ : ASeal) else [])⟩ = 0 then fMade ⟨(5 : Int), x160.label, ((x216.length : Int) + 1), (if sRight (⟨n, (d.length : Int) + (z : Int), (d.length : Int), (b.length : Int), o2⟩ : ASeal) = true then sBytes (⟨n, (d.length : Int) + (z : Int), (d.length : Int), (b.length : Int), o2⟩ : ASeal) else [])⟩ else [])])).length) c224_43) 42 1 (clf ++ ([.slice Ar39_0 ((if uCheck ⟨(5 : Int), x160.label, ((x216.length : Int) + 1), (if sRight (⟨n, (d.length : Int) + (z : Int), (d.length : Int), (b.length : Int), o2⟩ : ASeal) = true then sBytes (⟨n, (d.length : Int) + (z : Int), (d.length : Int), (b.length : Int), o2⟩ : ASeal) else [])⟩ = 0 then fMade ⟨(5 : Int), x160.label, ((x216.length : Int) + 1), (if sRight (⟨n, (d.length : Int) + (z : Int), (d.length : Int), (b.length : Int), o2⟩ : ASeal) = true then sBytes (⟨n, (d.length : Int) + (z : Int), (d.length : Int), (b.length : Int), o2⟩ : ASeal) else [])⟩ else []).length) cr39_0])), blk g8_1 [.int .i64 n, .int .i64 ((d.length : Int) + (z : Int)), .int .i64 (d.length : Int), .int .i64 (b.length : Int), .slice Ao2 o2.length co2] 38, row (.slice Aot ot.length cot) 45 4 clot]) 2 rfl rfl rfl Tryz.sizeOf43 rfl rfl rfl rfl rfl (Nat.le_of_ble_eq_true rfl) rfl rfl rfl ?_
         refine Run.nil ?_
         refine RunQ.stepEnd (fun h => absurd (show false = true from h) Bool.false_ne_true) ?_
         refine RunT.done (by kernel_rfl) ?_
         refine RunQ.next ?_
         refine RunC.region ?_
         refine Run.mv ?_
         refine Run.m (v := .agg [.int .i64 x160.label, .int .i64 x165.cap, .slice A224_43 ((f ++ ([(if uCheck ⟨(5 : Int), x160.label, ((x216.length : Int) + 1), (if sRight (⟨n, (d.length : Int) + (z : Int), (d.length : Int), (b.length : Int), o2⟩ : ASeal) = true then sBytes (⟨n, (d.length : Int) + (z : Int), (d.length : Int), (b.length : Int), o2⟩ : ASeal) else [])⟩ = 0 then fMade ⟨(5 : Int), x160.label, ((x216.length : Int) + 1), (if sRight (⟨n, (d.length : Int) + (z : Int), (d.length : Int), (b.length : Int), o2⟩ : ASeal) = true then sBytes (⟨n, (d.length : Int) + (z : Int), (d.length : Int), (b.length : Int), o2⟩ : ASeal) else [])⟩ else [])])).length) c224_43, .bool false].toArray) (y_loadBA 0 rfl Tryz.isAgg45 Tryz.sizeOf45 rfl rfl rfl rfl) ?_
         refine Run.freezeR 1 rfl (own' := [blk g22_23 [.int .i64 x160.label, .int .i64 x165.cap, .slice A224_43 ((f ++ ([(if uCheck ⟨(5 : Int), x160.label, ((x216.length : Int) + 1), (if sRight (⟨n, (d.length : Int) + (z : Int), (d.length : Int), (b.length : Int), o2⟩ : ASeal) = true then sBytes (⟨n, (d.length : Int) + (z : Int), (d.length : Int), (b.length : Int), o2⟩ : ASeal) else [])⟩ = 0 then fMade ⟨(5 : Int), x160.label, ((x216.length : Int) + 1), (if sRight (⟨n, (d.length : Int) + (z : Int), (d.length : Int), (b.length : Int), o2⟩ : ASeal) = true then sBytes (⟨n, (d.length : Int) + (z : Int), (d.length : Int), (b.length : Int), o2⟩ : ASeal) else [])⟩ else [])])).length) c224_43, .bool false] 45, blk g8_1 [.int .i64 n, .int .i64 ((d.length : Int) + (z : Int)), .int .i64 (d.length : Int), .int .i64 (b.length : Int), .slice Ao2 o2.length co2] 38, row (.slice Aot ot.length cot) 45 4 clot]) rfl (fun J44 hleJ44 hfzJ44 => ?_)
         have hslJ44 : Sl (tSl tU8) J44 A224_43 c224_43 (f ++ ([(if uCheck ⟨(5 : Int), x160.label, ((x216.length : Int) + 1), (if sRight (⟨n, (d.length : Int) + (z : Int), (d.length : Int), (b.length : Int), o2⟩ : ASeal) = true then sBytes (⟨n, (d.length : Int) + (z : Int), (d.length : Int), (b.length : Int), o2⟩ : ASeal) else [])⟩ = 0 then fMade ⟨(5 : Int), x160.label, ((x216.length : Int) + 1), (if sRight (⟨n, (d.length : Int) + (z : Int), (d.length : Int), (b.length : Int), o2⟩ : ASeal) = true then sBytes (⟨n, (d.length : Int) + (z : Int), (d.length : Int), (b.length : Int), o2⟩ : ASeal) else [])⟩ else [])])) := Sl.of_rowN hfzJ44 rfl rfl (hall43.mono hleJ44)
         refine Run.lit (vs := [(0, .agg [.int .i64 x160.label, .int .i64 x165.cap, .slice A224_43 ((f ++ ([(if uCheck ⟨(5 : Int), x160.label, ((x216.length : Int) + 1), (if sRight (⟨n, (d.length : Int) + (z : Int), (d.length : Int), (b.length : Int), o2⟩ : ASeal) = true then sBytes (⟨n, (d.length : Int) + (z : Int), (d.length : Int), (b.length : Int), o2⟩ : ASeal) else [])⟩ = 0 then fMade ⟨(5 : Int), x160.label, ((x216.length : Int) + 1), (if sRight (⟨n, (d.length : Int) + (z : Int), (d.length : Int), (b.length : Int), o2⟩ : ASeal) = true then sBytes (⟨n, (d.length : Int) + (z : Int), (d.length : Int), (b.length : Int), o2⟩ : ASeal) else [])⟩ else [])])).length) c224_43, .bool false].toArray)]) (cs := [.int .i64 x160.label, .int .i64 x165.cap, .slice A224_43 ((f ++ ([(if uCheck ⟨(5 : Int), x160.label, ((x216.length : Int) + 1), (if sRight (⟨n, (d.length : Int) + (z : Int), (d.length : Int), (b.length : Int), o2⟩ : ASeal) = true then sBytes (⟨n, (d.length : Int) + (z : Int), (d.length : Int), (b.length : Int), o2⟩ : ASeal) else [])⟩ = 0 then fMade ⟨(5 : Int), x160.label, ((x216.length : Int) + 1), (if sRight (⟨n, (d.length : Int) + (z : Int), (d.length : Int), (b.length : Int), o2⟩ : ASeal) = true then sBytes (⟨n, (d.length : Int) + (z : Int), (d.length : Int), (b.length : Int), o2⟩ : ASeal) else [])⟩ else [])])).length) c224_43, .bool false]) (el := 45) (sz := 4) rfl rfl (fun w => by simp [Instr.buildSlice, Tryz.runUnderlying22, Tryz.sizeOf45, Tryz.zeroValue45, Instr.fill, Value.cells, newRow, (show Array.range 4 = #[0, 1, 2, 3] from rfl)]) rfl (by simp [maxLen]) rfl rfl (by decide) (fun g228 => ?_)
         have hlit45 : tTape.all J44 [.int .i64 x160.label, .int .i64 x165.cap, .slice A224_43 ((f ++ ([(if uCheck ⟨(5 : Int), x160.label, ((x216.length : Int) + 1), (if sRight (⟨n, (d.length : Int) + (z : Int), (d.length : Int), (b.length : Int), o2⟩ : ASeal) = true then sBytes (⟨n, (d.length : Int) + (z : Int), (d.length : Int), (b.length : Int), o2⟩ : ASeal) else [])⟩ = 0 then fMade ⟨(5 : Int), x160.label, ((x216.length : Int) + 1), (if sRight (⟨n, (d.length : Int) + (z : Int), (d.length : Int), (b.length : Int), o2⟩ : ASeal) = true then sBytes (⟨n, (d.length : Int) + (z : Int), (d.length : Int), (b.length : Int), o2⟩ : ASeal) else [])⟩ else [])])).length) c224_43, .bool false] [(⟨x160.label, x165.cap, (f ++ ([(if uCheck ⟨(5 : Int), x160.label, ((x216.length : Int) + 1), (if sRight (⟨n, (d.length : Int) + (z : Int), (d.length : Int), (b.length : Int), o2⟩ : ASeal) = true then sBytes (⟨n, (d.length : Int) + (z : Int), (d.length : Int), (b.length : Int), o2⟩ : ASeal) else [])⟩ = 0 then fMade ⟨(5 : Int), x160.label, ((x216.length : Int) + 1), (if sRight (⟨n, (d.length : Int) + (z : Int), (d.length : Int), (b.length : Int), o2⟩ : ASeal) = true then sBytes (⟨n, (d.length : Int) + (z : Int), (d.length : Int), (b.length : Int), o2⟩ : ASeal) else [])⟩ else [])])), false⟩ : ATape)] := (all_snoc (T := tTape) all_nil ⟨_, _, rfl, f160_21_0, f165_22_1, hslJ44⟩)
         have hall46 : tTape.all J44 (clot ++ ([.int .i64 x160.label, .int .i64 x165.cap, .slice A224_43 ((f ++ ([(if uCheck ⟨(5 : Int), x160.label, ((x216.length : Int) + 1), (if sRight (⟨n, (d.length : Int) + (z : Int), (d.length : Int), (b.length : Int), o2⟩ : ASeal) = true then sBytes (⟨n, (d.length : Int) + (z : Int), (d.length : Int), (b.length : Int), o2⟩ : ASeal) else [])⟩ = 0 then fMade ⟨(5 : Int), x160.label, ((x216.length : Int) + 1), (if sRight (⟨n, (d.length : Int) + (z : Int), (d.length : Int), (b.length : Int), o2⟩ : ASeal) = true then sBytes (⟨n, (d.length : Int) + (z : Int), (d.length : Int), (b.length : Int), o2⟩ : ASeal) else [])⟩ else [])])).length) c224_43, .bool false])) (ot ++ ([(⟨x160.label, x165.cap, (f ++ ([(if uCheck ⟨(5 : Int), x160.label, ((x216.length : Int) + 1), (if sRight (⟨n, (d.length : Int) + (z : Int), (d.length : Int), (b.length : Int), o2⟩ : ASeal) = true then sBytes (⟨n, (d.length : Int) + (z : Int), (d.length : Int), (b.length : Int), o2⟩ : ASeal) else [])⟩ = 0 then fMade ⟨(5 : Int), x160.label, ((x216.length : Int) + 1), (if sRight (⟨n, (d.length : Int) + (z : Int), (d.length : Int), (b.length : Int), o2⟩ : ASeal) = true then sBytes (⟨n, (d.length : Int) + (z : Int), (d.length : Int), (b.length : Int), o2⟩ : ASeal) else [])⟩ else [])])), false⟩ : ATape)])) := all_append (hot.mono ((((((((hleJ25.trans hleJ26).trans hleJ27).trans hJf_le).trans hleJ38).trans hleJ40).trans hleJ39).trans hleJ41).trans hleJ44)) hlit45
         refine Run.append (by_ := 48) (ys := [.int .i64 x160.label, .int .i64 x165.cap, .slice A224_43 ((f ++ ([(if uCheck ⟨(5 : Int), x160.label, ((x216.length : Int) + 1), (if sRight (⟨n, (d.length : Int) + (z : Int), (d.length : Int), (b.length : Int), o2⟩ : ASeal) = true then sBytes (⟨n, (d.length : Int) + (z : Int), (d.length : Int), (b.length : Int), o2⟩ : ASeal) else [])⟩ = 0 then fMade ⟨(5 : Int), x160.label, ((x216.length : Int) + 1), (if sRight (⟨n, (d.length : Int) + (z : Int), (d.length : Int), (b.length : Int), o2⟩ : ASeal) = true then sBytes (⟨n, (d.length : Int) + (z : Int), (d.length : Int), (b.length : Int), o2⟩ : ASeal) else [])⟩ else [])])).length) c224_43, .bool false]) (k := 1) (own' := [row (.slice (some ⟨g228, 0, none⟩) 1 1) 45 4 ([.int .i64 x160.label, .int .i64 x165.cap, .slice A224_43 ((f ++ ([(if uCheck ⟨(5 : Int), x160.label, ((x216.length : Int) + 1), (if sRight (⟨n, (d.length : Int) + (z : Int), (d.length : Int), (b.length : Int), o2⟩ : ASeal) = true then sBytes (⟨n, (d.length : Int) + (z : Int), (d.length : Int), (b.length : Int), o2⟩ : ASeal) else [])⟩ = 0 then fMade ⟨(5 : Int), x160.label, ((x216.length : Int) + 1), (if sRight (⟨n, (d.length : Int) + (z : Int), (d.length : Int), (b.length : Int), o2⟩ : ASeal) = true then sBytes (⟨n, (d.length : Int) + (z : Int), (d.length : Int), (b.length : Int), o2⟩ : ASeal) else [])⟩ else [])])).length) c224_43, .bool false]), blk g22_23 [.int .i64 x160.label, .int .i64 x165.cap, .slice A224_43 ((f ++ ([(if uCheck ⟨(5 : Int), x160.label, ((x216.length : Int) + 1), (if sRight (⟨n, (d.length : Int) + (z : Int), (d.length : Int), (b.length : Int), o2⟩ : ASeal) = true then sBytes (⟨n, (d.length : Int) + (z : Int), (d.length : Int), (b.length : Int), o2⟩ : ASeal) else [])⟩ = 0 then fMade ⟨(5 : Int), x160.label, ((x216.length : Int) + 1), (if sRight (⟨n, (d.length : Int) + (z : Int), (d.length : Int), (b.length : Int), o2⟩ : ASeal) = true then sBytes (⟨n, (d.length : Int) + (z : Int), (d.length : Int), (b.length : Int), o2⟩ : ASeal) else [])⟩ else [])])).length) c224_43, .bool false] 45, blk g8_1 [.int .i64 n, .int .i64 ((d.length : Int) + (z : Int)), .int .i64 (d.length : Int), .int .i64 (b.length : Int), .slice Ao2 o2.length co2] 38]) 3 rfl rfl rfl Tryz.runUnderlying22 (.inl Tryz.runUnderlying22) Tryz.sizeOf45 Tryz.typeInfo45 rfl Tryz.zeroValue45 rfl rfl rfl (fun w hS => src_own hS (i := 0) rfl) (row_len hlit45 (by first | rfl | (simp; done) | (simp; omega)) rfl) (all_one hlit45) ((ot ++ ([(⟨x160.label, x165.cap, (f ++ ([(if uCheck ⟨(5 : Int), x160.label, ((x216.length : Int) + 1), (if sRight (⟨n, (d.length : Int) + (z : Int), (d.length : Int), (b.length : Int), o2⟩ : ASeal) = true then sBytes (⟨n, (d.length : Int) + (z : Int), (d.length : Int), (b.length : Int), o2⟩ : ASeal) else [])⟩ = 0 then fMade ⟨(5 : Int), x160.label, ((x216.length : Int) + 1), (if sRight (⟨n, (d.length : Int) + (z : Int), (d.length : Int), (b.length : Int), o2⟩ : ASeal) = true then sBytes (⟨n, (d.length : Int) + (z : Int), (d.length : Int), (b.length : Int), o2⟩ : ASeal) else [])⟩ else [])])), false⟩ : ATape)])).length) (by first | (simp; done) | (simp; omega)) (by first | (rw [List.length_append]; simp only [List.length_singleton, List.length_nil]; omega) | omega) (by first | (rw [List.length_append]; simp only [List.length_singleton, List.length_nil, maxLen]; omega) | (simp [maxLen]; omega)) rfl rfl (by decide) (fun A229_46 c229_46 => ?_)
         refine Run.weak Sub.refl (perm_take (i := 0) rfl (perm_take (i := 1) rfl (perm_take (i := 1) rfl (perm_nil _)))) ?_
         refine Run.as ?_
         refine Run.nil ?_
         refine RunQ.inB ?_
         refine RunQ.next ?_
         refine RunC.region ?_
         refine Run.mv ?_
         refine Run.m (v := .int .i64 ((z : Int) + 1)) (y_bin rfl rfl rfl (bn_add (by omega) (by omega))) ?_
         refine Run.as ?_
         refine Run.nil ?_
         exact RunQ.thenI (fun aa ww hF hS => ⟨_, (by omega), (hInv5 _ _ _).2 ⟨(z + 1), (d.length : Int) + (z : Int), (ot ++ ([(⟨x160.label, x165.cap, (f ++ ([(if uCheck ⟨(5 : Int), x160.label, ((x216.length : Int) + 1), (if sRight (⟨n, (d.length : Int) + (z : Int), (d.length : Int), (b.length : Int), o2⟩ : ASeal) = true then sBytes (⟨n, (d.length : Int) + (z : Int), (d.length : Int), (b.length : Int), o2⟩ : ASeal) else [])⟩ = 0 then fMade ⟨(5 : Int), x160.label, ((x216.length : Int) + 1), (if sRight (⟨n, (d.length : Int) + (z : Int), (d.length : Int), (b.length : Int), o2⟩ : ASeal) = true then sBytes (⟨n, (d.length : Int) + (z : Int), (d.length : Int), (b.length : Int), o2⟩ : ASeal) else [])⟩ else [])])), false⟩ : ATape)])), A229_46, c229_46, clot ++ ([.int .i64 x160.label, .int .i64 x165.cap, .slice A224_43 ((f ++ ([(if uCheck ⟨(5 : Int), x160.label, ((x216.length : Int) + 1), (if sRight (⟨n, (d.length : Int) + (z : Int), (d.length : Int), (b.length : Int), o2⟩ : ASeal) = true then sBytes (⟨n, (d.length : Int) + (z : Int), (d.length : Int), (b.length : Int), o2⟩ : ASeal) else [])⟩ = 0 then fMade ⟨(5 : Int), x160.label, ((x216.length : Int) + 1), (if sRight (⟨n, (d.length : Int) + (z : Int), (d.length : Int), (b.length : Int), o2⟩ : ASeal) = true then sBytes (⟨n, (d.length : Int) + (z : Int), (d.length : Int), (b.length : Int), o2⟩ : ASeal) else [])⟩ else [])])).length) c224_43, .bool false]), J44, (((((((((hJt_le.trans hleJ25).trans hleJ26).trans hleJ27).trans hJf_le).trans hleJ38).trans hleJ40).trans hleJ39).trans hleJ41).trans hleJ44), hall46, (by omega), (by omega), (by simp; omega), (by rw [← hg, gTapes_at (q := sAt (gSeal d b n) ((d.length : Int) + (z : Int))) hx160 hrz rfl, hgt, if_pos rfl, hq45, if_pos hsr, e216, if_pos (chk_5 hlab (by omega) hsr), e165, hf_, List.take_of_length_le (by omega)]), rfl, hF.sub (Sub.of rfl), hS.sub (perm_take (i := 0) rfl (perm_take (i := 1) rfl (perm_nil _)))⟩⟩)
       ·
        try simp only [z1, z2, z3, z4, z5, z6, z7, z8, z9, z10, z11, z12, z13, z14, z15, z16] at hc9
        have hgm : gMake d b n = (ot, 0) := by rw [gMake, if_neg (fun h => h hgc), if_neg (fun h => h hc8), ← hg, List.drop_eq_nil_of_le (by omega)]; rfl
        refine RunC.exit ?_
        refine RunQ.pass (fun h => by cases h) ?_
        refine RunQ.pass (fun h => by cases h) ?_
        refine RunQ.out ?_
        refine RunQ.next ?_
        refine RunC.sr ?_
        refine Run.mv ?_
        refine Run.as ?_
        refine Run.as ?_
        refine Run.nx ?_
        refine RunC.ret ?_
        refine RunQ.freezeR 0 rfl (own' := [blk g8_1 [.int .i64 n, .int .i64 iv, .int .i64 (d.length : Int), .int .i64 (b.length : Int), .slice Ao2 o2.length co2] 38]) rfl (fun J47 hleJ47 hfzJ47 => ?_)
        have hslJ47 : Sl tTape J47 Aot cot ot := Sl.of_rowN hfzJ47 rfl rfl (hot.mono hleJ47)
        refine RunQ.weak Sub.refl (perm_nil _) ?_
        refine RunQ.fin2 (.inl rfl) Tryz.results9 (rv_tmp rfl) (rv_tmp rfl) ?_
        exact ⟨rfl, _, _, rfl, (rd_eq (T := (tSl tTape)) (x := ot) ⟨_, _, rfl, hslJ47⟩ (by rw [hgm] <;> rfl)), (rd_eq (T := tInt) (x := 0) ⟨rfl, (by first | omega | (dsimp only; omega))⟩ (by rw [hgm] <;> rfl))⟩
end Go.Proofs.YtmelbclhkkbmiaaGreat.K
