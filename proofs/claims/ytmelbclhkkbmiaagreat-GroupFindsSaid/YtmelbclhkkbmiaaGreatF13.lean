/- Contracts of functions of the program, each proved by a walk through its operations, for all memory and all arguments that the theorem names. Printed by a program of mine. -/
import Derived.Test.YtmelbclhkkbmiaaGreatF12
import Derived.Test.YtmelbclhkkbmiaaGreatF9
set_option linter.unusedVariables false
set_option linter.unusedSimpArgs false
set_option maxRecDepth 100000
namespace Go.Proofs.YtmelbclhkkbmiaaGreat.K
open Go Go.RowKit

theorem c_cartridgeref10_Of (I : Imm) {Al : Option Addr} {cl : Nat} (l : List ASeal) (hl : Sl tSeal I Al cl l) (label : Int) (hlabel : I64 label) : Con Tryz.prog 16 [.slice Al l.length cl, .int .i64 label].toArray I [] (Ret2 (tSeal.g) (tBool.o) ((gOf l label).1) ((gOf l label).2)) := by
  have hsml := hl.small
  refine Con.enter (n := 39) (L := [(0, .slice Al l.length cl), (1, .int .i64 label)]) Tryz.func16 rfl rfl (Nat.le_of_ble_eq_true rfl) rfl (fun E => ?_)
  refine RunC.sr ?_
  refine Run.alloc (cs := [.int .i64 0, .int .i64 0, .int .i64 0, .int .i64 0, .slice none 0 0]) rfl Tryz.zeroValue38 rfl rfl rfl (by decide) (fun g4_1 => ?_)
  refine Run.as ?_
  refine Run.nx ?_
  refine RunC.seq ?_
  refine RunC.sr ?_
  refine Run.as ?_
  refine Run.nx ?_
  refine RunC.block ?_
  obtain ⟨Inv0, hInv0⟩ : ∃ Inv : Nat → Act → World → Prop, ∀ mm aa ww, Inv mm aa ww ↔ (∃ (k : Nat), (k ≤ l.length) ∧ (∀ s ∈ l.take k, s.labels.contains label = false) ∧ (mm = (l.length - k)) ∧ Frm aa 39 [(0, .slice Al l.length cl), (1, .int .i64 label), (4, .pointer (some ⟨g4_1, 0, none⟩)), (6, .int .i64 (k : Int))] ∧ S E ww I [blk g4_1 [.int .i64 0, .int .i64 0, .int .i64 0, .int .i64 0, .slice none 0 0] 38]) := ⟨_, fun _ _ _ => Iff.rfl⟩
  refine RunC.loopX Inv0 (fun aa ww hF hS => ⟨_, (hInv0 _ _ _).2 ⟨0, (by simp), (by simp), rfl, hF.sub (Sub.of rfl), hS.sub (perm_self _)⟩⟩) ?_
  intro mm0 aa ww hv
  obtain ⟨k, hk, hn, hmm_, hF, hS⟩ := (hInv0 _ _ _).1 hv
  clear hv
  refine RunC.go ?_ hF hS
  clear hF hS aa ww
  refine RunC.seq ?_
  refine RunC.sr ?_
  refine Run.mv ?_
  refine Run.mv ?_
  refine Run.m (y_len rfl Tryz.runUnderlying33 rfl) ?_
  refine Run.m (v := .bool (decide ((k : Int) < (l.length : Int)))) (y_bin rfl rfl rfl bn_lss) ?_
  refine Run.nx ?_
  refine RunC.cond rfl (fun hc0 => ?_) (fun hc0 => ?_)
  ·
    try simp only [z1, z2, z3, z4, z5, z6, z7, z8, z9, z10, z11, z12, z13, z14, z15, z16] at hc0
    refine RunC.skip ?_
    refine RunQ.next ?_
    refine RunC.seq ?_
    refine RunC.block ?_
    refine RunC.sr ?_
    refine Run.as ?_
    refine Run.nx ?_
    refine RunC.block ?_
    obtain ⟨Inv1, hInv1⟩ : ∃ Inv : Nat → Act → World → Prop, ∀ mm aa ww, Inv mm aa ww ↔ (∃ (q : Nat), (q ≤ (labsAt l k).length) ∧ (((labsAt l k).take q).contains label = false) ∧ (mm = ((labsAt l k).length - q)) ∧ Frm aa 39 [(0, .slice Al l.length cl), (1, .int .i64 label), (4, .pointer (some ⟨g4_1, 0, none⟩)), (6, .int .i64 (k : Int)), (8, .int .i64 (k : Int)), (9, .slice Al l.length cl), (10, .int .i64 (l.length : Int)), (11, .bool (decide ((k : Int) < (l.length : Int)))), (7, .int .i64 (q : Int))] ∧ S E ww I [blk g4_1 [.int .i64 0, .int .i64 0, .int .i64 0, .int .i64 0, .slice none 0 0] 38]) := ⟨_, fun _ _ _ => Iff.rfl⟩
    refine RunC.loopX Inv1 (fun aa ww hF hS => ⟨_, (hInv1 _ _ _).2 ⟨0, (by omega), (by simp), rfl, hF.sub (Sub.of rfl), hS.sub (perm_self _)⟩⟩) ?_
    intro mm1 aa ww hv
    obtain ⟨q, hq, hno, hmm_, hF, hS⟩ := (hInv1 _ _ _).1 hv
    clear hv
    refine RunC.go ?_ hF hS
    clear hF hS aa ww
    refine RunC.seq ?_
    refine RunC.sr ?_
    refine Run.mv ?_
    refine Run.mv ?_
    refine Run.mv ?_
    obtain ⟨x17, p17_2, cs17_2, hx17, hp17_2, hcs17_2, hrc17_2⟩ := Sl.at_ (P := Tryz.prog) (T := tSeal) Tryz.runUnderlying33 Tryz.sizeOf38 hl (k := .i64) (i := (k : Int)) (by omega) (by omega)
    replace hx17 : l[k]? = some x17 := hx17
    obtain ⟨A17_2_4, c17_2_4, rfl, f17_2_0, f17_2_1, f17_2_2, f17_2_3, f17_2_4⟩ := hcs17_2
    have hsm17_2_4 := f17_2_4.small
    have hla := labsAt_of hx17
    have hll := congrArg List.length hla
    refine Run.m (v := .pointer (some p17_2)) (y_index rfl rfl rfl hp17_2) ?_
    refine Run.m (v := .pointer (some (p17_2.add 4))) (y_fieldAddr rfl rfl Tryz.runUnderlying38 rfl Tryz.sizeOf36 (by decide) rfl) ?_
    refine Run.m (v := .slice A17_2_4 x17.labels.length c17_2_4) (y_load1 rfl Tryz.isAgg36 rfl (RCells.at_ hrc17_2 4 rfl rfl)) ?_
    refine Run.m (y_len rfl Tryz.runUnderlying36 rfl) ?_
    refine Run.m (v := .bool (decide ((q : Int) < (x17.labels.length : Int)))) (y_bin rfl rfl rfl bn_lss) ?_
    refine Run.nx ?_
    refine RunC.cond rfl (fun hc1 => ?_) (fun hc1 => ?_)
    ·
      try simp only [z1, z2, z3, z4, z5, z6, z7, z8, z9, z10, z11, z12, z13, z14, z15, z16] at hc1
      refine RunC.skip ?_
      refine RunQ.next ?_
      refine RunC.seq ?_
      refine RunC.block ?_
      refine RunC.sr ?_
      refine Run.mv ?_
      refine Run.mv ?_
      obtain ⟨x26, p26_3, cs26_3, hx26, hp26_3, hcs26_3, hrc26_3⟩ := Sl.at_ (P := Tryz.prog) (T := tSeal) Tryz.runUnderlying33 Tryz.sizeOf38 hl (k := .i64) (i := (k : Int)) (by omega) (by omega)
      replace hx26 : l[k]? = some x26 := hx26
      obtain ⟨A26_3_4, c26_3_4, rfl, f26_3_0, f26_3_1, f26_3_2, f26_3_3, f26_3_4⟩ := hcs26_3
      have hsm26_3_4 := f26_3_4.small
      have hlx : x17.labels.length = x26.labels.length := by rw [Option.some.inj (hx17.symm.trans hx26)]
      refine Run.m (v := .pointer (some p26_3)) (y_index rfl rfl rfl hp26_3) ?_
      refine Run.m (v := .pointer (some (p26_3.add 4))) (y_fieldAddr rfl rfl Tryz.runUnderlying38 rfl Tryz.sizeOf36 (by decide) rfl) ?_
      refine Run.m (v := .slice A26_3_4 x26.labels.length c26_3_4) (y_load1 rfl Tryz.isAgg36 rfl (RCells.at_ hrc26_3 4 rfl rfl)) ?_
      refine Run.mv ?_
      obtain ⟨x30, p30_4, cs30_4, hx30, hp30_4, hcs30_4, hrc30_4⟩ := Sl.at_ (P := Tryz.prog) (T := tInt) Tryz.runUnderlying36 Tryz.sizeOf3 f26_3_4 (k := .i64) (i := (q : Int)) (by omega) (by omega)
      replace hx30 : x26.labels[q]? = some x30 := hx30
      obtain ⟨rfl, f30_4_0⟩ := hcs30_4
      refine Run.m (v := .pointer (some p30_4)) (y_index rfl rfl rfl hp30_4) ?_
      refine Run.m (v := .int .i64 x30) (y_load1 rfl Tryz.isAgg3 rfl (RCells.hd hrc30_4)) ?_
      refine Run.mv ?_
      refine Run.m (v := .bool (decide (x30 = label))) (y_bin rfl rfl rfl bn_eql) ?_
      refine Run.nx ?_
      refine RunC.cond rfl (fun hc2 => ?_) (fun hc2 => ?_)
      ·
        try simp only [z1, z2, z3, z4, z5, z6, z7, z8, z9, z10, z11, z12, z13, z14, z15, z16] at hc2
        refine RunC.sr ?_
        refine Run.mv ?_
        refine Run.mv ?_
        obtain ⟨x36, p36_5, cs36_5, hx36, hp36_5, hcs36_5, hrc36_5⟩ := Sl.at_ (P := Tryz.prog) (T := tSeal) Tryz.runUnderlying33 Tryz.sizeOf38 hl (k := .i64) (i := (k : Int)) (by omega) (by omega)
        replace hx36 : l[k]? = some x36 := hx36
        obtain ⟨A36_5_4, c36_5_4, rfl, f36_5_0, f36_5_1, f36_5_2, f36_5_3, f36_5_4⟩ := hcs36_5
        have hsm36_5_4 := f36_5_4.small
        refine Run.m (v := .pointer (some p36_5)) (y_index rfl rfl rfl hp36_5) ?_
        refine Run.m (v := .agg [.int .i64 x36.number, .int .i64 x36.index, .int .i64 x36.data, .int .i64 x36.parity, .slice A36_5_4 x36.labels.length c36_5_4].toArray) (y_loadA (cs := [.int .i64 x36.number, .int .i64 x36.index, .int .i64 x36.data, .int .i64 x36.parity, .slice A36_5_4 x36.labels.length c36_5_4]) rfl Tryz.isAgg38 Tryz.sizeOf38 rfl hrc36_5 rfl) ?_
        refine Run.storeB (vs := [.int .i64 x36.number, .int .i64 x36.index, .int .i64 x36.data, .int .i64 x36.parity, .slice A36_5_4 x36.labels.length c36_5_4]) (cs' := [.int .i64 x36.number, .int .i64 x36.index, .int .i64 x36.data, .int .i64 x36.parity, .slice A36_5_4 x36.labels.length c36_5_4]) (own' := []) 0 rfl rfl rfl Tryz.sizeOf38 rfl rfl rfl rfl rfl (Nat.le_of_ble_eq_true rfl) rfl rfl rfl ?_
        refine Run.as ?_
        refine Run.nx ?_
        refine RunC.ret ?_
        refine RunQ.inR ?_
        refine RunQ.pass (fun h => by cases h) ?_
        refine RunQ.pass (fun h => by cases h) ?_
        refine RunQ.inR ?_
        refine RunQ.inR ?_
        refine RunQ.pass (fun h => by cases h) ?_
        refine RunQ.pass (fun h => by cases h) ?_
        refine RunQ.inR ?_
        refine RunQ.pass (fun h => by cases h) ?_
        refine RunQ.end2 (.inl rfl) Tryz.results16 (rv_cellA (i := 0) rfl Tryz.isAgg38 Tryz.sizeOf38 rfl rfl) (rv_tmp rfl) ?_
        exact ⟨rfl, _, _, rfl, (rd_eq (T := tSeal) (x := x36) ⟨_, _, rfl, f36_5_0, f36_5_1, f36_5_2, f36_5_3, f36_5_4⟩ (by first | (rw [gOf_at hx36 (by rw [show x36 = x26 from Option.some.inj (hx36.symm.trans hx26)]; exact has_at hx30 hc2) hn] <;> rfl) | (rw [gOf_none (by rw [List.take_of_length_le (by omega)] at hn; exact hn)] <;> rfl))), (rd_eq (T := tBool) (x := true) rfl (by first | (rw [gOf_at hx36 (by rw [show x36 = x26 from Option.some.inj (hx36.symm.trans hx26)]; exact has_at hx30 hc2) hn] <;> rfl) | (rw [gOf_none (by rw [List.take_of_length_le (by omega)] at hn; exact hn)] <;> rfl)))⟩
      ·
        try simp only [z1, z2, z3, z4, z5, z6, z7, z8, z9, z10, z11, z12, z13, z14, z15, z16] at hc2
        refine RunC.skip ?_
        refine RunQ.inB ?_
        refine RunQ.next ?_
        refine RunC.region ?_
        refine Run.mv ?_
        refine Run.m (v := .int .i64 ((q : Int) + 1)) (y_bin rfl rfl rfl (bn_add (by omega) (by omega))) ?_
        refine Run.as ?_
        refine Run.nil ?_
        exact RunQ.thenI (fun aa ww hF hS => ⟨_, (by omega), (hInv1 _ _ _).2 ⟨(q + 1), (by omega), (no_snoc (by rw [hla, show x17 = x26 from Option.some.inj (hx17.symm.trans hx26)]; exact hx30) hno hc2), rfl, hF.sub (Sub.of rfl), hS.sub (perm_self _)⟩⟩)
    ·
      try simp only [z1, z2, z3, z4, z5, z6, z7, z8, z9, z10, z11, z12, z13, z14, z15, z16] at hc1
      refine RunC.exit ?_
      refine RunQ.pass (fun h => by cases h) ?_
      refine RunQ.pass (fun h => by cases h) ?_
      refine RunQ.out ?_
      refine RunQ.inB ?_
      refine RunQ.next ?_
      refine RunC.region ?_
      refine Run.mv ?_
      refine Run.m (v := .int .i64 ((k : Int) + 1)) (y_bin rfl rfl rfl (bn_add (by omega) (by omega))) ?_
      refine Run.as ?_
      refine Run.nil ?_
      exact RunQ.thenI (fun aa ww hF hS => ⟨_, (by omega), (hInv0 _ _ _).2 ⟨(k + 1), (by omega), (no_all hx17 hn (by rw [← hla]; exact hno) (by omega)), rfl, hF.sub (Sub.of rfl), hS.sub (perm_self _)⟩⟩)
  ·
    try simp only [z1, z2, z3, z4, z5, z6, z7, z8, z9, z10, z11, z12, z13, z14, z15, z16] at hc0
    refine RunC.exit ?_
    refine RunQ.pass (fun h => by cases h) ?_
    refine RunQ.pass (fun h => by cases h) ?_
    refine RunQ.out ?_
    refine RunQ.next ?_
    refine RunC.sr ?_
    refine Run.m (v := .agg [.int .i64 0, .int .i64 0, .int .i64 0, .int .i64 0, .slice none 0 0].toArray) (y_build (vs := []) rfl rfl (fun w => by simp [Instr.build, Tryz.zeroValue38, Tryz.runUnderlying38, Tryz.sizeOf3, Tryz.sizeOf36, Instr.fill, Value.cells])) ?_
    refine Run.storeB (vs := [.int .i64 0, .int .i64 0, .int .i64 0, .int .i64 0, .slice none 0 0]) (cs' := [.int .i64 0, .int .i64 0, .int .i64 0, .int .i64 0, .slice none 0 0]) (own' := []) 0 rfl rfl rfl Tryz.sizeOf38 rfl rfl rfl rfl rfl (Nat.le_of_ble_eq_true rfl) rfl rfl rfl ?_
    refine Run.as ?_
    refine Run.nx ?_
    refine RunC.ret ?_
    refine RunQ.end2 (.inl rfl) Tryz.results16 (rv_cellA (i := 0) rfl Tryz.isAgg38 Tryz.sizeOf38 rfl rfl) (rv_tmp rfl) ?_
    exact ⟨rfl, _, _, rfl, (rd_eq (T := tSeal) (x := (⟨0, 0, 0, 0, ([] : List Int)⟩ : ASeal)) ⟨_, _, rfl, (by first | omega | (dsimp only; omega)), (by first | omega | (dsimp only; omega)), (by first | omega | (dsimp only; omega)), (by first | omega | (dsimp only; omega)), sl_nil0⟩ (by first | (rw [gOf_at hx36 (by rw [show x36 = x26 from Option.some.inj (hx36.symm.trans hx26)]; exact has_at hx30 hc2) hn] <;> rfl) | (rw [gOf_none (by rw [List.take_of_length_le (by omega)] at hn; exact hn)] <;> rfl))), (rd_eq (T := tBool) (x := false) rfl (by first | (rw [gOf_at hx36 (by rw [show x36 = x26 from Option.some.inj (hx36.symm.trans hx26)]; exact has_at hx30 hc2) hn] <;> rfl) | (rw [gOf_none (by rw [List.take_of_length_le (by omega)] at hn; exact hn)] <;> rfl)))⟩

theorem c_cartridgeref10_SameSeal (I : Imm) {csa : List Value} (a : ASeal) (ha : tSeal.rd I csa a) {csb : List Value} (b : ASeal) (hb : tSeal.rd I csb b) : Con Tryz.prog 14 [.agg csa.toArray, .agg csb.toArray].toArray I [] (Ret1 (tBool.o) (sSame a b)) := by
  obtain ⟨Aa_4, ca_4, rfl, fa_0, fa_1, fa_2, fa_3, fa_4⟩ := ha
  have hsma_4 := fa_4.small
  obtain ⟨Ab_4, cb_4, rfl, fb_0, fb_1, fb_2, fb_3, fb_4⟩ := hb
  have hsmb_4 := fb_4.small
  refine Con.enter (n := 59) (L := [(0, .agg [.int .i64 a.number, .int .i64 a.index, .int .i64 a.data, .int .i64 a.parity, .slice Aa_4 a.labels.length ca_4].toArray), (1, .agg [.int .i64 b.number, .int .i64 b.index, .int .i64 b.data, .int .i64 b.parity, .slice Ab_4 b.labels.length cb_4].toArray)]) Tryz.func14 rfl rfl (Nat.le_of_ble_eq_true rfl) rfl (fun E => ?_)
  refine RunC.sr ?_
  refine Run.box (cs := [.int .i64 a.number, .int .i64 a.index, .int .i64 a.data, .int .i64 a.parity, .slice Aa_4 a.labels.length ca_4]) rfl rfl rfl rfl rfl (by decide) (fun g2 => ?_)
  refine Run.box (cs := [.int .i64 b.number, .int .i64 b.index, .int .i64 b.data, .int .i64 b.parity, .slice Ab_4 b.labels.length cb_4]) rfl rfl rfl rfl rfl (by decide) (fun g3 => ?_)
  refine Run.as ?_
  refine Run.nx ?_
  refine RunC.seq ?_
  refine RunC.sr ?_
  refine Run.m (v := .pointer (some ⟨g2, 0, none⟩)) (y_fieldAddr rfl rfl Tryz.runUnderlying38 rfl Tryz.sizeOf3 (by decide) rfl) ?_
  refine Run.m (v := .int .i64 a.number) (y_loadB1 1 rfl Tryz.isAgg3 rfl rfl rfl) ?_
  refine Run.m (v := .pointer (some ⟨g3, 0, none⟩)) (y_fieldAddr rfl rfl Tryz.runUnderlying38 rfl Tryz.sizeOf3 (by decide) rfl) ?_
  refine Run.m (v := .int .i64 b.number) (y_loadB1 0 rfl Tryz.isAgg3 rfl rfl rfl) ?_
  refine Run.m (v := .bool (decide (a.number ≠ b.number))) (y_bin rfl rfl rfl bn_neq) ?_
  refine Run.mv ?_
  refine Run.split 6 rfl (b := decide (a.number ≠ b.number)) (d := 17) (v := .bool ((decide (a.number ≠ b.number)) || (decide (a.index ≠ b.index)))) (fun hb11 K11 => ?_) (fun hb11 K11 => ?_) ?_
  ·
    have hc1011 := hb11; try simp only [z1, z2, z3, z4, z5, z6, z7, z8, z9, z10, z11, z12, z13, z14, z15, z16] at hc1011
    refine Run.no rfl rfl rfl rfl (hb11) rfl (by decide) ?_
    refine Run.no rfl rfl rfl rfl (hb11) rfl (by decide) ?_
    refine Run.no rfl rfl rfl rfl (hb11) rfl (by decide) ?_
    refine Run.no rfl rfl rfl rfl (hb11) rfl (by decide) ?_
    refine Run.no rfl rfl rfl rfl (hb11) rfl (by decide) ?_
    refine Run.y (y_pickB rfl rfl (hb11) rfl) rfl rfl (by decide) ?_
    exact K11 _ _ _ (Imm.le.refl _) (by rw [hb11]; simp) (Sub.tl 5 rfl rfl)
  ·
    have hc1011 := hb11; try simp only [z1, z2, z3, z4, z5, z6, z7, z8, z9, z10, z11, z12, z13, z14, z15, z16] at hc1011
    refine Run.yes (v := .pointer (some ⟨g2, 1, none⟩)) (y_fieldAddr rfl rfl Tryz.runUnderlying38 rfl Tryz.sizeOf3 (by decide) rfl) rfl rfl rfl rfl (hb11) rfl (by decide) ?_
    refine Run.yes (v := .int .i64 a.index) (y_loadB1 1 rfl Tryz.isAgg3 rfl rfl rfl) rfl rfl rfl rfl (hb11) rfl (by decide) ?_
    refine Run.yes (v := .pointer (some ⟨g3, 1, none⟩)) (y_fieldAddr rfl rfl Tryz.runUnderlying38 rfl Tryz.sizeOf3 (by decide) rfl) rfl rfl rfl rfl (hb11) rfl (by decide) ?_
    refine Run.yes (v := .int .i64 b.index) (y_loadB1 0 rfl Tryz.isAgg3 rfl rfl rfl) rfl rfl rfl rfl (hb11) rfl (by decide) ?_
    refine Run.yes (v := .bool (decide (a.index ≠ b.index))) (y_bin rfl rfl rfl bn_neq) rfl rfl rfl rfl (hb11) rfl (by decide) ?_
    refine Run.y (y_pickB rfl rfl (hb11) rfl) rfl rfl (by decide) ?_
    exact K11 _ _ _ (Imm.le.refl _) (by rw [hb11]; simp) (Sub.tl 5 rfl rfl)
  refine Run.mv ?_
  refine Run.split 6 rfl (b := ((decide (a.number ≠ b.number)) || (decide (a.index ≠ b.index)))) (d := 24) (v := .bool (((decide (a.number ≠ b.number)) || (decide (a.index ≠ b.index))) || (decide (a.data ≠ b.data)))) (fun hb18 K18 => ?_) (fun hb18 K18 => ?_) ?_
  ·
    have hc1018 := hb18; try simp only [z1, z2, z3, z4, z5, z6, z7, z8, z9, z10, z11, z12, z13, z14, z15, z16] at hc1018
    refine Run.no rfl rfl rfl rfl (hb18) rfl (by decide) ?_
    refine Run.no rfl rfl rfl rfl (hb18) rfl (by decide) ?_
    refine Run.no rfl rfl rfl rfl (hb18) rfl (by decide) ?_
    refine Run.no rfl rfl rfl rfl (hb18) rfl (by decide) ?_
    refine Run.no rfl rfl rfl rfl (hb18) rfl (by decide) ?_
    refine Run.y (y_pickB rfl rfl (hb18) rfl) rfl rfl (by decide) ?_
    exact K18 _ _ _ (Imm.le.refl _) (by rw [hb18]; simp) (Sub.tl 5 rfl rfl)
  ·
    have hc1018 := hb18; try simp only [z1, z2, z3, z4, z5, z6, z7, z8, z9, z10, z11, z12, z13, z14, z15, z16] at hc1018
    refine Run.yes (v := .pointer (some ⟨g2, 2, none⟩)) (y_fieldAddr rfl rfl Tryz.runUnderlying38 rfl Tryz.sizeOf3 (by decide) rfl) rfl rfl rfl rfl (hb18) rfl (by decide) ?_
    refine Run.yes (v := .int .i64 a.data) (y_loadB1 1 rfl Tryz.isAgg3 rfl rfl rfl) rfl rfl rfl rfl (hb18) rfl (by decide) ?_
    refine Run.yes (v := .pointer (some ⟨g3, 2, none⟩)) (y_fieldAddr rfl rfl Tryz.runUnderlying38 rfl Tryz.sizeOf3 (by decide) rfl) rfl rfl rfl rfl (hb18) rfl (by decide) ?_
    refine Run.yes (v := .int .i64 b.data) (y_loadB1 0 rfl Tryz.isAgg3 rfl rfl rfl) rfl rfl rfl rfl (hb18) rfl (by decide) ?_
    refine Run.yes (v := .bool (decide (a.data ≠ b.data))) (y_bin rfl rfl rfl bn_neq) rfl rfl rfl rfl (hb18) rfl (by decide) ?_
    refine Run.y (y_pickB rfl rfl (hb18) rfl) rfl rfl (by decide) ?_
    exact K18 _ _ _ (Imm.le.refl _) (by rw [hb18]; simp) (Sub.tl 5 rfl rfl)
  refine Run.mv ?_
  refine Run.split 6 rfl (b := (((decide (a.number ≠ b.number)) || (decide (a.index ≠ b.index))) || (decide (a.data ≠ b.data)))) (d := 31) (v := .bool ((((decide (a.number ≠ b.number)) || (decide (a.index ≠ b.index))) || (decide (a.data ≠ b.data))) || (decide (a.parity ≠ b.parity)))) (fun hb25 K25 => ?_) (fun hb25 K25 => ?_) ?_
  ·
    have hc1025 := hb25; try simp only [z1, z2, z3, z4, z5, z6, z7, z8, z9, z10, z11, z12, z13, z14, z15, z16] at hc1025
    refine Run.no rfl rfl rfl rfl (hb25) rfl (by decide) ?_
    refine Run.no rfl rfl rfl rfl (hb25) rfl (by decide) ?_
    refine Run.no rfl rfl rfl rfl (hb25) rfl (by decide) ?_
    refine Run.no rfl rfl rfl rfl (hb25) rfl (by decide) ?_
    refine Run.no rfl rfl rfl rfl (hb25) rfl (by decide) ?_
    refine Run.y (y_pickB rfl rfl (hb25) rfl) rfl rfl (by decide) ?_
    exact K25 _ _ _ (Imm.le.refl _) (by rw [hb25]; simp) (Sub.tl 5 rfl rfl)
  ·
    have hc1025 := hb25; try simp only [z1, z2, z3, z4, z5, z6, z7, z8, z9, z10, z11, z12, z13, z14, z15, z16] at hc1025
    refine Run.yes (v := .pointer (some ⟨g2, 3, none⟩)) (y_fieldAddr rfl rfl Tryz.runUnderlying38 rfl Tryz.sizeOf3 (by decide) rfl) rfl rfl rfl rfl (hb25) rfl (by decide) ?_
    refine Run.yes (v := .int .i64 a.parity) (y_loadB1 1 rfl Tryz.isAgg3 rfl rfl rfl) rfl rfl rfl rfl (hb25) rfl (by decide) ?_
    refine Run.yes (v := .pointer (some ⟨g3, 3, none⟩)) (y_fieldAddr rfl rfl Tryz.runUnderlying38 rfl Tryz.sizeOf3 (by decide) rfl) rfl rfl rfl rfl (hb25) rfl (by decide) ?_
    refine Run.yes (v := .int .i64 b.parity) (y_loadB1 0 rfl Tryz.isAgg3 rfl rfl rfl) rfl rfl rfl rfl (hb25) rfl (by decide) ?_
    refine Run.yes (v := .bool (decide (a.parity ≠ b.parity))) (y_bin rfl rfl rfl bn_neq) rfl rfl rfl rfl (hb25) rfl (by decide) ?_
    refine Run.y (y_pickB rfl rfl (hb25) rfl) rfl rfl (by decide) ?_
    exact K25 _ _ _ (Imm.le.refl _) (by rw [hb25]; simp) (Sub.tl 5 rfl rfl)
  refine Run.mv ?_
  refine Run.split 8 rfl (b := ((((decide (a.number ≠ b.number)) || (decide (a.index ≠ b.index))) || (decide (a.data ≠ b.data))) || (decide (a.parity ≠ b.parity)))) (d := 40) (v := .bool (((((decide (a.number ≠ b.number)) || (decide (a.index ≠ b.index))) || (decide (a.data ≠ b.data))) || (decide (a.parity ≠ b.parity))) || (decide ((a.labels.length : Int) ≠ (b.labels.length : Int))))) (fun hb32 K32 => ?_) (fun hb32 K32 => ?_) ?_
  ·
    have hc1032 := hb32; try simp only [z1, z2, z3, z4, z5, z6, z7, z8, z9, z10, z11, z12, z13, z14, z15, z16] at hc1032
    refine Run.no rfl rfl rfl rfl (hb32) rfl (by decide) ?_
    refine Run.no rfl rfl rfl rfl (hb32) rfl (by decide) ?_
    refine Run.no rfl rfl rfl rfl (hb32) rfl (by decide) ?_
    refine Run.no rfl rfl rfl rfl (hb32) rfl (by decide) ?_
    refine Run.no rfl rfl rfl rfl (hb32) rfl (by decide) ?_
    refine Run.no rfl rfl rfl rfl (hb32) rfl (by decide) ?_
    refine Run.no rfl rfl rfl rfl (hb32) rfl (by decide) ?_
    refine Run.y (y_pickB rfl rfl (hb32) rfl) rfl rfl (by decide) ?_
    exact K32 _ _ _ (Imm.le.refl _) (by rw [hb32]; simp) (Sub.tl 7 rfl rfl)
  ·
    have hc1032 := hb32; try simp only [z1, z2, z3, z4, z5, z6, z7, z8, z9, z10, z11, z12, z13, z14, z15, z16] at hc1032
    refine Run.yes (v := .pointer (some ⟨g2, 4, none⟩)) (y_fieldAddr rfl rfl Tryz.runUnderlying38 rfl Tryz.sizeOf36 (by decide) rfl) rfl rfl rfl rfl (hb32) rfl (by decide) ?_
    refine Run.yes (v := .slice Aa_4 a.labels.length ca_4) (y_loadB1 1 rfl Tryz.isAgg36 rfl rfl rfl) rfl rfl rfl rfl (hb32) rfl (by decide) ?_
    refine Run.yes (v := .int .i64 (a.labels.length : Int)) (y_len rfl Tryz.runUnderlying36 rfl) rfl rfl rfl rfl (hb32) rfl (by decide) ?_
    refine Run.yes (v := .pointer (some ⟨g3, 4, none⟩)) (y_fieldAddr rfl rfl Tryz.runUnderlying38 rfl Tryz.sizeOf36 (by decide) rfl) rfl rfl rfl rfl (hb32) rfl (by decide) ?_
    refine Run.yes (v := .slice Ab_4 b.labels.length cb_4) (y_loadB1 0 rfl Tryz.isAgg36 rfl rfl rfl) rfl rfl rfl rfl (hb32) rfl (by decide) ?_
    refine Run.yes (v := .int .i64 (b.labels.length : Int)) (y_len rfl Tryz.runUnderlying36 rfl) rfl rfl rfl rfl (hb32) rfl (by decide) ?_
    refine Run.yes (v := .bool (decide ((a.labels.length : Int) ≠ (b.labels.length : Int)))) (y_bin rfl rfl rfl bn_neq) rfl rfl rfl rfl (hb32) rfl (by decide) ?_
    refine Run.y (y_pickB rfl rfl (hb32) rfl) rfl rfl (by decide) ?_
    exact K32 _ _ _ (Imm.le.refl _) (by rw [hb32]; simp) (Sub.tl 7 rfl rfl)
  refine Run.nx ?_
  refine RunC.cond rfl (fun hc0 => ?_) (fun hc0 => ?_)
  ·
    try simp only [z1, z2, z3, z4, z5, z6, z7, z8, z9, z10, z11, z12, z13, z14, z15, z16] at hc0
    refine RunC.sr ?_
    refine Run.as ?_
    refine Run.nx ?_
    refine RunC.ret ?_
    refine RunQ.pass (fun h => by cases h) ?_
    refine RunQ.weak Sub.refl (perm_nil _) ?_
    refine RunQ.fin1 (.inl rfl) Tryz.results14 (rv_tmp rfl) ?_
    exact ⟨rfl, _, rfl, (rd_eq (T := tBool) (x := false) rfl (by first | exact (sSame_f1 hc0).symm | exact (sSame_f2 hx51 hx56 hc2).symm | exact (sSame_t hc0 (by omega) he).symm))⟩
  ·
    try simp only [z1, z2, z3, z4, z5, z6, z7, z8, z9, z10, z11, z12, z13, z14, z15, z16] at hc0
    refine RunC.skip ?_
    refine RunQ.next ?_
    refine RunC.seq ?_
    refine RunC.sr ?_
    refine Run.as ?_
    refine Run.nx ?_
    refine RunC.block ?_
    obtain ⟨Inv0, hInv0⟩ : ∃ Inv : Nat → Act → World → Prop, ∀ mm aa ww, Inv mm aa ww ↔ (∃ (k : Nat), (k ≤ a.labels.length) ∧ (a.labels.take k = b.labels.take k) ∧ (mm = (a.labels.length - k)) ∧ Frm aa 59 [(2, .pointer (some ⟨g2, 0, none⟩)), (3, .pointer (some ⟨g3, 0, none⟩)), (5, .int .i64 (k : Int))] ∧ S E ww I [blk g3 [.int .i64 b.number, .int .i64 b.index, .int .i64 b.data, .int .i64 b.parity, .slice Ab_4 b.labels.length cb_4] 38, blk g2 [.int .i64 a.number, .int .i64 a.index, .int .i64 a.data, .int .i64 a.parity, .slice Aa_4 a.labels.length ca_4] 38]) := ⟨_, fun _ _ _ => Iff.rfl⟩
    refine RunC.loopX Inv0 (fun aa ww hF hS => ⟨_, (hInv0 _ _ _).2 ⟨0, (by omega), (by simp), rfl, hF.sub (Sub.of rfl), hS.sub (perm_self _)⟩⟩) ?_
    intro mm0 aa ww hv
    obtain ⟨k, hk, he, hmm_, hF, hS⟩ := (hInv0 _ _ _).1 hv
    clear hv
    refine RunC.go ?_ hF hS
    clear hF hS aa ww
    refine RunC.seq ?_
    refine RunC.sr ?_
    refine Run.mv ?_
    refine Run.m (v := .pointer (some ⟨g2, 4, none⟩)) (y_fieldAddr rfl rfl Tryz.runUnderlying38 rfl Tryz.sizeOf36 (by decide) rfl) ?_
    refine Run.m (v := .slice Aa_4 a.labels.length ca_4) (y_loadB1 1 rfl Tryz.isAgg36 rfl rfl rfl) ?_
    refine Run.m (y_len rfl Tryz.runUnderlying36 rfl) ?_
    refine Run.m (v := .bool (decide ((k : Int) < (a.labels.length : Int)))) (y_bin rfl rfl rfl bn_lss) ?_
    refine Run.nx ?_
    refine RunC.cond rfl (fun hc1 => ?_) (fun hc1 => ?_)
    ·
      try simp only [z1, z2, z3, z4, z5, z6, z7, z8, z9, z10, z11, z12, z13, z14, z15, z16] at hc1
      refine RunC.skip ?_
      refine RunQ.next ?_
      refine RunC.seq ?_
      refine RunC.block ?_
      refine RunC.seq ?_
      refine RunC.regionD (by kernel_rfl) (by kernel_rfl) ?_
      refine RunZ.y (v := .pointer (some ⟨g2, 4, none⟩)) (y_fieldAddr rfl rfl Tryz.runUnderlying38 rfl Tryz.sizeOf36 (by decide) rfl) rfl rfl (by decide) ?_
      refine RunZ.y (v := .slice Aa_4 a.labels.length ca_4) (y_loadB1 1 rfl Tryz.isAgg36 rfl rfl rfl) rfl rfl (by decide) ?_
      refine RunZ.y (v := .int .i64 (k : Int)) (y_move rfl rfl) rfl rfl (by decide) ?_
      obtain ⟨x51, p51_1, cs51_1, hx51, hp51_1, hcs51_1, hrc51_1⟩ := Sl.at_ (P := Tryz.prog) (T := tInt) Tryz.runUnderlying36 Tryz.sizeOf3 fa_4 (k := .i64) (i := (k : Int)) (by omega) (by omega)
      replace hx51 : a.labels[k]? = some x51 := hx51
      obtain ⟨rfl, f51_1_0⟩ := hcs51_1
      refine RunZ.y (v := .pointer (some p51_1)) (y_index rfl rfl rfl hp51_1) rfl rfl (by decide) ?_
      refine RunZ.y (v := .int .i64 x51) (y_load1 rfl Tryz.isAgg3 rfl (RCells.hd hrc51_1)) rfl rfl (by decide) ?_
      refine RunZ.y (v := .pointer (some ⟨g3, 4, none⟩)) (y_fieldAddr rfl rfl Tryz.runUnderlying38 rfl Tryz.sizeOf36 (by decide) rfl) rfl rfl (by decide) ?_
      refine RunZ.y (v := .slice Ab_4 b.labels.length cb_4) (y_loadB1 0 rfl Tryz.isAgg36 rfl rfl rfl) rfl rfl (by decide) ?_
      refine RunZ.y (v := .int .i64 (k : Int)) (y_move rfl rfl) rfl rfl (by decide) ?_
      obtain ⟨x56, p56_2, cs56_2, hx56, hp56_2, hcs56_2, hrc56_2⟩ := Sl.at_ (P := Tryz.prog) (T := tInt) Tryz.runUnderlying36 Tryz.sizeOf3 fb_4 (k := .i64) (i := (k : Int)) (by omega) (by omega)
      replace hx56 : b.labels[k]? = some x56 := hx56
      obtain ⟨rfl, f56_2_0⟩ := hcs56_2
      refine RunZ.y (v := .pointer (some p56_2)) (y_index rfl rfl rfl hp56_2) rfl rfl (by decide) ?_
      refine RunZ.y (v := .int .i64 x56) (y_load1 rfl Tryz.isAgg3 rfl (RCells.hd hrc56_2)) rfl rfl (by decide) ?_
      refine RunZ.y (v := .bool (decide (x51 ≠ x56))) (y_bin rfl rfl rfl bn_neq) rfl rfl (by decide) ?_
      refine RunZ.nil ?_
      refine RunQ.next ?_
      refine RunC.cond rfl (fun hc2 => ?_) (fun hc2 => ?_)
      ·
        try simp only [z1, z2, z3, z4, z5, z6, z7, z8, z9, z10, z11, z12, z13, z14, z15, z16] at hc2
        refine RunC.sr ?_
        refine Run.as ?_
        refine Run.nx ?_
        refine RunC.ret ?_
        refine RunQ.inR ?_
        refine RunQ.pass (fun h => by cases h) ?_
        refine RunQ.pass (fun h => by cases h) ?_
        refine RunQ.inR ?_
        refine RunQ.pass (fun h => by cases h) ?_
        refine RunQ.weak Sub.refl (perm_nil _) ?_
        refine RunQ.fin1 (.inl rfl) Tryz.results14 (rv_tmp rfl) ?_
        exact ⟨rfl, _, rfl, (rd_eq (T := tBool) (x := false) rfl (by first | exact (sSame_f1 hc0).symm | exact (sSame_f2 hx51 hx56 hc2).symm | exact (sSame_t hc0 (by omega) he).symm))⟩
      ·
        try simp only [z1, z2, z3, z4, z5, z6, z7, z8, z9, z10, z11, z12, z13, z14, z15, z16] at hc2
        refine RunC.skip ?_
        refine RunQ.inB ?_
        refine RunQ.next ?_
        refine RunC.region ?_
        refine Run.mv ?_
        refine Run.m (v := .int .i64 ((k : Int) + 1)) (y_bin rfl rfl rfl (bn_add (by omega) (by omega))) ?_
        refine Run.as ?_
        refine Run.nil ?_
        exact RunQ.thenI (fun aa ww hF hS => ⟨_, (by omega), (hInv0 _ _ _).2 ⟨(k + 1), (by omega), (by rw [take_snoc' hx51, take_snoc' hx56, he, hc2]), rfl, hF.sub (Sub.of rfl), hS.sub (perm_self _)⟩⟩)
    ·
      try simp only [z1, z2, z3, z4, z5, z6, z7, z8, z9, z10, z11, z12, z13, z14, z15, z16] at hc1
      refine RunC.exit ?_
      refine RunQ.pass (fun h => by cases h) ?_
      refine RunQ.pass (fun h => by cases h) ?_
      refine RunQ.out ?_
      refine RunQ.next ?_
      refine RunC.sr ?_
      refine Run.as ?_
      refine Run.nx ?_
      refine RunC.ret ?_
      refine RunQ.weak Sub.refl (perm_nil _) ?_
      refine RunQ.fin1 (.inl rfl) Tryz.results14 (rv_tmp rfl) ?_
      exact ⟨rfl, _, rfl, (rd_eq (T := tBool) (x := true) rfl (by first | exact (sSame_f1 hc0).symm | exact (sSame_f2 hx51 hx56 hc2).symm | exact (sSame_t hc0 (by omega) he).symm))⟩

theorem c_cartridgelaw8_Few (I : Imm) {cst : List Value} (t : ATape) (ht : tTape.rd I cst t) : Con Tryz.prog 25 [.agg cst.toArray].toArray I [] (Ret1 (tBool.o) (fewT t)) := by
  obtain ⟨At_2, ct_2, rfl, ft_0, ft_1, ft_2⟩ := ht
  have hsmt_2 := ft_2.small
  refine Con.enter (n := 26) (L := [(0, .agg [.int .i64 t.label, .int .i64 t.cap, .slice At_2 t.blocks.length ct_2, .bool t.lost].toArray)]) Tryz.func25 rfl rfl (Nat.le_of_ble_eq_true rfl) rfl (fun E => ?_)
  refine RunC.sr ?_
  refine Run.box (cs := [.int .i64 t.label, .int .i64 t.cap, .slice At_2 t.blocks.length ct_2, .bool t.lost]) rfl rfl rfl rfl rfl (by decide) (fun g1 => ?_)
  refine Run.as ?_
  refine Run.nx ?_
  refine RunC.seq ?_
  refine RunC.sr ?_
  refine Run.as ?_
  refine Run.nx ?_
  refine RunC.block ?_
  obtain ⟨Inv0, hInv0⟩ : ∃ Inv : Nat → Act → World → Prop, ∀ mm aa ww, Inv mm aa ww ↔ (∃ (k : Nat), (k ≤ t.blocks.length) ∧ (k ≤ 100) ∧ (∀ b ∈ t.blocks.take k, b.length ≤ 300) ∧ (mm = (t.blocks.length - k)) ∧ Frm aa 26 [(1, .pointer (some ⟨g1, 0, none⟩)), (3, .int .i64 (k : Int))] ∧ S E ww I [blk g1 [.int .i64 t.label, .int .i64 t.cap, .slice At_2 t.blocks.length ct_2, .bool t.lost] 45]) := ⟨_, fun _ _ _ => Iff.rfl⟩
  refine RunC.loopX Inv0 (fun aa ww hF hS => ⟨_, (hInv0 _ _ _).2 ⟨0, (by omega), (by omega), (by simp), rfl, hF.sub (Sub.of rfl), hS.sub (perm_self _)⟩⟩) ?_
  intro mm0 aa ww hv
  obtain ⟨k, hk, hk2, hn, hmm_, hF, hS⟩ := (hInv0 _ _ _).1 hv
  clear hv
  refine RunC.go ?_ hF hS
  clear hF hS aa ww
  refine RunC.seq ?_
  refine RunC.sr ?_
  refine Run.mv ?_
  refine Run.m (v := .pointer (some ⟨g1, 2, none⟩)) (y_fieldAddr rfl rfl Tryz.runUnderlying45 rfl Tryz.sizeOf43 (by decide) rfl) ?_
  refine Run.m (v := .slice At_2 t.blocks.length ct_2) (y_loadB1 0 rfl Tryz.isAgg43 rfl rfl rfl) ?_
  refine Run.m (y_len rfl Tryz.runUnderlying43 rfl) ?_
  refine Run.m (v := .bool (decide ((k : Int) < (t.blocks.length : Int)))) (y_bin rfl rfl rfl bn_lss) ?_
  refine Run.mv ?_
  refine Run.split 3 rfl (b := decide ((k : Int) < (t.blocks.length : Int))) (d := 12) (v := .bool ((decide ((k : Int) < (t.blocks.length : Int))) && (decide ((k : Int) < 100)))) (fun hb9 K9 => ?_) (fun hb9 K9 => ?_) ?_
  ·
    have hc1009 := hb9; try simp only [z1, z2, z3, z4, z5, z6, z7, z8, z9, z10, z11, z12, z13, z14, z15, z16] at hc1009
    refine Run.yes (v := .int .i64 (k : Int)) (y_move rfl rfl) rfl rfl rfl rfl (hb9) rfl (by decide) ?_
    refine Run.yes (v := .bool (decide ((k : Int) < 100))) (y_bin rfl rfl rfl bn_lss) rfl rfl rfl rfl (hb9) rfl (by decide) ?_
    refine Run.y (y_pickB rfl rfl (hb9) rfl) rfl rfl (by decide) ?_
    exact K9 _ _ _ (Imm.le.refl _) (by rw [hb9]; simp) (Sub.tl 2 rfl rfl)
  ·
    have hc1009 := hb9; try simp only [z1, z2, z3, z4, z5, z6, z7, z8, z9, z10, z11, z12, z13, z14, z15, z16] at hc1009
    refine Run.no rfl rfl rfl rfl (hb9) rfl (by decide) ?_
    refine Run.no rfl rfl rfl rfl (hb9) rfl (by decide) ?_
    refine Run.y (y_pickB rfl rfl (hb9) rfl) rfl rfl (by decide) ?_
    exact K9 _ _ _ (Imm.le.refl _) (by rw [hb9]; simp) (Sub.tl 2 rfl rfl)
  refine Run.nx ?_
  refine RunC.cond rfl (fun hc0 => ?_) (fun hc0 => ?_)
  ·
    try simp only [z1, z2, z3, z4, z5, z6, z7, z8, z9, z10, z11, z12, z13, z14, z15, z16] at hc0
    refine RunC.skip ?_
    refine RunQ.next ?_
    refine RunC.seq ?_
    refine RunC.block ?_
    refine RunC.sr ?_
    refine Run.m (v := .pointer (some ⟨g1, 2, none⟩)) (y_fieldAddr rfl rfl Tryz.runUnderlying45 rfl Tryz.sizeOf43 (by decide) rfl) ?_
    refine Run.m (v := .slice At_2 t.blocks.length ct_2) (y_loadB1 0 rfl Tryz.isAgg43 rfl rfl rfl) ?_
    refine Run.mv ?_
    obtain ⟨x18, p18_1, cs18_1, hx18, hp18_1, hcs18_1, hrc18_1⟩ := Sl.at_ (P := Tryz.prog) (T := (tSl tU8)) Tryz.runUnderlying43 Tryz.sizeOf42 ft_2 (k := .i64) (i := (k : Int)) (by omega) (by omega)
    replace hx18 : t.blocks[k]? = some x18 := hx18
    obtain ⟨A18_1_0, c18_1_0, rfl, f18_1_0⟩ := hcs18_1
    have hsm18_1_0 := f18_1_0.small
    refine Run.m (v := .pointer (some p18_1)) (y_index rfl rfl rfl hp18_1) ?_
    refine Run.m (v := .slice A18_1_0 x18.length c18_1_0) (y_load1 rfl Tryz.isAgg42 rfl (RCells.hd hrc18_1)) ?_
    refine Run.m (y_len rfl Tryz.runUnderlying42 rfl) ?_
    refine Run.m (v := .bool (decide ((x18.length : Int) > 300))) (y_bin rfl rfl rfl bn_gtr) ?_
    refine Run.nx ?_
    refine RunC.cond rfl (fun hc1 => ?_) (fun hc1 => ?_)
    ·
      try simp only [z1, z2, z3, z4, z5, z6, z7, z8, z9, z10, z11, z12, z13, z14, z15, z16] at hc1
      refine RunC.sr ?_
      refine Run.as ?_
      refine Run.nx ?_
      refine RunC.ret ?_
      refine RunQ.inR ?_
      refine RunQ.pass (fun h => by cases h) ?_
      refine RunQ.pass (fun h => by cases h) ?_
      refine RunQ.inR ?_
      refine RunQ.pass (fun h => by cases h) ?_
      refine RunQ.weak Sub.refl (perm_nil _) ?_
      refine RunQ.fin1 (.inl rfl) Tryz.results25 (rv_tmp rfl) ?_
      exact ⟨rfl, _, rfl, (rd_eq (T := tBool) (x := false) rfl (by first | exact (fewT_no (by omega) hx18 hc1).symm | exact fewT_end (by omega) hk hk2 hn))⟩
    ·
      try simp only [z1, z2, z3, z4, z5, z6, z7, z8, z9, z10, z11, z12, z13, z14, z15, z16] at hc1
      refine RunC.skip ?_
      refine RunQ.inB ?_
      refine RunQ.next ?_
      refine RunC.region ?_
      refine Run.mv ?_
      refine Run.m (v := .int .i64 ((k : Int) + 1)) (y_bin rfl rfl rfl (bn_add (by omega) (by omega))) ?_
      refine Run.as ?_
      refine Run.nil ?_
      exact RunQ.thenI (fun aa ww hF hS => ⟨_, (by omega), (hInv0 _ _ _).2 ⟨(k + 1), (by omega), (by omega), (by rw [take_snoc' hx18]; intro y hy; rcases List.mem_append.1 hy with hy | hy; exact hn y hy; simp at hy; subst hy; omega), rfl, hF.sub (Sub.of rfl), hS.sub (perm_self _)⟩⟩)
  ·
    try simp only [z1, z2, z3, z4, z5, z6, z7, z8, z9, z10, z11, z12, z13, z14, z15, z16] at hc0
    refine RunC.exit ?_
    refine RunQ.pass (fun h => by cases h) ?_
    refine RunQ.pass (fun h => by cases h) ?_
    refine RunQ.out ?_
    refine RunQ.next ?_
    refine RunC.sr ?_
    refine Run.m (v := .pointer (some ⟨g1, 2, none⟩)) (y_fieldAddr rfl rfl Tryz.runUnderlying45 rfl Tryz.sizeOf43 (by decide) rfl) ?_
    refine Run.m (v := .slice At_2 t.blocks.length ct_2) (y_loadB1 0 rfl Tryz.isAgg43 rfl rfl rfl) ?_
    refine Run.m (y_len rfl Tryz.runUnderlying43 rfl) ?_
    refine Run.m (v := .bool (decide ((t.blocks.length : Int) ≤ 90))) (y_bin rfl rfl rfl bn_leq) ?_
    refine Run.as ?_
    refine Run.nx ?_
    refine RunC.ret ?_
    refine RunQ.weak Sub.refl (perm_nil _) ?_
    refine RunQ.fin1 (.inl rfl) Tryz.results25 (rv_tmp rfl) ?_
    exact ⟨rfl, _, rfl, (rd_eq (T := tBool) (x := decide ((t.blocks.length : Int) ≤ 90)) rfl (by first | exact (fewT_no (by omega) hx18 hc1).symm | exact fewT_end (by omega) hk hk2 hn))⟩

theorem c_cartridgelaw13_Few (I : Imm) {Al : Option Addr} {cl : Nat} (l : List ATape) (hl : Sl tTape I Al cl l) : Con Tryz.prog 7 [.slice Al l.length cl].toArray I [] (Ret1 (tBool.o) (fewL l)) := by
  have hsml := hl.small
  refine Con.enter (n := 36) (L := [(0, .slice Al l.length cl)]) Tryz.func7 rfl rfl (Nat.le_of_ble_eq_true rfl) rfl (fun E => ?_)
  refine RunC.sr ?_
  refine Run.as ?_
  refine Run.nx ?_
  refine RunC.sr ?_
  refine Run.as ?_
  refine Run.nx ?_
  refine RunC.seq ?_
  refine RunC.sr ?_
  refine Run.as ?_
  refine Run.nx ?_
  refine RunC.block ?_
  obtain ⟨Inv0, hInv0⟩ : ∃ Inv : Nat → Act → World → Prop, ∀ mm aa ww, Inv mm aa ww ↔ (∃ (k : Nat) (n1 : Nat), (k ≤ l.length) ∧ (k ≤ 20) ∧ (∀ t ∈ l.take k, fewT t = true) ∧ (n1 = blkN (l.take k)) ∧ (n1 ≤ 90 * k) ∧ (mm = (l.length - k)) ∧ Frm aa 36 [(0, .slice Al l.length cl), (4, .int .i64 (k : Int)), (3, .int .i64 (n1 : Int))] ∧ S E ww I []) := ⟨_, fun _ _ _ => Iff.rfl⟩
  refine RunC.loopX Inv0 (fun aa ww hF hS => ⟨_, (hInv0 _ _ _).2 ⟨0, 0, (by omega), (by omega), (by simp), rfl, (by omega), rfl, hF.sub (Sub.of rfl), hS.sub (perm_self _)⟩⟩) ?_
  intro mm0 aa ww hv
  obtain ⟨k, n1, hk, hk2, hn, hnn, hnb, hmm_, hF, hS⟩ := (hInv0 _ _ _).1 hv
  clear hv
  refine RunC.go ?_ hF hS
  clear hF hS aa ww
  refine RunC.seq ?_
  refine RunC.sr ?_
  refine Run.mv ?_
  refine Run.mv ?_
  refine Run.m (y_len rfl Tryz.runUnderlying22 rfl) ?_
  refine Run.m (v := .bool (decide ((k : Int) < (l.length : Int)))) (y_bin rfl rfl rfl bn_lss) ?_
  refine Run.mv ?_
  refine Run.split 3 rfl (b := decide ((k : Int) < (l.length : Int))) (d := 12) (v := .bool ((decide ((k : Int) < (l.length : Int))) && (decide ((k : Int) < 20)))) (fun hb9 K9 => ?_) (fun hb9 K9 => ?_) ?_
  ·
    have hc1009 := hb9; try simp only [z1, z2, z3, z4, z5, z6, z7, z8, z9, z10, z11, z12, z13, z14, z15, z16] at hc1009
    refine Run.yes (v := .int .i64 (k : Int)) (y_move rfl rfl) rfl rfl rfl rfl (hb9) rfl (by decide) ?_
    refine Run.yes (v := .bool (decide ((k : Int) < 20))) (y_bin rfl rfl rfl bn_lss) rfl rfl rfl rfl (hb9) rfl (by decide) ?_
    refine Run.y (y_pickB rfl rfl (hb9) rfl) rfl rfl (by decide) ?_
    exact K9 _ _ _ (Imm.le.refl _) (by rw [hb9]; simp) (Sub.tl 2 rfl rfl)
  ·
    have hc1009 := hb9; try simp only [z1, z2, z3, z4, z5, z6, z7, z8, z9, z10, z11, z12, z13, z14, z15, z16] at hc1009
    refine Run.no rfl rfl rfl rfl (hb9) rfl (by decide) ?_
    refine Run.no rfl rfl rfl rfl (hb9) rfl (by decide) ?_
    refine Run.y (y_pickB rfl rfl (hb9) rfl) rfl rfl (by decide) ?_
    exact K9 _ _ _ (Imm.le.refl _) (by rw [hb9]; simp) (Sub.tl 2 rfl rfl)
  refine Run.nx ?_
  refine RunC.cond rfl (fun hc0 => ?_) (fun hc0 => ?_)
  ·
    try simp only [z1, z2, z3, z4, z5, z6, z7, z8, z9, z10, z11, z12, z13, z14, z15, z16] at hc0
    refine RunC.skip ?_
    refine RunQ.next ?_
    refine RunC.seq ?_
    refine RunC.block ?_
    refine RunC.seq ?_
    refine RunC.sr ?_
    refine Run.mv ?_
    refine Run.mv ?_
    obtain ⟨x17, p17_1, cs17_1, hx17, hp17_1, hcs17_1, hrc17_1⟩ := Sl.at_ (P := Tryz.prog) (T := tTape) Tryz.runUnderlying22 Tryz.sizeOf45 hl (k := .i64) (i := (k : Int)) (by omega) (by omega)
    replace hx17 : l[k]? = some x17 := hx17
    obtain ⟨A17_1_2, c17_1_2, rfl, f17_1_0, f17_1_1, f17_1_2⟩ := hcs17_1
    have hsm17_1_2 := f17_1_2.small
    refine Run.m (v := .pointer (some p17_1)) (y_index rfl rfl rfl hp17_1) ?_
    refine Run.m (v := .agg [.int .i64 x17.label, .int .i64 x17.cap, .slice A17_1_2 x17.blocks.length c17_1_2, .bool x17.lost].toArray) (y_loadA (cs := [.int .i64 x17.label, .int .i64 x17.cap, .slice A17_1_2 x17.blocks.length c17_1_2, .bool x17.lost]) rfl Tryz.isAgg45 Tryz.sizeOf45 rfl hrc17_1 rfl) ?_
    refine Run.callV (en_func rfl Tryz.call25 rfl) (conv_bool (c_cartridgelaw8_Few _ x17 ⟨_, _, rfl, f17_1_0, f17_1_1, f17_1_2⟩)) rfl rfl (by decide) (fun hI2 => ?_)
    refine Run.m (v := .bool (!(fewT x17))) (y_not (b := (fewT x17)) rfl rfl) ?_
    refine Run.nx ?_
    refine RunC.cond rfl (fun hc1 => ?_) (fun hc1 => ?_)
    ·
      try simp only [z1, z2, z3, z4, z5, z6, z7, z8, z9, z10, z11, z12, z13, z14, z15, z16] at hc1
      refine RunC.sr ?_
      refine Run.as ?_
      refine Run.nx ?_
      refine RunC.ret ?_
      refine RunQ.pass (fun h => by cases h) ?_
      refine RunQ.inR ?_
      refine RunQ.pass (fun h => by cases h) ?_
      refine RunQ.pass (fun h => by cases h) ?_
      refine RunQ.inR ?_
      refine RunQ.pass (fun h => by cases h) ?_
      refine RunQ.weak Sub.refl (perm_nil _) ?_
      refine RunQ.fin1 (.inl rfl) Tryz.results7 (rv_tmp rfl) ?_
      exact ⟨rfl, _, rfl, (rd_eq (T := tBool) (x := false) rfl (by first | exact (fewL_no (by omega) hx17 hc1).symm | (rw [hnn]; exact fewL_end (by omega) hk hk2 hn)))⟩
    ·
      try simp only [z1, z2, z3, z4, z5, z6, z7, z8, z9, z10, z11, z12, z13, z14, z15, z16] at hc1
      refine RunC.skip ?_
      refine RunQ.next ?_
      refine RunC.region ?_
      refine Run.mv ?_
      refine Run.mv ?_
      refine Run.mv ?_
      obtain ⟨x24, p24_3, cs24_3, hx24, hp24_3, hcs24_3, hrc24_3⟩ := Sl.at_ (P := Tryz.prog) (T := tTape) Tryz.runUnderlying22 Tryz.sizeOf45 hl (k := .i64) (i := (k : Int)) (by omega) (by omega)
      replace hx24 : l[k]? = some x24 := hx24
      obtain ⟨A24_3_2, c24_3_2, rfl, f24_3_0, f24_3_1, f24_3_2⟩ := hcs24_3
      have hsm24_3_2 := f24_3_2.small
      have e9 : x24 = x17 := Option.some.inj (hx24.symm.trans hx17)
      have h90 : x24.blocks.length ≤ 90 := by rw [e9]; exact (fewT_bd hc1).1
      refine Run.m (v := .pointer (some p24_3)) (y_index rfl rfl rfl hp24_3) ?_
      refine Run.m (v := .pointer (some (p24_3.add 2))) (y_fieldAddr rfl rfl Tryz.runUnderlying45 rfl Tryz.sizeOf43 (by decide) rfl) ?_
      refine Run.m (v := .slice A24_3_2 x24.blocks.length c24_3_2) (y_load1 rfl Tryz.isAgg43 rfl (RCells.at_ hrc24_3 2 rfl rfl)) ?_
      refine Run.m (y_len rfl Tryz.runUnderlying43 rfl) ?_
      refine Run.m (v := .int .i64 ((n1 : Int) + (x24.blocks.length : Int))) (y_bin rfl rfl rfl (bn_add (by omega) (by omega))) ?_
      refine Run.as ?_
      refine Run.nil ?_
      refine RunQ.inB ?_
      refine RunQ.next ?_
      refine RunC.region ?_
      refine Run.mv ?_
      refine Run.m (v := .int .i64 ((k : Int) + 1)) (y_bin rfl rfl rfl (bn_add (by omega) (by omega))) ?_
      refine Run.as ?_
      refine Run.nil ?_
      exact RunQ.thenI (fun aa ww hF hS => ⟨_, (by omega), (hInv0 _ _ _).2 ⟨(k + 1), (n1 + x24.blocks.length), (by omega), (by omega), (few_snoc hx17 hn hc1), (by rw [blkN_snoc hx24]; omega), (by omega), rfl, hF.sub (Sub.of rfl), hS.sub (perm_self _)⟩⟩)
  ·
    try simp only [z1, z2, z3, z4, z5, z6, z7, z8, z9, z10, z11, z12, z13, z14, z15, z16] at hc0
    refine RunC.exit ?_
    refine RunQ.pass (fun h => by cases h) ?_
    refine RunQ.pass (fun h => by cases h) ?_
    refine RunQ.out ?_
    refine RunQ.next ?_
    refine RunC.sr ?_
    refine Run.mv ?_
    refine Run.m (y_len rfl Tryz.runUnderlying22 rfl) ?_
    refine Run.m (v := .bool (decide ((l.length : Int) ≤ 14))) (y_bin rfl rfl rfl bn_leq) ?_
    refine Run.mv ?_
    refine Run.split 3 rfl (b := decide ((l.length : Int) ≤ 14)) (d := 35) (v := .bool ((decide ((l.length : Int) ≤ 14)) && (decide ((n1 : Int) ≤ 300)))) (fun hb32 K32 => ?_) (fun hb32 K32 => ?_) ?_
    ·
      have hc1032 := hb32; try simp only [z1, z2, z3, z4, z5, z6, z7, z8, z9, z10, z11, z12, z13, z14, z15, z16] at hc1032
      refine Run.yes (v := .int .i64 (n1 : Int)) (y_move rfl rfl) rfl rfl rfl rfl (hb32) rfl (by decide) ?_
      refine Run.yes (v := .bool (decide ((n1 : Int) ≤ 300))) (y_bin rfl rfl rfl bn_leq) rfl rfl rfl rfl (hb32) rfl (by decide) ?_
      refine Run.y (y_pickB rfl rfl (hb32) rfl) rfl rfl (by decide) ?_
      exact K32 _ _ _ (Imm.le.refl _) (by rw [hb32]; simp) (Sub.tl 2 rfl rfl)
    ·
      have hc1032 := hb32; try simp only [z1, z2, z3, z4, z5, z6, z7, z8, z9, z10, z11, z12, z13, z14, z15, z16] at hc1032
      refine Run.no rfl rfl rfl rfl (hb32) rfl (by decide) ?_
      refine Run.no rfl rfl rfl rfl (hb32) rfl (by decide) ?_
      refine Run.y (y_pickB rfl rfl (hb32) rfl) rfl rfl (by decide) ?_
      exact K32 _ _ _ (Imm.le.refl _) (by rw [hb32]; simp) (Sub.tl 2 rfl rfl)
    refine Run.as ?_
    refine Run.nx ?_
    refine RunC.ret ?_
    refine RunQ.weak Sub.refl (perm_nil _) ?_
    refine RunQ.fin1 (.inl rfl) Tryz.results7 (rv_tmp rfl) ?_
    exact ⟨rfl, _, rfl, (rd_eq (T := tBool) (x := ((decide ((l.length : Int) ≤ 14)) && (decide ((n1 : Int) ≤ 300)))) rfl (by first | exact (fewL_no (by omega) hx17 hc1).symm | (rw [hnn]; exact fewL_end (by omega) hk hk2 hn)))⟩

theorem c_cartridgelaw14_GroupFinds (I : Imm) {Al : Option Addr} {cl : Nat} (l : List ATape) (hl : Sl tTape I Al cl l) (label : Int) (hlabel : I64 label) : Con Tryz.prog 4 [.slice Al l.length cl, .int .i64 label].toArray I [] (Ret1 (tBool.o) true) := by
  have hsml := hl.small
  refine Con.enter (n := 67) (L := [(0, .slice Al l.length cl), (1, .int .i64 label)]) Tryz.func4 rfl rfl (Nat.le_of_ble_eq_true rfl) rfl (fun E => ?_)
  refine RunC.sr ?_
  refine Run.as ?_
  refine Run.nx ?_
  refine RunC.sr ?_
  refine Run.callV (en_func rfl Tryz.call6 rfl) (conv_bool (c_cartridgelaw14_alive _)) rfl rfl (by decide) (fun hI1 => ?_)
  refine Run.as ?_
  refine Run.nx ?_
  refine RunC.seq ?_
  refine RunC.sr ?_
  refine Run.mv ?_
  refine Run.m (v := .bool false) (y_not (b := true) rfl rfl) ?_
  refine Run.mv ?_
  refine Run.yes (v := .slice Al l.length cl) (y_move rfl rfl) rfl rfl rfl rfl (rfl) rfl (by decide) ?_
  refine Run.callVYes (en_func rfl Tryz.call7 rfl) (conv_bool (c_cartridgelaw13_Few _ l hl)) rfl rfl rfl rfl (rfl) rfl (by decide) (fun hI2 => ?_)
  refine Run.yes (v := .bool (!(fewL l))) (y_not (b := (fewL l)) rfl rfl) rfl rfl rfl rfl (rfl) rfl (by decide) ?_
  refine Run.m (v := .bool (!(fewL l))) (y_pick rfl rfl rfl) ?_
  refine Run.nx ?_
  refine RunC.cond rfl (fun hc0 => ?_) (fun hc0 => ?_)
  ·
    try simp only [z1, z2, z3, z4, z5, z6, z7, z8, z9, z10, z11, z12, z13, z14, z15, z16] at hc0
    refine RunC.sr ?_
    refine Run.mv ?_
    refine Run.as ?_
    refine Run.nx ?_
    refine RunC.ret ?_
    refine RunQ.pass (fun h => by cases h) ?_
    refine RunQ.weak Sub.refl (perm_nil _) ?_
    refine RunQ.fin1 (.inl rfl) Tryz.results4 (rv_tmp rfl) ?_
    exact ⟨rfl, _, rfl, (rd_eq (T := tBool) (x := true) rfl (by first | rfl | (simp [sSame_refl]; done)))⟩
  ·
    try simp only [z1, z2, z3, z4, z5, z6, z7, z8, z9, z10, z11, z12, z13, z14, z15, z16] at hc0
    have hfew := fewL_bd hc0
    have hf14 := hfew.1
    refine RunC.skip ?_
    refine RunQ.next ?_
    refine RunC.sr ?_
    refine Run.mv ?_
    refine Run.call0 (en_func rfl Tryz.call12 rfl) (c_group_Find _ l hl (fun t ht x hx => by have := (hfew.2 t ht).2 x hx; omega) (by omega)) rfl rfl (by decide) (fun J3 o3 v3 hleJ3 hq3 => ?_)
    obtain ⟨rfl, cs3a, rfl, h3a⟩ := hq3
    replace h3a : (tSl tSeal).rd J3 cs3a (gFind l) := h3a
    obtain ⟨A3a_0, c3a_0, rfl, f3a_0⟩ := h3a
    have hsm3a_0 := f3a_0.small
    refine Run.as ?_
    refine Run.nx ?_
    refine RunC.sr ?_
    refine Run.mv ?_
    refine Run.call0 (en_func rfl Tryz.call13 rfl) (c_cartridgeref10_Find _ l (hl.mono hleJ3) (fun t ht x hx => by have := (hfew.2 t ht).2 x hx; omega) (by omega)) rfl rfl (by decide) (fun J4 o4 v4 hleJ4 hq4 => ?_)
    obtain ⟨rfl, cs4a, rfl, h4a⟩ := hq4
    replace h4a : (tSl tSeal).rd J4 cs4a (gFind l) := h4a
    obtain ⟨A4a_0, c4a_0, rfl, f4a_0⟩ := h4a
    have hsm4a_0 := f4a_0.small
    refine Run.as ?_
    refine Run.nx ?_
    refine RunC.seq ?_
    refine RunC.sr ?_
    refine Run.mv ?_
    refine Run.m (y_len rfl Tryz.runUnderlying33 rfl) ?_
    refine Run.mv ?_
    refine Run.m (y_len rfl Tryz.runUnderlying33 rfl) ?_
    refine Run.m (v := .bool (decide (((gFind l).length : Int) ≠ ((gFind l).length : Int)))) (y_bin rfl rfl rfl bn_neq) ?_
    refine Run.nx ?_
    refine RunC.cond rfl (fun hc1 => ?_) (fun hc1 => ?_)
    ·
      try simp only [z1, z2, z3, z4, z5, z6, z7, z8, z9, z10, z11, z12, z13, z14, z15, z16] at hc1
      exfalso
      first | exact hc1 rfl | exact hc1 trivial | exact absurd rfl hc1
    ·
      skip
      try simp only [z1, z2, z3, z4, z5, z6, z7, z8, z9, z10, z11, z12, z13, z14, z15, z16] at hc1
      refine RunC.skip ?_
      refine RunQ.next ?_
      refine RunC.seq ?_
      refine RunC.sr ?_
      refine Run.as ?_
      refine Run.nx ?_
      refine RunC.block ?_
      obtain ⟨Inv0, hInv0⟩ : ∃ Inv : Nat → Act → World → Prop, ∀ mm aa ww, Inv mm aa ww ↔ (∃ (k : Nat), (k ≤ (gFind l).length) ∧ (mm = ((gFind l).length - k)) ∧ Frm aa 67 [(1, .int .i64 label), (6, .slice A3a_0 ((gFind l).length) c3a_0), (7, .slice A4a_0 ((gFind l).length) c4a_0), (8, .int .i64 (k : Int))] ∧ S E ww J4 []) := ⟨_, fun _ _ _ => Iff.rfl⟩
      refine RunC.loopX Inv0 (fun aa ww hF hS => ⟨_, (hInv0 _ _ _).2 ⟨0, (by omega), rfl, hF.sub (Sub.of rfl), hS.sub (perm_self _)⟩⟩) ?_
      intro mm0 aa ww hv
      obtain ⟨k, hk, hmm_, hF, hS⟩ := (hInv0 _ _ _).1 hv
      clear hv
      refine RunC.go ?_ hF hS
      clear hF hS aa ww
      refine RunC.seq ?_
      refine RunC.sr ?_
      refine Run.mv ?_
      refine Run.mv ?_
      refine Run.m (y_len rfl Tryz.runUnderlying33 rfl) ?_
      refine Run.m (v := .bool (decide ((k : Int) < ((gFind l).length : Int)))) (y_bin rfl rfl rfl bn_lss) ?_
      refine Run.nx ?_
      refine RunC.cond rfl (fun hc2 => ?_) (fun hc2 => ?_)
      ·
        try simp only [z1, z2, z3, z4, z5, z6, z7, z8, z9, z10, z11, z12, z13, z14, z15, z16] at hc2
        refine RunC.skip ?_
        refine RunQ.next ?_
        refine RunC.seq ?_
        refine RunC.block ?_
        refine RunC.seq ?_
        refine RunC.regionD (by kernel_rfl) (by kernel_rfl) ?_
        refine RunZ.y (v := .slice A3a_0 ((gFind l).length) c3a_0) (y_move rfl rfl) rfl rfl (by decide) ?_
        refine RunZ.y (v := .int .i64 (k : Int)) (y_move rfl rfl) rfl rfl (by decide) ?_
        obtain ⟨x39, p39_5, cs39_5, hx39, hp39_5, hcs39_5, hrc39_5⟩ := Sl.at_ (P := Tryz.prog) (T := tSeal) Tryz.runUnderlying33 Tryz.sizeOf38 (f3a_0.mono hleJ4) (k := .i64) (i := (k : Int)) (by omega) (by omega)
        replace hx39 : (gFind l)[k]? = some x39 := hx39
        obtain ⟨A39_5_4, c39_5_4, rfl, f39_5_0, f39_5_1, f39_5_2, f39_5_3, f39_5_4⟩ := hcs39_5
        have hsm39_5_4 := f39_5_4.small
        refine RunZ.y (v := .pointer (some p39_5)) (y_index rfl rfl rfl hp39_5) rfl rfl (by decide) ?_
        refine RunZ.y (v := .agg [.int .i64 x39.number, .int .i64 x39.index, .int .i64 x39.data, .int .i64 x39.parity, .slice A39_5_4 x39.labels.length c39_5_4].toArray) (y_loadA (cs := [.int .i64 x39.number, .int .i64 x39.index, .int .i64 x39.data, .int .i64 x39.parity, .slice A39_5_4 x39.labels.length c39_5_4]) rfl Tryz.isAgg38 Tryz.sizeOf38 rfl hrc39_5 rfl) rfl rfl (by decide) ?_
        refine RunZ.y (v := .slice A4a_0 ((gFind l).length) c4a_0) (y_move rfl rfl) rfl rfl (by decide) ?_
        refine RunZ.y (v := .int .i64 (k : Int)) (y_move rfl rfl) rfl rfl (by decide) ?_
        obtain ⟨x43, p43_6, cs43_6, hx43, hp43_6, hcs43_6, hrc43_6⟩ := Sl.at_ (P := Tryz.prog) (T := tSeal) Tryz.runUnderlying33 Tryz.sizeOf38 f4a_0 (k := .i64) (i := (k : Int)) (by omega) (by omega)
        replace hx43 : (gFind l)[k]? = some x43 := hx43
        obtain ⟨A43_6_4, c43_6_4, rfl, f43_6_0, f43_6_1, f43_6_2, f43_6_3, f43_6_4⟩ := hcs43_6
        have hsm43_6_4 := f43_6_4.small
        refine RunZ.y (v := .pointer (some p43_6)) (y_index rfl rfl rfl hp43_6) rfl rfl (by decide) ?_
        refine RunZ.y (v := .agg [.int .i64 x43.number, .int .i64 x43.index, .int .i64 x43.data, .int .i64 x43.parity, .slice A43_6_4 x43.labels.length c43_6_4].toArray) (y_loadA (cs := [.int .i64 x43.number, .int .i64 x43.index, .int .i64 x43.data, .int .i64 x43.parity, .slice A43_6_4 x43.labels.length c43_6_4]) rfl Tryz.isAgg38 Tryz.sizeOf38 rfl hrc43_6 rfl) rfl rfl (by decide) ?_
        refine RunZ.call (en_func rfl Tryz.call14 rfl) (con_bool (c_cartridgeref10_SameSeal _ x39 ⟨_, _, rfl, f39_5_0, f39_5_1, f39_5_2, f39_5_3, f39_5_4⟩ x43 ⟨_, _, rfl, f43_6_0, f43_6_1, f43_6_2, f43_6_3, f43_6_4⟩)) rfl rfl (by decide) ?_
        refine RunZ.y (v := .bool (!(sSame x39 x43))) (y_not (b := (sSame x39 x43)) rfl rfl) rfl rfl (by decide) ?_
        refine RunZ.nil ?_
        refine RunQ.next ?_
        refine RunC.cond rfl (fun hc3 => ?_) (fun hc3 => ?_)
        ·
          try simp only [z1, z2, z3, z4, z5, z6, z7, z8, z9, z10, z11, z12, z13, z14, z15, z16] at hc3
          exfalso
          have e9 : x43 = x39 := Option.some.inj (hx43.symm.trans hx39)
          rw [e9, sSame_refl] at hc3
          cases hc3
        ·
          skip
          try simp only [z1, z2, z3, z4, z5, z6, z7, z8, z9, z10, z11, z12, z13, z14, z15, z16] at hc3
          refine RunC.skip ?_
          refine RunQ.inB ?_
          refine RunQ.next ?_
          refine RunC.region ?_
          refine Run.mv ?_
          refine Run.m (v := .int .i64 ((k : Int) + 1)) (y_bin rfl rfl rfl (bn_add (by omega) (by omega))) ?_
          refine Run.as ?_
          refine Run.nil ?_
          exact RunQ.thenI (fun aa ww hF hS => ⟨_, (by omega), (hInv0 _ _ _).2 ⟨(k + 1), (by omega), rfl, hF.sub (Sub.of rfl), hS.sub (perm_self _)⟩⟩)
      ·
        try simp only [z1, z2, z3, z4, z5, z6, z7, z8, z9, z10, z11, z12, z13, z14, z15, z16] at hc2
        refine RunC.exit ?_
        refine RunQ.pass (fun h => by cases h) ?_
        refine RunQ.pass (fun h => by cases h) ?_
        refine RunQ.out ?_
        refine RunQ.next ?_
        refine RunC.sr ?_
        refine Run.mv ?_
        refine Run.mv ?_
        refine Run.call0 (en_func rfl Tryz.call15 rfl) (c_group_Of _ (gFind l) f4a_0 label hlabel (gFind_lbls l)) rfl rfl (by decide) (fun J8 o8 v8 hleJ8 hq8 => ?_)
        obtain ⟨rfl, cs8a, cs8b, rfl, h8a, h8b⟩ := hq8
        replace h8a : tSeal.rd J8 cs8a ((gOf (gFind l) label).1) := h8a
        obtain ⟨A8a_4, c8a_4, rfl, f8a_0, f8a_1, f8a_2, f8a_3, f8a_4⟩ := h8a
        have hsm8a_4 := f8a_4.small
        replace h8b : tBool.rd J8 cs8b ((gOf (gFind l) label).2) := h8b
        obtain rfl := h8b
        refine Run.mv ?_
        refine Run.m (y_extract rfl rfl rfl) ?_
        refine Run.m (y_extract rfl rfl rfl) ?_
        refine Run.alloc (cs := [.int .i64 0, .int .i64 0, .int .i64 0, .int .i64 0, .slice none 0 0]) rfl Tryz.zeroValue38 rfl rfl rfl (by decide) (fun g9_9 => ?_)
        refine Run.storeB (vs := [.int .i64 (((gOf (gFind l) label).1).number), .int .i64 (((gOf (gFind l) label).1).index), .int .i64 (((gOf (gFind l) label).1).data), .int .i64 (((gOf (gFind l) label).1).parity), .slice A8a_4 ((((gOf (gFind l) label).1).labels).length) c8a_4]) (cs' := [.int .i64 (((gOf (gFind l) label).1).number), .int .i64 (((gOf (gFind l) label).1).index), .int .i64 (((gOf (gFind l) label).1).data), .int .i64 (((gOf (gFind l) label).1).parity), .slice A8a_4 ((((gOf (gFind l) label).1).labels).length) c8a_4]) (own' := []) 0 rfl rfl rfl Tryz.sizeOf38 rfl rfl rfl rfl rfl (Nat.le_of_ble_eq_true rfl) rfl rfl rfl ?_
        refine Run.as ?_
        refine Run.nx ?_
        refine RunC.sr ?_
        refine Run.mv ?_
        refine Run.mv ?_
        refine Run.call0 (en_func rfl Tryz.call16 rfl) (c_cartridgeref10_Of _ (gFind l) (f4a_0.mono hleJ8) label hlabel) rfl rfl (by decide) (fun J10 o10 v10 hleJ10 hq10 => ?_)
        obtain ⟨rfl, cs10a, cs10b, rfl, h10a, h10b⟩ := hq10
        replace h10a : tSeal.rd J10 cs10a ((gOf (gFind l) label).1) := h10a
        obtain ⟨A10a_4, c10a_4, rfl, f10a_0, f10a_1, f10a_2, f10a_3, f10a_4⟩ := h10a
        have hsm10a_4 := f10a_4.small
        replace h10b : tBool.rd J10 cs10b ((gOf (gFind l) label).2) := h10b
        obtain rfl := h10b
        refine Run.mv ?_
        refine Run.m (y_extract rfl rfl rfl) ?_
        refine Run.m (y_extract rfl rfl rfl) ?_
        refine Run.alloc (cs := [.int .i64 0, .int .i64 0, .int .i64 0, .int .i64 0, .slice none 0 0]) rfl Tryz.zeroValue38 rfl rfl rfl (by decide) (fun g11_11 => ?_)
        refine Run.storeB (vs := [.int .i64 (((gOf (gFind l) label).1).number), .int .i64 (((gOf (gFind l) label).1).index), .int .i64 (((gOf (gFind l) label).1).data), .int .i64 (((gOf (gFind l) label).1).parity), .slice A10a_4 ((((gOf (gFind l) label).1).labels).length) c10a_4]) (cs' := [.int .i64 (((gOf (gFind l) label).1).number), .int .i64 (((gOf (gFind l) label).1).index), .int .i64 (((gOf (gFind l) label).1).data), .int .i64 (((gOf (gFind l) label).1).parity), .slice A10a_4 ((((gOf (gFind l) label).1).labels).length) c10a_4]) (own' := [blk g9_9 [.int .i64 (((gOf (gFind l) label).1).number), .int .i64 (((gOf (gFind l) label).1).index), .int .i64 (((gOf (gFind l) label).1).data), .int .i64 (((gOf (gFind l) label).1).parity), .slice A8a_4 ((((gOf (gFind l) label).1).labels).length) c8a_4] 38]) 0 rfl rfl rfl Tryz.sizeOf38 rfl rfl rfl rfl rfl (Nat.le_of_ble_eq_true rfl) rfl rfl rfl ?_
        refine Run.as ?_
        refine Run.nx ?_
        refine RunC.sr ?_
        refine Run.mv ?_
        refine Run.mv ?_
        refine Run.m (v := .bool (((gOf (gFind l) label).2) == ((gOf (gFind l) label).2))) (y_bin rfl rfl rfl (bn_eqlB Tryz.underlying4)) ?_
        refine Run.mv ?_
        refine Run.split 4 rfl (b := (((gOf (gFind l) label).2) == ((gOf (gFind l) label).2))) (d := 66) (v := .bool ((((gOf (gFind l) label).2) == ((gOf (gFind l) label).2)) && (sSame ((gOf (gFind l) label).1) ((gOf (gFind l) label).1)))) (fun hb62 K62 => ?_) (fun hb62 K62 => ?_) ?_
        ·
          have hc1062 := hb62; try simp only [z1, z2, z3, z4, z5, z6, z7, z8, z9, z10, z11, z12, z13, z14, z15, z16] at hc1062
          refine Run.yes (v := .agg [.int .i64 (((gOf (gFind l) label).1).number), .int .i64 (((gOf (gFind l) label).1).index), .int .i64 (((gOf (gFind l) label).1).data), .int .i64 (((gOf (gFind l) label).1).parity), .slice A8a_4 ((((gOf (gFind l) label).1).labels).length) c8a_4].toArray) (y_loadBA 1 rfl Tryz.isAgg38 Tryz.sizeOf38 rfl rfl rfl rfl) rfl rfl rfl rfl (hb62) rfl (by decide) ?_
          refine Run.yes (v := .agg [.int .i64 (((gOf (gFind l) label).1).number), .int .i64 (((gOf (gFind l) label).1).index), .int .i64 (((gOf (gFind l) label).1).data), .int .i64 (((gOf (gFind l) label).1).parity), .slice A10a_4 ((((gOf (gFind l) label).1).labels).length) c10a_4].toArray) (y_loadBA 0 rfl Tryz.isAgg38 Tryz.sizeOf38 rfl rfl rfl rfl) rfl rfl rfl rfl (hb62) rfl (by decide) ?_
          refine Run.callVYes (en_func rfl Tryz.call14 rfl) (conv_bool (c_cartridgeref10_SameSeal _ ((gOf (gFind l) label).1) ⟨_, _, rfl, f8a_0, f8a_1, f8a_2, f8a_3, (f8a_4.mono hleJ10)⟩ ((gOf (gFind l) label).1) ⟨_, _, rfl, f10a_0, f10a_1, f10a_2, f10a_3, f10a_4⟩)) rfl rfl rfl rfl (hb62) rfl (by decide) (fun hI12 => ?_)
          refine Run.y (y_pickB rfl rfl (hb62) rfl) rfl rfl (by decide) ?_
          exact K62 _ _ _ (Imm.le.refl _) (by rw [hb62]; simp) (Sub.tl 3 rfl rfl)
        ·
          have hc1062 := hb62; try simp only [z1, z2, z3, z4, z5, z6, z7, z8, z9, z10, z11, z12, z13, z14, z15, z16] at hc1062
          refine Run.no rfl rfl rfl rfl (hb62) rfl (by decide) ?_
          refine Run.no rfl rfl rfl rfl (hb62) rfl (by decide) ?_
          refine Run.no rfl rfl rfl rfl (hb62) rfl (by decide) ?_
          refine Run.y (y_pickB rfl rfl (hb62) rfl) rfl rfl (by decide) ?_
          exact K62 _ _ _ (Imm.le.refl _) (by rw [hb62]; simp) (Sub.tl 3 rfl rfl)
        refine Run.as ?_
        refine Run.nx ?_
        refine RunC.ret ?_
        refine RunQ.weak Sub.refl (perm_nil _) ?_
        refine RunQ.fin1 (.inl rfl) Tryz.results4 (rv_tmp rfl) ?_
        exact ⟨rfl, _, rfl, (rd_eq (T := tBool) (x := ((((gOf (gFind l) label).2) == ((gOf (gFind l) label).2)) && (sSame ((gOf (gFind l) label).1) ((gOf (gFind l) label).1)))) rfl (by first | rfl | (simp [sSame_refl]; done)))⟩
end Go.Proofs.YtmelbclhkkbmiaaGreat.K
