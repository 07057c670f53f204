/- Contracts of functions of the program, each proved by a walk through its operations, for all memory and all arguments that the theorem names. Printed by a program of mine. -/
import Derived.Test.YtmelbclhkkbmiaaGreatF8
import Derived.Test.YtmelbclhkkbmiaaGreatK14
import Derived.Test.YtmelbclhkkbmiaaGreatSp6
set_option linter.unusedVariables false
set_option linter.unusedSimpArgs false
set_option maxRecDepth 100000
namespace Go.Proofs.YtmelbclhkkbmiaaGreat.K
open Go Go.RowKit

theorem c_cartridgeref1_NewReader (I : Imm) {Ab : Option Addr} {cb : Nat} (b : List UInt8) (hb : Sl tU8 I Ab cb b) (hsz : b.length ≤ 1000000) : Con Tryz.prog 60 [.slice Ab b.length cb].toArray I [] (fun J o v => ∃ (gr0 : Nat) (r0_b : List UInt8) (Ar0_b : Option Addr) (cr0_b : Nat), r0_b = b ∧ o = [blk gr0 [.slice Ar0_b r0_b.length cr0_b, .bool false] 163] ∧ v = .pointer (some ⟨gr0, 0, none⟩) ∧ Sl tU8 J Ar0_b cr0_b r0_b) := by
 have hsmb := hb.small
 refine Con.enter (n := 6) (L := [(0, .slice Ab b.length cb)]) Tryz.func60 rfl rfl (Nat.le_of_ble_eq_true rfl) rfl (fun E => ?_)
 refine RunC.sr ?_
 refine Run.as ?_
 refine Run.nx ?_
 refine RunC.sr ?_
 refine Run.mv ?_
 refine Run.m (v := .agg [.slice Ab b.length cb, .bool false].toArray) (y_build (vs := [(0, .slice Ab b.length cb)]) rfl rfl (fun w => by simp [Instr.build, Tryz.zeroValue163, Tryz.runUnderlying163, Tryz.sizeOf4, Tryz.sizeOf42, Instr.fill, Value.cells])) ?_
 refine Run.box (cs := [.slice Ab b.length cb, .bool false]) rfl rfl rfl rfl rfl (by decide) (fun g5 => ?_)
 refine Run.as ?_
 refine Run.nx ?_
 refine RunC.ret ?_
 refine RunQ.weak Sub.refl (perm_self _) ?_
 refine RunQ.fin1 (.inl rfl) Tryz.results60 (rv_tmp rfl) ?_
 exact ⟨g5, b, Ab, cb, (by first | rfl | (simp; done)), rfl, rfl, hb⟩

theorem c_cartridgeref1_Reader_take (I : Imm) (gr : Nat) (Ar_b : Option Addr) (cr_b : Nat) (r_b : List UInt8) (hr_b : Sl tU8 I Ar_b cr_b r_b) (r_bad : Bool) (n : Int) (hb : r_b.length ≤ 1000000) (hn : 0 ≤ n) : Con Tryz.prog 65 [.pointer (some ⟨gr, 0, none⟩), .int .i64 n].toArray I [blk gr [.slice Ar_b r_b.length cr_b, .bool r_bad] 163] (fun J o v => ∃ (r_b' : List UInt8) (Ar_b' : Option Addr) (cr_b' : Nat) (r_bad' : Bool) (csr0 : List Value), r_b' = (rrB n.toNat (r_b, r_bad)).1 ∧ r_bad' = (rrB n.toNat (r_b, r_bad)).2 ∧ o = [blk gr [.slice Ar_b' r_b'.length cr_b', .bool r_bad'] 163] ∧ v = ((tSl tU8).o).v csr0 ∧ Sl tU8 J Ar_b' cr_b' r_b' ∧ (tSl tU8).rd J csr0 (rrV n.toNat (r_b, r_bad))) := by
 obtain ⟨N, rfl⟩ := Int.eq_ofNat_of_zero_le hn
 refine Con.enter (n := 38) (L := [(0, .pointer (some ⟨gr, 0, none⟩)), (1, .int .i64 (N : Int))]) Tryz.func65 rfl rfl (Nat.le_of_ble_eq_true rfl) rfl (fun E => ?_)
 refine RunC.sr ?_
 refine Run.as ?_
 refine Run.nx ?_
 refine RunC.seq ?_
 refine RunC.sr ?_
 refine Run.mv ?_
 refine Run.m (y_nilCheck rfl rfl) ?_
 refine Run.m (v := .pointer (some ⟨gr, 1, none⟩)) (y_fieldAddr rfl rfl Tryz.runUnderlying163 rfl Tryz.sizeOf4 (by decide) rfl) ?_
 refine Run.m (v := .bool r_bad) (y_loadB1 0 rfl Tryz.isAgg4 rfl rfl rfl) ?_
 refine Run.mv ?_
 refine Run.split 8 rfl (b := r_bad) (d := 18) (v := .bool (r_bad || (decide ((r_b.length : Int) < (N : Int))))) (fun hb10 K10 => ?_) (fun hb10 K10 => ?_) ?_
 ·
  have hc1010 := hb10; try simp only [z1, z2, z3, z4, z5, z6, z7, z8, z9, z10, z11, z12, z13, z14, z15, z16] at hc1010
  refine Run.no rfl rfl rfl rfl (hb10) rfl (by decide) ?_
  refine Run.no rfl rfl rfl rfl (hb10) rfl (by decide) ?_
  refine Run.no rfl rfl rfl rfl (hb10) rfl (by decide) ?_
  refine Run.no rfl rfl rfl rfl (hb10) rfl (by decide) ?_
  refine Run.no rfl rfl rfl rfl (hb10) rfl (by decide) ?_
  refine Run.no rfl rfl rfl rfl (hb10) rfl (by decide) ?_
  refine Run.no rfl rfl rfl rfl (hb10) rfl (by decide) ?_
  refine Run.y (y_pickB rfl rfl (hb10) rfl) rfl rfl (by decide) ?_
  exact K10 _ _ _ (Imm.le.refl _) (by rw [hb10]; simp) (Sub.tl 7 rfl rfl)
 ·
  have hc1010 := hb10; try simp only [z1, z2, z3, z4, z5, z6, z7, z8, z9, z10, z11, z12, z13, z14, z15, z16] at hc1010
  refine Run.yes (v := .pointer (some ⟨gr, 0, none⟩)) (y_move rfl rfl) rfl rfl rfl rfl (hb10) rfl (by decide) ?_
  refine Run.yes (v := .pointer (some ⟨gr, 0, none⟩)) (y_nilCheck rfl rfl) rfl rfl rfl rfl (hb10) rfl (by decide) ?_
  refine Run.yes (v := .pointer (some ⟨gr, 0, none⟩)) (y_fieldAddr rfl rfl Tryz.runUnderlying163 rfl Tryz.sizeOf42 (by decide) rfl) rfl rfl rfl rfl (hb10) rfl (by decide) ?_
  refine Run.yes (v := .slice Ar_b r_b.length cr_b) (y_loadB1 0 rfl Tryz.isAgg42 rfl rfl rfl) rfl rfl rfl rfl (hb10) rfl (by decide) ?_
  refine Run.yes (v := .int .i64 (r_b.length : Int)) (y_len rfl Tryz.runUnderlying42 rfl) rfl rfl rfl rfl (hb10) rfl (by decide) ?_
  refine Run.yes (v := .int .i64 (N : Int)) (y_move rfl rfl) rfl rfl rfl rfl (hb10) rfl (by decide) ?_
  refine Run.yes (v := .bool (decide ((r_b.length : Int) < (N : Int)))) (y_bin rfl rfl rfl bn_lss) rfl rfl rfl rfl (hb10) rfl (by decide) ?_
  refine Run.y (y_pickB rfl rfl (hb10) rfl) rfl rfl (by decide) ?_
  exact K10 _ _ _ (Imm.le.refl _) (by rw [hb10]; simp) (Sub.tl 7 rfl rfl)
 refine Run.nx ?_
 refine RunC.cond rfl (fun hc0 => ?_) (fun hc0 => ?_)
 ·
  try simp only [z1, z2, z3, z4, z5, z6, z7, z8, z9, z10, z11, z12, z13, z14, z15, z16] at hc0
  have hcc : r_bad = true ∨ r_b.length < N := hc0.imp id (fun h => by omega)
  refine RunC.sr ?_
  refine Run.mv ?_
  refine Run.m (y_nilCheck rfl rfl) ?_
  refine Run.m (v := .pointer (some ⟨gr, 1, none⟩)) (y_fieldAddr rfl rfl Tryz.runUnderlying163 rfl Tryz.sizeOf4 (by decide) rfl) ?_
  refine Run.storeB (vs := [.bool true]) (cs' := [.slice Ar_b r_b.length cr_b, .bool true]) (own' := []) 0 rfl rfl rfl Tryz.sizeOf4 rfl rfl rfl rfl rfl (Nat.le_of_ble_eq_true rfl) rfl rfl rfl ?_
  refine Run.nx ?_
  refine RunC.sr ?_
  refine Run.as ?_
  refine Run.nx ?_
  refine RunC.ret ?_
  refine RunQ.pass (fun h => by cases h) ?_
  refine RunQ.weak Sub.refl (perm_self _) ?_
  refine RunQ.fin1 (.inl rfl) Tryz.results65 (rv_tmp rfl) ?_
  exact ⟨r_b, Ar_b, cr_b, true, _, (by first | (show _ = (rrB N (r_b, r_bad)).1; rw [rrB]; first | (rw [if_pos hcc]; done) | (rw [if_neg hcc]; done) | (rw [if_neg hcc]; simp; done)) | (show _ = (rrB N (r_b, r_bad)).2; rw [rrB]; first | (rw [if_pos hcc]; done) | (rw [if_neg hcc]; done))), (by first | (show _ = (rrB N (r_b, r_bad)).1; rw [rrB]; first | (rw [if_pos hcc]; done) | (rw [if_neg hcc]; done) | (rw [if_neg hcc]; simp; done)) | (show _ = (rrB N (r_b, r_bad)).2; rw [rrB]; first | (rw [if_pos hcc]; done) | (rw [if_neg hcc]; done))), rfl, rfl, hr_b, (rd_eq (T := (tSl tU8)) (x := ([] : List UInt8)) ⟨_, _, rfl, sl_nil0⟩ (by show _ = rrV N (r_b, r_bad); rw [rrV]; first | (rw [if_pos hcc]; done) | (rw [if_neg hcc]; first | rfl | (simp; done))))⟩
 ·
  try simp only [z1, z2, z3, z4, z5, z6, z7, z8, z9, z10, z11, z12, z13, z14, z15, z16] at hc0
  have hge : N ≤ r_b.length := by have := hc0.2; omega
  have hcc : ¬ (r_bad = true ∨ r_b.length < N) := by rintro (h | h); rw [hc0.1] at h; cases h; omega
  refine RunC.skip ?_
  refine RunQ.next ?_
  refine RunC.sr ?_
  refine Run.mv ?_
  refine Run.m (y_nilCheck rfl rfl) ?_
  refine Run.m (v := .pointer (some ⟨gr, 0, none⟩)) (y_fieldAddr rfl rfl Tryz.runUnderlying163 rfl Tryz.sizeOf42 (by decide) rfl) ?_
  refine Run.m (v := .slice Ar_b r_b.length cr_b) (y_loadB1 0 rfl Tryz.isAgg42 rfl rfl rfl) ?_
  refine Run.mv ?_
  obtain ⟨A27_1, hsl1, hcut1⟩ := Sl.cut (P := Tryz.prog) (T := tU8) Tryz.runUnderlying42 Tryz.sizeOf5 hr_b (vl := none) (vh := some (.int .i64 (N : Int))) (l := 0) (m := N) (.inr ⟨rfl, rfl⟩) (.inl rfl) (by omega) (by omega)
  refine Run.m (v := .slice A27_1 (((r_b.take N).drop 0).length) (cr_b - 0)) (y_slice (vl := none) (vh := some (.int .i64 (N : Int))) rfl rfl rfl rfl rfl hsl1) ?_
  refine Run.as ?_
  refine Run.nx ?_
  refine RunC.sr ?_
  refine Run.mv ?_
  refine Run.mv ?_
  refine Run.m (y_nilCheck rfl rfl) ?_
  refine Run.m (v := .pointer (some ⟨gr, 0, none⟩)) (y_fieldAddr rfl rfl Tryz.runUnderlying163 rfl Tryz.sizeOf42 (by decide) rfl) ?_
  refine Run.m (v := .slice Ar_b r_b.length cr_b) (y_loadB1 0 rfl Tryz.isAgg42 rfl rfl rfl) ?_
  refine Run.mv ?_
  obtain ⟨A34_2, hsl2, hcut2⟩ := Sl.cut (P := Tryz.prog) (T := tU8) Tryz.runUnderlying42 Tryz.sizeOf5 hr_b (vl := some (.int .i64 (N : Int))) (vh := none) (l := N) (m := r_b.length) (.inl rfl) (.inr ⟨rfl, rfl⟩) (by omega) (by omega)
  refine Run.m (v := .slice A34_2 (((r_b.take r_b.length).drop N).length) (cr_b - N)) (y_slice (vl := some (.int .i64 (N : Int))) (vh := none) rfl rfl rfl rfl rfl hsl2) ?_
  refine Run.m (y_nilCheck rfl rfl) ?_
  refine Run.m (v := .pointer (some ⟨gr, 0, none⟩)) (y_fieldAddr rfl rfl Tryz.runUnderlying163 rfl Tryz.sizeOf42 (by decide) rfl) ?_
  refine Run.storeB (vs := [.slice A34_2 (((r_b.take r_b.length).drop N).length) (cr_b - N)]) (cs' := [.slice A34_2 (((r_b.take r_b.length).drop N).length) (cr_b - N), .bool r_bad]) (own' := []) 0 rfl rfl rfl Tryz.sizeOf42 rfl rfl rfl rfl rfl (Nat.le_of_ble_eq_true rfl) rfl rfl rfl ?_
  refine Run.nx ?_
  refine RunC.sr ?_
  refine Run.mv ?_
  refine Run.as ?_
  refine Run.nx ?_
  refine RunC.ret ?_
  refine RunQ.weak Sub.refl (perm_self _) ?_
  refine RunQ.fin1 (.inl rfl) Tryz.results65 (rv_tmp rfl) ?_
  exact ⟨((r_b.take r_b.length).drop N), A34_2, (cr_b - N), r_bad, _, (by first | (show _ = (rrB N (r_b, r_bad)).1; rw [rrB]; first | (rw [if_pos hcc]; done) | (rw [if_neg hcc]; done) | (rw [if_neg hcc]; simp; done)) | (show _ = (rrB N (r_b, r_bad)).2; rw [rrB]; first | (rw [if_pos hcc]; done) | (rw [if_neg hcc]; done))), (by first | (show _ = (rrB N (r_b, r_bad)).1; rw [rrB]; first | (rw [if_pos hcc]; done) | (rw [if_neg hcc]; done) | (rw [if_neg hcc]; simp; done)) | (show _ = (rrB N (r_b, r_bad)).2; rw [rrB]; first | (rw [if_pos hcc]; done) | (rw [if_neg hcc]; done))), rfl, rfl, hcut2, (rd_eq (T := (tSl tU8)) (x := ((r_b.take N).drop 0)) ⟨_, _, rfl, hcut1⟩ (by show _ = rrV N (r_b, r_bad); rw [rrV]; first | (rw [if_pos hcc]; done) | (rw [if_neg hcc]; first | rfl | (simp; done))))⟩

theorem c_cartridgeref1_Reader_Byte (I : Imm) (gr : Nat) (Ar_b : Option Addr) (cr_b : Nat) (r_b : List UInt8) (hr_b : Sl tU8 I Ar_b cr_b r_b) (r_bad : Bool) (hb : r_b.length ≤ 1000000) : Con Tryz.prog 61 [.pointer (some ⟨gr, 0, none⟩)].toArray I [blk gr [.slice Ar_b r_b.length cr_b, .bool r_bad] 163] (fun J o v => ∃ (r_b' : List UInt8) (Ar_b' : Option Addr) (cr_b' : Nat) (r_bad' : Bool) (csr0 : List Value), r_b' = (rrB 1 (r_b, r_bad)).1 ∧ r_bad' = (rrB 1 (r_b, r_bad)).2 ∧ o = [blk gr [.slice Ar_b' r_b'.length cr_b', .bool r_bad'] 163] ∧ v = (tU8.o).v csr0 ∧ Sl tU8 J Ar_b' cr_b' r_b' ∧ tU8.rd J csr0 (u8at (rrV 1 (r_b, r_bad)))) := by
 refine Con.enter (n := 12) (L := [(0, .pointer (some ⟨gr, 0, none⟩))]) Tryz.func61 rfl rfl (Nat.le_of_ble_eq_true rfl) rfl (fun E => ?_)
 refine RunC.sr ?_
 refine Run.as ?_
 refine Run.nx ?_
 refine RunC.sr ?_
 refine Run.mv ?_
 refine Run.call (own1 := [blk gr [.slice Ar_b r_b.length cr_b, .bool r_bad] 163]) (own2 := []) (en_func rfl Tryz.call65 rfl) (c_cartridgeref1_Reader_take _ gr Ar_b cr_b r_b hr_b r_bad 1 (by omega) (by omega)) (permC (i := 0) rfl rfl (List.Perm.refl _)) rfl rfl (by decide) (fun J1 o1 v1 hleJ1 hq1 => ?_)
 obtain ⟨y1b, A1b, c1b, y1bad, csr1_0, e1b, e1bad, rfl, rfl, h1b, hr1_0⟩ := hq1
 obtain rfl : (rrB 1 (r_b, r_bad)).1 = y1b := e1b.symm
 obtain rfl : (rrB 1 (r_b, r_bad)).2 = y1bad := e1bad.symm
 replace hr1_0 : (tSl tU8).rd J1 csr1_0 (rrV 1 (r_b, r_bad)) := hr1_0
 obtain ⟨A1_0_0, c1_0_0, rfl, f1_0_0⟩ := hr1_0
 have hsm1_0_0 := f1_0_0.small
 refine Run.as ?_
 refine Run.nx ?_
 refine RunC.seq ?_
 refine RunC.sr ?_
 refine Run.mv ?_
 refine Run.m (y_len rfl Tryz.runUnderlying42 rfl) ?_
 refine Run.m (v := .bool (decide (((rrV 1 (r_b, r_bad)).length : Int) = 0))) (y_bin rfl rfl rfl bn_eql) ?_
 refine Run.nx ?_
 refine RunC.cond rfl (fun hc0 => ?_) (fun hc0 => ?_)
 ·
  try simp only [z1, z2, z3, z4, z5, z6, z7, z8, z9, z10, z11, z12, z13, z14, z15, z16] at hc0
  have h0 : rrV 1 (r_b, r_bad) = [] := List.eq_nil_of_length_eq_zero (by have := hc0; simpa using this)
  refine RunC.sr ?_
  refine Run.as ?_
  refine Run.nx ?_
  refine RunC.ret ?_
  refine RunQ.pass (fun h => by cases h) ?_
  refine RunQ.weak Sub.refl (perm_self _) ?_
  refine RunQ.fin1 (.inl rfl) Tryz.results61 (rv_tmp rfl) ?_
  exact ⟨(rrB 1 (r_b, r_bad)).1, A1b, c1b, (rrB 1 (r_b, r_bad)).2, _, (by rfl), (by rfl), rfl, rfl, h1b, (rd_eq (T := tU8) (x := (0 : UInt8)) rfl (by first | (simp [u8at, h0]; done) | (have h1 : (rrV 1 (r_b, r_bad))[0]? = some x10 := hx10; cases hl : rrV 1 (r_b, r_bad) <;> simp_all [u8at])))⟩
 ·
  try simp only [z1, z2, z3, z4, z5, z6, z7, z8, z9, z10, z11, z12, z13, z14, z15, z16] at hc0
  have h0 : (0 : Int) < (rrV 1 (r_b, r_bad)).length := by have := hc0; omega
  refine RunC.skip ?_
  refine RunQ.next ?_
  refine RunC.sr ?_
  refine Run.mv ?_
  obtain ⟨x10, p10_2, cs10_2, hx10, hp10_2, hcs10_2, hrc10_2⟩ := Sl.at_ (P := Tryz.prog) (T := tU8) Tryz.runUnderlying42 Tryz.sizeOf5 f1_0_0 (k := .i64) (i := 0) (by omega) (by omega)
  replace hx10 : (rrV 1 (r_b, r_bad))[0]? = some x10 := hx10
  obtain rfl := hcs10_2
  refine Run.m (v := .pointer (some p10_2)) (y_index rfl rfl rfl hp10_2) ?_
  refine Run.m (v := .int .u8 (x10.toNat : Int)) (y_load1 rfl Tryz.isAgg5 rfl (RCells.hd hrc10_2)) ?_
  refine Run.as ?_
  refine Run.nx ?_
  refine RunC.ret ?_
  refine RunQ.weak Sub.refl (perm_self _) ?_
  refine RunQ.fin1 (.inl rfl) Tryz.results61 (rv_tmp rfl) ?_
  exact ⟨(rrB 1 (r_b, r_bad)).1, A1b, c1b, (rrB 1 (r_b, r_bad)).2, _, (by rfl), (by rfl), rfl, rfl, h1b, (rd_eq (T := tU8) (x := x10) rfl (by first | (simp [u8at, h0]; done) | (have h1 : (rrV 1 (r_b, r_bad))[0]? = some x10 := hx10; cases hl : rrV 1 (r_b, r_bad) <;> simp_all [u8at])))⟩

theorem c_cartridgeref1_Reader_Int (I : Imm) (gr : Nat) (Ar_b : Option Addr) (cr_b : Nat) (r_b : List UInt8) (hr_b : Sl tU8 I Ar_b cr_b r_b) (r_bad : Bool) (hb : r_b.length ≤ 1000000) : Con Tryz.prog 62 [.pointer (some ⟨gr, 0, none⟩)].toArray I [blk gr [.slice Ar_b r_b.length cr_b, .bool r_bad] 163] (fun J o v => ∃ (r_b' : List UInt8) (Ar_b' : Option Addr) (cr_b' : Nat) (r_bad' : Bool) (csr0 : List Value), r_b' = (rrB 4 (r_b, r_bad)).1 ∧ r_bad' = (rrB 4 (r_b, r_bad)).2 ∧ o = [blk gr [.slice Ar_b' r_b'.length cr_b', .bool r_bad'] 163] ∧ v = (tInt.o).v csr0 ∧ Sl tU8 J Ar_b' cr_b' r_b' ∧ tInt.rd J csr0 ((rdN (rrV 4 (r_b, r_bad)) : Nat) : Int)) := by
 refine Con.enter (n := 23) (L := [(0, .pointer (some ⟨gr, 0, none⟩))]) Tryz.func62 rfl rfl (Nat.le_of_ble_eq_true rfl) rfl (fun E => ?_)
 refine RunC.sr ?_
 refine Run.as ?_
 refine Run.nx ?_
 refine RunC.sr ?_
 refine Run.mv ?_
 refine Run.call (own1 := [blk gr [.slice Ar_b r_b.length cr_b, .bool r_bad] 163]) (own2 := []) (en_func rfl Tryz.call65 rfl) (c_cartridgeref1_Reader_take _ gr Ar_b cr_b r_b hr_b r_bad 4 (by omega) (by omega)) (permC (i := 0) rfl rfl (List.Perm.refl _)) rfl rfl (by decide) (fun J1 o1 v1 hleJ1 hq1 => ?_)
 obtain ⟨y1b, A1b, c1b, y1bad, csr1_0, e1b, e1bad, rfl, rfl, h1b, hr1_0⟩ := hq1
 obtain rfl : (rrB 4 (r_b, r_bad)).1 = y1b := e1b.symm
 obtain rfl : (rrB 4 (r_b, r_bad)).2 = y1bad := e1bad.symm
 replace hr1_0 : (tSl tU8).rd J1 csr1_0 (rrV 4 (r_b, r_bad)) := hr1_0
 obtain ⟨A1_0_0, c1_0_0, rfl, f1_0_0⟩ := hr1_0
 have hsm1_0_0 := f1_0_0.small
 refine Run.as ?_
 refine Run.nx ?_
 refine RunC.sr ?_
 refine Run.as ?_
 refine Run.nx ?_
 refine RunC.seq ?_
 refine RunC.sr ?_
 refine Run.as ?_
 refine Run.nx ?_
 refine RunC.block ?_
 have hv4 : (rrV 4 (r_b, r_bad)).length ≤ 4 := rrV_le 4 (r_b, r_bad)
 obtain ⟨Inv0, hInv0⟩ : ∃ Inv : Nat → Act → World → Prop, ∀ mm aa ww, Inv mm aa ww ↔ (∃ (k : Nat) (n1 : Nat), (k ≤ (rrV 4 (r_b, r_bad)).length) ∧ (n1 = rdN ((rrV 4 (r_b, r_bad)).take k)) ∧ (n1 < 1099511627776) ∧ (mm = ((rrV 4 (r_b, r_bad)).length - k)) ∧ Frm aa 23 [(2, .int .i64 0), (3, .slice A1_0_0 ((rrV 4 (r_b, r_bad)).length) c1_0_0), (5, .int .i64 (k : Int)), (4, .int .i64 (n1 : Int))] ∧ S E ww J1 [blk gr [.slice A1b (((rrB 4 (r_b, r_bad)).1).length) c1b, .bool ((rrB 4 (r_b, r_bad)).2)] 163]) := ⟨_, fun _ _ _ => Iff.rfl⟩
 refine RunC.loopX Inv0 (fun aa ww hF hS => ⟨_, (hInv0 _ _ _).2 ⟨0, 0, (Nat.zero_le _), rfl, (by decide), rfl, hF.sub (Sub.of rfl), hS.sub (perm_self _)⟩⟩) ?_
 intro mm0 aa ww hv
 obtain ⟨k, n1, hk, hn1, hns, hmm_, hF, hS⟩ := (hInv0 _ _ _).1 hv
 clear hv
 refine RunC.go ?_ hF hS
 clear hF hS aa ww
 refine RunC.seq ?_
 refine RunC.sr ?_
 refine Run.mv ?_
 refine Run.mv ?_
 refine Run.m (y_len rfl Tryz.runUnderlying42 rfl) ?_
 refine Run.m (v := .bool (decide ((k : Int) < ((rrV 4 (r_b, r_bad)).length : Int)))) (y_bin rfl rfl rfl bn_lss) ?_
 refine Run.nx ?_
 refine RunC.cond rfl (fun hc0 => ?_) (fun hc0 => ?_)
 ·
  try simp only [z1, z2, z3, z4, z5, z6, z7, z8, z9, z10, z11, z12, z13, z14, z15, z16] at hc0
  refine RunC.skip ?_
  refine RunQ.next ?_
  refine RunC.seq ?_
  refine RunC.block ?_
  refine RunC.region ?_
  refine Run.mv ?_
  refine Run.m (v := .int .i64 ((n1 * 256 : Nat) : Int)) (y_bin rfl rfl rfl (bn_shlN (a := n1) (by omega))) ?_
  refine Run.mv ?_
  refine Run.mv ?_
  obtain ⟨x18, p18_2, cs18_2, hx18, hp18_2, hcs18_2, hrc18_2⟩ := Sl.at_ (P := Tryz.prog) (T := tU8) Tryz.runUnderlying42 Tryz.sizeOf5 f1_0_0 (k := .i64) (i := (k : Int)) (by omega) (by omega)
  replace hx18 : (rrV 4 (r_b, r_bad))[k]? = some x18 := hx18
  obtain rfl := hcs18_2
  refine Run.m (v := .pointer (some p18_2)) (y_index rfl rfl rfl hp18_2) ?_
  refine Run.m (v := .int .u8 (x18.toNat : Int)) (y_load1 rfl Tryz.isAgg5 rfl (RCells.hd hrc18_2)) ?_
  refine Run.m (v := .int .i64 (x18.toNat : Int)) (y_conv rfl rfl (cv_int Tryz.underlying5 Tryz.underlying3 (wrap64_u8 _))) ?_
  refine Run.m (v := .int .i64 ((n1 * 256 + x18.toNat : Nat) : Int)) (y_bin rfl rfl rfl (bn_orN (a := n1) (b := x18) (by omega))) ?_
  refine Run.as ?_
  refine Run.nil ?_
  refine RunQ.inB ?_
  refine RunQ.next ?_
  refine RunC.region ?_
  refine Run.mv ?_
  refine Run.m (v := .int .i64 ((k : Int) + 1)) (y_bin rfl rfl rfl (bn_add (by omega) (by omega))) ?_
  refine Run.as ?_
  refine Run.nil ?_
  exact RunQ.thenI (fun aa ww hF hS => ⟨_, (by omega), (hInv0 _ _ _).2 ⟨(k + 1), (n1 * 256 + x18.toNat), (by omega), (by rw [take_snoc' hx18, rdN_snoc, ← hn1]), (by have h9 := rdN_small (l := (rrV 4 (r_b, r_bad)).take (k + 1)) (by rw [List.length_take]; omega); rw [take_snoc' hx18, rdN_snoc, ← hn1] at h9; exact h9), rfl, hF.sub (Sub.of rfl), hS.sub (perm_self _)⟩⟩)
 ·
  try simp only [z1, z2, z3, z4, z5, z6, z7, z8, z9, z10, z11, z12, z13, z14, z15, z16] at hc0
  refine RunC.exit ?_
  refine RunQ.pass (fun h => by cases h) ?_
  refine RunQ.pass (fun h => by cases h) ?_
  refine RunQ.out ?_
  refine RunQ.next ?_
  refine RunC.sr ?_
  refine Run.mv ?_
  refine Run.as ?_
  refine Run.nx ?_
  refine RunC.ret ?_
  refine RunQ.weak Sub.refl (perm_self _) ?_
  refine RunQ.fin1 (.inl rfl) Tryz.results62 (rv_tmp rfl) ?_
  exact ⟨(rrB 4 (r_b, r_bad)).1, A1b, c1b, (rrB 4 (r_b, r_bad)).2, _, (by rfl), (by rfl), rfl, rfl, h1b, (rd_eq (T := tInt) (x := (n1 : Int)) ⟨rfl, (by first | omega | (dsimp only; omega))⟩ (by rw [hn1, List.take_of_length_le (by omega)]))⟩

theorem c_cartridgeref1_Reader_Left (I : Imm) (gr : Nat) {csr : List Value} (r : ARd) (hr : tRd.rd I csr r) (hgr : RCells I ⟨gr, 0, none⟩ csr) : Con Tryz.prog 64 [.pointer (some (⟨gr, 0, none⟩ : Addr))].toArray I [] (Ret1 (tInt.o) (rrLeft (r.b, r.bad))) := by
 obtain ⟨Ar_0, cr_0, rfl, fr_0⟩ := hr
 have hsmr_0 := fr_0.small
 refine Con.enter (n := 12) (L := [(0, .pointer (some (⟨gr, 0, none⟩ : Addr)))]) Tryz.func64 rfl rfl (Nat.le_of_ble_eq_true rfl) rfl (fun E => ?_)
 refine RunC.sr ?_
 refine Run.as ?_
 refine Run.nx ?_
 refine RunC.seq ?_
 refine RunC.sr ?_
 refine Run.mv ?_
 refine Run.m (y_nilCheck rfl rfl) ?_
 refine Run.m (v := .pointer (some ((⟨gr, 0, none⟩ : Addr).add 1))) (y_fieldAddr rfl rfl Tryz.runUnderlying163 rfl Tryz.sizeOf4 (by decide) rfl) ?_
 refine Run.m (v := .bool r.bad) (y_load1 rfl Tryz.isAgg4 rfl (RCells.at_ hgr 1 rfl rfl)) ?_
 refine Run.nx ?_
 refine RunC.cond rfl (fun hc0 => ?_) (fun hc0 => ?_)
 ·
  try simp only [z1, z2, z3, z4, z5, z6, z7, z8, z9, z10, z11, z12, z13, z14, z15, z16] at hc0
  refine RunC.sr ?_
  refine Run.as ?_
  refine Run.nx ?_
  refine RunC.ret ?_
  refine RunQ.pass (fun h => by cases h) ?_
  refine RunQ.weak Sub.refl (perm_nil _) ?_
  refine RunQ.fin1 (.inl rfl) Tryz.results64 (rv_tmp rfl) ?_
  exact ⟨rfl, _, rfl, (rd_eq (T := tInt) (x := 0) ⟨rfl, (by first | omega | (dsimp only; omega))⟩ (by first | (rw [rrLeft, if_pos hc0]; done) | (rw [rrLeft, if_neg (by rw [hc0]; simp)]; done)))⟩
 ·
  try simp only [z1, z2, z3, z4, z5, z6, z7, z8, z9, z10, z11, z12, z13, z14, z15, z16] at hc0
  refine RunC.skip ?_
  refine RunQ.next ?_
  refine RunC.sr ?_
  refine Run.mv ?_
  refine Run.m (y_nilCheck rfl rfl) ?_
  refine Run.m (v := .pointer (some (⟨gr, 0, none⟩ : Addr))) (y_fieldAddr rfl rfl Tryz.runUnderlying163 rfl Tryz.sizeOf42 (by decide) (add_zero' _)) ?_
  refine Run.m (v := .slice Ar_0 r.b.length cr_0) (y_load1 rfl Tryz.isAgg42 rfl (RCells.hd hgr)) ?_
  refine Run.m (y_len rfl Tryz.runUnderlying42 rfl) ?_
  refine Run.as ?_
  refine Run.nx ?_
  refine RunC.ret ?_
  refine RunQ.weak Sub.refl (perm_nil _) ?_
  refine RunQ.fin1 (.inl rfl) Tryz.results64 (rv_tmp rfl) ?_
  exact ⟨rfl, _, rfl, (rd_eq (T := tInt) (x := (r.b.length : Int)) ⟨rfl, (by first | omega | (dsimp only; omega))⟩ (by first | (rw [rrLeft, if_pos hc0]; done) | (rw [rrLeft, if_neg (by rw [hc0]; simp)]; done)))⟩

theorem c_cartridgeref1_Reader_Bad (I : Imm) (gr : Nat) {csr : List Value} (r : ARd) (hr : tRd.rd I csr r) (hgr : RCells I ⟨gr, 0, none⟩ csr) : Con Tryz.prog 63 [.pointer (some (⟨gr, 0, none⟩ : Addr))].toArray I [] (Ret1 (tBool.o) r.bad) := by
 obtain ⟨Ar_0, cr_0, rfl, fr_0⟩ := hr
 have hsmr_0 := fr_0.small
 refine Con.enter (n := 7) (L := [(0, .pointer (some (⟨gr, 0, none⟩ : Addr)))]) Tryz.func63 rfl rfl (Nat.le_of_ble_eq_true rfl) rfl (fun E => ?_)
 refine RunC.sr ?_
 refine Run.as ?_
 refine Run.nx ?_
 refine RunC.sr ?_
 refine Run.mv ?_
 refine Run.m (y_nilCheck rfl rfl) ?_
 refine Run.m (v := .pointer (some ((⟨gr, 0, none⟩ : Addr).add 1))) (y_fieldAddr rfl rfl Tryz.runUnderlying163 rfl Tryz.sizeOf4 (by decide) rfl) ?_
 refine Run.m (v := .bool r.bad) (y_load1 rfl Tryz.isAgg4 rfl (RCells.at_ hgr 1 rfl rfl)) ?_
 refine Run.as ?_
 refine Run.nx ?_
 refine RunC.ret ?_
 refine RunQ.weak Sub.refl (perm_nil _) ?_
 refine RunQ.fin1 (.inl rfl) Tryz.results63 (rv_tmp rfl) ?_
 exact ⟨rfl, _, rfl, (rd_eq (T := tBool) (x := r.bad) rfl (by rfl))⟩
end Go.Proofs.YtmelbclhkkbmiaaGreat.K
