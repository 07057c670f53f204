/- Contracts of functions of the program, each proved by a walk through its operations, for all memory and all arguments that the theorem names. Printed by a program of mine. -/
import Derived.Test.YtmelbclhkkbmiaaDoorF0
import Derived.Test.YtmelbclhkkbmiaaDoorSpC
set_option linter.unusedVariables false
set_option linter.unusedSimpArgs false
set_option maxRecDepth 100000
namespace Go.Proofs.YtmelbclhkkbmiaaDoor.K
open Go Go.RowKit

theorem bn_eqlAHead {x y : Operand} (a b : AHead) : BR Tryd.prog .eql 71 x y (.agg [.string a.path, .int .i64 a.version, .int .i64 a.size, .int .i64 a.frm, .int .i64 a.len, .int .i64 a.serial, .int .i64 a.sum, .bool a.gone].toArray) (.agg [.string b.path, .int .i64 b.version, .int .i64 b.size, .int .i64 b.frm, .int .i64 b.len, .int .i64 b.serial, .int .i64 b.sum, .bool b.gone].toArray) (.bool (AHead.eqb a b)) :=
  bn_eqlA Tryd.underlying71 (by kernel_rfl) (by kernel_rfl) (fun w => eqf_cons rfl (feq_str Tryd.isAgg9 Tryd.underlying9 rfl rfl) (fun w => eqf_cons rfl (feq_int Tryd.isAgg3 Tryd.underlying3 rfl rfl) (fun w => eqf_cons rfl (feq_int Tryd.isAgg3 Tryd.underlying3 rfl rfl) (fun w => eqf_cons rfl (feq_int Tryd.isAgg3 Tryd.underlying3 rfl rfl) (fun w => eqf_cons rfl (feq_int Tryd.isAgg3 Tryd.underlying3 rfl rfl) (fun w => eqf_cons rfl (feq_int Tryd.isAgg3 Tryd.underlying3 rfl rfl) (fun w => eqf_cons rfl (feq_int Tryd.isAgg3 Tryd.underlying3 rfl rfl) (fun w => eqf_cons rfl (feq_bool Tryd.isAgg4 Tryd.underlying4 rfl rfl) (fun w => eqf_nil w) w) w) w) w) w) w) w) w)

theorem bn_neqAHead {x y : Operand} (a b : AHead) : BR Tryd.prog .neq 71 x y (.agg [.string a.path, .int .i64 a.version, .int .i64 a.size, .int .i64 a.frm, .int .i64 a.len, .int .i64 a.serial, .int .i64 a.sum, .bool a.gone].toArray) (.agg [.string b.path, .int .i64 b.version, .int .i64 b.size, .int .i64 b.frm, .int .i64 b.len, .int .i64 b.serial, .int .i64 b.sum, .bool b.gone].toArray) (.bool (!AHead.eqb a b)) :=
  bn_neqA Tryd.underlying71 (by kernel_rfl) (by kernel_rfl) (fun w => eqf_cons rfl (feq_str Tryd.isAgg9 Tryd.underlying9 rfl rfl) (fun w => eqf_cons rfl (feq_int Tryd.isAgg3 Tryd.underlying3 rfl rfl) (fun w => eqf_cons rfl (feq_int Tryd.isAgg3 Tryd.underlying3 rfl rfl) (fun w => eqf_cons rfl (feq_int Tryd.isAgg3 Tryd.underlying3 rfl rfl) (fun w => eqf_cons rfl (feq_int Tryd.isAgg3 Tryd.underlying3 rfl rfl) (fun w => eqf_cons rfl (feq_int Tryd.isAgg3 Tryd.underlying3 rfl rfl) (fun w => eqf_cons rfl (feq_int Tryd.isAgg3 Tryd.underlying3 rfl rfl) (fun w => eqf_cons rfl (feq_bool Tryd.isAgg4 Tryd.underlying4 rfl rfl) (fun w => eqf_nil w) w) w) w) w) w) w) w) w)

theorem bn_eqlAPiece {x y : Operand} (a b : APiece) : BR Tryd.prog .eql 128 x y (.agg [.int .i64 a.tape, .int .i64 a.frm, .int .i64 a.len].toArray) (.agg [.int .i64 b.tape, .int .i64 b.frm, .int .i64 b.len].toArray) (.bool (APiece.eqb a b)) :=
  bn_eqlA Tryd.underlying128 (by kernel_rfl) (by kernel_rfl) (fun w => eqf_cons rfl (feq_int Tryd.isAgg3 Tryd.underlying3 rfl rfl) (fun w => eqf_cons rfl (feq_int Tryd.isAgg3 Tryd.underlying3 rfl rfl) (fun w => eqf_cons rfl (feq_int Tryd.isAgg3 Tryd.underlying3 rfl rfl) (fun w => eqf_nil w) w) w) w)

theorem bn_neqAPiece {x y : Operand} (a b : APiece) : BR Tryd.prog .neq 128 x y (.agg [.int .i64 a.tape, .int .i64 a.frm, .int .i64 a.len].toArray) (.agg [.int .i64 b.tape, .int .i64 b.frm, .int .i64 b.len].toArray) (.bool (!APiece.eqb a b)) :=
  bn_neqA Tryd.underlying128 (by kernel_rfl) (by kernel_rfl) (fun w => eqf_cons rfl (feq_int Tryd.isAgg3 Tryd.underlying3 rfl rfl) (fun w => eqf_cons rfl (feq_int Tryd.isAgg3 Tryd.underlying3 rfl rfl) (fun w => eqf_cons rfl (feq_int Tryd.isAgg3 Tryd.underlying3 rfl rfl) (fun w => eqf_nil w) w) w) w)

theorem c_catalog_key (I : Imm) {csh : List Value} (h : AHead) (hh : tHead.rd I csh h) : Con Tryd.prog 46 [.agg csh.toArray].toArray I [] (Ret1 (tHead.g) (hKey h)) := by
  obtain ⟨rfl, fh_0, fh_1, fh_2, fh_3, fh_4, fh_5, fh_6⟩ := hh
  refine Con.enter (n := 6) (L := [(0, .agg [.string h.path, .int .i64 h.version, .int .i64 h.size, .int .i64 h.frm, .int .i64 h.len, .int .i64 h.serial, .int .i64 h.sum, .bool h.gone].toArray)]) Tryd.func46 rfl rfl (Nat.le_of_ble_eq_true rfl) rfl (fun E => ?_)
  refine RunC.seq ?_
  refine RunC.region ?_
  refine Run.box (cs := [.string h.path, .int .i64 h.version, .int .i64 h.size, .int .i64 h.frm, .int .i64 h.len, .int .i64 h.serial, .int .i64 h.sum, .bool h.gone]) rfl rfl rfl rfl rfl (by decide) (fun g1 => ?_)
  refine Run.alloc (cs := [.string (ByteArray.mk #[]), .int .i64 0, .int .i64 0, .int .i64 0, .int .i64 0, .int .i64 0, .int .i64 0, .bool false]) rfl Tryd.zeroValue71 rfl rfl rfl (by decide) (fun g2_1 => ?_)
  refine Run.nil ?_
  refine RunQ.next ?_
  refine RunC.seq ?_
  refine RunC.region ?_
  refine Run.y (v := .pointer (some ⟨g1, 3, none⟩)) (y_fieldAddr rfl rfl Tryd.runUnderlying71 rfl Tryd.sizeOf3 (by decide) rfl) rfl rfl (by decide) ?_
  refine Run.storeB (vs := [.int .i64 0]) (cs' := [.string h.path, .int .i64 h.version, .int .i64 h.size, .int .i64 0, .int .i64 h.len, .int .i64 h.serial, .int .i64 h.sum, .bool h.gone]) (own' := [blk g2_1 [.string (ByteArray.mk #[]), .int .i64 0, .int .i64 0, .int .i64 0, .int .i64 0, .int .i64 0, .int .i64 0, .bool false] 71]) 1 rfl rfl rfl Tryd.sizeOf3 rfl rfl rfl rfl rfl (Nat.le_of_ble_eq_true rfl) rfl rfl rfl ?_
  refine Run.y (v := .pointer (some ⟨g1, 4, none⟩)) (y_fieldAddr rfl rfl Tryd.runUnderlying71 rfl Tryd.sizeOf3 (by decide) rfl) rfl rfl (by decide) ?_
  refine Run.storeB (vs := [.int .i64 0]) (cs' := [.string h.path, .int .i64 h.version, .int .i64 h.size, .int .i64 0, .int .i64 0, .int .i64 h.serial, .int .i64 h.sum, .bool h.gone]) (own' := [blk g2_1 [.string (ByteArray.mk #[]), .int .i64 0, .int .i64 0, .int .i64 0, .int .i64 0, .int .i64 0, .int .i64 0, .bool false] 71]) 0 rfl rfl rfl Tryd.sizeOf3 rfl rfl rfl rfl rfl (Nat.le_of_ble_eq_true rfl) rfl rfl rfl ?_
  refine Run.nil ?_
  refine RunQ.next ?_
  refine RunC.seq ?_
  refine RunC.region ?_
  refine Run.y (v := .agg [.string h.path, .int .i64 h.version, .int .i64 h.size, .int .i64 0, .int .i64 0, .int .i64 h.serial, .int .i64 h.sum, .bool h.gone].toArray) (y_loadBA 0 rfl Tryd.isAgg71 Tryd.sizeOf71 rfl rfl rfl rfl) rfl rfl (by decide) ?_
  refine Run.storeB (vs := [.string h.path, .int .i64 h.version, .int .i64 h.size, .int .i64 0, .int .i64 0, .int .i64 h.serial, .int .i64 h.sum, .bool h.gone]) (cs' := [.string h.path, .int .i64 h.version, .int .i64 h.size, .int .i64 0, .int .i64 0, .int .i64 h.serial, .int .i64 h.sum, .bool h.gone]) (own' := [blk g1 [.string h.path, .int .i64 h.version, .int .i64 h.size, .int .i64 0, .int .i64 0, .int .i64 h.serial, .int .i64 h.sum, .bool h.gone] 71]) 1 rfl rfl rfl Tryd.sizeOf71 rfl rfl rfl rfl rfl (Nat.le_of_ble_eq_true rfl) rfl rfl rfl ?_
  refine Run.nil ?_
  refine RunQ.next ?_
  refine RunC.ret ?_
  refine RunQ.end1 (.inl rfl) Tryd.results46 (rv_cellA (i := 0) rfl Tryd.isAgg71 Tryd.sizeOf71 rfl rfl) ?_
  exact ⟨rfl, _, rfl, (rd_eq (T := tHead) (x := (⟨h.path, h.version, h.size, 0, 0, h.serial, h.sum, h.gone⟩ : AHead)) ⟨rfl, fh_0, fh_1, fh_2, (by first | omega | (dsimp only; omega)), (by first | omega | (dsimp only; omega)), fh_5, fh_6⟩ (by rfl))⟩

theorem c_catalog_Whole_1 (I : Imm) {csp : List Value} (p : APart) (hp : tPart.rd I csp p) (gparts : Nat) {csparts : List Value} (parts : (List APart)) (hparts : (tSl tPart).rd I csparts parts) (hgparts : RCells I ⟨gparts, 0, none⟩ csparts) (hlen : 0 < parts.length) : Con Tryd.prog 52 [.agg csp.toArray, .pointer (some (⟨gparts, 0, none⟩ : Addr))].toArray I [] (Ret1 (tBool.o) (!AHead.eqb (hKey p.head) (hKey (phead parts)))) := by
  obtain ⟨Aparts_0, cparts_0, rfl, fparts_0⟩ := hparts
  obtain ⟨rfl, fp_0, fp_1, fp_2, fp_3, fp_4, fp_5, fp_6, fp_8, fp_9⟩ := hp
  refine Con.enter (n := 13) (L := [(0, .agg [.string p.head.path, .int .i64 p.head.version, .int .i64 p.head.size, .int .i64 p.head.frm, .int .i64 p.head.len, .int .i64 p.head.serial, .int .i64 p.head.sum, .bool p.head.gone, .int .i64 p.label, .int .i64 p.block].toArray), (1, .pointer (some (⟨gparts, 0, none⟩ : Addr)))]) Tryd.func52 rfl rfl (Nat.le_of_ble_eq_true rfl) rfl (fun E => ?_)
  refine RunC.seq ?_
  refine RunC.region ?_
  refine Run.box (cs := [.string p.head.path, .int .i64 p.head.version, .int .i64 p.head.size, .int .i64 p.head.frm, .int .i64 p.head.len, .int .i64 p.head.serial, .int .i64 p.head.sum, .bool p.head.gone, .int .i64 p.label, .int .i64 p.block]) rfl rfl rfl rfl rfl (by decide) (fun g2 => ?_)
  refine Run.y (v := .bool false) (y_assign rfl rfl) rfl rfl (by decide) ?_
  refine Run.nil ?_
  refine RunQ.next ?_
  refine RunC.seq ?_
  refine RunC.regionD (by kernel_rfl) (by kernel_rfl) ?_
  refine RunZ.y (v := .pointer (some ⟨g2, 0, none⟩)) (y_fieldAddr rfl rfl Tryd.runUnderlying78 rfl Tryd.sizeOf71 (by decide) rfl) rfl rfl (by decide) ?_
  refine RunZ.y (v := .agg [.string p.head.path, .int .i64 p.head.version, .int .i64 p.head.size, .int .i64 p.head.frm, .int .i64 p.head.len, .int .i64 p.head.serial, .int .i64 p.head.sum, .bool p.head.gone].toArray) (y_loadBA 0 rfl Tryd.isAgg71 Tryd.sizeOf71 rfl rfl rfl rfl) rfl rfl (by decide) ?_
  refine RunZ.call (en_func rfl Tryd.call46 rfl) (con_of (cs := [.string ((hKey p.head).path), .int .i64 ((hKey p.head).version), .int .i64 ((hKey p.head).size), .int .i64 ((hKey p.head).frm), .int .i64 ((hKey p.head).len), .int .i64 ((hKey p.head).serial), .int .i64 ((hKey p.head).sum), .bool ((hKey p.head).gone)]) (fun J cs' h => by first | exact h.1 | exact h) (c_catalog_key _ p.head ⟨rfl, fp_0, fp_1, fp_2, fp_3, fp_4, fp_5, fp_6⟩)) rfl rfl (by decide) ?_
  refine RunZ.y (v := .slice Aparts_0 parts.length cparts_0) (y_load1 rfl Tryd.isAgg76 rfl (RCells.hd hgparts)) rfl rfl (by decide) ?_
  obtain ⟨x8, p8_2, cs8_2, hx8, hp8_2, hcs8_2, hrc8_2⟩ := Sl.at_ (P := Tryd.prog) (T := tPart) Tryd.runUnderlying76 Tryd.sizeOf78 fparts_0 (k := .i64) (i := 0) (by omega) (by omega)
  replace hx8 : parts[0]? = some x8 := hx8
  obtain ⟨rfl, f8_2_0, f8_2_1, f8_2_2, f8_2_3, f8_2_4, f8_2_5, f8_2_6, f8_2_8, f8_2_9⟩ := hcs8_2
  have hph : phead parts = x8.head := phead_of hx8
  refine RunZ.y (v := .pointer (some p8_2)) (y_index rfl rfl rfl hp8_2) rfl rfl (by decide) ?_
  refine RunZ.y (v := .pointer (some p8_2)) (y_fieldAddr rfl rfl Tryd.runUnderlying78 rfl Tryd.sizeOf71 (by decide) (add_zero' _)) rfl rfl (by decide) ?_
  refine RunZ.y (v := .agg [.string x8.head.path, .int .i64 x8.head.version, .int .i64 x8.head.size, .int .i64 x8.head.frm, .int .i64 x8.head.len, .int .i64 x8.head.serial, .int .i64 x8.head.sum, .bool x8.head.gone].toArray) (y_loadA (cs := [.string x8.head.path, .int .i64 x8.head.version, .int .i64 x8.head.size, .int .i64 x8.head.frm, .int .i64 x8.head.len, .int .i64 x8.head.serial, .int .i64 x8.head.sum, .bool x8.head.gone]) rfl Tryd.isAgg71 Tryd.sizeOf71 rfl (show RCells _ _ [.string x8.head.path, .int .i64 x8.head.version, .int .i64 x8.head.size, .int .i64 x8.head.frm, .int .i64 x8.head.len, .int .i64 x8.head.serial, .int .i64 x8.head.sum, .bool x8.head.gone] from RCells.sub hrc8_2 0 8) rfl) rfl rfl (by decide) ?_
  refine RunZ.call (en_func rfl Tryd.call46 rfl) (con_of (cs := [.string ((hKey x8.head).path), .int .i64 ((hKey x8.head).version), .int .i64 ((hKey x8.head).size), .int .i64 ((hKey x8.head).frm), .int .i64 ((hKey x8.head).len), .int .i64 ((hKey x8.head).serial), .int .i64 ((hKey x8.head).sum), .bool ((hKey x8.head).gone)]) (fun J cs' h => by first | exact h.1 | exact h) (c_catalog_key _ x8.head ⟨rfl, f8_2_0, f8_2_1, f8_2_2, f8_2_3, f8_2_4, f8_2_5, f8_2_6⟩)) rfl rfl (by decide) ?_
  refine RunZ.y (v := .bool (!AHead.eqb (hKey p.head) (hKey x8.head))) (y_bin rfl rfl rfl (bn_neqAHead (hKey p.head) (hKey x8.head))) rfl rfl (by decide) ?_
  refine RunZ.y (v := .bool (!AHead.eqb (hKey p.head) (hKey x8.head))) (y_assign rfl rfl) rfl rfl (by decide) ?_
  refine RunZ.nil ?_
  refine RunQ.next ?_
  refine RunC.ret ?_
  refine RunQ.weak Sub.refl (perm_nil _) ?_
  refine RunQ.fin1 (.inl rfl) Tryd.results52 (rv_tmp rfl) ?_
  exact ⟨rfl, _, rfl, (rd_eq (T := tBool) (x := !AHead.eqb (hKey p.head) (hKey x8.head)) rfl (by rw [hph]))⟩

theorem c_catalog_next_1 (I : Imm) {csp : List Value} (p : APart) (hp : tPart.rd I csp p) (gq : Nat) {csq : List Value} (q : Int) (hq : tInt.rd I csq q) (hgq : RCells I ⟨gq, 0, none⟩ csq) : Con Tryd.prog 111 [.agg csp.toArray, .pointer (some (⟨gq, 0, none⟩ : Addr))].toArray I [] (Ret1 (tBool.o) (nextP q p)) := by
  obtain ⟨rfl, fq_0⟩ := hq
  obtain ⟨rfl, fp_0, fp_1, fp_2, fp_3, fp_4, fp_5, fp_6, fp_8, fp_9⟩ := hp
  refine Con.enter (n := 21) (L := [(0, .agg [.string p.head.path, .int .i64 p.head.version, .int .i64 p.head.size, .int .i64 p.head.frm, .int .i64 p.head.len, .int .i64 p.head.serial, .int .i64 p.head.sum, .bool p.head.gone, .int .i64 p.label, .int .i64 p.block].toArray), (1, .pointer (some (⟨gq, 0, none⟩ : Addr)))]) Tryd.func111 rfl rfl (Nat.le_of_ble_eq_true rfl) rfl (fun E => ?_)
  refine RunC.seq ?_
  refine RunC.region ?_
  refine Run.box (cs := [.string p.head.path, .int .i64 p.head.version, .int .i64 p.head.size, .int .i64 p.head.frm, .int .i64 p.head.len, .int .i64 p.head.serial, .int .i64 p.head.sum, .bool p.head.gone, .int .i64 p.label, .int .i64 p.block]) rfl rfl rfl rfl rfl (by decide) (fun g2 => ?_)
  refine Run.y (v := .bool false) (y_assign rfl rfl) rfl rfl (by decide) ?_
  refine Run.nil ?_
  refine RunQ.next ?_
  refine RunC.seq ?_
  refine RunC.region ?_
  refine Run.y (v := .pointer (some ⟨g2, 0, none⟩)) (y_fieldAddr rfl rfl Tryd.runUnderlying78 rfl Tryd.sizeOf71 (by decide) rfl) rfl rfl (by decide) ?_
  refine Run.y (v := .pointer (some ⟨g2, 3, none⟩)) (y_fieldAddr rfl rfl Tryd.runUnderlying71 rfl Tryd.sizeOf3 (by decide) rfl) rfl rfl (by decide) ?_
  refine Run.y (v := .int .i64 p.head.frm) (y_loadB1 0 rfl Tryd.isAgg3 rfl rfl rfl) rfl rfl (by decide) ?_
  refine Run.y (v := .int .i64 q) (y_load1 rfl Tryd.isAgg3 rfl (RCells.hd hgq)) rfl rfl (by decide) ?_
  refine Run.y (v := .bool (decide (p.head.frm = q))) (y_bin rfl rfl rfl bn_eql) rfl rfl (by decide) ?_
  refine Run.y (v := .bool (decide (p.head.frm = q))) (y_move rfl rfl) rfl rfl (by decide) ?_
  refine Run.split 11 rfl (b := decide (p.head.frm = q)) (d := 20) (v := .bool ((decide (p.head.frm = q)) && ((decide (p.head.size = 0)) || (decide (p.head.len > 0))))) (fun hb9 K9 => ?_) (fun hb9 K9 => ?_) ?_
  ·
    have hc1009 := hb9; try simp only [Bool.and_eq_true, Bool.or_eq_true, Bool.and_eq_false_iff, Bool.or_eq_false_iff, decide_eq_true_eq, decide_eq_false_iff_not, Bool.not_eq_true', Bool.not_eq_false', Bool.not_eq_true, Bool.not_eq_false, Int.not_lt, Int.not_le, ge_iff_le, gt_iff_lt, ne_eq, Decidable.not_not] at hc1009
    refine Run.yes (v := .pointer (some ⟨g2, 0, none⟩)) (y_fieldAddr rfl rfl Tryd.runUnderlying78 rfl Tryd.sizeOf71 (by decide) rfl) rfl rfl rfl rfl (hb9) rfl (by decide) ?_
    refine Run.yes (v := .pointer (some ⟨g2, 2, none⟩)) (y_fieldAddr rfl rfl Tryd.runUnderlying71 rfl Tryd.sizeOf3 (by decide) rfl) rfl rfl rfl rfl (hb9) rfl (by decide) ?_
    refine Run.yes (v := .int .i64 p.head.size) (y_loadB1 0 rfl Tryd.isAgg3 rfl rfl rfl) rfl rfl rfl rfl (hb9) rfl (by decide) ?_
    refine Run.yes (v := .bool (decide (p.head.size = 0))) (y_bin rfl rfl rfl bn_eql) rfl rfl rfl rfl (hb9) rfl (by decide) ?_
    refine Run.yes (v := .bool (decide (p.head.size = 0))) (y_move rfl rfl) rfl rfl rfl rfl (hb9) rfl (by decide) ?_
    refine Run.split 5 rfl (b := decide (p.head.size = 0)) (d := 19) (v := .bool ((decide (p.head.size = 0)) || (decide (p.head.len > 0)))) (fun hb14 K14 => ?_) (fun hb14 K14 => ?_) ?_
    ·
      have hc1014 := hb14; try simp only [Bool.and_eq_true, Bool.or_eq_true, Bool.and_eq_false_iff, Bool.or_eq_false_iff, decide_eq_true_eq, decide_eq_false_iff_not, Bool.not_eq_true', Bool.not_eq_false', Bool.not_eq_true, Bool.not_eq_false, Int.not_lt, Int.not_le, ge_iff_le, gt_iff_lt, ne_eq, Decidable.not_not] at hc1014
      refine Run.no rfl rfl rfl rfl (hb14) rfl (by decide) ?_
      refine Run.no rfl rfl rfl rfl (hb14) rfl (by decide) ?_
      refine Run.no rfl rfl rfl rfl (hb14) rfl (by decide) ?_
      refine Run.no rfl rfl rfl rfl (hb14) rfl (by decide) ?_
      refine Run.yes (v := .bool true) (y_pickB rfl rfl (hb14) rfl) rfl rfl rfl rfl (hb9) rfl (by decide) ?_
      exact K14 _ _ _ (Imm.le.refl _) (by rw [hb14]; simp) (Sub.push (Sub.push (Sub.push (Sub.push Sub.refl rfl) rfl) rfl) rfl)
    ·
      have hc1014 := hb14; try simp only [Bool.and_eq_true, Bool.or_eq_true, Bool.and_eq_false_iff, Bool.or_eq_false_iff, decide_eq_true_eq, decide_eq_false_iff_not, Bool.not_eq_true', Bool.not_eq_false', Bool.not_eq_true, Bool.not_eq_false, Int.not_lt, Int.not_le, ge_iff_le, gt_iff_lt, ne_eq, Decidable.not_not] at hc1014
      refine Run.yes (v := .pointer (some ⟨g2, 0, none⟩)) (y_fieldAddr rfl rfl Tryd.runUnderlying78 rfl Tryd.sizeOf71 (by decide) rfl) rfl rfl rfl rfl (hb14) rfl (by decide) ?_
      refine Run.yes (v := .pointer (some ⟨g2, 4, none⟩)) (y_fieldAddr rfl rfl Tryd.runUnderlying71 rfl Tryd.sizeOf3 (by decide) rfl) rfl rfl rfl rfl (hb14) rfl (by decide) ?_
      refine Run.yes (v := .int .i64 p.head.len) (y_loadB1 0 rfl Tryd.isAgg3 rfl rfl rfl) rfl rfl rfl rfl (hb14) rfl (by decide) ?_
      refine Run.yes (v := .bool (decide (p.head.len > 0))) (y_bin rfl rfl rfl bn_gtr) rfl rfl rfl rfl (hb14) rfl (by decide) ?_
      refine Run.yes (v := .bool (decide (p.head.len > 0))) (y_pickB rfl rfl (hb14) rfl) rfl rfl rfl rfl (hb9) rfl (by decide) ?_
      exact K14 _ _ _ (Imm.le.refl _) (by rw [hb14]; simp) (Sub.push (Sub.push (Sub.push (Sub.push Sub.refl rfl) rfl) rfl) rfl)
    refine Run.y (y_pickB rfl rfl (hb9) rfl) rfl rfl (by decide) ?_
    exact K9 _ _ _ (Imm.le.refl _) (by rw [hb9]; simp) (Sub.push (Sub.push (Sub.push (Sub.push (Sub.push (Sub.push Sub.refl rfl) rfl) rfl) rfl) rfl) rfl)
  ·
    have hc1009 := hb9; try simp only [Bool.and_eq_true, Bool.or_eq_true, Bool.and_eq_false_iff, Bool.or_eq_false_iff, decide_eq_true_eq, decide_eq_false_iff_not, Bool.not_eq_true', Bool.not_eq_false', Bool.not_eq_true, Bool.not_eq_false, Int.not_lt, Int.not_le, ge_iff_le, gt_iff_lt, ne_eq, Decidable.not_not] at hc1009
    refine Run.no rfl rfl rfl rfl (hb9) rfl (by decide) ?_
    refine Run.no rfl rfl rfl rfl (hb9) rfl (by decide) ?_
    refine Run.no rfl rfl rfl rfl (hb9) rfl (by decide) ?_
    refine Run.no rfl rfl rfl rfl (hb9) rfl (by decide) ?_
    refine Run.no rfl rfl rfl rfl (hb9) rfl (by decide) ?_
    refine Run.noU rfl rfl rfl rfl rfl (by decide) ?_
    refine Run.noU rfl rfl rfl rfl rfl (by decide) ?_
    refine Run.noU rfl rfl rfl rfl rfl (by decide) ?_
    refine Run.noU rfl rfl rfl rfl rfl (by decide) ?_
    refine Run.no rfl rfl rfl rfl (hb9) rfl (by decide) ?_
    refine Run.y (y_pickB rfl rfl (hb9) rfl) rfl rfl (by decide) ?_
    exact K9 _ _ _ (Imm.le.refl _) (by rw [hb9]; simp) (Sub.push (Sub.push (Sub.push (Sub.push (Sub.push (Sub.push (Sub.push (Sub.push (Sub.push (Sub.push Sub.refl rfl) rfl) rfl) rfl) rfl) rfl) rfl) rfl) rfl) rfl)
  refine Run.y (v := .bool ((decide (p.head.frm = q)) && ((decide (p.head.size = 0)) || (decide (p.head.len > 0))))) (y_assign rfl rfl) rfl rfl (by decide) ?_
  refine Run.nil ?_
  refine RunQ.next ?_
  refine RunC.ret ?_
  refine RunQ.weak Sub.refl (perm_nil _) ?_
  refine RunQ.fin1 (.inl rfl) Tryd.results111 (rv_tmp rfl) ?_
  exact ⟨rfl, _, rfl, (rd_eq (T := tBool) (x := ((decide (p.head.frm = q)) && ((decide (p.head.size = 0)) || (decide (p.head.len > 0))))) rfl (by rfl))⟩

theorem c_catalog_next (I : Imm) {Aparts : Option Addr} {cparts : Nat} (parts : List APart) (hparts : Sl tPart I Aparts cparts parts) (q : Int) (hq : I64 q) : Con Tryd.prog 78 [.slice Aparts parts.length cparts, .int .i64 q].toArray I [] (Ret1 (tInt.o) (wNext parts q)) := by
  have hsmparts := hparts.small
  refine Con.enter (n := 8) (L := [(0, .slice Aparts parts.length cparts), (1, .int .i64 q)]) Tryd.func78 rfl rfl (Nat.le_of_ble_eq_true rfl) rfl (fun E => ?_)
  refine RunC.seq ?_
  refine RunC.region ?_
  refine Run.box (cs := [.int .i64 q]) rfl rfl rfl rfl rfl (by decide) (fun g3 => ?_)
  refine Run.y (v := .int .i64 0) (y_assign rfl rfl) rfl rfl (by decide) ?_
  refine Run.nil ?_
  refine RunQ.next ?_
  refine RunC.seq ?_
  refine RunC.region ?_
  refine Run.y (v := .slice Aparts parts.length cparts) (y_move rfl rfl) rfl rfl (by decide) ?_
  refine Run.y (v := .func (.func 111) #[] #[.pointer (some ⟨g3, 0, none⟩)]) (y_makeFunc (vp := []) (vq := [.pointer (some ⟨g3, 0, none⟩)]) rfl rfl rfl) rfl rfl (by decide) ?_
  refine Run.freezeB 0 rfl (own' := []) rfl (fun J1 hleJ1 hfzJ1 => ?_)
  have hcp2 : tInt.rd J1 [.int .i64 q] q := ⟨rfl, hq⟩
  refine Run.callV (en_func rfl Tryd.call77 rfl) (conv_int (c_IndexFunc_apiPart _ parts (hparts.mono hleJ1) 111 [.pointer (some ⟨g3, 0, none⟩)] (fun x => (nextP q x)) Tryd.call111 (fun J cs x hle hx hm => c_catalog_next_1 J x hx _ q (tInt.mono hle hcp2) (RCells.mono hle hfzJ1)))) rfl rfl (by decide) (fun hI3 => ?_)
  refine Run.y (v := .int .i64 (idx (fun x => (nextP q x)) parts)) (y_assign rfl rfl) rfl rfl (by decide) ?_
  refine Run.nil ?_
  refine RunQ.next ?_
  refine RunC.ret ?_
  refine RunQ.weak Sub.refl (perm_nil _) ?_
  refine RunQ.fin1 (.inl rfl) Tryd.results78 (rv_tmp rfl) ?_
  exact ⟨rfl, _, rfl, (rd_eq (T := tInt) (x := (idx (fun x => (nextP q x)) parts)) ⟨rfl, hI3⟩ (by rfl))⟩

theorem c_catalog_chain (I : Imm) {Aparts : Option Addr} {cparts : Nat} (parts : List APart) (hparts : Sl tPart I Aparts cparts parts) (hlen : 0 < parts.length) (hb : (phead parts).size ≤ 1000000) : Con Tryd.prog 53 [.slice Aparts parts.length cparts].toArray I [] (Ret2 ((tSl tPart).o) (tBool.o) ((wChain parts).1) ((wChain parts).2)) := by
  have hsmparts := hparts.small
  refine Con.enter (n := 58) (L := [(0, .slice Aparts parts.length cparts)]) Tryd.func53 rfl rfl (Nat.le_of_ble_eq_true rfl) rfl (fun E => ?_)
  refine RunC.seq ?_
  refine RunC.region ?_
  refine Run.y (v := .slice none 0 0) (y_assign rfl rfl) rfl rfl (by decide) ?_
  refine Run.y (v := .bool false) (y_assign rfl rfl) rfl rfl (by decide) ?_
  refine Run.nil ?_
  refine RunQ.next ?_
  refine RunC.seq ?_
  refine RunC.region ?_
  refine Run.y (v := .slice Aparts parts.length cparts) (y_move rfl rfl) rfl rfl (by decide) ?_
  obtain ⟨x9, p9_1, cs9_1, hx9, hp9_1, hcs9_1, hrc9_1⟩ := Sl.at_ (P := Tryd.prog) (T := tPart) Tryd.runUnderlying76 Tryd.sizeOf78 hparts (k := .i64) (i := 0) (by omega) (by omega)
  replace hx9 : parts[0]? = some x9 := hx9
  obtain ⟨rfl, f9_1_0, f9_1_1, f9_1_2, f9_1_3, f9_1_4, f9_1_5, f9_1_6, f9_1_8, f9_1_9⟩ := hcs9_1
  have hph : phead parts = x9.head := phead_of hx9
  rw [hph] at hb
  refine Run.y (v := .pointer (some p9_1)) (y_index rfl rfl rfl hp9_1) rfl rfl (by decide) ?_
  refine Run.y (v := .pointer (some p9_1)) (y_fieldAddr rfl rfl Tryd.runUnderlying78 rfl Tryd.sizeOf71 (by decide) (add_zero' _)) rfl rfl (by decide) ?_
  refine Run.y (v := .pointer (some (p9_1.add 2))) (y_fieldAddr rfl rfl Tryd.runUnderlying71 rfl Tryd.sizeOf3 (by decide) rfl) rfl rfl (by decide) ?_
  refine Run.y (v := .int .i64 x9.head.size) (y_load1 rfl Tryd.isAgg3 rfl (RCells.at_ hrc9_1 2 rfl rfl)) rfl rfl (by decide) ?_
  refine Run.y (v := .int .i64 x9.head.size) (y_assign rfl rfl) rfl rfl (by decide) ?_
  refine Run.nil ?_
  refine RunQ.next ?_
  refine RunC.seq ?_
  refine RunC.region ?_
  refine Run.y (v := .slice none 0 0) (y_assign rfl rfl) rfl rfl (by decide) ?_
  refine Run.nil ?_
  refine RunQ.next ?_
  refine RunC.seq ?_
  refine RunC.seq ?_
  refine RunC.region ?_
  refine Run.y (v := .int .i64 0) (y_assign rfl rfl) rfl rfl (by decide) ?_
  refine Run.nil ?_
  refine RunQ.next ?_
  refine RunC.block ?_
  refine RunC.nilrow none 78 10 ?_
  obtain ⟨Inv0, hInv0⟩ : ∃ Inv : Nat → Act → World → Prop, ∀ mm aa ww, Inv mm aa ww ↔ (∃ (k : Nat) (q : Int) (out : List APart) (Aout : Option Addr) (cout : Nat) (clout : List Value), (tPart.all I clout out) ∧ (0 ≤ q) ∧ (q ≤ x9.head.size ∨ x9.head.size < 0) ∧ (x9.head.size - q < k) ∧ ((out.length : Int) ≤ q) ∧ (wChainL parts x9.head.size k q out = wChain parts) ∧ (mm = (k)) ∧ Frm aa 58 [(0, .slice Aparts parts.length cparts), (4, .int .i64 x9.head.size), (6, .int .i64 q), (5, .slice Aout out.length cout)] ∧ S E ww I [row (.slice Aout out.length cout) 78 10 clout]) := ⟨_, fun _ _ _ => Iff.rfl⟩
  refine RunC.loopX Inv0 (fun aa ww hF hS => ⟨_, (hInv0 _ _ _).2 ⟨(x9.head.size.toNat + 1), 0, [], none, 0, [], all_nil, (by omega), (by omega), (by omega), (by simp), (by rw [wChain, hph]), rfl, hF.sub (.cons rfl (.cons rfl (.cons rfl (.cons rfl .nil)))), hS.sub (perm_self _)⟩⟩) ?_
  intro mm0 aa ww hv
  obtain ⟨k, q, out, Aout, cout, clout, hout, hq, hq2, hk, hol, hg, hmm_, hF, hS⟩ := (hInv0 _ _ _).1 hv
  clear hv
  refine RunC.go ?_ hF hS
  clear hF hS aa ww
  refine RunC.seq ?_
  refine RunC.seq ?_
  refine RunC.region ?_
  refine Run.y (v := .int .i64 x9.head.size) (y_move rfl rfl) rfl rfl (by decide) ?_
  refine Run.y (v := .bool (decide (x9.head.size ≥ 0))) (y_bin rfl rfl rfl bn_geq) rfl rfl (by decide) ?_
  refine Run.nil ?_
  refine RunQ.next ?_
  refine RunC.cond rfl (fun hc0 => ?_) (fun hc0 => ?_)
  ·
    try simp only [Bool.and_eq_true, Bool.or_eq_true, Bool.and_eq_false_iff, Bool.or_eq_false_iff, decide_eq_true_eq, decide_eq_false_iff_not, Bool.not_eq_true', Bool.not_eq_false', Bool.not_eq_true, Bool.not_eq_false, Int.not_lt, Int.not_le, ge_iff_le, gt_iff_lt, ne_eq, Decidable.not_not] at hc0
    obtain ⟨k, rfl⟩ : ∃ j, k = j + 1 := ⟨k - 1, by omega⟩
    refine RunC.skip ?_
    refine RunQ.next ?_
    refine RunC.block ?_
    refine RunC.seq ?_
    refine RunC.region ?_
    refine Run.y (v := .slice Aparts parts.length cparts) (y_move rfl rfl) rfl rfl (by decide) ?_
    refine Run.y (v := .int .i64 q) (y_move rfl rfl) rfl rfl (by decide) ?_
    refine Run.callV (en_func rfl Tryd.call78 rfl) (conv_int (c_catalog_next _ parts hparts q (by omega))) rfl rfl (by decide) (fun hI2 => ?_)
    have hlt := idx_lt (nextP q) parts; rw [← wNext] at hlt
    refine Run.y (v := .int .i64 (wNext parts q)) (y_assign rfl rfl) rfl rfl (by decide) ?_
    refine Run.nil ?_
    refine RunQ.next ?_
    refine RunC.seq ?_
    refine RunC.seq ?_
    refine RunC.region ?_
    refine Run.y (v := .int .i64 (wNext parts q)) (y_move rfl rfl) rfl rfl (by decide) ?_
    refine Run.y (v := .bool (decide ((wNext parts q) < 0))) (y_bin rfl rfl rfl bn_lss) rfl rfl (by decide) ?_
    refine Run.y (v := .bool (decide ((wNext parts q) < 0))) (y_move rfl rfl) rfl rfl (by decide) ?_
    refine Run.split 11 rfl (b := decide ((wNext parts q) < 0)) (d := 31) (v := .bool ((decide ((wNext parts q) < 0)) || (decide (plen parts (wNext parts q) > x9.head.size - q)))) (fun hb20 K20 => ?_) (fun hb20 K20 => ?_) ?_
    ·
      have hc1020 := hb20; try simp only [Bool.and_eq_true, Bool.or_eq_true, Bool.and_eq_false_iff, Bool.or_eq_false_iff, decide_eq_true_eq, decide_eq_false_iff_not, Bool.not_eq_true', Bool.not_eq_false', Bool.not_eq_true, Bool.not_eq_false, Int.not_lt, Int.not_le, ge_iff_le, gt_iff_lt, ne_eq, Decidable.not_not] at hc1020
      refine Run.no rfl rfl rfl rfl (hb20) rfl (by decide) ?_
      refine Run.no rfl rfl rfl rfl (hb20) rfl (by decide) ?_
      refine Run.no rfl rfl rfl rfl (hb20) rfl (by decide) ?_
      refine Run.no rfl rfl rfl rfl (hb20) rfl (by decide) ?_
      refine Run.no rfl rfl rfl rfl (hb20) rfl (by decide) ?_
      refine Run.no rfl rfl rfl rfl (hb20) rfl (by decide) ?_
      refine Run.no rfl rfl rfl rfl (hb20) rfl (by decide) ?_
      refine Run.no rfl rfl rfl rfl (hb20) rfl (by decide) ?_
      refine Run.no rfl rfl rfl rfl (hb20) rfl (by decide) ?_
      refine Run.no rfl rfl rfl rfl (hb20) rfl (by decide) ?_
      refine Run.y (y_pickB rfl rfl (hb20) rfl) rfl rfl (by decide) ?_
      exact K20 _ _ _ (Imm.le.refl _) (by rw [hb20]; first | (simp; done) | (rw [plen_of hx23]; simp)) (Sub.push (Sub.push (Sub.push (Sub.push (Sub.push (Sub.push (Sub.push (Sub.push (Sub.push (Sub.push Sub.refl rfl) rfl) rfl) rfl) rfl) rfl) rfl) rfl) rfl) rfl)
    ·
      have hc1020 := hb20; try simp only [Bool.and_eq_true, Bool.or_eq_true, Bool.and_eq_false_iff, Bool.or_eq_false_iff, decide_eq_true_eq, decide_eq_false_iff_not, Bool.not_eq_true', Bool.not_eq_false', Bool.not_eq_true, Bool.not_eq_false, Int.not_lt, Int.not_le, ge_iff_le, gt_iff_lt, ne_eq, Decidable.not_not] at hc1020
      refine Run.yes (v := .slice Aparts parts.length cparts) (y_move rfl rfl) rfl rfl rfl rfl (hb20) rfl (by decide) ?_
      refine Run.yes (v := .int .i64 (wNext parts q)) (y_move rfl rfl) rfl rfl rfl rfl (hb20) rfl (by decide) ?_
      obtain ⟨x23, p23_3, cs23_3, hx23, hp23_3, hcs23_3, hrc23_3⟩ := Sl.at_ (P := Tryd.prog) (T := tPart) Tryd.runUnderlying76 Tryd.sizeOf78 hparts (k := .i64) (i := (wNext parts q)) (by omega) (by omega)
      obtain ⟨rfl, f23_3_0, f23_3_1, f23_3_2, f23_3_3, f23_3_4, f23_3_5, f23_3_6, f23_3_8, f23_3_9⟩ := hcs23_3
      refine Run.yes (v := .pointer (some p23_3)) (y_index rfl rfl rfl hp23_3) rfl rfl rfl rfl (hb20) rfl (by decide) ?_
      refine Run.yes (v := .pointer (some p23_3)) (y_fieldAddr rfl rfl Tryd.runUnderlying78 rfl Tryd.sizeOf71 (by decide) (add_zero' _)) rfl rfl rfl rfl (hb20) rfl (by decide) ?_
      refine Run.yes (v := .pointer (some (p23_3.add 4))) (y_fieldAddr rfl rfl Tryd.runUnderlying71 rfl Tryd.sizeOf3 (by decide) rfl) rfl rfl rfl rfl (hb20) rfl (by decide) ?_
      refine Run.yes (v := .int .i64 x23.head.len) (y_load1 rfl Tryd.isAgg3 rfl (RCells.at_ hrc23_3 4 rfl rfl)) rfl rfl rfl rfl (hb20) rfl (by decide) ?_
      refine Run.yes (v := .int .i64 x9.head.size) (y_move rfl rfl) rfl rfl rfl rfl (hb20) rfl (by decide) ?_
      refine Run.yes (v := .int .i64 q) (y_move rfl rfl) rfl rfl rfl rfl (hb20) rfl (by decide) ?_
      refine Run.yes (v := .int .i64 (x9.head.size - q)) (y_bin rfl rfl rfl (bn_sub (by omega) (by omega))) rfl rfl rfl rfl (hb20) rfl (by decide) ?_
      refine Run.yes (v := .bool (decide (x23.head.len > x9.head.size - q))) (y_bin rfl rfl rfl bn_gtr) rfl rfl rfl rfl (hb20) rfl (by decide) ?_
      refine Run.y (y_pickB rfl rfl (hb20) rfl) rfl rfl (by decide) ?_
      exact K20 _ _ _ (Imm.le.refl _) (by rw [hb20]; first | (simp; done) | (rw [plen_of hx23]; simp)) (Sub.push (Sub.push (Sub.push (Sub.push (Sub.push (Sub.push (Sub.push (Sub.push (Sub.push (Sub.push Sub.refl rfl) rfl) rfl) rfl) rfl) rfl) rfl) rfl) rfl) rfl)
    refine Run.nil ?_
    refine RunQ.next ?_
    refine RunC.cond rfl (fun hc1 => ?_) (fun hc1 => ?_)
    ·
      try simp only [Bool.and_eq_true, Bool.or_eq_true, Bool.and_eq_false_iff, Bool.or_eq_false_iff, decide_eq_true_eq, decide_eq_false_iff_not, Bool.not_eq_true', Bool.not_eq_false', Bool.not_eq_true, Bool.not_eq_false, Int.not_lt, Int.not_le, ge_iff_le, gt_iff_lt, ne_eq, Decidable.not_not] at hc1
      refine RunC.seq ?_
      refine RunC.region ?_
      refine Run.y (v := .slice none 0 0) (y_assign rfl rfl) rfl rfl (by decide) ?_
      refine Run.y (v := .bool false) (y_assign rfl rfl) rfl rfl (by decide) ?_
      refine Run.nil ?_
      refine RunQ.next ?_
      refine RunC.ret ?_
      refine RunQ.pass (fun h => by cases h) ?_
      refine RunQ.inR ?_
      refine RunQ.pass (fun h => by cases h) ?_
      refine RunQ.inR ?_
      refine RunQ.pass (fun h => by cases h) ?_
      refine RunQ.weak Sub.refl (perm_nil _) ?_
      refine RunQ.fin2 (.inl rfl) Tryd.results53 (rv_tmp rfl) (rv_tmp rfl) ?_
      exact ⟨rfl, _, _, rfl, (rd_eq (T := (tSl tPart)) (x := ([] : List APart)) ⟨_, _, rfl, sl_nil0⟩ (by first | (rw [← hg, wChainL_neg _ _ _ _ _ (by omega)] <;> rfl) | (rw [← hg, wChainL_no (by omega)] <;> rfl) | (rw [← hg, wChainL_at (by omega) (by omega) hx35, if_pos (by omega)] <;> rfl) | (rw [← hg, wChainL_at (by omega) (by omega) hx35, if_neg (by omega), if_pos (by omega)] <;> rfl))), (rd_eq (T := tBool) (x := false) rfl (by first | (rw [← hg, wChainL_neg _ _ _ _ _ (by omega)] <;> rfl) | (rw [← hg, wChainL_no (by omega)] <;> rfl) | (rw [← hg, wChainL_at (by omega) (by omega) hx35, if_pos (by omega)] <;> rfl) | (rw [← hg, wChainL_at (by omega) (by omega) hx35, if_neg (by omega), if_pos (by omega)] <;> rfl)))⟩
    ·
      try simp only [Bool.and_eq_true, Bool.or_eq_true, Bool.and_eq_false_iff, Bool.or_eq_false_iff, decide_eq_true_eq, decide_eq_false_iff_not, Bool.not_eq_true', Bool.not_eq_false', Bool.not_eq_true, Bool.not_eq_false, Int.not_lt, Int.not_le, ge_iff_le, gt_iff_lt, ne_eq, Decidable.not_not] at hc1
      refine RunC.skip ?_
      refine RunQ.next ?_
      refine RunC.seq ?_
      refine RunC.region ?_
      refine Run.y (v := .slice Aout out.length cout) (y_move rfl rfl) rfl rfl (by decide) ?_
      refine Run.y (v := .slice Aparts parts.length cparts) (y_move rfl rfl) rfl rfl (by decide) ?_
      refine Run.y (v := .int .i64 (wNext parts q)) (y_move rfl rfl) rfl rfl (by decide) ?_
      obtain ⟨x35, p35_4, cs35_4, hx35, hp35_4, hcs35_4, hrc35_4⟩ := Sl.at_ (P := Tryd.prog) (T := tPart) Tryd.runUnderlying76 Tryd.sizeOf78 hparts (k := .i64) (i := (wNext parts q)) (by omega) (by omega)
      obtain ⟨rfl, f35_4_0, f35_4_1, f35_4_2, f35_4_3, f35_4_4, f35_4_5, f35_4_6, f35_4_8, f35_4_9⟩ := hcs35_4
      have hpl := plen_of hx35
      refine Run.y (v := .pointer (some p35_4)) (y_index rfl rfl rfl hp35_4) rfl rfl (by decide) ?_
      refine Run.y (v := .agg [.string x35.head.path, .int .i64 x35.head.version, .int .i64 x35.head.size, .int .i64 x35.head.frm, .int .i64 x35.head.len, .int .i64 x35.head.serial, .int .i64 x35.head.sum, .bool x35.head.gone, .int .i64 x35.label, .int .i64 x35.block].toArray) (y_loadA (cs := [.string x35.head.path, .int .i64 x35.head.version, .int .i64 x35.head.size, .int .i64 x35.head.frm, .int .i64 x35.head.len, .int .i64 x35.head.serial, .int .i64 x35.head.sum, .bool x35.head.gone, .int .i64 x35.label, .int .i64 x35.block]) rfl Tryd.isAgg78 Tryd.sizeOf78 rfl hrc35_4 rfl) rfl rfl (by decide) ?_
      refine Run.lit (vs := [(0, .agg [.string x35.head.path, .int .i64 x35.head.version, .int .i64 x35.head.size, .int .i64 x35.head.frm, .int .i64 x35.head.len, .int .i64 x35.head.serial, .int .i64 x35.head.sum, .bool x35.head.gone, .int .i64 x35.label, .int .i64 x35.block].toArray)]) (cs := [.string x35.head.path, .int .i64 x35.head.version, .int .i64 x35.head.size, .int .i64 x35.head.frm, .int .i64 x35.head.len, .int .i64 x35.head.serial, .int .i64 x35.head.sum, .bool x35.head.gone, .int .i64 x35.label, .int .i64 x35.block]) (el := 78) (sz := 10) rfl rfl (fun w => by simp [Instr.buildSlice, Tryd.runUnderlying76, Tryd.sizeOf78, Tryd.zeroValue78, Instr.fill, Value.cells, newRow, (show Array.range 10 = #[0, 1, 2, 3, 4, 5, 6, 7, 8, 9] from rfl)]) rfl (by simp [maxLen]) rfl rfl (by decide) (fun g37 => ?_)
      have hlit5 : tPart.all I [.string x35.head.path, .int .i64 x35.head.version, .int .i64 x35.head.size, .int .i64 x35.head.frm, .int .i64 x35.head.len, .int .i64 x35.head.serial, .int .i64 x35.head.sum, .bool x35.head.gone, .int .i64 x35.label, .int .i64 x35.block] [(⟨(⟨x35.head.path, x35.head.version, x35.head.size, x35.head.frm, x35.head.len, x35.head.serial, x35.head.sum, x35.head.gone⟩ : AHead), x35.label, x35.block⟩ : APart)] := (all_snoc (T := tPart) all_nil ⟨rfl, f35_4_0, f35_4_1, f35_4_2, f35_4_3, f35_4_4, f35_4_5, f35_4_6, f35_4_8, f35_4_9⟩)
      have hall6 : tPart.all I (clout ++ ([.string x35.head.path, .int .i64 x35.head.version, .int .i64 x35.head.size, .int .i64 x35.head.frm, .int .i64 x35.head.len, .int .i64 x35.head.serial, .int .i64 x35.head.sum, .bool x35.head.gone, .int .i64 x35.label, .int .i64 x35.block])) (out ++ ([(⟨(⟨x35.head.path, x35.head.version, x35.head.size, x35.head.frm, x35.head.len, x35.head.serial, x35.head.sum, x35.head.gone⟩ : AHead), x35.label, x35.block⟩ : APart)])) := all_append hout hlit5
      refine Run.append (by_ := 88) (ys := [.string x35.head.path, .int .i64 x35.head.version, .int .i64 x35.head.size, .int .i64 x35.head.frm, .int .i64 x35.head.len, .int .i64 x35.head.serial, .int .i64 x35.head.sum, .bool x35.head.gone, .int .i64 x35.label, .int .i64 x35.block]) (k := 1) (own' := [row (.slice (some ⟨g37, 0, none⟩) 1 1) 78 10 ([.string x35.head.path, .int .i64 x35.head.version, .int .i64 x35.head.size, .int .i64 x35.head.frm, .int .i64 x35.head.len, .int .i64 x35.head.serial, .int .i64 x35.head.sum, .bool x35.head.gone, .int .i64 x35.label, .int .i64 x35.block])]) 1 rfl rfl rfl Tryd.runUnderlying76 (.inl Tryd.runUnderlying76) Tryd.sizeOf78 Tryd.typeInfo78 rfl Tryd.zeroValue78 rfl rfl rfl (fun w hS => src_own hS (i := 0) rfl) (hlit5).1 (all_one hlit5) ((out ++ ([(⟨(⟨x35.head.path, x35.head.version, x35.head.size, x35.head.frm, x35.head.len, x35.head.serial, x35.head.sum, x35.head.gone⟩ : AHead), x35.label, x35.block⟩ : APart)])).length) (by first | (simp; done) | (simp; omega)) (by simp; omega) (by simp [maxLen]; omega) rfl rfl (by decide) (fun A38_6 c38_6 => ?_)
      refine Run.weak Sub.refl (perm_take (i := 0) rfl (perm_nil _)) ?_
      refine Run.y (v := .slice A38_6 ((out ++ ([(⟨(⟨x35.head.path, x35.head.version, x35.head.size, x35.head.frm, x35.head.len, x35.head.serial, x35.head.sum, x35.head.gone⟩ : AHead), x35.label, x35.block⟩ : APart)])).length) c38_6) (y_assign rfl rfl) rfl rfl (by decide) ?_
      refine Run.nil ?_
      refine RunQ.next ?_
      refine RunC.seq ?_
      refine RunC.seq ?_
      refine RunC.region ?_
      refine Run.y (v := .int .i64 q) (y_move rfl rfl) rfl rfl (by decide) ?_
      refine Run.y (v := .slice Aparts parts.length cparts) (y_move rfl rfl) rfl rfl (by decide) ?_
      refine Run.y (v := .int .i64 (wNext parts q)) (y_move rfl rfl) rfl rfl (by decide) ?_
      obtain ⟨x42, p42_7, cs42_7, hx42, hp42_7, hcs42_7, hrc42_7⟩ := Sl.at_ (P := Tryd.prog) (T := tPart) Tryd.runUnderlying76 Tryd.sizeOf78 hparts (k := .i64) (i := (wNext parts q)) (by omega) (by omega)
      obtain ⟨rfl, f42_7_0, f42_7_1, f42_7_2, f42_7_3, f42_7_4, f42_7_5, f42_7_6, f42_7_8, f42_7_9⟩ := hcs42_7
      have e42 : x42.head.len = x35.head.len := by rw [Option.some.inj (hx42.symm.trans hx35)]
      refine Run.y (v := .pointer (some p42_7)) (y_index rfl rfl rfl hp42_7) rfl rfl (by decide) ?_
      refine Run.y (v := .pointer (some p42_7)) (y_fieldAddr rfl rfl Tryd.runUnderlying78 rfl Tryd.sizeOf71 (by decide) (add_zero' _)) rfl rfl (by decide) ?_
      refine Run.y (v := .pointer (some (p42_7.add 4))) (y_fieldAddr rfl rfl Tryd.runUnderlying71 rfl Tryd.sizeOf3 (by decide) rfl) rfl rfl (by decide) ?_
      refine Run.y (v := .int .i64 x42.head.len) (y_load1 rfl Tryd.isAgg3 rfl (RCells.at_ hrc42_7 4 rfl rfl)) rfl rfl (by decide) ?_
      refine Run.y (v := .int .i64 (q + x42.head.len)) (y_bin rfl rfl rfl (bn_add (by omega) (by omega))) rfl rfl (by decide) ?_
      refine Run.y (v := .int .i64 (q + x42.head.len)) (y_assign rfl rfl) rfl rfl (by decide) ?_
      refine Run.nil ?_
      refine RunQ.next ?_
      refine RunC.seq ?_
      refine RunC.region ?_
      refine Run.y (v := .int .i64 (q + x42.head.len)) (y_move rfl rfl) rfl rfl (by decide) ?_
      refine Run.y (v := .int .i64 x9.head.size) (y_move rfl rfl) rfl rfl (by decide) ?_
      refine Run.y (v := .bool (decide (q + x42.head.len = x9.head.size))) (y_bin rfl rfl rfl bn_eql) rfl rfl (by decide) ?_
      refine Run.nil ?_
      refine RunQ.next ?_
      refine RunC.cond rfl (fun hc2 => ?_) (fun hc2 => ?_)
      ·
        try simp only [Bool.and_eq_true, Bool.or_eq_true, Bool.and_eq_false_iff, Bool.or_eq_false_iff, decide_eq_true_eq, decide_eq_false_iff_not, Bool.not_eq_true', Bool.not_eq_false', Bool.not_eq_true, Bool.not_eq_false, Int.not_lt, Int.not_le, ge_iff_le, gt_iff_lt, ne_eq, Decidable.not_not] at hc2
        refine RunC.seq ?_
        refine RunC.region ?_
        refine Run.y (v := .slice A38_6 ((out ++ ([(⟨(⟨x35.head.path, x35.head.version, x35.head.size, x35.head.frm, x35.head.len, x35.head.serial, x35.head.sum, x35.head.gone⟩ : AHead), x35.label, x35.block⟩ : APart)])).length) c38_6) (y_move rfl rfl) rfl rfl (by decide) ?_
        refine Run.y (v := .slice A38_6 ((out ++ ([(⟨(⟨x35.head.path, x35.head.version, x35.head.size, x35.head.frm, x35.head.len, x35.head.serial, x35.head.sum, x35.head.gone⟩ : AHead), x35.label, x35.block⟩ : APart)])).length) c38_6) (y_assign rfl rfl) rfl rfl (by decide) ?_
        refine Run.y (v := .bool true) (y_assign rfl rfl) rfl rfl (by decide) ?_
        refine Run.nil ?_
        refine RunQ.next ?_
        refine RunC.ret ?_
        refine RunQ.pass (fun h => by cases h) ?_
        refine RunQ.inR ?_
        refine RunQ.pass (fun h => by cases h) ?_
        refine RunQ.inR ?_
        refine RunQ.pass (fun h => by cases h) ?_
        refine RunQ.freezeR 0 rfl (own' := []) rfl (fun J8 hleJ8 hfzJ8 => ?_)
        have hslJ8 : Sl tPart J8 A38_6 c38_6 (out ++ ([(⟨(⟨x35.head.path, x35.head.version, x35.head.size, x35.head.frm, x35.head.len, x35.head.serial, x35.head.sum, x35.head.gone⟩ : AHead), x35.label, x35.block⟩ : APart)])) := Sl.of_rowN hfzJ8 rfl rfl (hall6.mono hleJ8)
        refine RunQ.weak Sub.refl (perm_nil _) ?_
        refine RunQ.fin2 (.inl rfl) Tryd.results53 (rv_tmp rfl) (rv_tmp rfl) ?_
        exact ⟨rfl, _, _, rfl, (rd_eq (T := (tSl tPart)) (x := (out ++ ([(⟨(⟨x35.head.path, x35.head.version, x35.head.size, x35.head.frm, x35.head.len, x35.head.serial, x35.head.sum, x35.head.gone⟩ : AHead), x35.label, x35.block⟩ : APart)]))) ⟨_, _, rfl, hslJ8⟩ (by first | (rw [← hg, wChainL_neg _ _ _ _ _ (by omega)] <;> rfl) | (rw [← hg, wChainL_no (by omega)] <;> rfl) | (rw [← hg, wChainL_at (by omega) (by omega) hx35, if_pos (by omega)] <;> rfl) | (rw [← hg, wChainL_at (by omega) (by omega) hx35, if_neg (by omega), if_pos (by omega)] <;> rfl))), (rd_eq (T := tBool) (x := true) rfl (by first | (rw [← hg, wChainL_neg _ _ _ _ _ (by omega)] <;> rfl) | (rw [← hg, wChainL_no (by omega)] <;> rfl) | (rw [← hg, wChainL_at (by omega) (by omega) hx35, if_pos (by omega)] <;> rfl) | (rw [← hg, wChainL_at (by omega) (by omega) hx35, if_neg (by omega), if_pos (by omega)] <;> rfl)))⟩
      ·
        try simp only [Bool.and_eq_true, Bool.or_eq_true, Bool.and_eq_false_iff, Bool.or_eq_false_iff, decide_eq_true_eq, decide_eq_false_iff_not, Bool.not_eq_true', Bool.not_eq_false', Bool.not_eq_true, Bool.not_eq_false, Int.not_lt, Int.not_le, ge_iff_le, gt_iff_lt, ne_eq, Decidable.not_not] at hc2
        refine RunC.skip ?_
        refine RunQ.next ?_
        refine RunC.seq ?_
        refine RunC.region ?_
        refine Run.y (v := .slice Aparts parts.length cparts) (y_move rfl rfl) rfl rfl (by decide) ?_
        refine Run.y (v := .int .i64 (wNext parts q)) (y_move rfl rfl) rfl rfl (by decide) ?_
        obtain ⟨x53, p53_9, cs53_9, hx53, hp53_9, hcs53_9, hrc53_9⟩ := Sl.at_ (P := Tryd.prog) (T := tPart) Tryd.runUnderlying76 Tryd.sizeOf78 hparts (k := .i64) (i := (wNext parts q)) (by omega) (by omega)
        obtain ⟨rfl, f53_9_0, f53_9_1, f53_9_2, f53_9_3, f53_9_4, f53_9_5, f53_9_6, f53_9_8, f53_9_9⟩ := hcs53_9
        have e53 : x53.head.len = x35.head.len := by rw [Option.some.inj (hx53.symm.trans hx35)]
        refine Run.y (v := .pointer (some p53_9)) (y_index rfl rfl rfl hp53_9) rfl rfl (by decide) ?_
        refine Run.y (v := .pointer (some p53_9)) (y_fieldAddr rfl rfl Tryd.runUnderlying78 rfl Tryd.sizeOf71 (by decide) (add_zero' _)) rfl rfl (by decide) ?_
        refine Run.y (v := .pointer (some (p53_9.add 4))) (y_fieldAddr rfl rfl Tryd.runUnderlying71 rfl Tryd.sizeOf3 (by decide) rfl) rfl rfl (by decide) ?_
        refine Run.y (v := .int .i64 x53.head.len) (y_load1 rfl Tryd.isAgg3 rfl (RCells.at_ hrc53_9 4 rfl rfl)) rfl rfl (by decide) ?_
        refine Run.y (v := .bool (decide (x53.head.len ≤ 0))) (y_bin rfl rfl rfl bn_leq) rfl rfl (by decide) ?_
        refine Run.nil ?_
        refine RunQ.next ?_
        refine RunC.cond rfl (fun hc3 => ?_) (fun hc3 => ?_)
        ·
          try simp only [Bool.and_eq_true, Bool.or_eq_true, Bool.and_eq_false_iff, Bool.or_eq_false_iff, decide_eq_true_eq, decide_eq_false_iff_not, Bool.not_eq_true', Bool.not_eq_false', Bool.not_eq_true, Bool.not_eq_false, Int.not_lt, Int.not_le, ge_iff_le, gt_iff_lt, ne_eq, Decidable.not_not] at hc3
          refine RunC.seq ?_
          refine RunC.region ?_
          refine Run.y (v := .slice none 0 0) (y_assign rfl rfl) rfl rfl (by decide) ?_
          refine Run.y (v := .bool false) (y_assign rfl rfl) rfl rfl (by decide) ?_
          refine Run.nil ?_
          refine RunQ.next ?_
          refine RunC.ret ?_
          refine RunQ.inR ?_
          refine RunQ.pass (fun h => by cases h) ?_
          refine RunQ.inR ?_
          refine RunQ.pass (fun h => by cases h) ?_
          refine RunQ.weak Sub.refl (perm_nil _) ?_
          refine RunQ.fin2 (.inl rfl) Tryd.results53 (rv_tmp rfl) (rv_tmp rfl) ?_
          exact ⟨rfl, _, _, rfl, (rd_eq (T := (tSl tPart)) (x := ([] : List APart)) ⟨_, _, rfl, sl_nil0⟩ (by first | (rw [← hg, wChainL_neg _ _ _ _ _ (by omega)] <;> rfl) | (rw [← hg, wChainL_no (by omega)] <;> rfl) | (rw [← hg, wChainL_at (by omega) (by omega) hx35, if_pos (by omega)] <;> rfl) | (rw [← hg, wChainL_at (by omega) (by omega) hx35, if_neg (by omega), if_pos (by omega)] <;> rfl))), (rd_eq (T := tBool) (x := false) rfl (by first | (rw [← hg, wChainL_neg _ _ _ _ _ (by omega)] <;> rfl) | (rw [← hg, wChainL_no (by omega)] <;> rfl) | (rw [← hg, wChainL_at (by omega) (by omega) hx35, if_pos (by omega)] <;> rfl) | (rw [← hg, wChainL_at (by omega) (by omega) hx35, if_neg (by omega), if_pos (by omega)] <;> rfl)))⟩
        ·
          try simp only [Bool.and_eq_true, Bool.or_eq_true, Bool.and_eq_false_iff, Bool.or_eq_false_iff, decide_eq_true_eq, decide_eq_false_iff_not, Bool.not_eq_true', Bool.not_eq_false', Bool.not_eq_true, Bool.not_eq_false, Int.not_lt, Int.not_le, ge_iff_le, gt_iff_lt, ne_eq, Decidable.not_not] at hc3
          refine RunC.skip ?_
          refine RunQ.inB ?_
          exact RunQ.thenI (fun aa ww hF hS => ⟨_, (by omega), (hInv0 _ _ _).2 ⟨k, q + x42.head.len, (out ++ ([(⟨(⟨x35.head.path, x35.head.version, x35.head.size, x35.head.frm, x35.head.len, x35.head.serial, x35.head.sum, x35.head.gone⟩ : AHead), x35.label, x35.block⟩ : APart)])), A38_6, c38_6, clout ++ ([.string x35.head.path, .int .i64 x35.head.version, .int .i64 x35.head.size, .int .i64 x35.head.frm, .int .i64 x35.head.len, .int .i64 x35.head.serial, .int .i64 x35.head.sum, .bool x35.head.gone, .int .i64 x35.label, .int .i64 x35.block]), hall6, (by omega), (by omega), (by omega), (by simp; omega), (by rw [e42, ← hg, wChainL_at (by omega) (by omega) hx35, if_neg (by omega), if_neg (by omega)]), rfl, hF.sub (.cons rfl (.cons rfl (.cons rfl (.cons rfl .nil)))), hS.sub (perm_self _)⟩⟩)
  ·
    try simp only [Bool.and_eq_true, Bool.or_eq_true, Bool.and_eq_false_iff, Bool.or_eq_false_iff, decide_eq_true_eq, decide_eq_false_iff_not, Bool.not_eq_true', Bool.not_eq_false', Bool.not_eq_true, Bool.not_eq_false, Int.not_lt, Int.not_le, ge_iff_le, gt_iff_lt, ne_eq, Decidable.not_not] at hc0
    refine RunC.exit ?_
    refine RunQ.pass (fun h => by cases h) ?_
    refine RunQ.pass (fun h => by cases h) ?_
    refine RunQ.out ?_
    refine RunQ.next ?_
    refine RunC.seq ?_
    refine RunC.region ?_
    refine Run.y (v := .slice none 0 0) (y_assign rfl rfl) rfl rfl (by decide) ?_
    refine Run.y (v := .bool false) (y_assign rfl rfl) rfl rfl (by decide) ?_
    refine Run.nil ?_
    refine RunQ.next ?_
    refine RunC.ret ?_
    refine RunQ.weak Sub.refl (perm_nil _) ?_
    refine RunQ.fin2 (.inl rfl) Tryd.results53 (rv_tmp rfl) (rv_tmp rfl) ?_
    exact ⟨rfl, _, _, rfl, (rd_eq (T := (tSl tPart)) (x := ([] : List APart)) ⟨_, _, rfl, sl_nil0⟩ (by first | (rw [← hg, wChainL_neg _ _ _ _ _ (by omega)] <;> rfl) | (rw [← hg, wChainL_no (by omega)] <;> rfl) | (rw [← hg, wChainL_at (by omega) (by omega) hx35, if_pos (by omega)] <;> rfl) | (rw [← hg, wChainL_at (by omega) (by omega) hx35, if_neg (by omega), if_pos (by omega)] <;> rfl))), (rd_eq (T := tBool) (x := false) rfl (by first | (rw [← hg, wChainL_neg _ _ _ _ _ (by omega)] <;> rfl) | (rw [← hg, wChainL_no (by omega)] <;> rfl) | (rw [← hg, wChainL_at (by omega) (by omega) hx35, if_pos (by omega)] <;> rfl) | (rw [← hg, wChainL_at (by omega) (by omega) hx35, if_neg (by omega), if_pos (by omega)] <;> rfl)))⟩

theorem c_catalog_Whole (I : Imm) {Aparts : Option Addr} {cparts : Nat} (parts : List APart) (hparts : Sl tPart I Aparts cparts parts) (hb : (phead parts).size ≤ 1000000) : Con Tryd.prog 27 [.slice Aparts parts.length cparts].toArray I [] (Ret2 (tFile.g) (tBool.o) ((wWhole parts).1) ((wWhole parts).2)) := by
  have hsmparts := hparts.small
  refine Con.enter (n := 42) (L := [(0, .slice Aparts parts.length cparts)]) Tryd.func27 rfl rfl (Nat.le_of_ble_eq_true rfl) rfl (fun E => ?_)
  refine RunC.seq ?_
  refine RunC.region ?_
  refine Run.box (cs := [.slice Aparts parts.length cparts]) rfl rfl rfl rfl rfl (by decide) (fun g1 => ?_)
  refine Run.alloc (cs := [.string (ByteArray.mk #[]), .int .i64 0, .int .i64 0, .int .i64 0, .int .i64 0, .bool false, .slice none 0 0]) rfl Tryd.zeroValue80 rfl rfl rfl (by decide) (fun g2_1 => ?_)
  refine Run.y (v := .bool false) (y_assign rfl rfl) rfl rfl (by decide) ?_
  refine Run.nil ?_
  refine RunQ.next ?_
  refine RunC.seq ?_
  refine RunC.seq ?_
  refine RunC.freezeB 1 rfl (own' := [blk g2_1 [.string (ByteArray.mk #[]), .int .i64 0, .int .i64 0, .int .i64 0, .int .i64 0, .bool false, .slice none 0 0] 80]) rfl (fun J2 hleJ2 hfzJ2 => ?_)
  refine RunC.region ?_
  refine Run.y (v := .slice Aparts parts.length cparts) (y_load1 rfl Tryd.isAgg76 rfl (RCells.at_ hfzJ2 0 rfl rfl)) rfl rfl (by decide) ?_
  refine Run.y (v := .int .i64 (parts.length : Int)) (y_len rfl Tryd.runUnderlying76 rfl) rfl rfl (by decide) ?_
  refine Run.y (v := .bool (decide ((parts.length : Int) = 0))) (y_bin rfl rfl rfl bn_eql) rfl rfl (by decide) ?_
  refine Run.y (v := .bool (decide ((parts.length : Int) = 0))) (y_move rfl rfl) rfl rfl (by decide) ?_
  refine Run.split 4 rfl (b := decide ((parts.length : Int) = 0)) (d := 14) (v := .bool ((decide ((parts.length : Int) = 0)) || (parts.any (fun x => (!AHead.eqb (hKey x.head) (hKey (phead parts))))))) (fun hb10 K10 => ?_) (fun hb10 K10 => ?_) ?_
  ·
    have hc1010 := hb10; try simp only [Bool.and_eq_true, Bool.or_eq_true, Bool.and_eq_false_iff, Bool.or_eq_false_iff, decide_eq_true_eq, decide_eq_false_iff_not, Bool.not_eq_true', Bool.not_eq_false', Bool.not_eq_true, Bool.not_eq_false, Int.not_lt, Int.not_le, ge_iff_le, gt_iff_lt, ne_eq, Decidable.not_not] at hc1010
    refine Run.no rfl rfl rfl rfl (hb10) rfl (by decide) ?_
    refine Run.no rfl rfl rfl rfl (hb10) rfl (by decide) ?_
    refine Run.no rfl rfl rfl rfl (hb10) rfl (by decide) ?_
    refine Run.y (y_pickB rfl rfl (hb10) rfl) rfl rfl (by decide) ?_
    exact K10 _ _ _ (Imm.le.refl _) (by rw [hb10]; simp) (Sub.push (Sub.push (Sub.push Sub.refl rfl) rfl) rfl)
  ·
    have hc1010 := hb10; try simp only [Bool.and_eq_true, Bool.or_eq_true, Bool.and_eq_false_iff, Bool.or_eq_false_iff, decide_eq_true_eq, decide_eq_false_iff_not, Bool.not_eq_true', Bool.not_eq_false', Bool.not_eq_true, Bool.not_eq_false, Int.not_lt, Int.not_le, ge_iff_le, gt_iff_lt, ne_eq, Decidable.not_not] at hc1010
    refine Run.yes (v := .slice Aparts parts.length cparts) (y_load1 rfl Tryd.isAgg76 rfl (RCells.at_ hfzJ2 0 rfl rfl)) rfl rfl rfl rfl (hb10) rfl (by decide) ?_
    refine Run.yes (v := .func (.func 52) #[] #[.pointer (some ⟨g1, 0, none⟩)]) (y_makeFunc (vp := []) (vq := [.pointer (some ⟨g1, 0, none⟩)]) rfl rfl rfl) rfl rfl rfl rfl (hb10) rfl (by decide) ?_
    have hcp3 : (tSl tPart).rd J2 [.slice Aparts parts.length cparts] parts := ⟨_, _, rfl, (hparts.mono hleJ2)⟩
    refine Run.callVYes (en_func rfl Tryd.call51 rfl) (conv_bool (c_ContainsFunc_apiPart _ parts (hparts.mono hleJ2) 52 [.pointer (some ⟨g1, 0, none⟩)] (fun x => (!AHead.eqb (hKey x.head) (hKey (phead parts)))) Tryd.call52 (fun J cs x hle hx hm => c_catalog_Whole_1 J x hx _ parts ((tSl tPart).mono hle hcp3) (RCells.mono hle hfzJ2) (by omega)))) rfl rfl rfl rfl (hb10) rfl (by decide) (fun hI4 => ?_)
    refine Run.y (y_pickB rfl rfl (hb10) rfl) rfl rfl (by decide) ?_
    exact K10 _ _ _ (Imm.le.refl _) (by rw [hb10]; simp) (Sub.push (Sub.push (Sub.push Sub.refl rfl) rfl) rfl)
  refine Run.nil ?_
  refine RunQ.next ?_
  refine RunC.cond rfl (fun hc0 => ?_) (fun hc0 => ?_)
  ·
    try simp only [Bool.and_eq_true, Bool.or_eq_true, Bool.and_eq_false_iff, Bool.or_eq_false_iff, decide_eq_true_eq, decide_eq_false_iff_not, Bool.not_eq_true', Bool.not_eq_false', Bool.not_eq_true, Bool.not_eq_false, Int.not_lt, Int.not_le, ge_iff_le, gt_iff_lt, ne_eq, Decidable.not_not] at hc0
    refine RunC.seq ?_
    refine RunC.region ?_
    refine Run.y (v := .agg [.string (ByteArray.mk #[]), .int .i64 0, .int .i64 0, .int .i64 0, .int .i64 0, .bool false, .slice none 0 0].toArray) (y_build (vs := []) rfl rfl (fun w => by simp [Instr.build, Tryd.zeroValue80, Tryd.runUnderlying80, Tryd.sizeOf3, Tryd.sizeOf4, Tryd.sizeOf9, Tryd.sizeOf76, Instr.fill, Value.cells])) rfl rfl (by decide) ?_
    refine Run.storeB (vs := [.string (ByteArray.mk #[]), .int .i64 0, .int .i64 0, .int .i64 0, .int .i64 0, .bool false, .slice none 0 0]) (cs' := [.string (ByteArray.mk #[]), .int .i64 0, .int .i64 0, .int .i64 0, .int .i64 0, .bool false, .slice none 0 0]) (own' := []) 0 rfl rfl rfl Tryd.sizeOf80 rfl rfl rfl rfl rfl (Nat.le_of_ble_eq_true rfl) rfl rfl rfl ?_
    refine Run.y (v := .bool false) (y_assign rfl rfl) rfl rfl (by decide) ?_
    refine Run.nil ?_
    refine RunQ.next ?_
    refine RunC.ret ?_
    refine RunQ.pass (fun h => by cases h) ?_
    refine RunQ.end2 (.inl rfl) Tryd.results27 (rv_cellA (i := 0) rfl Tryd.isAgg80 Tryd.sizeOf80 rfl rfl) (rv_tmp rfl) ?_
    exact ⟨rfl, _, _, rfl, (rd_eq (T := tFile) (x := (⟨(ByteArray.mk #[]), 0, 0, 0, 0, false, ([] : List APart)⟩ : AFile)) ⟨_, _, rfl, (by first | (simp [maxLen]; done) | (simp [bstr, maxLen, ByteArray.size]; done)), (by first | omega | (dsimp only; omega)), (by first | omega | (dsimp only; omega)), (by first | omega | (dsimp only; omega)), (by first | omega | (dsimp only; omega)), sl_nil0⟩ (by first | (rw [wWhole_no1 hc0] <;> rfl) | (rw [wWhole_no2 hc1] <;> rfl) | (rw [wWhole_yes hc0 hc1, hph] <;> rfl))), (rd_eq (T := tBool) (x := false) rfl (by first | (rw [wWhole_no1 hc0] <;> rfl) | (rw [wWhole_no2 hc1] <;> rfl) | (rw [wWhole_yes hc0 hc1, hph] <;> rfl)))⟩
  ·
    try simp only [Bool.and_eq_true, Bool.or_eq_true, Bool.and_eq_false_iff, Bool.or_eq_false_iff, decide_eq_true_eq, decide_eq_false_iff_not, Bool.not_eq_true', Bool.not_eq_false', Bool.not_eq_true, Bool.not_eq_false, Int.not_lt, Int.not_le, ge_iff_le, gt_iff_lt, ne_eq, Decidable.not_not] at hc0
    refine RunC.skip ?_
    refine RunQ.next ?_
    refine RunC.seq ?_
    refine RunC.region ?_
    refine Run.y (v := .slice Aparts parts.length cparts) (y_load1 rfl Tryd.isAgg76 rfl (RCells.at_ hfzJ2 0 rfl rfl)) rfl rfl (by decide) ?_
    refine Run.call0 (en_func rfl Tryd.call53 rfl) (c_catalog_chain _ parts (hparts.mono hleJ2) (by omega) (by omega)) rfl rfl (by decide) (fun J5 o5 v5 hleJ5 hq5 => ?_)
    obtain ⟨rfl, cs5a, cs5b, rfl, h5a, h5b⟩ := hq5
    replace h5a : (tSl tPart).rd J5 cs5a ((wChain parts).1) := h5a
    obtain ⟨A5a_0, c5a_0, rfl, f5a_0⟩ := h5a
    replace h5b : tBool.rd J5 cs5b ((wChain parts).2) := h5b
    obtain rfl := h5b
    refine Run.y (v := .tuple #[.slice A5a_0 (((wChain parts).1).length) c5a_0, .bool ((wChain parts).2)]) (y_move rfl rfl) rfl rfl (by decide) ?_
    refine Run.y (v := .slice A5a_0 (((wChain parts).1).length) c5a_0) (y_extract rfl rfl rfl) rfl rfl (by decide) ?_
    refine Run.y (v := .bool ((wChain parts).2)) (y_extract rfl rfl rfl) rfl rfl (by decide) ?_
    refine Run.y (v := .slice A5a_0 (((wChain parts).1).length) c5a_0) (y_assign rfl rfl) rfl rfl (by decide) ?_
    refine Run.y (v := .bool ((wChain parts).2)) (y_assign rfl rfl) rfl rfl (by decide) ?_
    refine Run.nil ?_
    refine RunQ.next ?_
    refine RunC.seq ?_
    refine RunC.seq ?_
    refine RunC.region ?_
    refine Run.y (v := .bool ((wChain parts).2)) (y_move rfl rfl) rfl rfl (by decide) ?_
    refine Run.y (v := .bool (!((wChain parts).2))) (y_not (b := ((wChain parts).2)) rfl rfl) rfl rfl (by decide) ?_
    refine Run.nil ?_
    refine RunQ.next ?_
    refine RunC.cond rfl (fun hc1 => ?_) (fun hc1 => ?_)
    ·
      try simp only [Bool.and_eq_true, Bool.or_eq_true, Bool.and_eq_false_iff, Bool.or_eq_false_iff, decide_eq_true_eq, decide_eq_false_iff_not, Bool.not_eq_true', Bool.not_eq_false', Bool.not_eq_true, Bool.not_eq_false, Int.not_lt, Int.not_le, ge_iff_le, gt_iff_lt, ne_eq, Decidable.not_not] at hc1
      refine RunC.seq ?_
      refine RunC.region ?_
      refine Run.y (v := .agg [.string (ByteArray.mk #[]), .int .i64 0, .int .i64 0, .int .i64 0, .int .i64 0, .bool false, .slice none 0 0].toArray) (y_build (vs := []) rfl rfl (fun w => by simp [Instr.build, Tryd.zeroValue80, Tryd.runUnderlying80, Tryd.sizeOf3, Tryd.sizeOf4, Tryd.sizeOf9, Tryd.sizeOf76, Instr.fill, Value.cells])) rfl rfl (by decide) ?_
      refine Run.storeB (vs := [.string (ByteArray.mk #[]), .int .i64 0, .int .i64 0, .int .i64 0, .int .i64 0, .bool false, .slice none 0 0]) (cs' := [.string (ByteArray.mk #[]), .int .i64 0, .int .i64 0, .int .i64 0, .int .i64 0, .bool false, .slice none 0 0]) (own' := []) 0 rfl rfl rfl Tryd.sizeOf80 rfl rfl rfl rfl rfl (Nat.le_of_ble_eq_true rfl) rfl rfl rfl ?_
      refine Run.y (v := .bool false) (y_assign rfl rfl) rfl rfl (by decide) ?_
      refine Run.nil ?_
      refine RunQ.next ?_
      refine RunC.ret ?_
      refine RunQ.pass (fun h => by cases h) ?_
      refine RunQ.end2 (.inl rfl) Tryd.results27 (rv_cellA (i := 0) rfl Tryd.isAgg80 Tryd.sizeOf80 rfl rfl) (rv_tmp rfl) ?_
      exact ⟨rfl, _, _, rfl, (rd_eq (T := tFile) (x := (⟨(ByteArray.mk #[]), 0, 0, 0, 0, false, ([] : List APart)⟩ : AFile)) ⟨_, _, rfl, (by first | (simp [maxLen]; done) | (simp [bstr, maxLen, ByteArray.size]; done)), (by first | omega | (dsimp only; omega)), (by first | omega | (dsimp only; omega)), (by first | omega | (dsimp only; omega)), (by first | omega | (dsimp only; omega)), sl_nil0⟩ (by first | (rw [wWhole_no1 hc0] <;> rfl) | (rw [wWhole_no2 hc1] <;> rfl) | (rw [wWhole_yes hc0 hc1, hph] <;> rfl))), (rd_eq (T := tBool) (x := false) rfl (by first | (rw [wWhole_no1 hc0] <;> rfl) | (rw [wWhole_no2 hc1] <;> rfl) | (rw [wWhole_yes hc0 hc1, hph] <;> rfl)))⟩
    ·
      try simp only [Bool.and_eq_true, Bool.or_eq_true, Bool.and_eq_false_iff, Bool.or_eq_false_iff, decide_eq_true_eq, decide_eq_false_iff_not, Bool.not_eq_true', Bool.not_eq_false', Bool.not_eq_true, Bool.not_eq_false, Int.not_lt, Int.not_le, ge_iff_le, gt_iff_lt, ne_eq, Decidable.not_not] at hc1
      refine RunC.skip ?_
      refine RunQ.next ?_
      refine RunC.seq ?_
      refine RunC.region ?_
      refine Run.y (v := .slice Aparts parts.length cparts) (y_load1 rfl Tryd.isAgg76 rfl (RCells.at_ (hfzJ2.mono hleJ5) 0 rfl rfl)) rfl rfl (by decide) ?_
      obtain ⟨x25, p25_6, cs25_6, hx25, hp25_6, hcs25_6, hrc25_6⟩ := Sl.at_ (P := Tryd.prog) (T := tPart) Tryd.runUnderlying76 Tryd.sizeOf78 (hparts.mono (hleJ2.trans hleJ5)) (k := .i64) (i := 0) (by omega) (by omega)
      replace hx25 : parts[0]? = some x25 := hx25
      obtain ⟨rfl, f25_6_0, f25_6_1, f25_6_2, f25_6_3, f25_6_4, f25_6_5, f25_6_6, f25_6_8, f25_6_9⟩ := hcs25_6
      have hph := phead_of hx25
      refine Run.y (v := .pointer (some p25_6)) (y_index rfl rfl rfl hp25_6) rfl rfl (by decide) ?_
      refine Run.y (v := .pointer (some p25_6)) (y_fieldAddr rfl rfl Tryd.runUnderlying78 rfl Tryd.sizeOf71 (by decide) (add_zero' _)) rfl rfl (by decide) ?_
      refine Run.y (v := .agg [.string x25.head.path, .int .i64 x25.head.version, .int .i64 x25.head.size, .int .i64 x25.head.frm, .int .i64 x25.head.len, .int .i64 x25.head.serial, .int .i64 x25.head.sum, .bool x25.head.gone].toArray) (y_loadA (cs := [.string x25.head.path, .int .i64 x25.head.version, .int .i64 x25.head.size, .int .i64 x25.head.frm, .int .i64 x25.head.len, .int .i64 x25.head.serial, .int .i64 x25.head.sum, .bool x25.head.gone]) rfl Tryd.isAgg71 Tryd.sizeOf71 rfl (show RCells _ _ [.string x25.head.path, .int .i64 x25.head.version, .int .i64 x25.head.size, .int .i64 x25.head.frm, .int .i64 x25.head.len, .int .i64 x25.head.serial, .int .i64 x25.head.sum, .bool x25.head.gone] from RCells.sub hrc25_6 0 8) rfl) rfl rfl (by decide) ?_
      refine Run.alloc (cs := [.string (ByteArray.mk #[]), .int .i64 0, .int .i64 0, .int .i64 0, .int .i64 0, .int .i64 0, .int .i64 0, .bool false]) rfl Tryd.zeroValue71 rfl rfl rfl (by decide) (fun g6_7 => ?_)
      refine Run.storeB (vs := [.string x25.head.path, .int .i64 x25.head.version, .int .i64 x25.head.size, .int .i64 x25.head.frm, .int .i64 x25.head.len, .int .i64 x25.head.serial, .int .i64 x25.head.sum, .bool x25.head.gone]) (cs' := [.string x25.head.path, .int .i64 x25.head.version, .int .i64 x25.head.size, .int .i64 x25.head.frm, .int .i64 x25.head.len, .int .i64 x25.head.serial, .int .i64 x25.head.sum, .bool x25.head.gone]) (own' := [blk g2_1 [.string (ByteArray.mk #[]), .int .i64 0, .int .i64 0, .int .i64 0, .int .i64 0, .bool false, .slice none 0 0] 80]) 0 rfl rfl rfl Tryd.sizeOf71 rfl rfl rfl rfl rfl (Nat.le_of_ble_eq_true rfl) rfl rfl rfl ?_
      refine Run.nil ?_
      refine RunQ.next ?_
      refine RunC.seq ?_
      refine RunC.region ?_
      refine Run.y (v := .pointer (some ⟨g6_7, 0, none⟩)) (y_fieldAddr rfl rfl Tryd.runUnderlying71 rfl Tryd.sizeOf9 (by decide) rfl) rfl rfl (by decide) ?_
      refine Run.y (v := .string x25.head.path) (y_loadB1 0 rfl Tryd.isAgg9 rfl rfl rfl) rfl rfl (by decide) ?_
      refine Run.y (v := .pointer (some ⟨g6_7, 1, none⟩)) (y_fieldAddr rfl rfl Tryd.runUnderlying71 rfl Tryd.sizeOf3 (by decide) rfl) rfl rfl (by decide) ?_
      refine Run.y (v := .int .i64 x25.head.version) (y_loadB1 0 rfl Tryd.isAgg3 rfl rfl rfl) rfl rfl (by decide) ?_
      refine Run.y (v := .pointer (some ⟨g6_7, 2, none⟩)) (y_fieldAddr rfl rfl Tryd.runUnderlying71 rfl Tryd.sizeOf3 (by decide) rfl) rfl rfl (by decide) ?_
      refine Run.y (v := .int .i64 x25.head.size) (y_loadB1 0 rfl Tryd.isAgg3 rfl rfl rfl) rfl rfl (by decide) ?_
      refine Run.y (v := .pointer (some ⟨g6_7, 6, none⟩)) (y_fieldAddr rfl rfl Tryd.runUnderlying71 rfl Tryd.sizeOf3 (by decide) rfl) rfl rfl (by decide) ?_
      refine Run.y (v := .int .i64 x25.head.sum) (y_loadB1 0 rfl Tryd.isAgg3 rfl rfl rfl) rfl rfl (by decide) ?_
      refine Run.y (v := .pointer (some ⟨g6_7, 5, none⟩)) (y_fieldAddr rfl rfl Tryd.runUnderlying71 rfl Tryd.sizeOf3 (by decide) rfl) rfl rfl (by decide) ?_
      refine Run.y (v := .int .i64 x25.head.serial) (y_loadB1 0 rfl Tryd.isAgg3 rfl rfl rfl) rfl rfl (by decide) ?_
      refine Run.y (v := .pointer (some ⟨g6_7, 7, none⟩)) (y_fieldAddr rfl rfl Tryd.runUnderlying71 rfl Tryd.sizeOf4 (by decide) rfl) rfl rfl (by decide) ?_
      refine Run.y (v := .bool x25.head.gone) (y_loadB1 0 rfl Tryd.isAgg4 rfl rfl rfl) rfl rfl (by decide) ?_
      refine Run.y (v := .slice A5a_0 (((wChain parts).1).length) c5a_0) (y_move rfl rfl) rfl rfl (by decide) ?_
      refine Run.y (v := .agg [.string x25.head.path, .int .i64 x25.head.version, .int .i64 x25.head.size, .int .i64 x25.head.sum, .int .i64 x25.head.serial, .bool x25.head.gone, .slice A5a_0 (((wChain parts).1).length) c5a_0].toArray) (y_build (vs := [(0, .string x25.head.path), (1, .int .i64 x25.head.version), (2, .int .i64 x25.head.size), (3, .int .i64 x25.head.sum), (4, .int .i64 x25.head.serial), (5, .bool x25.head.gone), (6, .slice A5a_0 (((wChain parts).1).length) c5a_0)]) rfl rfl (fun w => by simp [Instr.build, Tryd.zeroValue80, Tryd.runUnderlying80, Tryd.sizeOf3, Tryd.sizeOf4, Tryd.sizeOf9, Tryd.sizeOf76, Instr.fill, Value.cells])) rfl rfl (by decide) ?_
      refine Run.storeB (vs := [.string x25.head.path, .int .i64 x25.head.version, .int .i64 x25.head.size, .int .i64 x25.head.sum, .int .i64 x25.head.serial, .bool x25.head.gone, .slice A5a_0 (((wChain parts).1).length) c5a_0]) (cs' := [.string x25.head.path, .int .i64 x25.head.version, .int .i64 x25.head.size, .int .i64 x25.head.sum, .int .i64 x25.head.serial, .bool x25.head.gone, .slice A5a_0 (((wChain parts).1).length) c5a_0]) (own' := [blk g6_7 [.string x25.head.path, .int .i64 x25.head.version, .int .i64 x25.head.size, .int .i64 x25.head.frm, .int .i64 x25.head.len, .int .i64 x25.head.serial, .int .i64 x25.head.sum, .bool x25.head.gone] 71]) 1 rfl rfl rfl Tryd.sizeOf80 rfl rfl rfl rfl rfl (Nat.le_of_ble_eq_true rfl) rfl rfl rfl ?_
      refine Run.y (v := .bool true) (y_assign rfl rfl) rfl rfl (by decide) ?_
      refine Run.nil ?_
      refine RunQ.next ?_
      refine RunC.weak (L' := [(2, .pointer (some ⟨g2_1, 0, none⟩)), (3, .bool true)]) (.cons rfl (.cons rfl .nil)) (perm_self _) ?_
      refine RunC.ret ?_
      refine RunQ.end2 (.inl rfl) Tryd.results27 (rv_cellA (i := 0) rfl Tryd.isAgg80 Tryd.sizeOf80 rfl rfl) (rv_tmp rfl) ?_
      exact ⟨rfl, _, _, rfl, (rd_eq (T := tFile) (x := (⟨x25.head.path, x25.head.version, x25.head.size, x25.head.sum, x25.head.serial, x25.head.gone, (wChain parts).1⟩ : AFile)) ⟨_, _, rfl, f25_6_0, f25_6_1, f25_6_2, f25_6_6, f25_6_5, f5a_0⟩ (by first | (rw [wWhole_no1 hc0] <;> rfl) | (rw [wWhole_no2 hc1] <;> rfl) | (rw [wWhole_yes hc0 hc1, hph] <;> rfl))), (rd_eq (T := tBool) (x := true) rfl (by first | (rw [wWhole_no1 hc0] <;> rfl) | (rw [wWhole_no2 hc1] <;> rfl) | (rw [wWhole_yes hc0 hc1, hph] <;> rfl)))⟩

theorem c_catalog_From (I : Imm) {Al : Option Addr} {cl : Nat} (l : List ATape) (hl : Sl tTape I Al cl l) (hnil : l = []) : Con Tryd.prog 25 [.slice Al l.length cl].toArray I [] (Ret1 ((tSl tFile).o) ([] : List AFile)) := by
  have hsml := hl.small
  refine Con.enter (n := 91) (L := [(0, .slice Al l.length cl)]) Tryd.func25 rfl rfl (Nat.le_of_ble_eq_true rfl) rfl (fun E => ?_)
  refine RunC.seq ?_
  refine RunC.region ?_
  refine Run.y (v := .slice none 0 0) (y_assign rfl rfl) rfl rfl (by decide) ?_
  refine Run.nil ?_
  refine RunQ.next ?_
  refine RunC.seq ?_
  refine RunC.region ?_
  refine Run.makeMap rfl rfl rfl (by decide) (fun g17_1 => ?_)
  refine Run.y (v := .map (some g17_1)) (y_assign rfl rfl) rfl rfl (by decide) ?_
  refine Run.nil ?_
  refine RunQ.next ?_
  refine RunC.seq ?_
  refine RunC.region ?_
  refine Run.y (v := .slice none 0 0) (y_assign rfl rfl) rfl rfl (by decide) ?_
  refine Run.nil ?_
  refine RunQ.next ?_
  refine RunC.seq ?_
  refine RunC.seq ?_
  refine RunC.region ?_
  refine Run.y (v := .slice Al l.length cl) (y_move rfl rfl) rfl rfl (by decide) ?_
  refine Run.y (v := .int .i64 (l.length : Int)) (y_len rfl Tryd.runUnderlying36 rfl) rfl rfl (by decide) ?_
  refine Run.y (v := .int .i64 0) (y_move rfl rfl) rfl rfl (by decide) ?_
  refine Run.nil ?_
  refine RunQ.next ?_
  refine RunC.block ?_
  obtain ⟨Inv0, hInv0⟩ : ∃ Inv : Nat → Act → World → Prop, ∀ mm aa ww, Inv mm aa ww ↔ ((mm = (0)) ∧ Frm aa 91 [(2, .slice none 0 0), (3, .map (some g17_1)), (18, .slice Al l.length cl), (19, .int .i64 (l.length : Int)), (20, .int .i64 0), (4, .slice none 0 0)] ∧ S E ww I [mapR g17_1 #[] 0]) := ⟨_, fun _ _ _ => Iff.rfl⟩
  refine RunC.loopX Inv0 (fun aa ww hF hS => ⟨_, (hInv0 _ _ _).2 ⟨rfl, hF.sub (.cons rfl (.cons rfl (.cons rfl (.cons rfl (.cons rfl (.cons rfl .nil)))))), hS.sub (perm_self _)⟩⟩) ?_
  intro mm0 aa ww hv
  obtain ⟨hmm_, hF, hS⟩ := (hInv0 _ _ _).1 hv
  clear hv
  refine RunC.go ?_ hF hS
  clear hF hS aa ww
  refine RunC.seq ?_
  refine RunC.region ?_
  refine Run.y (v := .bool (decide (0 < (l.length : Int)))) (y_bin rfl rfl rfl bn_lss) rfl rfl (by decide) ?_
  refine Run.nil ?_
  refine RunQ.next ?_
  refine RunC.seq ?_
  refine RunC.cond rfl (fun hc0 => ?_) (fun hc0 => ?_)
  ·
    try simp only [Bool.and_eq_true, Bool.or_eq_true, Bool.and_eq_false_iff, Bool.or_eq_false_iff, decide_eq_true_eq, decide_eq_false_iff_not, Bool.not_eq_true', Bool.not_eq_false', Bool.not_eq_true, Bool.not_eq_false, Int.not_lt, Int.not_le, ge_iff_le, gt_iff_lt, ne_eq, Decidable.not_not] at hc0
    exfalso
    subst hnil; simp at hc0
  ·
    skip
    try simp only [Bool.and_eq_true, Bool.or_eq_true, Bool.and_eq_false_iff, Bool.or_eq_false_iff, decide_eq_true_eq, decide_eq_false_iff_not, Bool.not_eq_true', Bool.not_eq_false', Bool.not_eq_true, Bool.not_eq_false, Int.not_lt, Int.not_le, ge_iff_le, gt_iff_lt, ne_eq, Decidable.not_not] at hc0
    refine RunC.exit ?_
    refine RunQ.pass (fun h => by cases h) ?_
    refine RunQ.pass (fun h => by cases h) ?_
    refine RunQ.out ?_
    refine RunQ.next ?_
    refine RunC.seq ?_
    refine RunC.region ?_
    refine Run.y (v := .slice none 0 0) (y_assign rfl rfl) rfl rfl (by decide) ?_
    refine Run.nil ?_
    refine RunQ.next ?_
    refine RunC.seq ?_
    refine RunC.seq ?_
    refine RunC.region ?_
    refine Run.y (v := .slice none 0 0) (y_move rfl rfl) rfl rfl (by decide) ?_
    refine Run.y (v := .int .i64 (0 : Int)) (y_len rfl Tryd.runUnderlying112 rfl) rfl rfl (by decide) ?_
    refine Run.y (v := .int .i64 0) (y_move rfl rfl) rfl rfl (by decide) ?_
    refine Run.nil ?_
    refine RunQ.next ?_
    refine RunC.block ?_
    obtain ⟨Inv2, hInv2⟩ : ∃ Inv : Nat → Act → World → Prop, ∀ mm aa ww, Inv mm aa ww ↔ ((mm = (0)) ∧ Frm aa 91 [(2, .slice none 0 0), (3, .map (some g17_1)), (53, .slice none 0 0), (54, .int .i64 (0 : Int)), (55, .int .i64 0), (10, .slice none 0 0)] ∧ S E ww I [mapR g17_1 #[] 0]) := ⟨_, fun _ _ _ => Iff.rfl⟩
    refine RunC.loopX Inv2 (fun aa ww hF hS => ⟨_, (hInv2 _ _ _).2 ⟨rfl, hF.sub (.cons rfl (.cons rfl (.cons rfl (.cons rfl (.cons rfl (.cons rfl .nil)))))), hS.sub (perm_self _)⟩⟩) ?_
    intro mm2 aa ww hv
    obtain ⟨hmm_, hF, hS⟩ := (hInv2 _ _ _).1 hv
    clear hv
    refine RunC.go ?_ hF hS
    clear hF hS aa ww
    refine RunC.seq ?_
    refine RunC.region ?_
    refine Run.y (v := .bool (decide (0 < (0 : Int)))) (y_bin rfl rfl rfl bn_lss) rfl rfl (by decide) ?_
    refine Run.nil ?_
    refine RunQ.next ?_
    refine RunC.seq ?_
    refine RunC.cond rfl (fun hc3 => ?_) (fun hc3 => ?_)
    ·
      try simp only [Bool.and_eq_true, Bool.or_eq_true, Bool.and_eq_false_iff, Bool.or_eq_false_iff, decide_eq_true_eq, decide_eq_false_iff_not, Bool.not_eq_true', Bool.not_eq_false', Bool.not_eq_true, Bool.not_eq_false, Int.not_lt, Int.not_le, ge_iff_le, gt_iff_lt, ne_eq, Decidable.not_not] at hc3
      exfalso
      simp at hc3
    ·
      skip
      try simp only [Bool.and_eq_true, Bool.or_eq_true, Bool.and_eq_false_iff, Bool.or_eq_false_iff, decide_eq_true_eq, decide_eq_false_iff_not, Bool.not_eq_true', Bool.not_eq_false', Bool.not_eq_true, Bool.not_eq_false, Int.not_lt, Int.not_le, ge_iff_le, gt_iff_lt, ne_eq, Decidable.not_not] at hc3
      refine RunC.exit ?_
      refine RunQ.pass (fun h => by cases h) ?_
      refine RunQ.pass (fun h => by cases h) ?_
      refine RunQ.out ?_
      refine RunQ.next ?_
      refine RunC.seq ?_
      refine RunC.region ?_
      refine Run.y (v := .slice none 0 0) (y_move rfl rfl) rfl rfl (by decide) ?_
      refine Run.y (v := .slice none 0 0) (y_assign rfl rfl) rfl rfl (by decide) ?_
      refine Run.nil ?_
      refine RunQ.next ?_
      refine RunC.ret ?_
      refine RunQ.weak Sub.refl (perm_nil _) ?_
      refine RunQ.fin1 (.inl rfl) Tryd.results25 (rv_tmp rfl) ?_
      exact ⟨rfl, _, rfl, (rd_eq (T := (tSl tFile)) (x := ([] : List AFile)) ⟨_, _, rfl, sl_nil0⟩ (by first | rfl | (simp; done)))⟩

theorem c_cartridgelaw17_alive (I : Imm) : Con Tryd.prog 23 [].toArray I [] (Ret1 (tBool.o) true) := by
  refine Con.enter (n := 27) (L := []) Tryd.func23 rfl rfl (Nat.le_of_ble_eq_true rfl) rfl (fun E => ?_)
  refine RunC.seq ?_
  refine RunC.region ?_
  refine Run.y (v := .bool false) (y_assign rfl rfl) rfl rfl (by decide) ?_
  refine Run.nil ?_
  refine RunQ.next ?_
  refine RunC.seq ?_
  refine RunC.region ?_
  refine Run.y (v := .agg [.string (bstr [97]), .int .i64 1, .int .i64 0, .int .i64 0, .int .i64 0, .int .i64 1, .int .i64 0, .bool false].toArray) (y_build (vs := [(0, .string (bstr [97])), (1, .int .i64 1), (5, .int .i64 1)]) rfl rfl (fun w => by simp [Instr.build, Tryd.zeroValue71, Tryd.runUnderlying71, Tryd.sizeOf3, Tryd.sizeOf4, Tryd.sizeOf9, Instr.fill, Value.cells])) rfl rfl (by decide) ?_
  refine Run.y (v := .agg [.string (bstr [97]), .int .i64 1, .int .i64 0, .int .i64 0, .int .i64 0, .int .i64 1, .int .i64 0, .bool false, .int .i64 1, .int .i64 1].toArray) (y_build (vs := [(0, .agg [.string (bstr [97]), .int .i64 1, .int .i64 0, .int .i64 0, .int .i64 0, .int .i64 1, .int .i64 0, .bool false].toArray), (1, .int .i64 1), (2, .int .i64 1)]) rfl rfl (fun w => by simp [Instr.build, Tryd.zeroValue78, Tryd.runUnderlying78, Tryd.sizeOf3, Tryd.sizeOf71, Instr.fill, Value.cells])) rfl rfl (by decide) ?_
  refine Run.lit (vs := [(0, .agg [.string (bstr [97]), .int .i64 1, .int .i64 0, .int .i64 0, .int .i64 0, .int .i64 1, .int .i64 0, .bool false, .int .i64 1, .int .i64 1].toArray)]) (cs := [.string (bstr [97]), .int .i64 1, .int .i64 0, .int .i64 0, .int .i64 0, .int .i64 1, .int .i64 0, .bool false, .int .i64 1, .int .i64 1]) (el := 78) (sz := 10) rfl rfl (fun w => by simp [Instr.buildSlice, Tryd.runUnderlying76, Tryd.sizeOf78, Tryd.zeroValue78, Instr.fill, Value.cells, newRow, (show Array.range 10 = #[0, 1, 2, 3, 4, 5, 6, 7, 8, 9] from rfl)]) rfl (by simp [maxLen]) rfl rfl (by decide) (fun g6 => ?_)
  have hlit1 : tPart.all I [.string (bstr [97]), .int .i64 1, .int .i64 0, .int .i64 0, .int .i64 0, .int .i64 1, .int .i64 0, .bool false, .int .i64 1, .int .i64 1] [(⟨(⟨(bstr [97]), 1, 0, 0, 0, 1, 0, false⟩ : AHead), 1, 1⟩ : APart)] := (all_snoc (T := tPart) all_nil ⟨rfl, (by first | (simp [maxLen]; done) | (simp [bstr, maxLen, ByteArray.size]; done)), (by first | omega | (dsimp only; omega)), (by first | omega | (dsimp only; omega)), (by first | omega | (dsimp only; omega)), (by first | omega | (dsimp only; omega)), (by first | omega | (dsimp only; omega)), (by first | omega | (dsimp only; omega)), (by first | omega | (dsimp only; omega)), (by first | omega | (dsimp only; omega))⟩)
  refine Run.freezeR 0 rfl (own' := []) rfl (fun J2 hleJ2 hfzJ2 => ?_)
  have hslJ2 : Sl tPart J2 (some ⟨g6, 0, none⟩) 1 ([(⟨(⟨(bstr [97]), 1, 0, 0, 0, 1, 0, false⟩ : AHead), 1, 1⟩ : APart)]) := Sl.of_rowN hfzJ2 (by simp) rfl (hlit1.mono hleJ2)
  refine Run.cast (s := 6) (v' := .slice (some ⟨g6, 0, none⟩) ([(⟨(⟨(bstr [97]), 1, 0, 0, 0, 1, 0, false⟩ : AHead), 1, 1⟩ : APart)]).length 1) rfl (congrArg (fun n => Value.slice (some ⟨g6, 0, none⟩) n 1) (show 1 = _ from (show ([(⟨(⟨(bstr [97]), 1, 0, 0, 0, 1, 0, false⟩ : AHead), 1, 1⟩ : APart)]).length = 1 from (by simp)).symm)) ?_
  refine Run.call0 (en_func rfl Tryd.call27 rfl) (c_catalog_Whole _ ([(⟨(⟨(bstr [97]), 1, 0, 0, 0, 1, 0, false⟩ : AHead), 1, 1⟩ : APart)]) hslJ2 (by simp [phead])) rfl rfl (by decide) (fun J3 o3 v3 hleJ3 hq3 => ?_)
  obtain ⟨rfl, cs3a, cs3b, rfl, h3a, h3b⟩ := hq3
  replace h3a : tFile.rd J3 cs3a ((wWhole ([(⟨(⟨(bstr [97]), 1, 0, 0, 0, 1, 0, false⟩ : AHead), 1, 1⟩ : APart)])).1) := h3a
  obtain ⟨A3a_6, c3a_6, rfl, f3a_0, f3a_1, f3a_2, f3a_3, f3a_4, f3a_6⟩ := h3a
  replace h3b : tBool.rd J3 cs3b ((wWhole ([(⟨(⟨(bstr [97]), 1, 0, 0, 0, 1, 0, false⟩ : AHead), 1, 1⟩ : APart)])).2) := h3b
  obtain rfl := h3b
  refine Run.y (v := .tuple #[.agg [.string (((wWhole ([(⟨(⟨(bstr [97]), 1, 0, 0, 0, 1, 0, false⟩ : AHead), 1, 1⟩ : APart)])).1).path), .int .i64 (((wWhole ([(⟨(⟨(bstr [97]), 1, 0, 0, 0, 1, 0, false⟩ : AHead), 1, 1⟩ : APart)])).1).version), .int .i64 (((wWhole ([(⟨(⟨(bstr [97]), 1, 0, 0, 0, 1, 0, false⟩ : AHead), 1, 1⟩ : APart)])).1).size), .int .i64 (((wWhole ([(⟨(⟨(bstr [97]), 1, 0, 0, 0, 1, 0, false⟩ : AHead), 1, 1⟩ : APart)])).1).sum), .int .i64 (((wWhole ([(⟨(⟨(bstr [97]), 1, 0, 0, 0, 1, 0, false⟩ : AHead), 1, 1⟩ : APart)])).1).serial), .bool (((wWhole ([(⟨(⟨(bstr [97]), 1, 0, 0, 0, 1, 0, false⟩ : AHead), 1, 1⟩ : APart)])).1).gone), .slice A3a_6 ((((wWhole ([(⟨(⟨(bstr [97]), 1, 0, 0, 0, 1, 0, false⟩ : AHead), 1, 1⟩ : APart)])).1).parts).length) c3a_6].toArray, .bool ((wWhole ([(⟨(⟨(bstr [97]), 1, 0, 0, 0, 1, 0, false⟩ : AHead), 1, 1⟩ : APart)])).2)]) (y_move rfl rfl) rfl rfl (by decide) ?_
  refine Run.y (v := .agg [.string (((wWhole ([(⟨(⟨(bstr [97]), 1, 0, 0, 0, 1, 0, false⟩ : AHead), 1, 1⟩ : APart)])).1).path), .int .i64 (((wWhole ([(⟨(⟨(bstr [97]), 1, 0, 0, 0, 1, 0, false⟩ : AHead), 1, 1⟩ : APart)])).1).version), .int .i64 (((wWhole ([(⟨(⟨(bstr [97]), 1, 0, 0, 0, 1, 0, false⟩ : AHead), 1, 1⟩ : APart)])).1).size), .int .i64 (((wWhole ([(⟨(⟨(bstr [97]), 1, 0, 0, 0, 1, 0, false⟩ : AHead), 1, 1⟩ : APart)])).1).sum), .int .i64 (((wWhole ([(⟨(⟨(bstr [97]), 1, 0, 0, 0, 1, 0, false⟩ : AHead), 1, 1⟩ : APart)])).1).serial), .bool (((wWhole ([(⟨(⟨(bstr [97]), 1, 0, 0, 0, 1, 0, false⟩ : AHead), 1, 1⟩ : APart)])).1).gone), .slice A3a_6 ((((wWhole ([(⟨(⟨(bstr [97]), 1, 0, 0, 0, 1, 0, false⟩ : AHead), 1, 1⟩ : APart)])).1).parts).length) c3a_6].toArray) (y_extract rfl rfl rfl) rfl rfl (by decide) ?_
  refine Run.y (v := .bool ((wWhole ([(⟨(⟨(bstr [97]), 1, 0, 0, 0, 1, 0, false⟩ : AHead), 1, 1⟩ : APart)])).2)) (y_extract rfl rfl rfl) rfl rfl (by decide) ?_
  refine Run.alloc (cs := [.string (ByteArray.mk #[]), .int .i64 0, .int .i64 0, .int .i64 0, .int .i64 0, .bool false, .slice none 0 0]) rfl Tryd.zeroValue80 rfl rfl rfl (by decide) (fun g1_4 => ?_)
  refine Run.storeB (vs := [.string (((wWhole ([(⟨(⟨(bstr [97]), 1, 0, 0, 0, 1, 0, false⟩ : AHead), 1, 1⟩ : APart)])).1).path), .int .i64 (((wWhole ([(⟨(⟨(bstr [97]), 1, 0, 0, 0, 1, 0, false⟩ : AHead), 1, 1⟩ : APart)])).1).version), .int .i64 (((wWhole ([(⟨(⟨(bstr [97]), 1, 0, 0, 0, 1, 0, false⟩ : AHead), 1, 1⟩ : APart)])).1).size), .int .i64 (((wWhole ([(⟨(⟨(bstr [97]), 1, 0, 0, 0, 1, 0, false⟩ : AHead), 1, 1⟩ : APart)])).1).sum), .int .i64 (((wWhole ([(⟨(⟨(bstr [97]), 1, 0, 0, 0, 1, 0, false⟩ : AHead), 1, 1⟩ : APart)])).1).serial), .bool (((wWhole ([(⟨(⟨(bstr [97]), 1, 0, 0, 0, 1, 0, false⟩ : AHead), 1, 1⟩ : APart)])).1).gone), .slice A3a_6 ((((wWhole ([(⟨(⟨(bstr [97]), 1, 0, 0, 0, 1, 0, false⟩ : AHead), 1, 1⟩ : APart)])).1).parts).length) c3a_6]) (cs' := [.string (((wWhole ([(⟨(⟨(bstr [97]), 1, 0, 0, 0, 1, 0, false⟩ : AHead), 1, 1⟩ : APart)])).1).path), .int .i64 (((wWhole ([(⟨(⟨(bstr [97]), 1, 0, 0, 0, 1, 0, false⟩ : AHead), 1, 1⟩ : APart)])).1).version), .int .i64 (((wWhole ([(⟨(⟨(bstr [97]), 1, 0, 0, 0, 1, 0, false⟩ : AHead), 1, 1⟩ : APart)])).1).size), .int .i64 (((wWhole ([(⟨(⟨(bstr [97]), 1, 0, 0, 0, 1, 0, false⟩ : AHead), 1, 1⟩ : APart)])).1).sum), .int .i64 (((wWhole ([(⟨(⟨(bstr [97]), 1, 0, 0, 0, 1, 0, false⟩ : AHead), 1, 1⟩ : APart)])).1).serial), .bool (((wWhole ([(⟨(⟨(bstr [97]), 1, 0, 0, 0, 1, 0, false⟩ : AHead), 1, 1⟩ : APart)])).1).gone), .slice A3a_6 ((((wWhole ([(⟨(⟨(bstr [97]), 1, 0, 0, 0, 1, 0, false⟩ : AHead), 1, 1⟩ : APart)])).1).parts).length) c3a_6]) (own' := []) 0 rfl rfl rfl Tryd.sizeOf80 rfl rfl rfl rfl rfl (Nat.le_of_ble_eq_true rfl) rfl rfl rfl ?_
  refine Run.y (v := .bool ((wWhole ([(⟨(⟨(bstr [97]), 1, 0, 0, 0, 1, 0, false⟩ : AHead), 1, 1⟩ : APart)])).2)) (y_assign rfl rfl) rfl rfl (by decide) ?_
  refine Run.nil ?_
  refine RunQ.next ?_
  refine RunC.seq ?_
  refine RunC.region ?_
  refine Run.call0 (en_func rfl Tryd.call25 rfl) (c_catalog_From _ ([] : List ATape) sl_nil0 rfl) rfl rfl (by decide) (fun J5 o5 v5 hleJ5 hq5 => ?_)
  obtain ⟨rfl, cs5a, rfl, h5a⟩ := hq5
  replace h5a : (tSl tFile).rd J5 cs5a ([] : List AFile) := h5a
  obtain ⟨A5a_0, c5a_0, rfl, f5a_0⟩ := h5a
  refine Run.y (v := .int .i64 (([] : List AFile).length : Int)) (y_len rfl Tryd.runUnderlying72 rfl) rfl rfl (by decide) ?_
  refine Run.y (v := .bool (decide ((([] : List AFile).length : Int) = 0))) (y_bin rfl rfl rfl bn_eql) rfl rfl (by decide) ?_
  refine Run.y (v := .bool (decide ((([] : List AFile).length : Int) = 0))) (y_move rfl rfl) rfl rfl (by decide) ?_
  refine Run.split 2 rfl (b := decide ((([] : List AFile).length : Int) = 0)) (d := 15) (v := .bool ((decide ((([] : List AFile).length : Int) = 0)) && ((wWhole ([(⟨(⟨(bstr [97]), 1, 0, 0, 0, 1, 0, false⟩ : AHead), 1, 1⟩ : APart)])).2))) (fun hb13 K13 => ?_) (fun hb13 K13 => ?_) ?_
  ·
    have hc1013 := hb13; try simp only [Bool.and_eq_true, Bool.or_eq_true, Bool.and_eq_false_iff, Bool.or_eq_false_iff, decide_eq_true_eq, decide_eq_false_iff_not, Bool.not_eq_true', Bool.not_eq_false', Bool.not_eq_true, Bool.not_eq_false, Int.not_lt, Int.not_le, ge_iff_le, gt_iff_lt, ne_eq, Decidable.not_not] at hc1013
    refine Run.yes (v := .bool ((wWhole ([(⟨(⟨(bstr [97]), 1, 0, 0, 0, 1, 0, false⟩ : AHead), 1, 1⟩ : APart)])).2)) (y_move rfl rfl) rfl rfl rfl rfl (hb13) rfl (by decide) ?_
    refine Run.y (y_pickB rfl rfl (hb13) rfl) rfl rfl (by decide) ?_
    exact K13 _ _ _ (Imm.le.refl _) (by rw [hb13]; simp) (Sub.push Sub.refl rfl)
  ·
    have hc1013 := hb13; try simp only [Bool.and_eq_true, Bool.or_eq_true, Bool.and_eq_false_iff, Bool.or_eq_false_iff, decide_eq_true_eq, decide_eq_false_iff_not, Bool.not_eq_true', Bool.not_eq_false', Bool.not_eq_true, Bool.not_eq_false, Int.not_lt, Int.not_le, ge_iff_le, gt_iff_lt, ne_eq, Decidable.not_not] at hc1013
    refine Run.no rfl rfl rfl rfl (hb13) rfl (by decide) ?_
    refine Run.y (y_pickB rfl rfl (hb13) rfl) rfl rfl (by decide) ?_
    exact K13 _ _ _ (Imm.le.refl _) (by rw [hb13]; simp) (Sub.push Sub.refl rfl)
  refine Run.y (v := .bool ((decide ((([] : List AFile).length : Int) = 0)) && ((wWhole ([(⟨(⟨(bstr [97]), 1, 0, 0, 0, 1, 0, false⟩ : AHead), 1, 1⟩ : APart)])).2))) (y_move rfl rfl) rfl rfl (by decide) ?_
  refine Run.split 4 rfl (b := ((decide ((([] : List AFile).length : Int) = 0)) && ((wWhole ([(⟨(⟨(bstr [97]), 1, 0, 0, 0, 1, 0, false⟩ : AHead), 1, 1⟩ : APart)])).2))) (d := 20) (v := .bool (((decide ((([] : List AFile).length : Int) = 0)) && ((wWhole ([(⟨(⟨(bstr [97]), 1, 0, 0, 0, 1, 0, false⟩ : AHead), 1, 1⟩ : APart)])).2)) && (decide (((wWhole ([(⟨(⟨(bstr [97]), 1, 0, 0, 0, 1, 0, false⟩ : AHead), 1, 1⟩ : APart)])).1).path = (bstr [97]))))) (fun hb16 K16 => ?_) (fun hb16 K16 => ?_) ?_
  ·
    have hc1016 := hb16; try simp only [Bool.and_eq_true, Bool.or_eq_true, Bool.and_eq_false_iff, Bool.or_eq_false_iff, decide_eq_true_eq, decide_eq_false_iff_not, Bool.not_eq_true', Bool.not_eq_false', Bool.not_eq_true, Bool.not_eq_false, Int.not_lt, Int.not_le, ge_iff_le, gt_iff_lt, ne_eq, Decidable.not_not] at hc1016
    refine Run.yes (v := .pointer (some ⟨g1_4, 0, none⟩)) (y_fieldAddr rfl rfl Tryd.runUnderlying80 rfl Tryd.sizeOf9 (by decide) rfl) rfl rfl rfl rfl (hb16) rfl (by decide) ?_
    refine Run.yes (v := .string (((wWhole ([(⟨(⟨(bstr [97]), 1, 0, 0, 0, 1, 0, false⟩ : AHead), 1, 1⟩ : APart)])).1).path)) (y_loadB1 0 rfl Tryd.isAgg9 rfl rfl rfl) rfl rfl rfl rfl (hb16) rfl (by decide) ?_
    refine Run.yes (v := .bool (decide (((wWhole ([(⟨(⟨(bstr [97]), 1, 0, 0, 0, 1, 0, false⟩ : AHead), 1, 1⟩ : APart)])).1).path = (bstr [97])))) (y_bin rfl rfl rfl bn_eqlD) rfl rfl rfl rfl (hb16) rfl (by decide) ?_
    refine Run.y (y_pickB rfl rfl (hb16) rfl) rfl rfl (by decide) ?_
    exact K16 _ _ _ (Imm.le.refl _) (by rw [hb16]; simp) (Sub.push (Sub.push (Sub.push Sub.refl rfl) rfl) rfl)
  ·
    have hc1016 := hb16; try simp only [Bool.and_eq_true, Bool.or_eq_true, Bool.and_eq_false_iff, Bool.or_eq_false_iff, decide_eq_true_eq, decide_eq_false_iff_not, Bool.not_eq_true', Bool.not_eq_false', Bool.not_eq_true, Bool.not_eq_false, Int.not_lt, Int.not_le, ge_iff_le, gt_iff_lt, ne_eq, Decidable.not_not] at hc1016
    refine Run.no rfl rfl rfl rfl (hb16) rfl (by decide) ?_
    refine Run.no rfl rfl rfl rfl (hb16) rfl (by decide) ?_
    refine Run.no rfl rfl rfl rfl (hb16) rfl (by decide) ?_
    refine Run.y (y_pickB rfl rfl (hb16) rfl) rfl rfl (by decide) ?_
    exact K16 _ _ _ (Imm.le.refl _) (by rw [hb16]; simp) (Sub.push (Sub.push (Sub.push Sub.refl rfl) rfl) rfl)
  refine Run.y (v := .bool (((decide ((([] : List AFile).length : Int) = 0)) && ((wWhole ([(⟨(⟨(bstr [97]), 1, 0, 0, 0, 1, 0, false⟩ : AHead), 1, 1⟩ : APart)])).2)) && (decide (((wWhole ([(⟨(⟨(bstr [97]), 1, 0, 0, 0, 1, 0, false⟩ : AHead), 1, 1⟩ : APart)])).1).path = (bstr [97]))))) (y_move rfl rfl) rfl rfl (by decide) ?_
  refine Run.split 5 rfl (b := (((decide ((([] : List AFile).length : Int) = 0)) && ((wWhole ([(⟨(⟨(bstr [97]), 1, 0, 0, 0, 1, 0, false⟩ : AHead), 1, 1⟩ : APart)])).2)) && (decide (((wWhole ([(⟨(⟨(bstr [97]), 1, 0, 0, 0, 1, 0, false⟩ : AHead), 1, 1⟩ : APart)])).1).path = (bstr [97]))))) (d := 26) (v := .bool ((((decide ((([] : List AFile).length : Int) = 0)) && ((wWhole ([(⟨(⟨(bstr [97]), 1, 0, 0, 0, 1, 0, false⟩ : AHead), 1, 1⟩ : APart)])).2)) && (decide (((wWhole ([(⟨(⟨(bstr [97]), 1, 0, 0, 0, 1, 0, false⟩ : AHead), 1, 1⟩ : APart)])).1).path = (bstr [97])))) && (decide (((((wWhole ([(⟨(⟨(bstr [97]), 1, 0, 0, 0, 1, 0, false⟩ : AHead), 1, 1⟩ : APart)])).1).parts).length : Int) = 1)))) (fun hb21 K21 => ?_) (fun hb21 K21 => ?_) ?_
  ·
    have hc1021 := hb21; try simp only [Bool.and_eq_true, Bool.or_eq_true, Bool.and_eq_false_iff, Bool.or_eq_false_iff, decide_eq_true_eq, decide_eq_false_iff_not, Bool.not_eq_true', Bool.not_eq_false', Bool.not_eq_true, Bool.not_eq_false, Int.not_lt, Int.not_le, ge_iff_le, gt_iff_lt, ne_eq, Decidable.not_not] at hc1021
    refine Run.yes (v := .pointer (some ⟨g1_4, 6, none⟩)) (y_fieldAddr rfl rfl Tryd.runUnderlying80 rfl Tryd.sizeOf76 (by decide) rfl) rfl rfl rfl rfl (hb21) rfl (by decide) ?_
    refine Run.yes (v := .slice A3a_6 ((((wWhole ([(⟨(⟨(bstr [97]), 1, 0, 0, 0, 1, 0, false⟩ : AHead), 1, 1⟩ : APart)])).1).parts).length) c3a_6) (y_loadB1 0 rfl Tryd.isAgg76 rfl rfl rfl) rfl rfl rfl rfl (hb21) rfl (by decide) ?_
    refine Run.yes (v := .int .i64 ((((wWhole ([(⟨(⟨(bstr [97]), 1, 0, 0, 0, 1, 0, false⟩ : AHead), 1, 1⟩ : APart)])).1).parts).length : Int)) (y_len rfl Tryd.runUnderlying76 rfl) rfl rfl rfl rfl (hb21) rfl (by decide) ?_
    refine Run.yes (v := .bool (decide (((((wWhole ([(⟨(⟨(bstr [97]), 1, 0, 0, 0, 1, 0, false⟩ : AHead), 1, 1⟩ : APart)])).1).parts).length : Int) = 1))) (y_bin rfl rfl rfl bn_eql) rfl rfl rfl rfl (hb21) rfl (by decide) ?_
    refine Run.y (y_pickB rfl rfl (hb21) rfl) rfl rfl (by decide) ?_
    exact K21 _ _ _ (Imm.le.refl _) (by rw [hb21]; simp) (Sub.push (Sub.push (Sub.push (Sub.push Sub.refl rfl) rfl) rfl) rfl)
  ·
    have hc1021 := hb21; try simp only [Bool.and_eq_true, Bool.or_eq_true, Bool.and_eq_false_iff, Bool.or_eq_false_iff, decide_eq_true_eq, decide_eq_false_iff_not, Bool.not_eq_true', Bool.not_eq_false', Bool.not_eq_true, Bool.not_eq_false, Int.not_lt, Int.not_le, ge_iff_le, gt_iff_lt, ne_eq, Decidable.not_not] at hc1021
    refine Run.no rfl rfl rfl rfl (hb21) rfl (by decide) ?_
    refine Run.no rfl rfl rfl rfl (hb21) rfl (by decide) ?_
    refine Run.no rfl rfl rfl rfl (hb21) rfl (by decide) ?_
    refine Run.no rfl rfl rfl rfl (hb21) rfl (by decide) ?_
    refine Run.y (y_pickB rfl rfl (hb21) rfl) rfl rfl (by decide) ?_
    exact K21 _ _ _ (Imm.le.refl _) (by rw [hb21]; simp) (Sub.push (Sub.push (Sub.push (Sub.push Sub.refl rfl) rfl) rfl) rfl)
  refine Run.y (v := .bool ((((decide ((([] : List AFile).length : Int) = 0)) && ((wWhole ([(⟨(⟨(bstr [97]), 1, 0, 0, 0, 1, 0, false⟩ : AHead), 1, 1⟩ : APart)])).2)) && (decide (((wWhole ([(⟨(⟨(bstr [97]), 1, 0, 0, 0, 1, 0, false⟩ : AHead), 1, 1⟩ : APart)])).1).path = (bstr [97])))) && (decide (((((wWhole ([(⟨(⟨(bstr [97]), 1, 0, 0, 0, 1, 0, false⟩ : AHead), 1, 1⟩ : APart)])).1).parts).length : Int) = 1)))) (y_assign rfl rfl) rfl rfl (by decide) ?_
  refine Run.nil ?_
  refine RunQ.next ?_
  refine RunC.ret ?_
  refine RunQ.weak Sub.refl (perm_nil _) ?_
  refine RunQ.fin1 (.inl rfl) Tryd.results23 (rv_tmp rfl) ?_
  exact ⟨rfl, _, rfl, (rd_eq (T := tBool) (x := ((((decide ((([] : List AFile).length : Int) = 0)) && ((wWhole ([(⟨(⟨(bstr [97]), 1, 0, 0, 0, 1, 0, false⟩ : AHead), 1, 1⟩ : APart)])).2)) && (decide (((wWhole ([(⟨(⟨(bstr [97]), 1, 0, 0, 0, 1, 0, false⟩ : AHead), 1, 1⟩ : APart)])).1).path = (bstr [97])))) && (decide (((((wWhole ([(⟨(⟨(bstr [97]), 1, 0, 0, 0, 1, 0, false⟩ : AHead), 1, 1⟩ : APart)])).1).parts).length : Int) = 1)))) rfl (by decide))⟩

theorem c_cartridgelaw17_CatalogGaps (I : Imm) (n : Int) (hn : I64 n) (missing : Int) (hmissing : I64 missing) (whole : Bool) : Con Tryd.prog 8 [.int .i64 n, .int .i64 missing, .bool whole].toArray I [] (Ret1 (tBool.o) true) := by
  refine Con.enter (n := 95) (L := [(0, .int .i64 n), (1, .int .i64 missing), (2, .bool whole)]) Tryd.func8 rfl rfl (Nat.le_of_ble_eq_true rfl) rfl (fun E => ?_)
  refine RunC.seq ?_
  refine RunC.region ?_
  refine Run.y (v := .bool false) (y_assign rfl rfl) rfl rfl (by decide) ?_
  refine Run.nil ?_
  refine RunQ.next ?_
  refine RunC.seq ?_
  refine RunC.region ?_
  refine Run.callV (en_func rfl Tryd.call23 rfl) (conv_bool (c_cartridgelaw17_alive _)) rfl rfl (by decide) (fun hI1 => ?_)
  refine Run.y (v := .bool true) (y_assign rfl rfl) rfl rfl (by decide) ?_
  refine Run.nil ?_
  refine RunQ.next ?_
  refine RunC.seq ?_
  refine RunC.seq ?_
  refine RunC.region ?_
  refine Run.y (v := .bool true) (y_move rfl rfl) rfl rfl (by decide) ?_
  refine Run.y (v := .bool false) (y_not (b := true) rfl rfl) rfl rfl (by decide) ?_
  refine Run.y (v := .bool false) (y_move rfl rfl) rfl rfl (by decide) ?_
  refine Run.yes (v := .int .i64 n) (y_move rfl rfl) rfl rfl rfl rfl (rfl) rfl (by decide) ?_
  refine Run.yes (v := .bool (decide (n < 1))) (y_bin rfl rfl rfl bn_lss) rfl rfl rfl rfl (rfl) rfl (by decide) ?_
  refine Run.y (v := .bool (decide (n < 1))) (y_pick rfl rfl rfl) rfl rfl (by decide) ?_
  refine Run.y (v := .bool (decide (n < 1))) (y_move rfl rfl) rfl rfl (by decide) ?_
  refine Run.split 3 rfl (b := decide (n < 1)) (d := 23) (v := .bool ((decide (n < 1)) || (decide (n > 10)))) (fun hb20 K20 => ?_) (fun hb20 K20 => ?_) ?_
  ·
    have hc1020 := hb20; try simp only [Bool.and_eq_true, Bool.or_eq_true, Bool.and_eq_false_iff, Bool.or_eq_false_iff, decide_eq_true_eq, decide_eq_false_iff_not, Bool.not_eq_true', Bool.not_eq_false', Bool.not_eq_true, Bool.not_eq_false, Int.not_lt, Int.not_le, ge_iff_le, gt_iff_lt, ne_eq, Decidable.not_not] at hc1020
    refine Run.no rfl rfl rfl rfl (hb20) rfl (by decide) ?_
    refine Run.no rfl rfl rfl rfl (hb20) rfl (by decide) ?_
    refine Run.y (y_pickB rfl rfl (hb20) rfl) rfl rfl (by decide) ?_
    exact K20 _ _ _ (Imm.le.refl _) (by rw [hb20]; simp) (Sub.push (Sub.push Sub.refl rfl) rfl)
  ·
    have hc1020 := hb20; try simp only [Bool.and_eq_true, Bool.or_eq_true, Bool.and_eq_false_iff, Bool.or_eq_false_iff, decide_eq_true_eq, decide_eq_false_iff_not, Bool.not_eq_true', Bool.not_eq_false', Bool.not_eq_true, Bool.not_eq_false, Int.not_lt, Int.not_le, ge_iff_le, gt_iff_lt, ne_eq, Decidable.not_not] at hc1020
    refine Run.yes (v := .int .i64 n) (y_move rfl rfl) rfl rfl rfl rfl (hb20) rfl (by decide) ?_
    refine Run.yes (v := .bool (decide (n > 10))) (y_bin rfl rfl rfl bn_gtr) rfl rfl rfl rfl (hb20) rfl (by decide) ?_
    refine Run.y (y_pickB rfl rfl (hb20) rfl) rfl rfl (by decide) ?_
    exact K20 _ _ _ (Imm.le.refl _) (by rw [hb20]; simp) (Sub.push (Sub.push Sub.refl rfl) rfl)
  refine Run.y (v := .bool ((decide (n < 1)) || (decide (n > 10)))) (y_move rfl rfl) rfl rfl (by decide) ?_
  refine Run.split 3 rfl (b := ((decide (n < 1)) || (decide (n > 10)))) (d := 27) (v := .bool (((decide (n < 1)) || (decide (n > 10))) || (decide (missing < 0)))) (fun hb24 K24 => ?_) (fun hb24 K24 => ?_) ?_
  ·
    have hc1024 := hb24; try simp only [Bool.and_eq_true, Bool.or_eq_true, Bool.and_eq_false_iff, Bool.or_eq_false_iff, decide_eq_true_eq, decide_eq_false_iff_not, Bool.not_eq_true', Bool.not_eq_false', Bool.not_eq_true, Bool.not_eq_false, Int.not_lt, Int.not_le, ge_iff_le, gt_iff_lt, ne_eq, Decidable.not_not] at hc1024
    refine Run.no rfl rfl rfl rfl (hb24) rfl (by decide) ?_
    refine Run.no rfl rfl rfl rfl (hb24) rfl (by decide) ?_
    refine Run.y (y_pickB rfl rfl (hb24) rfl) rfl rfl (by decide) ?_
    exact K24 _ _ _ (Imm.le.refl _) (by rw [hb24]; simp) (Sub.push (Sub.push Sub.refl rfl) rfl)
  ·
    have hc1024 := hb24; try simp only [Bool.and_eq_true, Bool.or_eq_true, Bool.and_eq_false_iff, Bool.or_eq_false_iff, decide_eq_true_eq, decide_eq_false_iff_not, Bool.not_eq_true', Bool.not_eq_false', Bool.not_eq_true, Bool.not_eq_false, Int.not_lt, Int.not_le, ge_iff_le, gt_iff_lt, ne_eq, Decidable.not_not] at hc1024
    refine Run.yes (v := .int .i64 missing) (y_move rfl rfl) rfl rfl rfl rfl (hb24) rfl (by decide) ?_
    refine Run.yes (v := .bool (decide (missing < 0))) (y_bin rfl rfl rfl bn_lss) rfl rfl rfl rfl (hb24) rfl (by decide) ?_
    refine Run.y (y_pickB rfl rfl (hb24) rfl) rfl rfl (by decide) ?_
    exact K24 _ _ _ (Imm.le.refl _) (by rw [hb24]; simp) (Sub.push (Sub.push Sub.refl rfl) rfl)
  refine Run.y (v := .bool (((decide (n < 1)) || (decide (n > 10))) || (decide (missing < 0)))) (y_move rfl rfl) rfl rfl (by decide) ?_
  refine Run.split 4 rfl (b := (((decide (n < 1)) || (decide (n > 10))) || (decide (missing < 0)))) (d := 32) (v := .bool ((((decide (n < 1)) || (decide (n > 10))) || (decide (missing < 0))) || (decide (missing ≥ n)))) (fun hb28 K28 => ?_) (fun hb28 K28 => ?_) ?_
  ·
    have hc1028 := hb28; try simp only [Bool.and_eq_true, Bool.or_eq_true, Bool.and_eq_false_iff, Bool.or_eq_false_iff, decide_eq_true_eq, decide_eq_false_iff_not, Bool.not_eq_true', Bool.not_eq_false', Bool.not_eq_true, Bool.not_eq_false, Int.not_lt, Int.not_le, ge_iff_le, gt_iff_lt, ne_eq, Decidable.not_not] at hc1028
    refine Run.no rfl rfl rfl rfl (hb28) rfl (by decide) ?_
    refine Run.no rfl rfl rfl rfl (hb28) rfl (by decide) ?_
    refine Run.no rfl rfl rfl rfl (hb28) rfl (by decide) ?_
    refine Run.y (y_pickB rfl rfl (hb28) rfl) rfl rfl (by decide) ?_
    exact K28 _ _ _ (Imm.le.refl _) (by rw [hb28]; simp) (Sub.push (Sub.push (Sub.push Sub.refl rfl) rfl) rfl)
  ·
    have hc1028 := hb28; try simp only [Bool.and_eq_true, Bool.or_eq_true, Bool.and_eq_false_iff, Bool.or_eq_false_iff, decide_eq_true_eq, decide_eq_false_iff_not, Bool.not_eq_true', Bool.not_eq_false', Bool.not_eq_true, Bool.not_eq_false, Int.not_lt, Int.not_le, ge_iff_le, gt_iff_lt, ne_eq, Decidable.not_not] at hc1028
    refine Run.yes (v := .int .i64 missing) (y_move rfl rfl) rfl rfl rfl rfl (hb28) rfl (by decide) ?_
    refine Run.yes (v := .int .i64 n) (y_move rfl rfl) rfl rfl rfl rfl (hb28) rfl (by decide) ?_
    refine Run.yes (v := .bool (decide (missing ≥ n))) (y_bin rfl rfl rfl bn_geq) rfl rfl rfl rfl (hb28) rfl (by decide) ?_
    refine Run.y (y_pickB rfl rfl (hb28) rfl) rfl rfl (by decide) ?_
    exact K28 _ _ _ (Imm.le.refl _) (by rw [hb28]; simp) (Sub.push (Sub.push (Sub.push Sub.refl rfl) rfl) rfl)
  refine Run.nil ?_
  refine RunQ.next ?_
  refine RunC.cond rfl (fun hc0 => ?_) (fun hc0 => ?_)
  ·
    try simp only [Bool.and_eq_true, Bool.or_eq_true, Bool.and_eq_false_iff, Bool.or_eq_false_iff, decide_eq_true_eq, decide_eq_false_iff_not, Bool.not_eq_true', Bool.not_eq_false', Bool.not_eq_true, Bool.not_eq_false, Int.not_lt, Int.not_le, ge_iff_le, gt_iff_lt, ne_eq, Decidable.not_not] at hc0
    refine RunC.seq ?_
    refine RunC.region ?_
    refine Run.y (v := .bool true) (y_move rfl rfl) rfl rfl (by decide) ?_
    refine Run.y (v := .bool true) (y_assign rfl rfl) rfl rfl (by decide) ?_
    refine Run.nil ?_
    refine RunQ.next ?_
    refine RunC.ret ?_
    refine RunQ.pass (fun h => by cases h) ?_
    refine RunQ.weak Sub.refl (perm_nil _) ?_
    refine RunQ.fin1 (.inl rfl) Tryd.results8 (rv_tmp rfl) ?_
    exact ⟨rfl, _, rfl, (rd_eq (T := tBool) (x := true) rfl (by first | rfl | simp [hno.1, hno.2]))⟩
  ·
    try simp only [Bool.and_eq_true, Bool.or_eq_true, Bool.and_eq_false_iff, Bool.or_eq_false_iff, decide_eq_true_eq, decide_eq_false_iff_not, Bool.not_eq_true', Bool.not_eq_false', Bool.not_eq_true, Bool.not_eq_false, Int.not_lt, Int.not_le, ge_iff_le, gt_iff_lt, ne_eq, Decidable.not_not] at hc0
    refine RunC.skip ?_
    refine RunQ.next ?_
    refine RunC.seq ?_
    refine RunC.region ?_
    refine Run.y (v := .slice none 0 0) (y_assign rfl rfl) rfl rfl (by decide) ?_
    refine Run.nil ?_
    refine RunQ.next ?_
    refine RunC.seq ?_
    refine RunC.seq ?_
    refine RunC.region ?_
    refine Run.y (v := .int .i64 0) (y_assign rfl rfl) rfl rfl (by decide) ?_
    refine Run.nil ?_
    refine RunQ.next ?_
    refine RunC.block ?_
    refine RunC.nilrow none 78 10 ?_
    obtain ⟨Inv0, hInv0⟩ : ∃ Inv : Nat → Act → World → Prop, ∀ mm aa ww, Inv mm aa ww ↔ (∃ (k : Nat) (l : List APart) (Al : Option Addr) (cl : Nat) (cll : List Value), (tPart.all I cll l) ∧ ((k : Int) ≤ n) ∧ (l.length ≤ k) ∧ (l = gapsL n missing whole k) ∧ (mm = ((n.toNat - k))) ∧ Frm aa 95 [(0, .int .i64 n), (1, .int .i64 missing), (2, .bool whole), (6, .bool false), (9, .int .i64 (k : Int)), (8, .slice Al l.length cl)] ∧ S E ww I [row (.slice Al l.length cl) 78 10 cll]) := ⟨_, fun _ _ _ => Iff.rfl⟩
    refine RunC.loopX Inv0 (fun aa ww hF hS => ⟨_, (hInv0 _ _ _).2 ⟨0, [], none, 0, [], all_nil, (by omega), (by simp), rfl, rfl, hF.sub (.cons rfl (.cons rfl (.cons rfl (.cons rfl (.cons rfl (.cons rfl .nil)))))), hS.sub (perm_self _)⟩⟩) ?_
    intro mm0 aa ww hv
    obtain ⟨k, l, Al, cl, cll, hl, hk, hll, hgl, hmm_, hF, hS⟩ := (hInv0 _ _ _).1 hv
    clear hv
    refine RunC.go ?_ hF hS
    clear hF hS aa ww
    refine RunC.seq ?_
    refine RunC.seq ?_
    refine RunC.region ?_
    refine Run.y (v := .int .i64 (k : Int)) (y_move rfl rfl) rfl rfl (by decide) ?_
    refine Run.y (v := .int .i64 n) (y_move rfl rfl) rfl rfl (by decide) ?_
    refine Run.y (v := .bool (decide ((k : Int) < n))) (y_bin rfl rfl rfl bn_lss) rfl rfl (by decide) ?_
    refine Run.nil ?_
    refine RunQ.next ?_
    refine RunC.cond rfl (fun hc1 => ?_) (fun hc1 => ?_)
    ·
      try simp only [Bool.and_eq_true, Bool.or_eq_true, Bool.and_eq_false_iff, Bool.or_eq_false_iff, decide_eq_true_eq, decide_eq_false_iff_not, Bool.not_eq_true', Bool.not_eq_false', Bool.not_eq_true, Bool.not_eq_false, Int.not_lt, Int.not_le, ge_iff_le, gt_iff_lt, ne_eq, Decidable.not_not] at hc1
      refine RunC.skip ?_
      refine RunQ.next ?_
      refine RunC.seq ?_
      refine RunC.block ?_
      refine RunC.seq ?_
      refine RunC.seq ?_
      refine RunC.region ?_
      refine Run.y (v := .int .i64 (k : Int)) (y_move rfl rfl) rfl rfl (by decide) ?_
      refine Run.y (v := .int .i64 missing) (y_move rfl rfl) rfl rfl (by decide) ?_
      refine Run.y (v := .bool (decide ((k : Int) = missing))) (y_bin rfl rfl rfl bn_eql) rfl rfl (by decide) ?_
      refine Run.y (v := .bool (decide ((k : Int) = missing))) (y_move rfl rfl) rfl rfl (by decide) ?_
      refine Run.split 3 rfl (b := decide ((k : Int) = missing)) (d := 45) (v := .bool ((decide ((k : Int) = missing)) && (!whole))) (fun hb42 K42 => ?_) (fun hb42 K42 => ?_) ?_
      ·
        have hc1042 := hb42; try simp only [Bool.and_eq_true, Bool.or_eq_true, Bool.and_eq_false_iff, Bool.or_eq_false_iff, decide_eq_true_eq, decide_eq_false_iff_not, Bool.not_eq_true', Bool.not_eq_false', Bool.not_eq_true, Bool.not_eq_false, Int.not_lt, Int.not_le, ge_iff_le, gt_iff_lt, ne_eq, Decidable.not_not] at hc1042
        refine Run.yes (v := .bool whole) (y_move rfl rfl) rfl rfl rfl rfl (hb42) rfl (by decide) ?_
        refine Run.yes (v := .bool (!whole)) (y_not (b := whole) rfl rfl) rfl rfl rfl rfl (hb42) rfl (by decide) ?_
        refine Run.y (y_pickB rfl rfl (hb42) rfl) rfl rfl (by decide) ?_
        exact K42 _ _ _ (Imm.le.refl _) (by rw [hb42]; simp) (Sub.push (Sub.push Sub.refl rfl) rfl)
      ·
        have hc1042 := hb42; try simp only [Bool.and_eq_true, Bool.or_eq_true, Bool.and_eq_false_iff, Bool.or_eq_false_iff, decide_eq_true_eq, decide_eq_false_iff_not, Bool.not_eq_true', Bool.not_eq_false', Bool.not_eq_true, Bool.not_eq_false, Int.not_lt, Int.not_le, ge_iff_le, gt_iff_lt, ne_eq, Decidable.not_not] at hc1042
        refine Run.no rfl rfl rfl rfl (hb42) rfl (by decide) ?_
        refine Run.no rfl rfl rfl rfl (hb42) rfl (by decide) ?_
        refine Run.y (y_pickB rfl rfl (hb42) rfl) rfl rfl (by decide) ?_
        exact K42 _ _ _ (Imm.le.refl _) (by rw [hb42]; simp) (Sub.push (Sub.push Sub.refl rfl) rfl)
      refine Run.nil ?_
      refine RunQ.next ?_
      refine RunC.cond rfl (fun hc2 => ?_) (fun hc2 => ?_)
      ·
        try simp only [Bool.and_eq_true, Bool.or_eq_true, Bool.and_eq_false_iff, Bool.or_eq_false_iff, decide_eq_true_eq, decide_eq_false_iff_not, Bool.not_eq_true', Bool.not_eq_false', Bool.not_eq_true, Bool.not_eq_false, Int.not_lt, Int.not_le, ge_iff_le, gt_iff_lt, ne_eq, Decidable.not_not] at hc2
        refine RunC.exit ?_
        refine RunQ.pass (fun h => by cases h) ?_
        refine RunQ.out ?_
        refine RunQ.next ?_
        refine RunC.region ?_
        refine Run.y (v := .int .i64 (k : Int)) (y_move rfl rfl) rfl rfl (by decide) ?_
        refine Run.y (v := .int .i64 ((k : Int) + 1)) (y_bin rfl rfl rfl (bn_add (by omega) (by omega))) rfl rfl (by decide) ?_
        refine Run.y (v := .int .i64 ((k : Int) + 1)) (y_assign rfl rfl) rfl rfl (by decide) ?_
        refine Run.nil ?_
        exact RunQ.thenI (fun aa ww hF hS => ⟨_, (by omega), (hInv0 _ _ _).2 ⟨(k + 1), l, Al, cl, cll, hl, (by omega), (by first | omega | (simp; omega)), (by first | (rw [gapsL, if_pos hc2]; exact hgl) | (rw [gapsL, if_neg (by rintro ⟨h1, h2⟩; rcases hc2 with h | h <;> simp_all), ← hgl]; rfl)), rfl, hF.sub (.cons rfl (.cons rfl (.cons rfl (.cons rfl (.cons rfl (.cons rfl .nil)))))), hS.sub (perm_self _)⟩⟩)
      ·
        try simp only [Bool.and_eq_true, Bool.or_eq_true, Bool.and_eq_false_iff, Bool.or_eq_false_iff, decide_eq_true_eq, decide_eq_false_iff_not, Bool.not_eq_true', Bool.not_eq_false', Bool.not_eq_true, Bool.not_eq_false, Int.not_lt, Int.not_le, ge_iff_le, gt_iff_lt, ne_eq, Decidable.not_not] at hc2
        refine RunC.skip ?_
        refine RunQ.next ?_
        refine RunC.region ?_
        refine Run.y (v := .int .i64 n) (y_move rfl rfl) rfl rfl (by decide) ?_
        refine Run.y (v := .int .i64 (10 * n)) (y_bin rfl rfl rfl (bn_mul (by omega) (by omega))) rfl rfl (by decide) ?_
        refine Run.y (v := .int .i64 (k : Int)) (y_move rfl rfl) rfl rfl (by decide) ?_
        refine Run.y (v := .int .i64 (10 * (k : Int))) (y_bin rfl rfl rfl (bn_mul (by omega) (by omega))) rfl rfl (by decide) ?_
        refine Run.y (v := .agg [.string (bstr [97]), .int .i64 1, .int .i64 (10 * n), .int .i64 (10 * (k : Int)), .int .i64 10, .int .i64 1, .int .i64 0, .bool false].toArray) (y_build (vs := [(0, .string (bstr [97])), (1, .int .i64 1), (5, .int .i64 1), (2, .int .i64 (10 * n)), (3, .int .i64 (10 * (k : Int))), (4, .int .i64 10)]) rfl rfl (fun w => by simp [Instr.build, Tryd.zeroValue71, Tryd.runUnderlying71, Tryd.sizeOf3, Tryd.sizeOf4, Tryd.sizeOf9, Instr.fill, Value.cells])) rfl rfl (by decide) ?_
        refine Run.y (v := .int .i64 (k : Int)) (y_move rfl rfl) rfl rfl (by decide) ?_
        refine Run.y (v := .int .i64 ((k : Int) + 1)) (y_bin rfl rfl rfl (bn_add (by omega) (by omega))) rfl rfl (by decide) ?_
        refine Run.y (v := .agg [.string (bstr [97]), .int .i64 1, .int .i64 (10 * n), .int .i64 (10 * (k : Int)), .int .i64 10, .int .i64 1, .int .i64 0, .bool false, .int .i64 ((k : Int) + 1), .int .i64 1].toArray) (y_build (vs := [(0, .agg [.string (bstr [97]), .int .i64 1, .int .i64 (10 * n), .int .i64 (10 * (k : Int)), .int .i64 10, .int .i64 1, .int .i64 0, .bool false].toArray), (1, .int .i64 ((k : Int) + 1)), (2, .int .i64 1)]) rfl rfl (fun w => by simp [Instr.build, Tryd.zeroValue78, Tryd.runUnderlying78, Tryd.sizeOf3, Tryd.sizeOf71, Instr.fill, Value.cells])) rfl rfl (by decide) ?_
        refine Run.lit (vs := [(0, .agg [.string (bstr [97]), .int .i64 1, .int .i64 (10 * n), .int .i64 (10 * (k : Int)), .int .i64 10, .int .i64 1, .int .i64 0, .bool false, .int .i64 ((k : Int) + 1), .int .i64 1].toArray)]) (cs := [.string (bstr [97]), .int .i64 1, .int .i64 (10 * n), .int .i64 (10 * (k : Int)), .int .i64 10, .int .i64 1, .int .i64 0, .bool false, .int .i64 ((k : Int) + 1), .int .i64 1]) (el := 78) (sz := 10) rfl rfl (fun w => by simp [Instr.buildSlice, Tryd.runUnderlying76, Tryd.sizeOf78, Tryd.zeroValue78, Instr.fill, Value.cells, newRow, (show Array.range 10 = #[0, 1, 2, 3, 4, 5, 6, 7, 8, 9] from rfl)]) rfl (by simp [maxLen]) rfl rfl (by decide) (fun g54 => ?_)
        refine Run.y (v := .slice Al l.length cl) (y_move rfl rfl) rfl rfl (by decide) ?_
        have hlit2 : tPart.all I [.string (bstr [97]), .int .i64 1, .int .i64 (10 * n), .int .i64 (10 * (k : Int)), .int .i64 10, .int .i64 1, .int .i64 0, .bool false, .int .i64 ((k : Int) + 1), .int .i64 1] [(⟨(⟨(bstr [97]), 1, 10 * n, 10 * (k : Int), 10, 1, 0, false⟩ : AHead), (k : Int) + 1, 1⟩ : APart)] := (all_snoc (T := tPart) all_nil ⟨rfl, (by first | (simp [maxLen]; done) | (simp [bstr, maxLen, ByteArray.size]; done)), (by first | omega | (dsimp only; omega)), (by first | omega | (dsimp only; omega)), (by first | omega | (dsimp only; omega)), (by first | omega | (dsimp only; omega)), (by first | omega | (dsimp only; omega)), (by first | omega | (dsimp only; omega)), (by first | omega | (dsimp only; omega)), (by first | omega | (dsimp only; omega))⟩)
        have hall3 : tPart.all I (([.string (bstr [97]), .int .i64 1, .int .i64 (10 * n), .int .i64 (10 * (k : Int)), .int .i64 10, .int .i64 1, .int .i64 0, .bool false, .int .i64 ((k : Int) + 1), .int .i64 1]) ++ cll) (([(⟨(⟨(bstr [97]), 1, 10 * n, 10 * (k : Int), 10, 1, 0, false⟩ : AHead), (k : Int) + 1, 1⟩ : APart)]) ++ l) := all_append hlit2 hl
        refine Run.append (by_ := 88) (ys := cll) (k := l.length) (own' := [row (.slice Al l.length cl) 78 10 cll]) 0 rfl rfl rfl Tryd.runUnderlying76 (.inl Tryd.runUnderlying76) Tryd.sizeOf78 Tryd.typeInfo78 rfl Tryd.zeroValue78 rfl rfl rfl (fun w hS => src_own hS (i := 1) rfl) (hl).1 (all_one hl) ((([(⟨(⟨(bstr [97]), 1, 10 * n, 10 * (k : Int), 10, 1, 0, false⟩ : AHead), (k : Int) + 1, 1⟩ : APart)]) ++ l).length) (by first | (simp; done) | (simp; omega)) (by simp; omega) (by simp [maxLen]; omega) rfl rfl (by decide) (fun A56_3 c56_3 => ?_)
        refine Run.y (v := .slice A56_3 ((([(⟨(⟨(bstr [97]), 1, 10 * n, 10 * (k : Int), 10, 1, 0, false⟩ : AHead), (k : Int) + 1, 1⟩ : APart)]) ++ l).length) c56_3) (y_assign rfl rfl) rfl rfl (by decide) ?_
        refine Run.nil ?_
        refine RunQ.inB ?_
        refine RunQ.next ?_
        refine RunC.region ?_
        refine Run.y (v := .int .i64 (k : Int)) (y_move rfl rfl) rfl rfl (by decide) ?_
        refine Run.y (v := .int .i64 ((k : Int) + 1)) (y_bin rfl rfl rfl (bn_add (by omega) (by omega))) rfl rfl (by decide) ?_
        refine Run.y (v := .int .i64 ((k : Int) + 1)) (y_assign rfl rfl) rfl rfl (by decide) ?_
        refine Run.nil ?_
        exact RunQ.thenI (fun aa ww hF hS => ⟨_, (by omega), (hInv0 _ _ _).2 ⟨(k + 1), (([(⟨(⟨(bstr [97]), 1, 10 * n, 10 * (k : Int), 10, 1, 0, false⟩ : AHead), (k : Int) + 1, 1⟩ : APart)]) ++ l), A56_3, c56_3, ([.string (bstr [97]), .int .i64 1, .int .i64 (10 * n), .int .i64 (10 * (k : Int)), .int .i64 10, .int .i64 1, .int .i64 0, .bool false, .int .i64 ((k : Int) + 1), .int .i64 1]) ++ cll, hall3, (by omega), (by first | omega | (simp; omega)), (by first | (rw [gapsL, if_pos hc2]; exact hgl) | (rw [gapsL, if_neg (by rintro ⟨h1, h2⟩; rcases hc2 with h | h <;> simp_all), ← hgl]; rfl)), rfl, hF.sub (.cons rfl (.cons rfl (.cons rfl (.cons rfl (.cons rfl (.cons rfl .nil)))))), hS.sub (perm_take (i := 0) rfl (perm_nil _))⟩⟩)
    ·
      try simp only [Bool.and_eq_true, Bool.or_eq_true, Bool.and_eq_false_iff, Bool.or_eq_false_iff, decide_eq_true_eq, decide_eq_false_iff_not, Bool.not_eq_true', Bool.not_eq_false', Bool.not_eq_true, Bool.not_eq_false, Int.not_lt, Int.not_le, ge_iff_le, gt_iff_lt, ne_eq, Decidable.not_not] at hc1
      refine RunC.exit ?_
      refine RunQ.pass (fun h => by cases h) ?_
      refine RunQ.pass (fun h => by cases h) ?_
      refine RunQ.out ?_
      refine RunQ.next ?_
      refine RunC.seq ?_
      refine RunC.region ?_
      refine Run.y (v := .slice Al l.length cl) (y_move rfl rfl) rfl rfl (by decide) ?_
      refine Run.freezeR 0 rfl (own' := []) rfl (fun J4 hleJ4 hfzJ4 => ?_)
      have hslJ4 : Sl tPart J4 Al cl l := Sl.of_rowN hfzJ4 rfl rfl (hl.mono hleJ4)
      refine Run.call0 (en_func rfl Tryd.call27 rfl) (c_catalog_Whole _ l hslJ4 (by rw [hgl]; have := phead_gaps n missing whole (by omega) k; omega)) rfl rfl (by decide) (fun J5 o5 v5 hleJ5 hq5 => ?_)
      obtain ⟨rfl, cs5a, cs5b, rfl, h5a, h5b⟩ := hq5
      replace h5a : tFile.rd J5 cs5a ((wWhole l).1) := h5a
      obtain ⟨A5a_6, c5a_6, rfl, f5a_0, f5a_1, f5a_2, f5a_3, f5a_4, f5a_6⟩ := h5a
      replace h5b : tBool.rd J5 cs5b ((wWhole l).2) := h5b
      obtain rfl := h5b
      refine Run.y (v := .tuple #[.agg [.string (((wWhole l).1).path), .int .i64 (((wWhole l).1).version), .int .i64 (((wWhole l).1).size), .int .i64 (((wWhole l).1).sum), .int .i64 (((wWhole l).1).serial), .bool (((wWhole l).1).gone), .slice A5a_6 ((((wWhole l).1).parts).length) c5a_6].toArray, .bool ((wWhole l).2)]) (y_move rfl rfl) rfl rfl (by decide) ?_
      refine Run.y (v := .agg [.string (((wWhole l).1).path), .int .i64 (((wWhole l).1).version), .int .i64 (((wWhole l).1).size), .int .i64 (((wWhole l).1).sum), .int .i64 (((wWhole l).1).serial), .bool (((wWhole l).1).gone), .slice A5a_6 ((((wWhole l).1).parts).length) c5a_6].toArray) (y_extract rfl rfl rfl) rfl rfl (by decide) ?_
      refine Run.y (v := .bool ((wWhole l).2)) (y_extract rfl rfl rfl) rfl rfl (by decide) ?_
      refine Run.alloc (cs := [.string (ByteArray.mk #[]), .int .i64 0, .int .i64 0, .int .i64 0, .int .i64 0, .bool false, .slice none 0 0]) rfl Tryd.zeroValue80 rfl rfl rfl (by decide) (fun g10_6 => ?_)
      refine Run.storeB (vs := [.string (((wWhole l).1).path), .int .i64 (((wWhole l).1).version), .int .i64 (((wWhole l).1).size), .int .i64 (((wWhole l).1).sum), .int .i64 (((wWhole l).1).serial), .bool (((wWhole l).1).gone), .slice A5a_6 ((((wWhole l).1).parts).length) c5a_6]) (cs' := [.string (((wWhole l).1).path), .int .i64 (((wWhole l).1).version), .int .i64 (((wWhole l).1).size), .int .i64 (((wWhole l).1).sum), .int .i64 (((wWhole l).1).serial), .bool (((wWhole l).1).gone), .slice A5a_6 ((((wWhole l).1).parts).length) c5a_6]) (own' := []) 0 rfl rfl rfl Tryd.sizeOf80 rfl rfl rfl rfl rfl (Nat.le_of_ble_eq_true rfl) rfl rfl rfl ?_
      refine Run.y (v := .bool ((wWhole l).2)) (y_assign rfl rfl) rfl rfl (by decide) ?_
      refine Run.nil ?_
      refine RunQ.next ?_
      refine RunC.seq ?_
      refine RunC.seq ?_
      refine RunC.region ?_
      refine Run.y (v := .bool whole) (y_move rfl rfl) rfl rfl (by decide) ?_
      refine Run.y (v := .bool (!whole)) (y_not (b := whole) rfl rfl) rfl rfl (by decide) ?_
      refine Run.nil ?_
      refine RunQ.next ?_
      refine RunC.cond rfl (fun hc3 => ?_) (fun hc3 => ?_)
      ·
        try simp only [Bool.and_eq_true, Bool.or_eq_true, Bool.and_eq_false_iff, Bool.or_eq_false_iff, decide_eq_true_eq, decide_eq_false_iff_not, Bool.not_eq_true', Bool.not_eq_false', Bool.not_eq_true, Bool.not_eq_false, Int.not_lt, Int.not_le, ge_iff_le, gt_iff_lt, ne_eq, Decidable.not_not] at hc3
        have hkn : k = n.toNat := by omega
        have hno : (wWhole l).2 = false ∧ (wWhole l).1.parts.length = 0 := by rw [hgl, hkn, hc3]; exact gap_no (by omega) (by omega) (by omega) (by omega)
        refine RunC.seq ?_
        refine RunC.region ?_
        refine Run.y (v := .bool ((wWhole l).2)) (y_move rfl rfl) rfl rfl (by decide) ?_
        refine Run.y (v := .bool (!((wWhole l).2))) (y_not (b := ((wWhole l).2)) rfl rfl) rfl rfl (by decide) ?_
        refine Run.y (v := .bool (!((wWhole l).2))) (y_move rfl rfl) rfl rfl (by decide) ?_
        refine Run.split 5 rfl (b := (!((wWhole l).2))) (d := 71) (v := .bool ((!((wWhole l).2)) && (decide (((((wWhole l).1).parts).length : Int) = 0)))) (fun hb66 K66 => ?_) (fun hb66 K66 => ?_) ?_
        ·
          have hc1066 := hb66; try simp only [Bool.and_eq_true, Bool.or_eq_true, Bool.and_eq_false_iff, Bool.or_eq_false_iff, decide_eq_true_eq, decide_eq_false_iff_not, Bool.not_eq_true', Bool.not_eq_false', Bool.not_eq_true, Bool.not_eq_false, Int.not_lt, Int.not_le, ge_iff_le, gt_iff_lt, ne_eq, Decidable.not_not] at hc1066
          refine Run.yes (v := .pointer (some ⟨g10_6, 6, none⟩)) (y_fieldAddr rfl rfl Tryd.runUnderlying80 rfl Tryd.sizeOf76 (by decide) rfl) rfl rfl rfl rfl (hb66) rfl (by decide) ?_
          refine Run.yes (v := .slice A5a_6 ((((wWhole l).1).parts).length) c5a_6) (y_loadB1 0 rfl Tryd.isAgg76 rfl rfl rfl) rfl rfl rfl rfl (hb66) rfl (by decide) ?_
          refine Run.yes (v := .int .i64 ((((wWhole l).1).parts).length : Int)) (y_len rfl Tryd.runUnderlying76 rfl) rfl rfl rfl rfl (hb66) rfl (by decide) ?_
          refine Run.yes (v := .bool (decide (((((wWhole l).1).parts).length : Int) = 0))) (y_bin rfl rfl rfl bn_eql) rfl rfl rfl rfl (hb66) rfl (by decide) ?_
          refine Run.y (y_pickB rfl rfl (hb66) rfl) rfl rfl (by decide) ?_
          exact K66 _ _ _ (Imm.le.refl _) (by rw [hb66]; simp) (Sub.push (Sub.push (Sub.push (Sub.push Sub.refl rfl) rfl) rfl) rfl)
        ·
          have hc1066 := hb66; try simp only [Bool.and_eq_true, Bool.or_eq_true, Bool.and_eq_false_iff, Bool.or_eq_false_iff, decide_eq_true_eq, decide_eq_false_iff_not, Bool.not_eq_true', Bool.not_eq_false', Bool.not_eq_true, Bool.not_eq_false, Int.not_lt, Int.not_le, ge_iff_le, gt_iff_lt, ne_eq, Decidable.not_not] at hc1066
          refine Run.no rfl rfl rfl rfl (hb66) rfl (by decide) ?_
          refine Run.no rfl rfl rfl rfl (hb66) rfl (by decide) ?_
          refine Run.no rfl rfl rfl rfl (hb66) rfl (by decide) ?_
          refine Run.no rfl rfl rfl rfl (hb66) rfl (by decide) ?_
          refine Run.y (y_pickB rfl rfl (hb66) rfl) rfl rfl (by decide) ?_
          exact K66 _ _ _ (Imm.le.refl _) (by rw [hb66]; simp) (Sub.push (Sub.push (Sub.push (Sub.push Sub.refl rfl) rfl) rfl) rfl)
        refine Run.y (v := .bool ((!((wWhole l).2)) && (decide (((((wWhole l).1).parts).length : Int) = 0)))) (y_assign rfl rfl) rfl rfl (by decide) ?_
        refine Run.nil ?_
        refine RunQ.next ?_
        refine RunC.ret ?_
        refine RunQ.pass (fun h => by cases h) ?_
        refine RunQ.weak Sub.refl (perm_nil _) ?_
        refine RunQ.fin1 (.inl rfl) Tryd.results8 (rv_tmp rfl) ?_
        exact ⟨rfl, _, rfl, (rd_eq (T := tBool) (x := ((!((wWhole l).2)) && (decide (((((wWhole l).1).parts).length : Int) = 0)))) rfl (by first | rfl | simp [hno.1, hno.2]))⟩
      ·
        try simp only [Bool.and_eq_true, Bool.or_eq_true, Bool.and_eq_false_iff, Bool.or_eq_false_iff, decide_eq_true_eq, decide_eq_false_iff_not, Bool.not_eq_true', Bool.not_eq_false', Bool.not_eq_true, Bool.not_eq_false, Int.not_lt, Int.not_le, ge_iff_le, gt_iff_lt, ne_eq, Decidable.not_not] at hc3
        have hkn : k = n.toNat := by omega
        have hyes : (wWhole l).2 = true ∧ (wWhole l).1.parts.length = n.toNat ∧ ∀ i p, i < n.toNat → (wWhole l).1.parts[i]? = some p → p.label = (i : Int) + 1 := by rw [hgl, hkn, hc3]; exact gap_yes (m := missing) (by omega) (by omega) (by omega) (by omega)
        have hy2 := hyes.2.1
        refine RunC.skip ?_
        refine RunQ.next ?_
        refine RunC.seq ?_
        refine RunC.seq ?_
        refine RunC.region ?_
        refine Run.y (v := .bool ((wWhole l).2)) (y_move rfl rfl) rfl rfl (by decide) ?_
        refine Run.y (v := .bool (!((wWhole l).2))) (y_not (b := ((wWhole l).2)) rfl rfl) rfl rfl (by decide) ?_
        refine Run.y (v := .bool (!((wWhole l).2))) (y_move rfl rfl) rfl rfl (by decide) ?_
        refine Run.split 6 rfl (b := (!((wWhole l).2))) (d := 80) (v := .bool ((!((wWhole l).2)) || (decide (((((wWhole l).1).parts).length : Int) ≠ n)))) (fun hb74 K74 => ?_) (fun hb74 K74 => ?_) ?_
        ·
          have hc1074 := hb74; try simp only [Bool.and_eq_true, Bool.or_eq_true, Bool.and_eq_false_iff, Bool.or_eq_false_iff, decide_eq_true_eq, decide_eq_false_iff_not, Bool.not_eq_true', Bool.not_eq_false', Bool.not_eq_true, Bool.not_eq_false, Int.not_lt, Int.not_le, ge_iff_le, gt_iff_lt, ne_eq, Decidable.not_not] at hc1074
          refine Run.no rfl rfl rfl rfl (hb74) rfl (by decide) ?_
          refine Run.no rfl rfl rfl rfl (hb74) rfl (by decide) ?_
          refine Run.no rfl rfl rfl rfl (hb74) rfl (by decide) ?_
          refine Run.no rfl rfl rfl rfl (hb74) rfl (by decide) ?_
          refine Run.no rfl rfl rfl rfl (hb74) rfl (by decide) ?_
          refine Run.y (y_pickB rfl rfl (hb74) rfl) rfl rfl (by decide) ?_
          exact K74 _ _ _ (Imm.le.refl _) (by rw [hb74]; simp) (Sub.push (Sub.push (Sub.push (Sub.push (Sub.push Sub.refl rfl) rfl) rfl) rfl) rfl)
        ·
          have hc1074 := hb74; try simp only [Bool.and_eq_true, Bool.or_eq_true, Bool.and_eq_false_iff, Bool.or_eq_false_iff, decide_eq_true_eq, decide_eq_false_iff_not, Bool.not_eq_true', Bool.not_eq_false', Bool.not_eq_true, Bool.not_eq_false, Int.not_lt, Int.not_le, ge_iff_le, gt_iff_lt, ne_eq, Decidable.not_not] at hc1074
          refine Run.yes (v := .pointer (some ⟨g10_6, 6, none⟩)) (y_fieldAddr rfl rfl Tryd.runUnderlying80 rfl Tryd.sizeOf76 (by decide) rfl) rfl rfl rfl rfl (hb74) rfl (by decide) ?_
          refine Run.yes (v := .slice A5a_6 ((((wWhole l).1).parts).length) c5a_6) (y_loadB1 0 rfl Tryd.isAgg76 rfl rfl rfl) rfl rfl rfl rfl (hb74) rfl (by decide) ?_
          refine Run.yes (v := .int .i64 ((((wWhole l).1).parts).length : Int)) (y_len rfl Tryd.runUnderlying76 rfl) rfl rfl rfl rfl (hb74) rfl (by decide) ?_
          refine Run.yes (v := .int .i64 n) (y_move rfl rfl) rfl rfl rfl rfl (hb74) rfl (by decide) ?_
          refine Run.yes (v := .bool (decide (((((wWhole l).1).parts).length : Int) ≠ n))) (y_bin rfl rfl rfl bn_neq) rfl rfl rfl rfl (hb74) rfl (by decide) ?_
          refine Run.y (y_pickB rfl rfl (hb74) rfl) rfl rfl (by decide) ?_
          exact K74 _ _ _ (Imm.le.refl _) (by rw [hb74]; simp) (Sub.push (Sub.push (Sub.push (Sub.push (Sub.push Sub.refl rfl) rfl) rfl) rfl) rfl)
        refine Run.nil ?_
        refine RunQ.next ?_
        refine RunC.cond rfl (fun hc4 => ?_) (fun hc4 => ?_)
        ·
          try simp only [Bool.and_eq_true, Bool.or_eq_true, Bool.and_eq_false_iff, Bool.or_eq_false_iff, decide_eq_true_eq, decide_eq_false_iff_not, Bool.not_eq_true', Bool.not_eq_false', Bool.not_eq_true, Bool.not_eq_false, Int.not_lt, Int.not_le, ge_iff_le, gt_iff_lt, ne_eq, Decidable.not_not] at hc4
          exfalso
          rcases hc4 with h | h
          · rw [hyes.1] at h; cases h
          · omega
        ·
          skip
          try simp only [Bool.and_eq_true, Bool.or_eq_true, Bool.and_eq_false_iff, Bool.or_eq_false_iff, decide_eq_true_eq, decide_eq_false_iff_not, Bool.not_eq_true', Bool.not_eq_false', Bool.not_eq_true, Bool.not_eq_false, Int.not_lt, Int.not_le, ge_iff_le, gt_iff_lt, ne_eq, Decidable.not_not] at hc4
          refine RunC.skip ?_
          refine RunQ.next ?_
          refine RunC.seq ?_
          refine RunC.seq ?_
          refine RunC.region ?_
          refine Run.y (v := .int .i64 0) (y_assign rfl rfl) rfl rfl (by decide) ?_
          refine Run.nil ?_
          refine RunQ.next ?_
          refine RunC.block ?_
          obtain ⟨Inv1, hInv1⟩ : ∃ Inv : Nat → Act → World → Prop, ∀ mm aa ww, Inv mm aa ww ↔ (∃ (j : Nat), ((j : Int) ≤ n) ∧ (mm = ((n.toNat - j))) ∧ Frm aa 95 [(0, .int .i64 n), (10, .pointer (some ⟨g10_6, 0, none⟩)), (12, .int .i64 (j : Int))] ∧ S E ww J5 [blk g10_6 [.string (((wWhole l).1).path), .int .i64 (((wWhole l).1).version), .int .i64 (((wWhole l).1).size), .int .i64 (((wWhole l).1).sum), .int .i64 (((wWhole l).1).serial), .bool (((wWhole l).1).gone), .slice A5a_6 ((((wWhole l).1).parts).length) c5a_6] 80]) := ⟨_, fun _ _ _ => Iff.rfl⟩
          refine RunC.loopX Inv1 (fun aa ww hF hS => ⟨_, (hInv1 _ _ _).2 ⟨0, (by omega), rfl, hF.sub (.cons rfl (.cons rfl (.cons rfl .nil))), hS.sub (perm_self _)⟩⟩) ?_
          intro mm1 aa ww hv
          obtain ⟨j, hj, hmm_, hF, hS⟩ := (hInv1 _ _ _).1 hv
          clear hv
          refine RunC.go ?_ hF hS
          clear hF hS aa ww
          refine RunC.seq ?_
          refine RunC.seq ?_
          refine RunC.region ?_
          refine Run.y (v := .int .i64 (j : Int)) (y_move rfl rfl) rfl rfl (by decide) ?_
          refine Run.y (v := .int .i64 n) (y_move rfl rfl) rfl rfl (by decide) ?_
          refine Run.y (v := .bool (decide ((j : Int) < n))) (y_bin rfl rfl rfl bn_lss) rfl rfl (by decide) ?_
          refine Run.nil ?_
          refine RunQ.next ?_
          refine RunC.cond rfl (fun hc5 => ?_) (fun hc5 => ?_)
          ·
            try simp only [Bool.and_eq_true, Bool.or_eq_true, Bool.and_eq_false_iff, Bool.or_eq_false_iff, decide_eq_true_eq, decide_eq_false_iff_not, Bool.not_eq_true', Bool.not_eq_false', Bool.not_eq_true, Bool.not_eq_false, Int.not_lt, Int.not_le, ge_iff_le, gt_iff_lt, ne_eq, Decidable.not_not] at hc5
            refine RunC.skip ?_
            refine RunQ.next ?_
            refine RunC.seq ?_
            refine RunC.block ?_
            refine RunC.seq ?_
            refine RunC.region ?_
            refine Run.y (v := .pointer (some ⟨g10_6, 6, none⟩)) (y_fieldAddr rfl rfl Tryd.runUnderlying80 rfl Tryd.sizeOf76 (by decide) rfl) rfl rfl (by decide) ?_
            refine Run.y (v := .slice A5a_6 ((((wWhole l).1).parts).length) c5a_6) (y_loadB1 0 rfl Tryd.isAgg76 rfl rfl rfl) rfl rfl (by decide) ?_
            refine Run.y (v := .int .i64 (j : Int)) (y_move rfl rfl) rfl rfl (by decide) ?_
            obtain ⟨x89, p89_7, cs89_7, hx89, hp89_7, hcs89_7, hrc89_7⟩ := Sl.at_ (P := Tryd.prog) (T := tPart) Tryd.runUnderlying76 Tryd.sizeOf78 f5a_6 (k := .i64) (i := (j : Int)) (by omega) (by omega)
            replace hx89 : (((wWhole l).1).parts)[j]? = some x89 := hx89
            obtain ⟨rfl, f89_7_0, f89_7_1, f89_7_2, f89_7_3, f89_7_4, f89_7_5, f89_7_6, f89_7_8, f89_7_9⟩ := hcs89_7
            refine Run.y (v := .pointer (some p89_7)) (y_index rfl rfl rfl hp89_7) rfl rfl (by decide) ?_
            refine Run.y (v := .pointer (some (p89_7.add 8))) (y_fieldAddr rfl rfl Tryd.runUnderlying78 rfl Tryd.sizeOf3 (by decide) rfl) rfl rfl (by decide) ?_
            refine Run.y (v := .int .i64 x89.label) (y_load1 rfl Tryd.isAgg3 rfl (RCells.at_ hrc89_7 8 rfl rfl)) rfl rfl (by decide) ?_
            refine Run.y (v := .int .i64 (j : Int)) (y_move rfl rfl) rfl rfl (by decide) ?_
            refine Run.y (v := .int .i64 ((j : Int) + 1)) (y_bin rfl rfl rfl (bn_add (by omega) (by omega))) rfl rfl (by decide) ?_
            refine Run.y (v := .bool (decide (x89.label ≠ (j : Int) + 1))) (y_bin rfl rfl rfl bn_neq) rfl rfl (by decide) ?_
            refine Run.nil ?_
            refine RunQ.next ?_
            refine RunC.cond rfl (fun hc6 => ?_) (fun hc6 => ?_)
            ·
              try simp only [Bool.and_eq_true, Bool.or_eq_true, Bool.and_eq_false_iff, Bool.or_eq_false_iff, decide_eq_true_eq, decide_eq_false_iff_not, Bool.not_eq_true', Bool.not_eq_false', Bool.not_eq_true, Bool.not_eq_false, Int.not_lt, Int.not_le, ge_iff_le, gt_iff_lt, ne_eq, Decidable.not_not] at hc6
              exfalso
              exact hc6 (hyes.2.2 _ _ (by omega) hx89)
            ·
              skip
              try simp only [Bool.and_eq_true, Bool.or_eq_true, Bool.and_eq_false_iff, Bool.or_eq_false_iff, decide_eq_true_eq, decide_eq_false_iff_not, Bool.not_eq_true', Bool.not_eq_false', Bool.not_eq_true, Bool.not_eq_false, Int.not_lt, Int.not_le, ge_iff_le, gt_iff_lt, ne_eq, Decidable.not_not] at hc6
              refine RunC.skip ?_
              refine RunQ.inB ?_
              refine RunQ.next ?_
              refine RunC.region ?_
              refine Run.y (v := .int .i64 (j : Int)) (y_move rfl rfl) rfl rfl (by decide) ?_
              refine Run.y (v := .int .i64 ((j : Int) + 1)) (y_bin rfl rfl rfl (bn_add (by omega) (by omega))) rfl rfl (by decide) ?_
              refine Run.y (v := .int .i64 ((j : Int) + 1)) (y_assign rfl rfl) rfl rfl (by decide) ?_
              refine Run.nil ?_
              exact RunQ.thenI (fun aa ww hF hS => ⟨_, (by omega), (hInv1 _ _ _).2 ⟨(j + 1), (by omega), rfl, hF.sub (.cons rfl (.cons rfl (.cons rfl .nil))), hS.sub (perm_self _)⟩⟩)
          ·
            try simp only [Bool.and_eq_true, Bool.or_eq_true, Bool.and_eq_false_iff, Bool.or_eq_false_iff, decide_eq_true_eq, decide_eq_false_iff_not, Bool.not_eq_true', Bool.not_eq_false', Bool.not_eq_true, Bool.not_eq_false, Int.not_lt, Int.not_le, ge_iff_le, gt_iff_lt, ne_eq, Decidable.not_not] at hc5
            refine RunC.exit ?_
            refine RunQ.pass (fun h => by cases h) ?_
            refine RunQ.pass (fun h => by cases h) ?_
            refine RunQ.out ?_
            refine RunQ.next ?_
            refine RunC.seq ?_
            refine RunC.region ?_
            refine Run.y (v := .bool true) (y_assign rfl rfl) rfl rfl (by decide) ?_
            refine Run.nil ?_
            refine RunQ.next ?_
            refine RunC.ret ?_
            refine RunQ.weak Sub.refl (perm_nil _) ?_
            refine RunQ.fin1 (.inl rfl) Tryd.results8 (rv_tmp rfl) ?_
            exact ⟨rfl, _, rfl, (rd_eq (T := tBool) (x := true) rfl (by first | rfl | simp [hno.1, hno.2]))⟩
end Go.Proofs.YtmelbclhkkbmiaaDoor.K
