/- Contracts of functions of the program, each proved by a walk through its operations, for all memory and all arguments that the theorem names. Printed by a program of mine. -/
import Derived.Test.YtmelbclhkkbmiaaGreatF3
set_option linter.unusedVariables false
set_option linter.unusedSimpArgs false
set_option maxRecDepth 100000
namespace Go.Proofs.YtmelbclhkkbmiaaGreat.K
open Go Go.RowKit

theorem c_matrix_apply (I : Imm) {Am : Option Addr} {cm : Nat} (m : List (List UInt8)) (hm : Sl (tSl tU8) I Am cm m) {Av : Option Addr} {cv : Nat} (v : List UInt8) (hv : Sl tU8 I Av cv v) (hmv : ∀ r ∈ m, r.length ≤ v.length) (hsz : m.length ≤ 1000000) : Con Tryz.prog 160 [.slice Am m.length cm, .slice Av v.length cv].toArray I [] (Ret1 ((tSl tU8).o) (mApply m v)) := by
 have hsmm := hm.small
 have hsmv := hv.small
 refine Con.enter (n := 44) (L := [(0, .slice Am m.length cm), (1, .slice Av v.length cv)]) Tryz.func160 rfl rfl (Nat.le_of_ble_eq_true rfl) rfl (fun E => ?_)
 refine RunC.sr ?_
 refine Run.as ?_
 refine Run.nx ?_
 refine RunC.sr ?_
 refine Run.mv ?_
 refine Run.m (y_len rfl Tryz.runUnderlying43 rfl) ?_
 refine Run.make (m := m.length) (k := .i64) rfl rfl rfl (mk_run Tryz.runUnderlying42 Tryz.typeInfo5 (by_ := 1) rfl Tryz.sizeOf5 Tryz.zeroValue5 rfl (by omega) (by omega)) (by simp only [maxLen]; omega) rfl rfl (by decide) (fun g12 => ?_)
 have hall1 : tU8.all I (List.replicate m.length (.int .u8 ((0 : UInt8).toNat : Int))) (List.replicate m.length ((0 : UInt8) : UInt8)) := all_replicate (by rfl) _
 refine Run.as ?_
 refine Run.nx ?_
 refine RunC.seq ?_
 refine RunC.sr ?_
 refine Run.mv ?_
 refine Run.m (y_len rfl Tryz.runUnderlying43 rfl) ?_
 refine Run.mv ?_
 refine Run.nx ?_
 refine RunC.block ?_
 obtain ⟨Inv0, hInv0⟩ : ∃ Inv : Nat → Act → World → Prop, ∀ mm aa ww, Inv mm aa ww ↔ (∃ (k : Nat) (o : List UInt8) (clo : List Value) (J : Imm), (I.le J) ∧ (tU8.all J clo o) ∧ (k ≤ m.length) ∧ (o.length = m.length) ∧ (o.take k = (m.take k).map fun r => dotP r v r.length) ∧ (∀ q, k ≤ q → q < m.length → o[q]? = some 0) ∧ (mm = (m.length - k)) ∧ Frm aa 44 [(1, .slice Av v.length cv), (4, .slice none 0 0), (5, .slice (some ⟨g12, 0, none⟩) m.length m.length), (13, .slice Am m.length cm), (14, .int .i64 (m.length : Int)), (15, .int .i64 (k : Int))] ∧ S E ww J [row (.slice (some ⟨g12, 0, none⟩) m.length m.length) 5 1 clo]) := ⟨_, fun _ _ _ => Iff.rfl⟩
 refine RunC.loopX Inv0 (fun aa ww hF hS => ⟨_, (hInv0 _ _ _).2 ⟨0, (List.replicate m.length ((0 : UInt8) : UInt8)), (List.replicate m.length (.int .u8 ((0 : UInt8).toNat : Int))), I, (Imm.le.refl _), hall1, (by omega), (by simp), (by simp), (by intro q _ hq; simp [hq]), rfl, hF.sub (Sub.of rfl), hS.sub (perm_self _)⟩⟩) ?_
 intro mm0 aa ww hv
 obtain ⟨k, o, clo, J, hJ_le, ho, hk, hol, hot, hoz, hmm_, hF, hS⟩ := (hInv0 _ _ _).1 hv
 clear hv
 refine RunC.go ?_ hF hS
 clear hF hS aa ww
 refine RunC.sr ?_
 refine Run.m (v := .bool (decide ((k : Int) < (m.length : Int)))) (y_bin rfl rfl rfl bn_lss) ?_
 refine Run.nx ?_
 refine RunC.seq ?_
 refine RunC.cond rfl (fun hc0 => ?_) (fun hc0 => ?_)
 ·
  try simp only [z1, z2, z3, z4, z5, z6, z7, z8, z9, z10, z11, z12, z13, z14, z15, z16] at hc0
  refine RunC.skip ?_
  refine RunQ.next ?_
  refine RunC.seq ?_
  refine RunC.block ?_
  refine RunC.sr ?_
  refine Run.mv ?_
  obtain ⟨x18, p18_2, cs18_2, hx18, hp18_2, hcs18_2, hrc18_2⟩ := Sl.at_ (P := Tryz.prog) (T := (tSl tU8)) Tryz.runUnderlying43 Tryz.sizeOf42 (hm.mono hJ_le) (k := .i64) (i := (k : Int)) (by omega) (by omega)
  replace hx18 : m[k]? = some x18 := hx18
  obtain ⟨A18_2_0, c18_2_0, rfl, f18_2_0⟩ := hcs18_2
  have hsm18_2_0 := f18_2_0.small
  have hrv := hmv _ (List.mem_of_getElem? hx18)
  refine Run.m (v := .pointer (some p18_2)) (y_index rfl rfl rfl hp18_2) ?_
  refine Run.m (v := .slice A18_2_0 x18.length c18_2_0) (y_load1 rfl Tryz.isAgg42 rfl (RCells.hd hrc18_2)) ?_
  refine Run.as ?_
  refine Run.as ?_
  refine Run.nx ?_
  refine RunC.sr ?_
  refine Run.mv ?_
  refine Run.m (y_len rfl Tryz.runUnderlying42 rfl) ?_
  refine Run.mv ?_
  refine Run.nx ?_
  refine RunC.block ?_
  obtain ⟨Inv1, hInv1⟩ : ∃ Inv : Nat → Act → World → Prop, ∀ mm aa ww, Inv mm aa ww ↔ (∃ (j : Nat) (p : List UInt8) (clp : List Value) (J2 : Imm), (J.le J2) ∧ (tU8.all J2 clp p) ∧ (j ≤ x18.length) ∧ (p.length = m.length) ∧ (p = o.set k (dotP x18 v j)) ∧ (mm = (x18.length - j)) ∧ Frm aa 44 [(1, .slice Av v.length cv), (4, .slice none 0 0), (5, .slice (some ⟨g12, 0, none⟩) m.length m.length), (13, .slice Am m.length cm), (14, .int .i64 (m.length : Int)), (15, .int .i64 (k : Int)), (16, .bool (decide ((k : Int) < (m.length : Int)))), (17, .int .i64 (k : Int)), (18, .pointer (some p18_2)), (19, .slice A18_2_0 x18.length c18_2_0), (6, .int .i64 (k : Int)), (7, .slice A18_2_0 x18.length c18_2_0), (20, .slice A18_2_0 x18.length c18_2_0), (21, .int .i64 (x18.length : Int)), (22, .int .i64 (j : Int))] ∧ S E ww J2 [row (.slice (some ⟨g12, 0, none⟩) m.length m.length) 5 1 clp]) := ⟨_, fun _ _ _ => Iff.rfl⟩
  refine RunC.loopX Inv1 (fun aa ww hF hS => ⟨_, (hInv1 _ _ _).2 ⟨0, o, clo, J, (Imm.le.refl _), ho, (by omega), hol, (by rw [show dotP x18 v 0 = 0 from by simp [dotP]]; exact (set_same (hoz k (Nat.le_refl _) (by omega))).symm), rfl, hF.sub (Sub.of rfl), hS.sub (perm_self _)⟩⟩) ?_
  intro mm1 aa ww hv
  obtain ⟨j, p, clp, J2, hJ2_le, hp, hj, hpl, hps, hmm_, hF, hS⟩ := (hInv1 _ _ _).1 hv
  clear hv
  refine RunC.go ?_ hF hS
  clear hF hS aa ww
  refine RunC.sr ?_
  refine Run.m (v := .bool (decide ((j : Int) < (x18.length : Int)))) (y_bin rfl rfl rfl bn_lss) ?_
  refine Run.nx ?_
  refine RunC.seq ?_
  refine RunC.cond rfl (fun hc1 => ?_) (fun hc1 => ?_)
  ·
   try simp only [z1, z2, z3, z4, z5, z6, z7, z8, z9, z10, z11, z12, z13, z14, z15, z16] at hc1
   refine RunC.skip ?_
   refine RunQ.next ?_
   refine RunC.seq ?_
   refine RunC.block ?_
   refine RunC.sr ?_
   refine Run.mv ?_
   obtain ⟨x25, p25_3, cs25_3, hx25, hp25_3, hcs25_3, hrc25_3⟩ := Sl.at_ (P := Tryz.prog) (T := tU8) Tryz.runUnderlying42 Tryz.sizeOf5 (f18_2_0.mono hJ2_le) (k := .i64) (i := (j : Int)) (by omega) (by omega)
   replace hx25 : x18[j]? = some x25 := hx25
   obtain rfl := hcs25_3
   refine Run.m (v := .pointer (some p25_3)) (y_index rfl rfl rfl hp25_3) ?_
   refine Run.m (v := .int .u8 (x25.toNat : Int)) (y_load1 rfl Tryz.isAgg5 rfl (RCells.hd hrc25_3)) ?_
   refine Run.as ?_
   refine Run.as ?_
   refine Run.nx ?_
   refine RunC.regionT [14] [row (.slice (some ⟨g12, 0, none⟩) m.length m.length) 5 1 clp] (by kernel_rfl) rfl ?_
   refine RunT.p (v := .slice (some ⟨g12, 0, none⟩) m.length m.length) (listed' := #[true, false, false, false, false, false, false, false, false, false, false, false, false, false, false]) 0 rfl (by kernel_rfl) (by kernel_rfl) (by kernel_rfl) rfl (fun _ => ⟨(Imm.le.refl _), (perm_self _)⟩) (y_move rfl rfl) (.plain rfl) rfl (by decide) rfl ?_
   refine RunT.p (v := .int .i64 (k : Int)) (listed' := #[true, true, false, false, false, false, false, false, false, false, false, false, false, false, false]) 1 rfl (by kernel_rfl) (by kernel_rfl) (by kernel_rfl) rfl (fun _ => ⟨(Imm.le.refl _), (perm_self _)⟩) (y_move rfl rfl) (.plain rfl) rfl (by decide) rfl ?_
   refine RunT.p (v := .slice (some ⟨g12, 0, none⟩) m.length m.length) (listed' := #[true, true, true, false, false, false, false, false, false, false, false, false, false, false, false]) 2 rfl (by kernel_rfl) (by kernel_rfl) (by kernel_rfl) rfl (fun _ => ⟨(Imm.le.refl _), (perm_self _)⟩) (y_move rfl rfl) (.plain rfl) rfl (by decide) rfl ?_
   refine RunT.p (v := .int .i64 (k : Int)) (listed' := #[true, true, true, true, false, false, false, false, false, false, false, false, false, false, false]) 3 rfl (by kernel_rfl) (by kernel_rfl) (by kernel_rfl) rfl (fun _ => ⟨(Imm.le.refl _), (perm_self _)⟩) (y_move rfl rfl) (.plain rfl) rfl (by decide) rfl ?_
   obtain ⟨x31, hx31⟩ : ∃ x, p[k]? = some x := ⟨_, List.getElem?_eq_getElem (by first | exact (by omega) | omega | (simp; omega))⟩
   obtain ⟨cs31_4, hcs31_4, htk31_4, hgt31_4⟩ := all_get hp hx31
   obtain rfl := hcs31_4
   refine RunT.y (v := .pointer (some (pt (some ⟨g12, 0, none⟩) (k * 1)))) (listed' := #[true, true, true, true, true, false, false, false, false, false, false, false, false, false, false]) 4 rfl (by kernel_rfl) (by kernel_rfl) (by kernel_rfl) (by kernel_rfl) rfl (Imm.le.refl _) (perm_self _) (y_indexR (q := (k : Int)) 0 rfl rfl rfl Tryz.runUnderlying42 Tryz.sizeOf5 rfl (by omega) (by omega)) (.plain rfl) rfl (by decide) rfl ?_
   refine RunT.y (v := .int .u8 (x31.toNat : Int)) (listed' := #[true, true, true, true, true, true, false, false, false, false, false, false, false, false, false]) 5 rfl (by kernel_rfl) (by kernel_rfl) (by kernel_rfl) (by kernel_rfl) rfl (Imm.le.refl _) (perm_self _) (y_loadR1 0 rfl Tryz.isAgg5 rfl rfl (hgt31_4 0 _ rfl)) (.plain rfl) rfl (by decide) rfl ?_
   refine RunT.p (v := .int .u8 (x25.toNat : Int)) (listed' := #[true, true, true, true, true, true, true, false, false, false, false, false, false, false, false]) 6 rfl (by kernel_rfl) (by kernel_rfl) (by kernel_rfl) rfl (fun _ => ⟨(Imm.le.refl _), (perm_self _)⟩) (y_move rfl rfl) (.plain rfl) rfl (by decide) rfl ?_
   refine RunT.p (v := .slice Av v.length cv) (listed' := #[true, true, true, true, true, true, true, true, false, false, false, false, false, false, false]) 7 rfl (by kernel_rfl) (by kernel_rfl) (by kernel_rfl) rfl (fun _ => ⟨(Imm.le.refl _), (perm_self _)⟩) (y_move rfl rfl) (.plain rfl) rfl (by decide) rfl ?_
   refine RunT.p (v := .int .i64 (j : Int)) (listed' := #[true, true, true, true, true, true, true, true, true, false, false, false, false, false, false]) 8 rfl (by kernel_rfl) (by kernel_rfl) (by kernel_rfl) rfl (fun _ => ⟨(Imm.le.refl _), (perm_self _)⟩) (y_move rfl rfl) (.plain rfl) rfl (by decide) rfl ?_
   obtain ⟨x36, p36_5, cs36_5, hx36, hp36_5, hcs36_5, hrc36_5⟩ := Sl.at_ (P := Tryz.prog) (T := tU8) Tryz.runUnderlying42 Tryz.sizeOf5 (hv.mono (hJ_le.trans hJ2_le)) (k := .i64) (i := (j : Int)) (by omega) (by omega)
   replace hx36 : v[j]? = some x36 := hx36
   obtain rfl := hcs36_5
   refine RunT.p (v := .pointer (some p36_5)) (listed' := #[true, true, true, true, true, true, true, true, true, true, false, false, false, false, false]) 9 rfl (by kernel_rfl) (by kernel_rfl) (by kernel_rfl) rfl (fun _ => ⟨(Imm.le.refl _), (perm_self _)⟩) (y_index rfl rfl rfl hp36_5) (.plain rfl) rfl (by decide) rfl ?_
   refine RunT.y (v := .int .u8 (x36.toNat : Int)) (listed' := #[true, true, true, true, true, true, true, true, true, true, true, false, false, false, false]) 10 rfl (by kernel_rfl) (by kernel_rfl) (by kernel_rfl) (by kernel_rfl) rfl (Imm.le.refl _) (perm_self _) (y_load1 rfl Tryz.isAgg5 rfl (RCells.hd hrc36_5)) (.plain rfl) rfl (by decide) rfl ?_
   refine RunT.step (listed' := #[true, true, true, true, true, true, true, true, true, true, true, true, false, false, false]) 11 rfl (by kernel_rfl) rfl ?_
   refine Run.callV (en_func rfl Tryz.call166 rfl) (conv_u8 (c_gf_Mul _ x25 x36)) rfl rfl (by decide) (fun hI6 => ?_)
   refine Run.nil ?_
   refine RunQ.stepEnd (fun _ => ⟨(Imm.le.refl _), (perm_self _)⟩) ?_
   refine RunT.step (listed' := #[true, true, true, true, true, true, true, true, true, true, true, true, true, false, false]) 12 rfl (by kernel_rfl) rfl ?_
   refine Run.callV (en_func rfl Tryz.call141 rfl) (conv_u8 (c_gf_Add _ x31 (gmul x25 x36))) rfl rfl (by decide) (fun hI7 => ?_)
   refine Run.nil ?_
   refine RunQ.stepEnd (fun _ => ⟨(Imm.le.refl _), (perm_self _)⟩) ?_
   obtain ⟨x40, hx40⟩ : ∃ x, p[k]? = some x := ⟨_, List.getElem?_eq_getElem (by first | exact (by omega) | omega | (simp; omega))⟩
   obtain ⟨cs40_8, hcs40_8, htk40_8, hgt40_8⟩ := all_get hp hx40
   obtain rfl := hcs40_8
   refine RunT.y (v := .pointer (some (pt (some ⟨g12, 0, none⟩) (k * 1)))) (listed' := #[true, true, true, true, true, true, true, true, true, true, true, true, true, true, false]) 13 rfl (by kernel_rfl) (by kernel_rfl) (by kernel_rfl) (by kernel_rfl) rfl (Imm.le.refl _) (perm_self _) (y_indexR (q := (k : Int)) 0 rfl rfl rfl Tryz.runUnderlying42 Tryz.sizeOf5 rfl (by omega) (by omega)) (.plain rfl) rfl (by decide) rfl ?_
   refine RunT.step (listed' := #[true, true, true, true, true, true, true, true, true, true, true, true, true, true, true]) 14 rfl (by kernel_rfl) rfl ?_
   have hset9 : tU8.rd J2 [.int .u8 ((x31 ^^^ (gmul x25 x36)).toNat : Int)] (x31 ^^^ (gmul x25 x36)) := rfl
   have hall9 := all_set (k := k) hp (List.getElem?_eq_some_iff.1 hx40).1 hset9
   refine Run.storeR (vs := [.int .u8 ((x31 ^^^ (gmul x25 x36)).toNat : Int)]) (xs' := (clp.take (k * 1) ++ [.int .u8 ((x31 ^^^ (gmul x25 x36)).toNat : Int)] ++ clp.drop (k * 1 + 1))) (own' := []) 0 rfl rfl rfl Tryz.sizeOf5 rfl rfl (by decide) rfl rfl rfl (row_room (vs := [.int .u8 ((x31 ^^^ (gmul x25 x36)).toNat : Int)]) hp (List.getElem?_eq_some_iff.1 hx40).1 rfl) rfl rfl rfl ?_
   refine Run.nil ?_
   refine RunQ.stepEnd (fun h => absurd (show false = true from h) Bool.false_ne_true) ?_
   refine RunT.done (by kernel_rfl) ?_
   refine RunQ.inB ?_
   refine RunQ.next ?_
   refine RunC.region ?_
   refine Run.m (v := .int .i64 ((j : Int) + 1)) (y_bin rfl rfl rfl (bn_add (by omega) (by omega))) ?_
   refine Run.mv ?_
   refine Run.nil ?_
   exact RunQ.thenI (fun aa ww hF hS => ⟨_, (by omega), (hInv1 _ _ _).2 ⟨(j + 1), (p.set k (x31 ^^^ (gmul x25 x36))), (clp.take (k * 1) ++ [.int .u8 ((x31 ^^^ (gmul x25 x36)).toNat : Int)] ++ clp.drop (k * 1 + 1)), J2, hJ2_le, hall9, (by omega), (by simp; omega), (by rw [hps, List.set_set, dotP_succ hx25 hx36]; rw [hps, List.getElem?_set_self (by omega)] at hx31; rw [Option.some.inj hx31]), rfl, hF.sub (Sub.of rfl), hS.sub (perm_self _)⟩⟩)
  ·
   try simp only [z1, z2, z3, z4, z5, z6, z7, z8, z9, z10, z11, z12, z13, z14, z15, z16] at hc1
   refine RunC.exit ?_
   refine RunQ.pass (fun h => by cases h) ?_
   refine RunQ.pass (fun h => by cases h) ?_
   refine RunQ.out ?_
   refine RunQ.inB ?_
   refine RunQ.next ?_
   refine RunC.region ?_
   refine Run.m (v := .int .i64 ((k : Int) + 1)) (y_bin rfl rfl rfl (bn_add (by omega) (by omega))) ?_
   refine Run.mv ?_
   refine Run.nil ?_
   exact RunQ.thenI (fun aa ww hF hS => ⟨_, (by omega), (hInv0 _ _ _).2 ⟨(k + 1), p, clp, J2, (hJ_le.trans hJ2_le), hp, (by omega), (by omega), (by rw [hps, set_take (by omega), take_snoc' hx18, hot, show j = x18.length from by omega]; simp), (by intro q h1 h2; rw [hps, List.getElem?_set_ne (by omega)]; exact hoz q (by omega) h2), rfl, hF.sub (Sub.of rfl), hS.sub (perm_self _)⟩⟩)
 ·
  try simp only [z1, z2, z3, z4, z5, z6, z7, z8, z9, z10, z11, z12, z13, z14, z15, z16] at hc0
  refine RunC.exit ?_
  refine RunQ.pass (fun h => by cases h) ?_
  refine RunQ.pass (fun h => by cases h) ?_
  refine RunQ.out ?_
  refine RunQ.next ?_
  refine RunC.sr ?_
  refine Run.mv ?_
  refine Run.as ?_
  refine Run.nx ?_
  refine RunC.ret ?_
  refine RunQ.freezeR 0 rfl (own' := []) rfl (fun J10 hleJ10 hfzJ10 => ?_)
  have hslJ10 : Sl tU8 J10 (some ⟨g12, 0, none⟩) m.length o := Sl.of_rowN hfzJ10 hol rfl (ho.mono hleJ10)
  refine RunQ.cast (s := 5) (v' := .slice (some ⟨g12, 0, none⟩) o.length m.length) rfl (congrArg (fun n => Value.slice (some ⟨g12, 0, none⟩) n m.length) (show m.length = _ from (show o.length = m.length from hol).symm)) ?_
  refine RunQ.cast (s := 43) (v' := .slice (some ⟨g12, 0, none⟩) o.length m.length) rfl (congrArg (fun n => Value.slice (some ⟨g12, 0, none⟩) n m.length) (show m.length = _ from (show o.length = m.length from hol).symm)) ?_
  refine RunQ.cast (s := 4) (v' := .slice (some ⟨g12, 0, none⟩) o.length m.length) rfl (congrArg (fun n => Value.slice (some ⟨g12, 0, none⟩) n m.length) (show m.length = _ from (show o.length = m.length from hol).symm)) ?_
  refine RunQ.weak Sub.refl (perm_nil _) ?_
  refine RunQ.fin1 (.inl rfl) Tryz.results160 (rv_tmp rfl) ?_
  exact ⟨rfl, _, rfl, (rd_eq (T := (tSl tU8)) (x := o) ⟨_, _, rfl, hslJ10⟩ (by rw [show o = o.take k from (List.take_of_length_le (by omega)).symm, hot, List.take_of_length_le (by omega)]; rfl))⟩

theorem c_matrix_Right_1 (I : Imm) {Ar : Option Addr} {cr : Nat} (r : List UInt8) (hr : Sl tU8 I Ar cr r) (gm : Nat) {csm : List Value} (m : (List (List UInt8))) (hm : (tSl (tSl tU8)).rd I csm m) (hgm : RCells I ⟨gm, 0, none⟩ csm) (hlen : 0 < m.length) : Con Tryz.prog 167 [.slice Ar r.length cr, .pointer (some (⟨gm, 0, none⟩ : Addr))].toArray I [] (Ret1 (tBool.o) (decide ((r.length : Int) ≠ h0len m))) := by
 have hsmr := hr.small
 obtain ⟨Am_0, cm_0, rfl, fm_0⟩ := hm
 have hsmm_0 := fm_0.small
 refine Con.enter (n := 11) (L := [(0, .slice Ar r.length cr), (1, .pointer (some (⟨gm, 0, none⟩ : Addr)))]) Tryz.func167 rfl rfl (Nat.le_of_ble_eq_true rfl) rfl (fun E => ?_)
 refine RunC.sr ?_
 refine Run.as ?_
 refine Run.nx ?_
 refine RunC.sr ?_
 refine Run.mv ?_
 refine Run.m (y_len rfl Tryz.runUnderlying42 rfl) ?_
 refine Run.m (v := .slice Am_0 m.length cm_0) (y_load1 rfl Tryz.isAgg43 rfl (RCells.hd hgm)) ?_
 obtain ⟨x7, p7_1, cs7_1, hx7, hp7_1, hcs7_1, hrc7_1⟩ := Sl.at_ (P := Tryz.prog) (T := (tSl tU8)) Tryz.runUnderlying43 Tryz.sizeOf42 fm_0 (k := .i64) (i := 0) (by omega) (by omega)
 replace hx7 : m[0]? = some x7 := hx7
 obtain ⟨A7_1_0, c7_1_0, rfl, f7_1_0⟩ := hcs7_1
 have hsm7_1_0 := f7_1_0.small
 have h0 := h0len_of hx7
 refine Run.m (v := .pointer (some p7_1)) (y_index rfl rfl rfl hp7_1) ?_
 refine Run.m (v := .slice A7_1_0 x7.length c7_1_0) (y_load1 rfl Tryz.isAgg42 rfl (RCells.hd hrc7_1)) ?_
 refine Run.m (y_len rfl Tryz.runUnderlying42 rfl) ?_
 refine Run.m (v := .bool (decide ((r.length : Int) ≠ (x7.length : Int)))) (y_bin rfl rfl rfl bn_neq) ?_
 refine Run.as ?_
 refine Run.nx ?_
 refine RunC.ret ?_
 refine RunQ.weak Sub.refl (perm_nil _) ?_
 refine RunQ.fin1 (.inl rfl) Tryz.results167 (rv_tmp rfl) ?_
 exact ⟨rfl, _, rfl, (rd_eq (T := tBool) (x := decide ((r.length : Int) ≠ (x7.length : Int))) rfl (by rw [h0]))⟩

theorem c_erasure_alike_1 (I : Imm) {Ar : Option Addr} {cr : Nat} (r : List UInt8) (hr : Sl tU8 I Ar cr r) (gm : Nat) {csm : List Value} (m : (List (List UInt8))) (hm : (tSl (tSl tU8)).rd I csm m) (hgm : RCells I ⟨gm, 0, none⟩ csm) (hlen : 0 < m.length) : Con Tryz.prog 139 [.slice Ar r.length cr, .pointer (some (⟨gm, 0, none⟩ : Addr))].toArray I [] (Ret1 (tBool.o) (decide ((r.length : Int) ≠ h0len m))) := by
 have hsmr := hr.small
 obtain ⟨Am_0, cm_0, rfl, fm_0⟩ := hm
 have hsmm_0 := fm_0.small
 refine Con.enter (n := 11) (L := [(0, .slice Ar r.length cr), (1, .pointer (some (⟨gm, 0, none⟩ : Addr)))]) Tryz.func139 rfl rfl (Nat.le_of_ble_eq_true rfl) rfl (fun E => ?_)
 refine RunC.sr ?_
 refine Run.as ?_
 refine Run.nx ?_
 refine RunC.sr ?_
 refine Run.mv ?_
 refine Run.m (y_len rfl Tryz.runUnderlying42 rfl) ?_
 refine Run.m (v := .slice Am_0 m.length cm_0) (y_load1 rfl Tryz.isAgg43 rfl (RCells.hd hgm)) ?_
 obtain ⟨x7, p7_1, cs7_1, hx7, hp7_1, hcs7_1, hrc7_1⟩ := Sl.at_ (P := Tryz.prog) (T := (tSl tU8)) Tryz.runUnderlying43 Tryz.sizeOf42 fm_0 (k := .i64) (i := 0) (by omega) (by omega)
 replace hx7 : m[0]? = some x7 := hx7
 obtain ⟨A7_1_0, c7_1_0, rfl, f7_1_0⟩ := hcs7_1
 have hsm7_1_0 := f7_1_0.small
 have h0 := h0len_of hx7
 refine Run.m (v := .pointer (some p7_1)) (y_index rfl rfl rfl hp7_1) ?_
 refine Run.m (v := .slice A7_1_0 x7.length c7_1_0) (y_load1 rfl Tryz.isAgg42 rfl (RCells.hd hrc7_1)) ?_
 refine Run.m (y_len rfl Tryz.runUnderlying42 rfl) ?_
 refine Run.m (v := .bool (decide ((r.length : Int) ≠ (x7.length : Int)))) (y_bin rfl rfl rfl bn_neq) ?_
 refine Run.as ?_
 refine Run.nx ?_
 refine RunC.ret ?_
 refine RunQ.weak Sub.refl (perm_nil _) ?_
 refine RunQ.fin1 (.inl rfl) Tryz.results139 (rv_tmp rfl) ?_
 exact ⟨rfl, _, rfl, (rd_eq (T := tBool) (x := decide ((r.length : Int) ≠ (x7.length : Int))) rfl (by rw [h0]))⟩

theorem c_erasure_alike (I : Imm) {Am : Option Addr} {cm : Nat} (m : List (List UInt8)) (hm : Sl (tSl tU8) I Am cm m) : Con Tryz.prog 105 [.slice Am m.length cm].toArray I [] (Ret1 (tBool.o) (lAlike m)) := by
 have hsmm := hm.small
 refine Con.enter (n := 7) (L := [(0, .slice Am m.length cm)]) Tryz.func105 rfl rfl (Nat.le_of_ble_eq_true rfl) rfl (fun E => ?_)
 refine RunC.sr ?_
 refine Run.box (cs := [.slice Am m.length cm]) rfl rfl rfl rfl rfl (by decide) (fun g1 => ?_)
 refine Run.as ?_
 refine Run.nx ?_
 refine RunC.seq ?_
 refine RunC.freezeB 0 rfl (own' := []) rfl (fun J1 hleJ1 hfzJ1 => ?_)
 refine RunC.region ?_
 refine Run.m (v := .slice Am m.length cm) (y_load1 rfl Tryz.isAgg43 rfl (RCells.at_ hfzJ1 0 rfl rfl)) ?_
 refine Run.m (v := .func (.func 139) #[] #[.pointer (some ⟨g1, 0, none⟩)]) (y_makeFunc (vp := []) (vq := [.pointer (some ⟨g1, 0, none⟩)]) rfl rfl rfl) ?_
 have hcp3 : (tSl (tSl tU8)).rd J1 [.slice Am m.length cm] m := ⟨_, _, rfl, (hm.mono hleJ1)⟩
 refine Run.callV (en_func rfl Tryz.call79 rfl) (conv_bool (c_ContainsFunc_Lbyte _ m (hm.mono hleJ1) 139 [.pointer (some ⟨g1, 0, none⟩)] (fun x => (decide ((x.length : Int) ≠ h0len m))) Tryz.call139 (fun J cs x hle hx hm => by obtain ⟨A9, c9, rfl, hx9⟩ := hx; exact c_erasure_alike_1 J x hx9 _ m ((tSl (tSl tU8)).mono hle hcp3) (RCells.mono hle hfzJ1) (List.length_pos_of_mem hm)))) rfl rfl (by decide) (fun hI4 => ?_)
 refine Run.m (v := .bool (!(m.any (fun x => (decide ((x.length : Int) ≠ h0len m)))))) (y_not (b := (m.any (fun x => (decide ((x.length : Int) ≠ h0len m))))) rfl rfl) ?_
 refine Run.as ?_
 refine Run.nx ?_
 refine RunC.ret ?_
 refine RunQ.weak Sub.refl (perm_nil _) ?_
 refine RunQ.fin1 (.inl rfl) Tryz.results105 (rv_tmp rfl) ?_
 exact ⟨rfl, _, rfl, (rd_eq (T := tBool) (x := (!(m.any (fun x => (decide ((x.length : Int) ≠ h0len m)))))) rfl (by rfl))⟩

theorem c_matrix_Right (I : Imm) {Am : Option Addr} {cm : Nat} (m : List (List UInt8)) (hm : Sl (tSl tU8) I Am cm m) : Con Tryz.prog 159 [.slice Am m.length cm].toArray I [] (Ret1 (tBool.o) (mRight m)) := by
 have hsmm := hm.small
 refine Con.enter (n := 29) (L := [(0, .slice Am m.length cm)]) Tryz.func159 rfl rfl (Nat.le_of_ble_eq_true rfl) rfl (fun E => ?_)
 refine RunC.sr ?_
 refine Run.box (cs := [.slice Am m.length cm]) rfl rfl rfl rfl rfl (by decide) (fun g1 => ?_)
 refine Run.as ?_
 refine Run.nx ?_
 refine RunC.seq ?_
 refine RunC.seq ?_
 refine RunC.freezeB 0 rfl (own' := []) rfl (fun J1 hleJ1 hfzJ1 => ?_)
 refine RunC.region ?_
 refine Run.m (v := .slice Am m.length cm) (y_load1 rfl Tryz.isAgg43 rfl (RCells.at_ hfzJ1 0 rfl rfl)) ?_
 refine Run.m (y_len rfl Tryz.runUnderlying43 rfl) ?_
 refine Run.m (v := .bool (decide ((m.length : Int) < 1))) (y_bin rfl rfl rfl bn_lss) ?_
 refine Run.mv ?_
 refine Run.split 4 rfl (b := decide ((m.length : Int) < 1)) (d := 10) (v := .bool ((decide ((m.length : Int) < 1)) || (decide ((m.length : Int) > 255)))) (fun hb6 K6 => ?_) (fun hb6 K6 => ?_) ?_
 ·
  have hc1006 := hb6; try simp only [z1, z2, z3, z4, z5, z6, z7, z8, z9, z10, z11, z12, z13, z14, z15, z16] at hc1006
  refine Run.no rfl rfl rfl rfl (hb6) rfl (by decide) ?_
  refine Run.no rfl rfl rfl rfl (hb6) rfl (by decide) ?_
  refine Run.no rfl rfl rfl rfl (hb6) rfl (by decide) ?_
  refine Run.y (y_pickB rfl rfl (hb6) rfl) rfl rfl (by decide) ?_
  exact K6 _ _ _ (Imm.le.refl _) (by rw [hb6]; simp) (Sub.tl 3 rfl rfl)
 ·
  have hc1006 := hb6; try simp only [z1, z2, z3, z4, z5, z6, z7, z8, z9, z10, z11, z12, z13, z14, z15, z16] at hc1006
  refine Run.yes (v := .slice Am m.length cm) (y_load1 rfl Tryz.isAgg43 rfl (RCells.at_ hfzJ1 0 rfl rfl)) rfl rfl rfl rfl (hb6) rfl (by decide) ?_
  refine Run.yes (v := .int .i64 (m.length : Int)) (y_len rfl Tryz.runUnderlying43 rfl) rfl rfl rfl rfl (hb6) rfl (by decide) ?_
  refine Run.yes (v := .bool (decide ((m.length : Int) > 255))) (y_bin rfl rfl rfl bn_gtr) rfl rfl rfl rfl (hb6) rfl (by decide) ?_
  refine Run.y (y_pickB rfl rfl (hb6) rfl) rfl rfl (by decide) ?_
  exact K6 _ _ _ (Imm.le.refl _) (by rw [hb6]; simp) (Sub.tl 3 rfl rfl)
 refine Run.mv ?_
 refine Run.split 6 rfl (b := ((decide ((m.length : Int) < 1)) || (decide ((m.length : Int) > 255)))) (d := 17) (v := .bool (((decide ((m.length : Int) < 1)) || (decide ((m.length : Int) > 255))) || (decide (h0len m < 1)))) (fun hb11 K11 => ?_) (fun hb11 K11 => ?_) ?_
 ·
  have hc1011 := hb11; try simp only [z1, z2, z3, z4, z5, z6, z7, z8, z9, z10, z11, z12, z13, z14, z15, z16] at hc1011
  refine Run.no rfl rfl rfl rfl (hb11) rfl (by decide) ?_
  refine Run.no rfl rfl rfl rfl (hb11) rfl (by decide) ?_
  refine Run.no rfl rfl rfl rfl (hb11) rfl (by decide) ?_
  refine Run.no rfl rfl rfl rfl (hb11) rfl (by decide) ?_
  refine Run.no rfl rfl rfl rfl (hb11) rfl (by decide) ?_
  refine Run.y (y_pickB rfl rfl (hb11) rfl) rfl rfl (by decide) ?_
  exact K11 _ _ _ (Imm.le.refl _) (by rw [hb11]; first | (simp; done) | (rw [h0len_of hx13]; simp)) (Sub.tl 5 rfl rfl)
 ·
  have hc1011 := hb11; try simp only [z1, z2, z3, z4, z5, z6, z7, z8, z9, z10, z11, z12, z13, z14, z15, z16] at hc1011
  refine Run.yes (v := .slice Am m.length cm) (y_load1 rfl Tryz.isAgg43 rfl (RCells.at_ hfzJ1 0 rfl rfl)) rfl rfl rfl rfl (hb11) rfl (by decide) ?_
  obtain ⟨x13, p13_2, cs13_2, hx13, hp13_2, hcs13_2, hrc13_2⟩ := Sl.at_ (P := Tryz.prog) (T := (tSl tU8)) Tryz.runUnderlying43 Tryz.sizeOf42 (hm.mono hleJ1) (k := .i64) (i := 0) (by omega) (by omega)
  replace hx13 : m[0]? = some x13 := hx13
  obtain ⟨A13_2_0, c13_2_0, rfl, f13_2_0⟩ := hcs13_2
  have hsm13_2_0 := f13_2_0.small
  refine Run.yes (v := .pointer (some p13_2)) (y_index rfl rfl rfl hp13_2) rfl rfl rfl rfl (hb11) rfl (by decide) ?_
  refine Run.yes (v := .slice A13_2_0 x13.length c13_2_0) (y_load1 rfl Tryz.isAgg42 rfl (RCells.hd hrc13_2)) rfl rfl rfl rfl (hb11) rfl (by decide) ?_
  refine Run.yes (v := .int .i64 (x13.length : Int)) (y_len rfl Tryz.runUnderlying42 rfl) rfl rfl rfl rfl (hb11) rfl (by decide) ?_
  refine Run.yes (v := .bool (decide ((x13.length : Int) < 1))) (y_bin rfl rfl rfl bn_lss) rfl rfl rfl rfl (hb11) rfl (by decide) ?_
  refine Run.y (y_pickB rfl rfl (hb11) rfl) rfl rfl (by decide) ?_
  exact K11 _ _ _ (Imm.le.refl _) (by rw [hb11]; first | (simp; done) | (rw [h0len_of hx13]; simp)) (Sub.tl 5 rfl rfl)
 refine Run.mv ?_
 refine Run.split 6 rfl (b := (((decide ((m.length : Int) < 1)) || (decide ((m.length : Int) > 255))) || (decide (h0len m < 1)))) (d := 24) (v := .bool ((((decide ((m.length : Int) < 1)) || (decide ((m.length : Int) > 255))) || (decide (h0len m < 1))) || (decide (h0len m > 255)))) (fun hb18 K18 => ?_) (fun hb18 K18 => ?_) ?_
 ·
  have hc1018 := hb18; try simp only [z1, z2, z3, z4, z5, z6, z7, z8, z9, z10, z11, z12, z13, z14, z15, z16] at hc1018
  refine Run.no rfl rfl rfl rfl (hb18) rfl (by decide) ?_
  refine Run.no rfl rfl rfl rfl (hb18) rfl (by decide) ?_
  refine Run.no rfl rfl rfl rfl (hb18) rfl (by decide) ?_
  refine Run.no rfl rfl rfl rfl (hb18) rfl (by decide) ?_
  refine Run.no rfl rfl rfl rfl (hb18) rfl (by decide) ?_
  refine Run.y (y_pickB rfl rfl (hb18) rfl) rfl rfl (by decide) ?_
  exact K18 _ _ _ (Imm.le.refl _) (by rw [hb18]; first | (simp; done) | (rw [h0len_of hx20]; simp)) (Sub.tl 5 rfl rfl)
 ·
  have hc1018 := hb18; try simp only [z1, z2, z3, z4, z5, z6, z7, z8, z9, z10, z11, z12, z13, z14, z15, z16] at hc1018
  refine Run.yes (v := .slice Am m.length cm) (y_load1 rfl Tryz.isAgg43 rfl (RCells.at_ hfzJ1 0 rfl rfl)) rfl rfl rfl rfl (hb18) rfl (by decide) ?_
  obtain ⟨x20, p20_3, cs20_3, hx20, hp20_3, hcs20_3, hrc20_3⟩ := Sl.at_ (P := Tryz.prog) (T := (tSl tU8)) Tryz.runUnderlying43 Tryz.sizeOf42 (hm.mono hleJ1) (k := .i64) (i := 0) (by omega) (by omega)
  replace hx20 : m[0]? = some x20 := hx20
  obtain ⟨A20_3_0, c20_3_0, rfl, f20_3_0⟩ := hcs20_3
  have hsm20_3_0 := f20_3_0.small
  refine Run.yes (v := .pointer (some p20_3)) (y_index rfl rfl rfl hp20_3) rfl rfl rfl rfl (hb18) rfl (by decide) ?_
  refine Run.yes (v := .slice A20_3_0 x20.length c20_3_0) (y_load1 rfl Tryz.isAgg42 rfl (RCells.hd hrc20_3)) rfl rfl rfl rfl (hb18) rfl (by decide) ?_
  refine Run.yes (v := .int .i64 (x20.length : Int)) (y_len rfl Tryz.runUnderlying42 rfl) rfl rfl rfl rfl (hb18) rfl (by decide) ?_
  refine Run.yes (v := .bool (decide ((x20.length : Int) > 255))) (y_bin rfl rfl rfl bn_gtr) rfl rfl rfl rfl (hb18) rfl (by decide) ?_
  refine Run.y (y_pickB rfl rfl (hb18) rfl) rfl rfl (by decide) ?_
  exact K18 _ _ _ (Imm.le.refl _) (by rw [hb18]; first | (simp; done) | (rw [h0len_of hx20]; simp)) (Sub.tl 5 rfl rfl)
 refine Run.nx ?_
 refine RunC.cond rfl (fun hc0 => ?_) (fun hc0 => ?_)
 ·
  try simp only [z1, z2, z3, z4, z5, z6, z7, z8, z9, z10, z11, z12, z13, z14, z15, z16] at hc0
  refine RunC.sr ?_
  refine Run.as ?_
  refine Run.nx ?_
  refine RunC.ret ?_
  refine RunQ.pass (fun h => by cases h) ?_
  refine RunQ.weak Sub.refl (perm_nil _) ?_
  refine RunQ.fin1 (.inl rfl) Tryz.results159 (rv_tmp rfl) ?_
  exact ⟨rfl, _, rfl, (rd_eq (T := tBool) (x := false) rfl (by first | exact (mRight_no (by omega)).symm | exact (mRight_yes (by omega)).symm))⟩
 ·
  try simp only [z1, z2, z3, z4, z5, z6, z7, z8, z9, z10, z11, z12, z13, z14, z15, z16] at hc0
  refine RunC.skip ?_
  refine RunQ.next ?_
  refine RunC.sr ?_
  refine Run.m (v := .slice Am m.length cm) (y_load1 rfl Tryz.isAgg43 rfl (RCells.at_ hfzJ1 0 rfl rfl)) ?_
  refine Run.m (v := .func (.func 167) #[] #[.pointer (some ⟨g1, 0, none⟩)]) (y_makeFunc (vp := []) (vq := [.pointer (some ⟨g1, 0, none⟩)]) rfl rfl rfl) ?_
  have hcp5 : (tSl (tSl tU8)).rd J1 [.slice Am m.length cm] m := ⟨_, _, rfl, (hm.mono hleJ1)⟩
  refine Run.callV (en_func rfl Tryz.call79 rfl) (conv_bool (c_ContainsFunc_Lbyte _ m (hm.mono hleJ1) 167 [.pointer (some ⟨g1, 0, none⟩)] (fun x => (decide ((x.length : Int) ≠ h0len m))) Tryz.call167 (fun J cs x hle hx hm => by obtain ⟨A9, c9, rfl, hx9⟩ := hx; exact c_matrix_Right_1 J x hx9 _ m ((tSl (tSl tU8)).mono hle hcp5) (RCells.mono hle hfzJ1) (List.length_pos_of_mem hm)))) rfl rfl (by decide) (fun hI6 => ?_)
  refine Run.m (v := .bool (!(m.any (fun x => (decide ((x.length : Int) ≠ h0len m)))))) (y_not (b := (m.any (fun x => (decide ((x.length : Int) ≠ h0len m))))) rfl rfl) ?_
  refine Run.as ?_
  refine Run.nx ?_
  refine RunC.ret ?_
  refine RunQ.weak Sub.refl (perm_nil _) ?_
  refine RunQ.fin1 (.inl rfl) Tryz.results159 (rv_tmp rfl) ?_
  exact ⟨rfl, _, rfl, (rd_eq (T := tBool) (x := (!(m.any (fun x => (decide ((x.length : Int) ≠ h0len m)))))) rfl (by first | exact (mRight_no (by omega)).symm | exact (mRight_yes (by omega)).symm))⟩

theorem c_matrix_Apply (I : Imm) {Am : Option Addr} {cm : Nat} (m : List (List UInt8)) (hm : Sl (tSl tU8) I Am cm m) {Av : Option Addr} {cv : Nat} (v : List UInt8) (hv : Sl tU8 I Av cv v) : Con Tryz.prog 142 [.slice Am m.length cm, .slice Av v.length cv].toArray I [] (Ret2 ((tSl tU8).o) (tInt.o) ((mApp m v).1) ((mApp m v).2)) := by
 have hsmm := hm.small
 have hsmv := hv.small
 refine Con.enter (n := 21) (L := [(0, .slice Am m.length cm), (1, .slice Av v.length cv)]) Tryz.func142 rfl rfl (Nat.le_of_ble_eq_true rfl) rfl (fun E => ?_)
 refine RunC.sr ?_
 refine Run.as ?_
 refine Run.as ?_
 refine Run.nx ?_
 refine RunC.seq ?_
 refine RunC.sr ?_
 refine Run.mv ?_
 refine Run.callV (en_func rfl Tryz.call159 rfl) (conv_bool (c_matrix_Right _ m hm)) rfl rfl (by decide) (fun hI1 => ?_)
 have hpos := fun h => mRight_pos (m := m) h
 refine Run.m (v := .bool (!(mRight m))) (y_not (b := (mRight m)) rfl rfl) ?_
 refine Run.mv ?_
 refine Run.split 8 rfl (b := (!(mRight m))) (d := 17) (v := .bool ((!(mRight m)) || (decide ((v.length : Int) ≠ h0len m)))) (fun hb9 K9 => ?_) (fun hb9 K9 => ?_) ?_
 ·
  have hc1009 := hb9; try simp only [z1, z2, z3, z4, z5, z6, z7, z8, z9, z10, z11, z12, z13, z14, z15, z16] at hc1009
  refine Run.no rfl rfl rfl rfl (hb9) rfl (by decide) ?_
  refine Run.no rfl rfl rfl rfl (hb9) rfl (by decide) ?_
  refine Run.no rfl rfl rfl rfl (hb9) rfl (by decide) ?_
  refine Run.no rfl rfl rfl rfl (hb9) rfl (by decide) ?_
  refine Run.no rfl rfl rfl rfl (hb9) rfl (by decide) ?_
  refine Run.no rfl rfl rfl rfl (hb9) rfl (by decide) ?_
  refine Run.no rfl rfl rfl rfl (hb9) rfl (by decide) ?_
  refine Run.y (y_pickB rfl rfl (hb9) rfl) rfl rfl (by decide) ?_
  exact K9 _ _ _ (Imm.le.refl _) (by rw [hb9]; first | (simp; done) | (rw [h0len_of hx13]; simp)) (Sub.tl 7 rfl rfl)
 ·
  have hc1009 := hb9; try simp only [z1, z2, z3, z4, z5, z6, z7, z8, z9, z10, z11, z12, z13, z14, z15, z16] at hc1009
  refine Run.yes (v := .slice Av v.length cv) (y_move rfl rfl) rfl rfl rfl rfl (hb9) rfl (by decide) ?_
  refine Run.yes (v := .int .i64 (v.length : Int)) (y_len rfl Tryz.runUnderlying42 rfl) rfl rfl rfl rfl (hb9) rfl (by decide) ?_
  refine Run.yes (v := .slice Am m.length cm) (y_move rfl rfl) rfl rfl rfl rfl (hb9) rfl (by decide) ?_
  obtain ⟨x13, p13_2, cs13_2, hx13, hp13_2, hcs13_2, hrc13_2⟩ := Sl.at_ (P := Tryz.prog) (T := (tSl tU8)) Tryz.runUnderlying43 Tryz.sizeOf42 hm (k := .i64) (i := 0) (by omega) (by have := hpos hc1009; omega)
  replace hx13 : m[0]? = some x13 := hx13
  obtain ⟨A13_2_0, c13_2_0, rfl, f13_2_0⟩ := hcs13_2
  have hsm13_2_0 := f13_2_0.small
  refine Run.yes (v := .pointer (some p13_2)) (y_index rfl rfl rfl hp13_2) rfl rfl rfl rfl (hb9) rfl (by decide) ?_
  refine Run.yes (v := .slice A13_2_0 x13.length c13_2_0) (y_load1 rfl Tryz.isAgg42 rfl (RCells.hd hrc13_2)) rfl rfl rfl rfl (hb9) rfl (by decide) ?_
  refine Run.yes (v := .int .i64 (x13.length : Int)) (y_len rfl Tryz.runUnderlying42 rfl) rfl rfl rfl rfl (hb9) rfl (by decide) ?_
  refine Run.yes (v := .bool (decide ((v.length : Int) ≠ (x13.length : Int)))) (y_bin rfl rfl rfl bn_neq) rfl rfl rfl rfl (hb9) rfl (by decide) ?_
  refine Run.y (y_pickB rfl rfl (hb9) rfl) rfl rfl (by decide) ?_
  exact K9 _ _ _ (Imm.le.refl _) (by rw [hb9]; first | (simp; done) | (rw [h0len_of hx13]; simp)) (Sub.tl 7 rfl rfl)
 refine Run.nx ?_
 refine RunC.cond rfl (fun hc0 => ?_) (fun hc0 => ?_)
 ·
  try simp only [z1, z2, z3, z4, z5, z6, z7, z8, z9, z10, z11, z12, z13, z14, z15, z16] at hc0
  refine RunC.sr ?_
  refine Run.as ?_
  refine Run.as ?_
  refine Run.nx ?_
  refine RunC.ret ?_
  refine RunQ.pass (fun h => by cases h) ?_
  refine RunQ.weak Sub.refl (perm_nil _) ?_
  refine RunQ.fin2 (.inl rfl) Tryz.results142 (rv_tmp rfl) (rv_tmp rfl) ?_
  exact ⟨rfl, _, _, rfl, (rd_eq (T := (tSl tU8)) (x := ([] : List UInt8)) ⟨_, _, rfl, sl_nil0⟩ (by first | (rw [mApp_no hc0] <;> rfl) | (rw [mApp_yes hc0] <;> rfl))), (rd_eq (T := tInt) (x := 1) ⟨rfl, (by first | omega | (dsimp only; omega))⟩ (by first | (rw [mApp_no hc0] <;> rfl) | (rw [mApp_yes hc0] <;> rfl)))⟩
 ·
  try simp only [z1, z2, z3, z4, z5, z6, z7, z8, z9, z10, z11, z12, z13, z14, z15, z16] at hc0
  refine RunC.skip ?_
  refine RunQ.next ?_
  refine RunC.sr ?_
  refine Run.mv ?_
  refine Run.mv ?_
  refine Run.call0 (en_func rfl Tryz.call160 rfl) (c_matrix_apply _ m hm v hv (fun r hr => by have := mRight_all hc0.1 hr; omega) (by have := mRight_len hc0.1; omega)) rfl rfl (by decide) (fun J3 o3 v3 hleJ3 hq3 => ?_)
  obtain ⟨rfl, cs3a, rfl, h3a⟩ := hq3
  replace h3a : (tSl tU8).rd J3 cs3a (mApply m v) := h3a
  obtain ⟨A3a_0, c3a_0, rfl, f3a_0⟩ := h3a
  have hsm3a_0 := f3a_0.small
  refine Run.as ?_
  refine Run.as ?_
  refine Run.nx ?_
  refine RunC.ret ?_
  refine RunQ.weak Sub.refl (perm_nil _) ?_
  refine RunQ.fin2 (.inl rfl) Tryz.results142 (rv_tmp rfl) (rv_tmp rfl) ?_
  exact ⟨rfl, _, _, rfl, (rd_eq (T := (tSl tU8)) (x := (mApply m v)) ⟨_, _, rfl, f3a_0⟩ (by first | (rw [mApp_no hc0] <;> rfl) | (rw [mApp_yes hc0] <;> rfl))), (rd_eq (T := tInt) (x := 0) ⟨rfl, (by first | omega | (dsimp only; omega))⟩ (by first | (rw [mApp_no hc0] <;> rfl) | (rw [mApp_yes hc0] <;> rfl)))⟩

theorem c_matrix_Cauchy (I : Imm) (data : Int) (hdata : I64 data) (parity : Int) (hparity : I64 parity) : Con Tryz.prog 106 [.int .i64 data, .int .i64 parity].toArray I [] (Ret2 ((tSl (tSl tU8)).o) (tInt.o) ((cCauchy data parity).1) ((cCauchy data parity).2)) := by
 refine Con.enter (n := 52) (L := [(0, .int .i64 data), (1, .int .i64 parity)]) Tryz.func106 rfl rfl (Nat.le_of_ble_eq_true rfl) rfl (fun E => ?_)
 refine RunC.sr ?_
 refine Run.as ?_
 refine Run.as ?_
 refine Run.nx ?_
 refine RunC.seq ?_
 refine RunC.sr ?_
 refine Run.mv ?_
 refine Run.m (v := .bool (decide (data < 1))) (y_bin rfl rfl rfl bn_lss) ?_
 refine Run.mv ?_
 refine Run.split 3 rfl (b := decide (data < 1)) (d := 15) (v := .bool ((decide (data < 1)) || (decide (parity < 1)))) (fun hb12 K12 => ?_) (fun hb12 K12 => ?_) ?_
 ·
  have hc1012 := hb12; try simp only [z1, z2, z3, z4, z5, z6, z7, z8, z9, z10, z11, z12, z13, z14, z15, z16] at hc1012
  refine Run.no rfl rfl rfl rfl (hb12) rfl (by decide) ?_
  refine Run.no rfl rfl rfl rfl (hb12) rfl (by decide) ?_
  refine Run.y (y_pickB rfl rfl (hb12) rfl) rfl rfl (by decide) ?_
  exact K12 _ _ _ (Imm.le.refl _) (by rw [hb12]; simp) (Sub.tl 2 rfl rfl)
 ·
  have hc1012 := hb12; try simp only [z1, z2, z3, z4, z5, z6, z7, z8, z9, z10, z11, z12, z13, z14, z15, z16] at hc1012
  refine Run.yes (v := .int .i64 parity) (y_move rfl rfl) rfl rfl rfl rfl (hb12) rfl (by decide) ?_
  refine Run.yes (v := .bool (decide (parity < 1))) (y_bin rfl rfl rfl bn_lss) rfl rfl rfl rfl (hb12) rfl (by decide) ?_
  refine Run.y (y_pickB rfl rfl (hb12) rfl) rfl rfl (by decide) ?_
  exact K12 _ _ _ (Imm.le.refl _) (by rw [hb12]; simp) (Sub.tl 2 rfl rfl)
 refine Run.mv ?_
 refine Run.split 3 rfl (b := ((decide (data < 1)) || (decide (parity < 1)))) (d := 19) (v := .bool (((decide (data < 1)) || (decide (parity < 1))) || (decide (data > 255)))) (fun hb16 K16 => ?_) (fun hb16 K16 => ?_) ?_
 ·
  have hc1016 := hb16; try simp only [z1, z2, z3, z4, z5, z6, z7, z8, z9, z10, z11, z12, z13, z14, z15, z16] at hc1016
  refine Run.no rfl rfl rfl rfl (hb16) rfl (by decide) ?_
  refine Run.no rfl rfl rfl rfl (hb16) rfl (by decide) ?_
  refine Run.y (y_pickB rfl rfl (hb16) rfl) rfl rfl (by decide) ?_
  exact K16 _ _ _ (Imm.le.refl _) (by rw [hb16]; simp) (Sub.tl 2 rfl rfl)
 ·
  have hc1016 := hb16; try simp only [z1, z2, z3, z4, z5, z6, z7, z8, z9, z10, z11, z12, z13, z14, z15, z16] at hc1016
  refine Run.yes (v := .int .i64 data) (y_move rfl rfl) rfl rfl rfl rfl (hb16) rfl (by decide) ?_
  refine Run.yes (v := .bool (decide (data > 255))) (y_bin rfl rfl rfl bn_gtr) rfl rfl rfl rfl (hb16) rfl (by decide) ?_
  refine Run.y (y_pickB rfl rfl (hb16) rfl) rfl rfl (by decide) ?_
  exact K16 _ _ _ (Imm.le.refl _) (by rw [hb16]; simp) (Sub.tl 2 rfl rfl)
 refine Run.mv ?_
 refine Run.split 5 rfl (b := (((decide (data < 1)) || (decide (parity < 1))) || (decide (data > 255)))) (d := 25) (v := .bool ((((decide (data < 1)) || (decide (parity < 1))) || (decide (data > 255))) || (decide (parity > 255 - data)))) (fun hb20 K20 => ?_) (fun hb20 K20 => ?_) ?_
 ·
  have hc1020 := hb20; try simp only [z1, z2, z3, z4, z5, z6, z7, z8, z9, z10, z11, z12, z13, z14, z15, z16] at hc1020
  refine Run.no rfl rfl rfl rfl (hb20) rfl (by decide) ?_
  refine Run.no rfl rfl rfl rfl (hb20) rfl (by decide) ?_
  refine Run.no rfl rfl rfl rfl (hb20) rfl (by decide) ?_
  refine Run.no rfl rfl rfl rfl (hb20) rfl (by decide) ?_
  refine Run.y (y_pickB rfl rfl (hb20) rfl) rfl rfl (by decide) ?_
  exact K20 _ _ _ (Imm.le.refl _) (by rw [hb20]; simp) (Sub.tl 4 rfl rfl)
 ·
  have hc1020 := hb20; try simp only [z1, z2, z3, z4, z5, z6, z7, z8, z9, z10, z11, z12, z13, z14, z15, z16] at hc1020
  refine Run.yes (v := .int .i64 parity) (y_move rfl rfl) rfl rfl rfl rfl (hb20) rfl (by decide) ?_
  refine Run.yes (v := .int .i64 data) (y_move rfl rfl) rfl rfl rfl rfl (hb20) rfl (by decide) ?_
  refine Run.yes (v := .int .i64 (255 - data)) (y_bin rfl rfl rfl (bn_sub (by omega) (by omega))) rfl rfl rfl rfl (hb20) rfl (by decide) ?_
  refine Run.yes (v := .bool (decide (parity > 255 - data))) (y_bin rfl rfl rfl bn_gtr) rfl rfl rfl rfl (hb20) rfl (by decide) ?_
  refine Run.y (y_pickB rfl rfl (hb20) rfl) rfl rfl (by decide) ?_
  exact K20 _ _ _ (Imm.le.refl _) (by rw [hb20]; simp) (Sub.tl 4 rfl rfl)
 refine Run.nx ?_
 refine RunC.cond rfl (fun hc0 => ?_) (fun hc0 => ?_)
 ·
  try simp only [z1, z2, z3, z4, z5, z6, z7, z8, z9, z10, z11, z12, z13, z14, z15, z16] at hc0
  refine RunC.sr ?_
  refine Run.as ?_
  refine Run.as ?_
  refine Run.nx ?_
  refine RunC.ret ?_
  refine RunQ.pass (fun h => by cases h) ?_
  refine RunQ.weak Sub.refl (perm_nil _) ?_
  refine RunQ.fin2 (.inl rfl) Tryz.results106 (rv_tmp rfl) (rv_tmp rfl) ?_
  exact ⟨rfl, _, _, rfl, (rd_eq (T := (tSl (tSl tU8))) (x := ([] : List (List UInt8))) ⟨_, _, rfl, sl_nil0⟩ (by first | (rw [cCauchy_no hc0] <;> rfl) | (rw [cCauchy_yes hc0, ← show k = parity.toNat from by omega] <;> first | exact ho_ | rfl))), (rd_eq (T := tInt) (x := 1) ⟨rfl, (by first | omega | (dsimp only; omega))⟩ (by first | (rw [cCauchy_no hc0] <;> rfl) | (rw [cCauchy_yes hc0, ← show k = parity.toNat from by omega] <;> first | exact ho_ | rfl)))⟩
 ·
  try simp only [z1, z2, z3, z4, z5, z6, z7, z8, z9, z10, z11, z12, z13, z14, z15, z16] at hc0
  refine RunC.skip ?_
  refine RunQ.next ?_
  refine RunC.sr ?_
  refine Run.as ?_
  refine Run.nx ?_
  refine RunC.seq ?_
  refine RunC.sr ?_
  refine Run.mv ?_
  refine Run.mv ?_
  refine Run.nx ?_
  refine RunC.block ?_
  refine RunC.nilrow none 42 1 ?_
  obtain ⟨Inv0, hInv0⟩ : ∃ Inv : Nat → Act → World → Prop, ∀ mm aa ww, Inv mm aa ww ↔ (∃ (k : Nat) (o : List (List UInt8)) (Ao : Option Addr) (co : Nat) (clo : List Value) (J : Imm), (I.le J) ∧ ((tSl tU8).all J clo o) ∧ ((k : Int) ≤ parity) ∧ (o = (List.range k).map fun (k : Nat) => (List.range data.toNat).map fun (q : Nat) => ginv (b8 (k : Int) ^^^ b8 (parity + (q : Int)))) ∧ (mm = (parity.toNat - k)) ∧ Frm aa 52 [(0, .int .i64 data), (1, .int .i64 parity), (4, .slice none 0 0), (5, .int .i64 0), (26, .int .i64 parity), (27, .int .i64 (k : Int)), (6, .slice Ao o.length co)] ∧ S E ww J [row (.slice Ao o.length co) 42 1 clo]) := ⟨_, fun _ _ _ => Iff.rfl⟩
  refine RunC.loopX Inv0 (fun aa ww hF hS => ⟨_, (hInv0 _ _ _).2 ⟨0, [], none, 0, [], I, (Imm.le.refl _), all_nil, (by omega), rfl, rfl, hF.sub (Sub.of rfl), hS.sub (perm_self _)⟩⟩) ?_
  intro mm0 aa ww hv
  obtain ⟨k, o, Ao, co, clo, J, hJ_le, ho, hk, ho_, hmm_, hF, hS⟩ := (hInv0 _ _ _).1 hv
  clear hv
  refine RunC.go ?_ hF hS
  clear hF hS aa ww
  refine RunC.sr ?_
  refine Run.m (v := .bool (decide ((k : Int) < parity))) (y_bin rfl rfl rfl bn_lss) ?_
  refine Run.nx ?_
  refine RunC.seq ?_
  refine RunC.cond rfl (fun hc1 => ?_) (fun hc1 => ?_)
  ·
   try simp only [z1, z2, z3, z4, z5, z6, z7, z8, z9, z10, z11, z12, z13, z14, z15, z16] at hc1
   refine RunC.skip ?_
   refine RunQ.next ?_
   refine RunC.seq ?_
   refine RunC.block ?_
   refine RunC.sr ?_
   refine Run.mv ?_
   refine Run.as ?_
   refine Run.nx ?_
   refine RunC.sr ?_
   refine Run.as ?_
   refine Run.nx ?_
   refine RunC.seq ?_
   refine RunC.sr ?_
   refine Run.mv ?_
   refine Run.mv ?_
   refine Run.nx ?_
   refine RunC.block ?_
   refine RunC.nilrow none 5 1 ?_
   obtain ⟨Inv1, hInv1⟩ : ∃ Inv : Nat → Act → World → Prop, ∀ mm aa ww, Inv mm aa ww ↔ (∃ (j : Nat) (r : List UInt8) (Ar : Option Addr) (cr : Nat) (clr : List Value) (J2 : Imm), (J.le J2) ∧ (tU8.all J2 clr r) ∧ ((j : Int) ≤ data) ∧ (r = (List.range j).map fun (q : Nat) => ginv (b8 (k : Int) ^^^ b8 (parity + (q : Int)))) ∧ (mm = (data.toNat - j)) ∧ Frm aa 52 [(0, .int .i64 data), (1, .int .i64 parity), (4, .slice none 0 0), (5, .int .i64 0), (26, .int .i64 parity), (27, .int .i64 (k : Int)), (6, .slice Ao o.length co), (28, .bool (decide ((k : Int) < parity))), (29, .int .i64 (k : Int)), (7, .int .i64 (k : Int)), (30, .int .i64 data), (31, .int .i64 (j : Int)), (8, .slice Ar r.length cr)] ∧ S E ww J2 [row (.slice Ar r.length cr) 5 1 clr, row (.slice Ao o.length co) 42 1 clo]) := ⟨_, fun _ _ _ => Iff.rfl⟩
   refine RunC.loopX Inv1 (fun aa ww hF hS => ⟨_, (hInv1 _ _ _).2 ⟨0, [], none, 0, [], J, (Imm.le.refl _), all_nil, (by omega), rfl, rfl, hF.sub (Sub.of rfl), hS.sub (perm_self _)⟩⟩) ?_
   intro mm1 aa ww hv
   obtain ⟨j, r, Ar, cr, clr, J2, hJ2_le, hr, hj, hr_, hmm_, hF, hS⟩ := (hInv1 _ _ _).1 hv
   clear hv
   refine RunC.go ?_ hF hS
   clear hF hS aa ww
   refine RunC.sr ?_
   refine Run.m (v := .bool (decide ((j : Int) < data))) (y_bin rfl rfl rfl bn_lss) ?_
   refine Run.nx ?_
   refine RunC.seq ?_
   refine RunC.cond rfl (fun hc2 => ?_) (fun hc2 => ?_)
   ·
    try simp only [z1, z2, z3, z4, z5, z6, z7, z8, z9, z10, z11, z12, z13, z14, z15, z16] at hc2
    refine RunC.skip ?_
    refine RunQ.next ?_
    refine RunC.seq ?_
    refine RunC.block ?_
    refine RunC.sr ?_
    refine Run.mv ?_
    refine Run.as ?_
    refine Run.nx ?_
    refine RunC.region ?_
    refine Run.mv ?_
    refine Run.mv ?_
    refine Run.m (v := .int .u8 ((b8 (k : Int)).toNat : Int)) (y_conv rfl rfl (cv_int Tryz.underlying3 Tryz.underlying5 (wrapu8 _))) ?_
    refine Run.mv ?_
    refine Run.mv ?_
    refine Run.m (v := .int .i64 (parity + (j : Int))) (y_bin rfl rfl rfl (bn_add (by omega) (by omega))) ?_
    refine Run.m (v := .int .u8 ((b8 (parity + (j : Int))).toNat : Int)) (y_conv rfl rfl (cv_int Tryz.underlying3 Tryz.underlying5 (wrapu8 _))) ?_
    refine Run.callV (en_func rfl Tryz.call141 rfl) (conv_u8 (c_gf_Add _ (b8 (k : Int)) (b8 (parity + (j : Int))))) rfl rfl (by decide) (fun hI1 => ?_)
    refine Run.callV (en_func rfl Tryz.call140 rfl) (conv_u8 (c_gf_Inv _ ((b8 (k : Int)) ^^^ (b8 (parity + (j : Int)))))) rfl rfl (by decide) (fun hI2 => ?_)
    refine Run.lit (vs := [(0, .int .u8 ((ginv ((b8 (k : Int)) ^^^ (b8 (parity + (j : Int))))).toNat : Int))]) (cs := [.int .u8 ((ginv ((b8 (k : Int)) ^^^ (b8 (parity + (j : Int))))).toNat : Int)]) (el := 5) (sz := 1) rfl rfl (fun w => by simp [Instr.buildSlice, Tryz.runUnderlying42, Tryz.sizeOf5, Tryz.zeroValue5, Instr.fill, Value.cells, newRow, (show Array.range 1 = #[0] from rfl)]) rfl (by simp [maxLen]) rfl rfl (by decide) (fun g43 => ?_)
    have hlit3 : tU8.all J2 [.int .u8 ((ginv ((b8 (k : Int)) ^^^ (b8 (parity + (j : Int))))).toNat : Int)] [(ginv ((b8 (k : Int)) ^^^ (b8 (parity + (j : Int)))))] := (all_snoc (T := tU8) all_nil rfl)
    have hall4 : tU8.all J2 (clr ++ ([.int .u8 ((ginv ((b8 (k : Int)) ^^^ (b8 (parity + (j : Int))))).toNat : Int)])) (r ++ ([(ginv ((b8 (k : Int)) ^^^ (b8 (parity + (j : Int)))))])) := all_append hr hlit3
    refine Run.append (by_ := 1) (ys := [.int .u8 ((ginv ((b8 (k : Int)) ^^^ (b8 (parity + (j : Int))))).toNat : Int)]) (k := 1) (own' := [row (.slice (some ⟨g43, 0, none⟩) 1 1) 5 1 ([.int .u8 ((ginv ((b8 (k : Int)) ^^^ (b8 (parity + (j : Int))))).toNat : Int)]), row (.slice Ao o.length co) 42 1 clo]) 1 rfl rfl rfl Tryz.runUnderlying42 (.inl Tryz.runUnderlying42) Tryz.sizeOf5 Tryz.typeInfo5 rfl Tryz.zeroValue5 rfl rfl rfl (fun w hS => src_own hS (i := 0) rfl) (row_len hlit3 (by first | rfl | (simp; done) | (simp; omega)) rfl) (all_one hlit3) ((r ++ ([(ginv ((b8 (k : Int)) ^^^ (b8 (parity + (j : Int)))))])).length) (by first | (simp; done) | (simp; omega)) (by first | (rw [hr_]; simp; omega) | (rw [ho_]; simp; omega)) (by first | (rw [hr_]; simp [maxLen]; omega) | (rw [ho_]; simp [maxLen]; omega)) rfl rfl (by decide) (fun A44_4 c44_4 => ?_)
    refine Run.weak Sub.refl (perm_take (i := 0) rfl (perm_take (i := 1) rfl (perm_nil _))) ?_
    refine Run.as ?_
    refine Run.nil ?_
    refine RunQ.inB ?_
    refine RunQ.next ?_
    refine RunC.region ?_
    refine Run.m (v := .int .i64 ((j : Int) + 1)) (y_bin rfl rfl rfl (bn_add (by omega) (by omega))) ?_
    refine Run.mv ?_
    refine Run.nil ?_
    exact RunQ.thenI (fun aa ww hF hS => ⟨_, (by omega), (hInv1 _ _ _).2 ⟨(j + 1), (r ++ ([(ginv ((b8 (k : Int)) ^^^ (b8 (parity + (j : Int)))))])), A44_4, c44_4, clr ++ ([.int .u8 ((ginv ((b8 (k : Int)) ^^^ (b8 (parity + (j : Int))))).toNat : Int)]), J2, hJ2_le, hall4, (by omega), (by rw [List.range_succ, List.map_append, ← hr_]; rfl), rfl, hF.sub (Sub.of rfl), hS.sub (perm_self _)⟩⟩)
   ·
    try simp only [z1, z2, z3, z4, z5, z6, z7, z8, z9, z10, z11, z12, z13, z14, z15, z16] at hc2
    refine RunC.exit ?_
    refine RunQ.pass (fun h => by cases h) ?_
    refine RunQ.pass (fun h => by cases h) ?_
    refine RunQ.out ?_
    refine RunQ.next ?_
    refine RunC.region ?_
    refine Run.mv ?_
    refine Run.mv ?_
    refine Run.freezeR 0 rfl (own' := [row (.slice Ao o.length co) 42 1 clo]) rfl (fun J5 hleJ5 hfzJ5 => ?_)
    have hslJ5 : Sl tU8 J5 Ar cr r := Sl.of_rowN hfzJ5 rfl rfl (hr.mono hleJ5)
    refine Run.lit (vs := [(0, .slice Ar r.length cr)]) (cs := [.slice Ar r.length cr]) (el := 42) (sz := 1) rfl rfl (fun w => by simp [Instr.buildSlice, Tryz.runUnderlying43, Tryz.sizeOf42, Tryz.zeroValue42, Instr.fill, Value.cells, newRow, (show Array.range 1 = #[0] from rfl)]) rfl (by simp [maxLen]) rfl rfl (by decide) (fun g48 => ?_)
    have hlit6 : (tSl tU8).all J5 [.slice Ar r.length cr] [r] := (all_snoc (T := (tSl tU8)) all_nil ⟨_, _, rfl, hslJ5⟩)
    have hall7 : (tSl tU8).all J5 (clo ++ ([.slice Ar r.length cr])) (o ++ ([r])) := all_append (ho.mono (hJ2_le.trans hleJ5)) hlit6
    refine Run.append (by_ := 24) (ys := [.slice Ar r.length cr]) (k := 1) (own' := [row (.slice (some ⟨g48, 0, none⟩) 1 1) 42 1 ([.slice Ar r.length cr])]) 1 rfl rfl rfl Tryz.runUnderlying43 (.inl Tryz.runUnderlying43) Tryz.sizeOf42 Tryz.typeInfo42 rfl Tryz.zeroValue42 rfl rfl rfl (fun w hS => src_own hS (i := 0) rfl) (row_len hlit6 (by first | rfl | (simp; done) | (simp; omega)) rfl) (all_one hlit6) ((o ++ ([r])).length) (by first | (simp; done) | (simp; omega)) (by first | (rw [hr_]; simp; omega) | (rw [ho_]; simp; omega)) (by first | (rw [hr_]; simp [maxLen]; omega) | (rw [ho_]; simp [maxLen]; omega)) rfl rfl (by decide) (fun A49_7 c49_7 => ?_)
    refine Run.weak Sub.refl (perm_take (i := 0) rfl (perm_nil _)) ?_
    refine Run.as ?_
    refine Run.nil ?_
    refine RunQ.inB ?_
    refine RunQ.next ?_
    refine RunC.region ?_
    refine Run.m (v := .int .i64 ((k : Int) + 1)) (y_bin rfl rfl rfl (bn_add (by omega) (by omega))) ?_
    refine Run.mv ?_
    refine Run.nil ?_
    exact RunQ.thenI (fun aa ww hF hS => ⟨_, (by omega), (hInv0 _ _ _).2 ⟨(k + 1), (o ++ ([r])), A49_7, c49_7, clo ++ ([.slice Ar r.length cr]), J5, ((hJ_le.trans hJ2_le).trans hleJ5), hall7, (by omega), (by rw [List.range_succ, List.map_append, ← ho_, hr_, show j = data.toNat from by omega]; rfl), rfl, hF.sub (Sub.of rfl), hS.sub (perm_self _)⟩⟩)
  ·
   try simp only [z1, z2, z3, z4, z5, z6, z7, z8, z9, z10, z11, z12, z13, z14, z15, z16] at hc1
   refine RunC.exit ?_
   refine RunQ.pass (fun h => by cases h) ?_
   refine RunQ.pass (fun h => by cases h) ?_
   refine RunQ.out ?_
   refine RunQ.next ?_
   refine RunC.sr ?_
   refine Run.mv ?_
   refine Run.as ?_
   refine Run.as ?_
   refine Run.nx ?_
   refine RunC.ret ?_
   refine RunQ.freezeR 0 rfl (own' := []) rfl (fun J8 hleJ8 hfzJ8 => ?_)
   have hslJ8 : Sl (tSl tU8) J8 Ao co o := Sl.of_rowN hfzJ8 rfl rfl (ho.mono hleJ8)
   refine RunQ.weak Sub.refl (perm_nil _) ?_
   refine RunQ.fin2 (.inl rfl) Tryz.results106 (rv_tmp rfl) (rv_tmp rfl) ?_
   exact ⟨rfl, _, _, rfl, (rd_eq (T := (tSl (tSl tU8))) (x := o) ⟨_, _, rfl, hslJ8⟩ (by first | (rw [cCauchy_no hc0] <;> rfl) | (rw [cCauchy_yes hc0, ← show k = parity.toNat from by omega] <;> first | exact ho_ | rfl))), (rd_eq (T := tInt) (x := 0) ⟨rfl, (by first | omega | (dsimp only; omega))⟩ (by first | (rw [cCauchy_no hc0] <;> rfl) | (rw [cCauchy_yes hc0, ← show k = parity.toNat from by omega] <;> first | exact ho_ | rfl)))⟩
end Go.Proofs.YtmelbclhkkbmiaaGreat.K
