/- Contracts of functions of the program, each proved by a walk through its operations, for all memory and all arguments that the theorem names. Printed by a program of mine. -/
import Derived.Test.YtmelbclhkkbmiaaGreatSp1
import Derived.Test.YtmelbclhkkbmiaaGreatProg
set_option linter.unusedVariables false
set_option linter.unusedSimpArgs false
set_option maxRecDepth 100000
namespace Go.Proofs.YtmelbclhkkbmiaaGreat.K
open Go Go.RowKit

theorem c_record_within (I : Imm) (n : Int) (low : Int) (high : Int) : Con Tryz.prog 103 [.int .i64 n, .int .i64 low, .int .i64 high].toArray I [] (Ret1 (tBool.o) (decide (n ≥ low) && decide (n ≤ high))) := by
 refine Con.enter (n := 15) (L := [(0, .int .i64 n), (1, .int .i64 low), (2, .int .i64 high)]) Tryz.func103 rfl rfl (Nat.le_of_ble_eq_true rfl) rfl (fun E => ?_)
 refine RunC.sr ?_
 refine Run.as ?_
 refine Run.nx ?_
 refine RunC.sr ?_
 refine Run.mv ?_
 refine Run.mv ?_
 refine Run.m (v := .bool (decide (n ≥ low))) (y_bin rfl rfl rfl bn_geq) ?_
 refine Run.mv ?_
 refine Run.split 4 rfl (b := decide (n ≥ low)) (d := 14) (v := .bool ((decide (n ≥ low)) && (decide (n ≤ high)))) (fun hb10 K10 => ?_) (fun hb10 K10 => ?_) ?_
 ·
  have hc1010 := hb10; try simp only [z1, z2, z3, z4, z5, z6, z7, z8, z9, z10, z11, z12, z13, z14, z15, z16] at hc1010
  refine Run.yes (v := .int .i64 n) (y_move rfl rfl) rfl rfl rfl rfl (hb10) rfl (by decide) ?_
  refine Run.yes (v := .int .i64 high) (y_move rfl rfl) rfl rfl rfl rfl (hb10) rfl (by decide) ?_
  refine Run.yes (v := .bool (decide (n ≤ high))) (y_bin rfl rfl rfl bn_leq) rfl rfl rfl rfl (hb10) rfl (by decide) ?_
  refine Run.y (y_pickB rfl rfl (hb10) rfl) rfl rfl (by decide) ?_
  exact K10 _ _ _ (Imm.le.refl _) (by rw [hb10]; simp) (Sub.tl 3 rfl rfl)
 ·
  have hc1010 := hb10; try simp only [z1, z2, z3, z4, z5, z6, z7, z8, z9, z10, z11, z12, z13, z14, z15, z16] at hc1010
  refine Run.no rfl rfl rfl rfl (hb10) rfl (by decide) ?_
  refine Run.no rfl rfl rfl rfl (hb10) rfl (by decide) ?_
  refine Run.no rfl rfl rfl rfl (hb10) rfl (by decide) ?_
  refine Run.y (y_pickB rfl rfl (hb10) rfl) rfl rfl (by decide) ?_
  exact K10 _ _ _ (Imm.le.refl _) (by rw [hb10]; simp) (Sub.tl 3 rfl rfl)
 refine Run.as ?_
 refine Run.nx ?_
 refine RunC.ret ?_
 refine RunQ.weak Sub.refl (perm_nil _) ?_
 refine RunQ.fin1 (.inl rfl) Tryz.results103 (rv_tmp rfl) ?_
 exact ⟨rfl, _, rfl, (rd_eq (T := tBool) (x := ((decide (n ≥ low)) && (decide (n ≤ high)))) rfl (by first | rfl | (simp; done)))⟩

theorem c_frame_room (I : Imm) (k : Int) : Con Tryz.prog 144 [.int .i64 k].toArray I [] (Ret1 (tInt.o) (if k = 6 then (79 : Int) else 64)) := by
 refine Con.enter (n := 5) (L := [(0, .int .i64 k)]) Tryz.func144 rfl rfl (Nat.le_of_ble_eq_true rfl) rfl (fun E => ?_)
 refine RunC.sr ?_
 refine Run.as ?_
 refine Run.nx ?_
 refine RunC.seq ?_
 refine RunC.sr ?_
 refine Run.mv ?_
 refine Run.m (v := .bool (decide (k = 6))) (y_bin rfl rfl rfl bn_eql) ?_
 refine Run.nx ?_
 refine RunC.cond rfl (fun hc0 => ?_) (fun hc0 => ?_)
 ·
  try simp only [z1, z2, z3, z4, z5, z6, z7, z8, z9, z10, z11, z12, z13, z14, z15, z16] at hc0
  refine RunC.sr ?_
  refine Run.as ?_
  refine Run.nx ?_
  refine RunC.ret ?_
  refine RunQ.pass (fun h => by cases h) ?_
  refine RunQ.weak Sub.refl (perm_nil _) ?_
  refine RunQ.fin1 (.inl rfl) Tryz.results144 (rv_tmp rfl) ?_
  exact ⟨rfl, _, rfl, (rd_eq (T := tInt) (x := 79) ⟨rfl, (by first | omega | (dsimp only; omega))⟩ (by simp_all))⟩
 ·
  try simp only [z1, z2, z3, z4, z5, z6, z7, z8, z9, z10, z11, z12, z13, z14, z15, z16] at hc0
  refine RunC.skip ?_
  refine RunQ.next ?_
  refine RunC.sr ?_
  refine Run.as ?_
  refine Run.nx ?_
  refine RunC.ret ?_
  refine RunQ.weak Sub.refl (perm_nil _) ?_
  refine RunQ.fin1 (.inl rfl) Tryz.results144 (rv_tmp rfl) ?_
  exact ⟨rfl, _, rfl, (rd_eq (T := tInt) (x := 64) ⟨rfl, (by first | omega | (dsimp only; omega))⟩ (by simp_all))⟩

theorem c_gf_Add (I : Imm) (a : UInt8) (b : UInt8) : Con Tryz.prog 141 [.int .u8 (a.toNat : Int), .int .u8 (b.toNat : Int)].toArray I [] (Ret1 (tU8.o) (a ^^^ b)) := by
 refine Con.enter (n := 8) (L := [(0, .int .u8 (a.toNat : Int)), (1, .int .u8 (b.toNat : Int))]) Tryz.func141 rfl rfl (Nat.le_of_ble_eq_true rfl) rfl (fun E => ?_)
 refine RunC.sr ?_
 refine Run.as ?_
 refine Run.nx ?_
 refine RunC.sr ?_
 refine Run.mv ?_
 refine Run.mv ?_
 refine Run.m (v := .int .u8 ((a ^^^ b).toNat : Int)) (y_bin rfl rfl rfl (bn_xor8 (a := a) (b := b))) ?_
 refine Run.as ?_
 refine Run.nx ?_
 refine RunC.ret ?_
 refine RunQ.weak Sub.refl (perm_nil _) ?_
 refine RunQ.fin1 (.inl rfl) Tryz.results141 (rv_tmp rfl) ?_
 exact ⟨rfl, _, rfl, (rd_eq (T := tU8) (x := a ^^^ b) rfl (by first | rfl | (simp; done)))⟩

theorem c_gf_Mul (I : Imm) (a : UInt8) (b : UInt8) : Con Tryz.prog 166 [.int .u8 (a.toNat : Int), .int .u8 (b.toNat : Int)].toArray I [] (Ret1 (tU8.o) (gmul a b)) := by
 refine Con.enter (n := 26) (L := [(0, .int .u8 (a.toNat : Int)), (1, .int .u8 (b.toNat : Int))]) Tryz.func166 rfl rfl (Nat.le_of_ble_eq_true rfl) rfl (fun E => ?_)
 refine RunC.sr ?_
 refine Run.as ?_
 refine Run.nx ?_
 refine RunC.sr ?_
 refine Run.as ?_
 refine Run.nx ?_
 refine RunC.seq ?_
 refine RunC.block ?_
 obtain ⟨Inv0, hInv0⟩ : ∃ Inv : Nat → Act → World → Prop, ∀ mm aa ww, Inv mm aa ww ↔ (∃ (m : Nat) (a1 : UInt8) (b1 : UInt8) (o1 : UInt8), (b1.toNat < 2 ^ m) ∧ (gmulL m a1 b1 o1 = gmul a b) ∧ (mm = (m)) ∧ Frm aa 26 [(4, .int .u8 ((0 : UInt8).toNat : Int)), (0, .int .u8 (a1.toNat : Int)), (1, .int .u8 (b1.toNat : Int)), (5, .int .u8 (o1.toNat : Int))] ∧ S E ww I []) := ⟨_, fun _ _ _ => Iff.rfl⟩
 refine RunC.loopX Inv0 (fun aa ww hF hS => ⟨_, (hInv0 _ _ _).2 ⟨8, a, b, (0 : UInt8), b.toNat_lt, rfl, rfl, hF.sub (Sub.of rfl), hS.sub (perm_self _)⟩⟩) ?_
 intro mm0 aa ww hv
 obtain ⟨m, a1, b1, o1, hm, hg, hmm_, hF, hS⟩ := (hInv0 _ _ _).1 hv
 clear hv
 refine RunC.go ?_ hF hS
 clear hF hS aa ww
 refine RunC.seq ?_
 refine RunC.sr ?_
 refine Run.mv ?_
 refine Run.m (v := .bool (decide (b1 ≠ (0 : UInt8)))) (y_bin rfl rfl rfl (bn_neq8 (a := b1) (b := (0 : UInt8)))) ?_
 refine Run.nx ?_
 refine RunC.cond rfl (fun hc0 => ?_) (fun hc0 => ?_)
 ·
  try simp only [z1, z2, z3, z4, z5, z6, z7, z8, z9, z10, z11, z12, z13, z14, z15, z16] at hc0
  obtain ⟨m, rfl⟩ : ∃ k, m = k + 1 := by cases m with | zero => exact absurd (u8_zero hm) hc0 | succ k => exact ⟨k, rfl⟩
  refine RunC.skip ?_
  refine RunQ.next ?_
  refine RunC.seq ?_
  obtain ⟨Jn1, hJn1⟩ : ∃ Jn : Act → World → Prop, ∀ aa ww, Jn aa ww ↔ (∃ (a2 : UInt8) (o3 : UInt8), (a2 = gstep a1) ∧ (o3 = if b1 &&& 1 = 1 then o1 ^^^ a1 else o1) ∧ Frm aa 26 [(4, .int .u8 ((0 : UInt8).toNat : Int)), (1, .int .u8 (b1.toNat : Int)), (7, .int .u8 (b1.toNat : Int)), (8, .bool (decide (b1 ≠ (0 : UInt8)))), (0, .int .u8 (a2.toNat : Int)), (5, .int .u8 (o3.toNat : Int))] ∧ S E ww I []) := ⟨_, fun _ _ => Iff.rfl⟩
  refine RunC.cut Jn1 (fun aa ww hv => ?_) ?_
  ·
   obtain ⟨a2, o3, ha2, ho3, hF, hS⟩ := (hJn1 _ _).1 hv
   clear hv
   refine RunC.go ?_ hF hS
   clear hF hS aa ww
   refine RunC.region ?_
   refine Run.mv ?_
   refine Run.m (v := .int .u8 ((b1 >>> 1).toNat : Int)) (y_bin rfl rfl rfl (bn_shr8 (a := b1))) ?_
   refine Run.as ?_
   refine Run.nil ?_
   exact RunQ.thenI (fun aa ww hF hS => ⟨_, (by omega), (hInv0 _ _ _).2 ⟨m, a2, b1 >>> 1, o3, (shr1_lt hm), (by rw [← hg, gmulL, if_neg hc0, ha2, ho3]), rfl, hF.sub (Sub.of rfl), hS.sub (perm_self _)⟩⟩)
  ·
   refine RunC.block ?_
   refine RunC.seq ?_
   obtain ⟨Jn2, hJn2⟩ : ∃ Jn : Act → World → Prop, ∀ aa ww, Jn aa ww ↔ (∃ (o2 : UInt8), (o2 = if b1 &&& 1 = 1 then o1 ^^^ a1 else o1) ∧ Frm aa 26 [(4, .int .u8 ((0 : UInt8).toNat : Int)), (0, .int .u8 (a1.toNat : Int)), (1, .int .u8 (b1.toNat : Int)), (7, .int .u8 (b1.toNat : Int)), (8, .bool (decide (b1 ≠ (0 : UInt8)))), (5, .int .u8 (o2.toNat : Int))] ∧ S E ww I []) := ⟨_, fun _ _ => Iff.rfl⟩
   refine RunC.cut Jn2 (fun aa ww hv => ?_) ?_
   ·
    obtain ⟨o2, ho2, hF, hS⟩ := (hJn2 _ _).1 hv
    clear hv
    refine RunC.go ?_ hF hS
    clear hF hS aa ww
    refine RunC.sr ?_
    refine Run.mv ?_
    refine Run.m (v := .int .u8 ((a1 &&& (128 : UInt8)).toNat : Int)) (y_bin rfl rfl rfl (bn_and8 (a := a1) (b := (128 : UInt8)))) ?_
    refine Run.m (v := .bool (decide (a1 &&& (128 : UInt8) ≠ (0 : UInt8)))) (y_bin rfl rfl rfl (bn_neq8 (a := a1 &&& (128 : UInt8)) (b := (0 : UInt8)))) ?_
    refine Run.as ?_
    refine Run.nx ?_
    refine RunC.sr ?_
    refine Run.mv ?_
    refine Run.m (v := .int .u8 ((a1 <<< 1).toNat : Int)) (y_bin rfl rfl rfl (bn_shl8 (a := a1))) ?_
    refine Run.as ?_
    refine Run.nx ?_
    refine RunC.sr ?_
    refine Run.mv ?_
    refine Run.nx ?_
    refine RunC.cond rfl (fun hc2 => ?_) (fun hc2 => ?_)
    ·
     try simp only [z1, z2, z3, z4, z5, z6, z7, z8, z9, z10, z11, z12, z13, z14, z15, z16] at hc2
     refine RunC.region ?_
     refine Run.mv ?_
     refine Run.m (v := .int .u8 (((a1 <<< 1) ^^^ (29 : UInt8)).toNat : Int)) (y_bin rfl rfl rfl (bn_xor8 (a := a1 <<< 1) (b := (29 : UInt8)))) ?_
     refine Run.as ?_
     refine Run.nil ?_
     refine RunQ.inB ?_
     exact RunQ.thenI (fun aa ww hF hS => (hJn1 _ _).2 ⟨(a1 <<< 1) ^^^ (29 : UInt8), o2, (by simp only [gstep]; simp [hc2]), ho2, hF.sub (Sub.of rfl), hS.sub (perm_self _)⟩)
    ·
     try simp only [z1, z2, z3, z4, z5, z6, z7, z8, z9, z10, z11, z12, z13, z14, z15, z16] at hc2
     refine RunC.skip ?_
     refine RunQ.inB ?_
     exact RunQ.thenI (fun aa ww hF hS => (hJn1 _ _).2 ⟨a1 <<< 1, o2, (by simp only [gstep]; simp [hc2]), ho2, hF.sub (Sub.of rfl), hS.sub (perm_self _)⟩)
   ·
    refine RunC.sr ?_
    refine Run.mv ?_
    refine Run.m (v := .int .u8 ((b1 &&& (1 : UInt8)).toNat : Int)) (y_bin rfl rfl rfl (bn_and8 (a := b1) (b := (1 : UInt8)))) ?_
    refine Run.m (v := .bool (decide (b1 &&& (1 : UInt8) = (1 : UInt8)))) (y_bin rfl rfl rfl (bn_eql8 (a := b1 &&& (1 : UInt8)) (b := (1 : UInt8)))) ?_
    refine Run.nx ?_
    refine RunC.cond rfl (fun hc1 => ?_) (fun hc1 => ?_)
    ·
     try simp only [z1, z2, z3, z4, z5, z6, z7, z8, z9, z10, z11, z12, z13, z14, z15, z16] at hc1
     refine RunC.region ?_
     refine Run.mv ?_
     refine Run.mv ?_
     refine Run.m (v := .int .u8 ((o1 ^^^ a1).toNat : Int)) (y_bin rfl rfl rfl (bn_xor8 (a := o1) (b := a1))) ?_
     refine Run.as ?_
     refine Run.nil ?_
     exact RunQ.thenI (fun aa ww hF hS => (hJn2 _ _).2 ⟨o1 ^^^ a1, (by simp [hc1]), hF.sub (Sub.of rfl), hS.sub (perm_self _)⟩)
    ·
     try simp only [z1, z2, z3, z4, z5, z6, z7, z8, z9, z10, z11, z12, z13, z14, z15, z16] at hc1
     refine RunC.skip ?_
     exact RunQ.thenI (fun aa ww hF hS => (hJn2 _ _).2 ⟨o1, (by simp [hc1]), hF.sub (Sub.of rfl), hS.sub (perm_self _)⟩)
 ·
  try simp only [z1, z2, z3, z4, z5, z6, z7, z8, z9, z10, z11, z12, z13, z14, z15, z16] at hc0
  refine RunC.exit ?_
  refine RunQ.pass (fun h => by cases h) ?_
  refine RunQ.pass (fun h => by cases h) ?_
  refine RunQ.out ?_
  refine RunQ.next ?_
  refine RunC.sr ?_
  refine Run.mv ?_
  refine Run.as ?_
  refine Run.nx ?_
  refine RunC.ret ?_
  refine RunQ.weak Sub.refl (perm_nil _) ?_
  refine RunQ.fin1 (.inl rfl) Tryz.results166 (rv_tmp rfl) ?_
  exact ⟨rfl, _, rfl, (rd_eq (T := tU8) (x := o1) rfl (by rw [← hg, hc0, gmulL_zero]))⟩

theorem c_slices_Index_int_int (I : Imm) {As : Option Addr} {cs : Nat} (s : List Int) (hs : Sl tInt I As cs s) (v : Int) : Con Tryz.prog 93 [.slice As s.length cs, .int .i64 v].toArray I [] (Ret1 (tInt.o) (idx (fun y => decide (v = y)) s)) := by
 have hsms := hs.small
 refine Con.enter (n := 19) (L := [(0, .slice As s.length cs), (1, .int .i64 v)]) Tryz.func93 rfl rfl (Nat.le_of_ble_eq_true rfl) rfl (fun E => ?_)
 refine RunC.sr ?_
 refine Run.as ?_
 refine Run.nx ?_
 refine RunC.seq ?_
 refine RunC.sr ?_
 refine Run.mv ?_
 refine Run.m (y_len rfl Tryz.runUnderlying36 rfl) ?_
 refine Run.mv ?_
 refine Run.nx ?_
 refine RunC.block ?_
 obtain ⟨Inv0, hInv0⟩ : ∃ Inv : Nat → Act → World → Prop, ∀ mm aa ww, Inv mm aa ww ↔ (∃ (k : Nat), (k ≤ s.length) ∧ (∀ y ∈ s.take k, decide (v = y) = false) ∧ (mm = (s.length - k)) ∧ Frm aa 19 [(0, .slice As s.length cs), (1, .int .i64 v), (7, .int .i64 (s.length : Int)), (8, .int .i64 (k : Int))] ∧ S E ww I []) := ⟨_, fun _ _ _ => Iff.rfl⟩
 refine RunC.loopX Inv0 (fun aa ww hF hS => ⟨_, (hInv0 _ _ _).2 ⟨0, (by simp), (by simp), rfl, hF.sub (Sub.of rfl), hS.sub (perm_self _)⟩⟩) ?_
 intro mm0 aa ww hv
 obtain ⟨k, hk, hn, hmm_, hF, hS⟩ := (hInv0 _ _ _).1 hv
 clear hv
 refine RunC.go ?_ hF hS
 clear hF hS aa ww
 refine RunC.sr ?_
 refine Run.m (v := .bool (decide ((k : Int) < (s.length : Int)))) (y_bin rfl rfl rfl bn_lss) ?_
 refine Run.nx ?_
 refine RunC.seq ?_
 refine RunC.cond rfl (fun hc0 => ?_) (fun hc0 => ?_)
 ·
  try simp only [z1, z2, z3, z4, z5, z6, z7, z8, z9, z10, z11, z12, z13, z14, z15, z16] at hc0
  refine RunC.skip ?_
  refine RunQ.next ?_
  refine RunC.seq ?_
  refine RunC.block ?_
  refine RunC.sr ?_
  refine Run.mv ?_
  refine Run.as ?_
  refine Run.nx ?_
  refine RunC.sr ?_
  refine Run.mv ?_
  refine Run.mv ?_
  refine Run.mv ?_
  obtain ⟨x14, p14_1, cs14_1, hx14, hp14_1, hcs14_1, hrc14_1⟩ := Sl.at_ (P := Tryz.prog) (T := tInt) Tryz.runUnderlying36 Tryz.sizeOf3 hs (k := .i64) (i := (k : Int)) (by omega) (by omega)
  replace hx14 : s[k]? = some x14 := hx14
  obtain ⟨rfl, f14_1_0⟩ := hcs14_1
  refine Run.m (v := .pointer (some p14_1)) (y_index rfl rfl rfl hp14_1) ?_
  refine Run.m (v := .int .i64 x14) (y_load1 rfl Tryz.isAgg3 rfl (RCells.hd hrc14_1)) ?_
  refine Run.m (v := .bool (decide (v = x14))) (y_bin rfl rfl rfl bn_eql) ?_
  refine Run.nx ?_
  refine RunC.cond rfl (fun hc1 => ?_) (fun hc1 => ?_)
  ·
   try simp only [z1, z2, z3, z4, z5, z6, z7, z8, z9, z10, z11, z12, z13, z14, z15, z16] at hc1
   refine RunC.sr ?_
   refine Run.mv ?_
   refine Run.as ?_
   refine Run.nx ?_
   refine RunC.ret ?_
   refine RunQ.inR ?_
   refine RunQ.pass (fun h => by cases h) ?_
   refine RunQ.pass (fun h => by cases h) ?_
   refine RunQ.inR ?_
   refine RunQ.pass (fun h => by cases h) ?_
   refine RunQ.weak Sub.refl (perm_nil _) ?_
   refine RunQ.fin1 (.inl rfl) Tryz.results93 (rv_tmp rfl) ?_
   exact ⟨rfl, _, rfl, (rd_eq (T := tInt) (x := (k : Int)) ⟨rfl, (by first | omega | (dsimp only; omega))⟩ (by first | exact (idx_none (by rw [List.take_of_length_le (by omega)] at hn; exact hn)).symm | exact (idx_at hx14 (by simpa using hc1) hn).symm))⟩
  ·
   try simp only [z1, z2, z3, z4, z5, z6, z7, z8, z9, z10, z11, z12, z13, z14, z15, z16] at hc1
   refine RunC.skip ?_
   refine RunQ.inB ?_
   refine RunQ.next ?_
   refine RunC.region ?_
   refine Run.m (v := .int .i64 ((k : Int) + 1)) (y_bin rfl rfl rfl (bn_add (by omega) (by omega))) ?_
   refine Run.mv ?_
   refine Run.nil ?_
   exact RunQ.thenI (fun aa ww hF hS => ⟨_, (by omega), (hInv0 _ _ _).2 ⟨(k + 1), (by omega), (take_all hx14 (by simpa using hc1) hn), rfl, hF.sub (Sub.of rfl), hS.sub (perm_self _)⟩⟩)
 ·
  try simp only [z1, z2, z3, z4, z5, z6, z7, z8, z9, z10, z11, z12, z13, z14, z15, z16] at hc0
  refine RunC.exit ?_
  refine RunQ.pass (fun h => by cases h) ?_
  refine RunQ.pass (fun h => by cases h) ?_
  refine RunQ.out ?_
  refine RunQ.next ?_
  refine RunC.sr ?_
  refine Run.as ?_
  refine Run.nx ?_
  refine RunC.ret ?_
  refine RunQ.weak Sub.refl (perm_nil _) ?_
  refine RunQ.fin1 (.inl rfl) Tryz.results93 (rv_tmp rfl) ?_
  exact ⟨rfl, _, rfl, (rd_eq (T := tInt) (x := (-1)) ⟨rfl, (by first | omega | (dsimp only; omega))⟩ (by first | exact (idx_at hx14 (by simpa using hc1) hn).symm | exact (idx_none (by rw [List.take_of_length_le (by omega)] at hn; exact hn)).symm))⟩

theorem c_slices_Contains_int_int (I : Imm) {As : Option Addr} {cs : Nat} (s : List Int) (hs : Sl tInt I As cs s) (v : Int) : Con Tryz.prog 45 [.slice As s.length cs, .int .i64 v].toArray I [] (Ret1 (tBool.o) (s.contains v)) := by
 have hsms := hs.small
 refine Con.enter (n := 9) (L := [(0, .slice As s.length cs), (1, .int .i64 v)]) Tryz.func45 rfl rfl (Nat.le_of_ble_eq_true rfl) rfl (fun E => ?_)
 refine RunC.sr ?_
 refine Run.as ?_
 refine Run.nx ?_
 refine RunC.sr ?_
 refine Run.mv ?_
 refine Run.mv ?_
 refine Run.callV (en_func rfl Tryz.call93 rfl) (conv_int (c_slices_Index_int_int _ s hs v)) rfl rfl (by decide) (fun hI1 => ?_)
 refine Run.m (v := .bool (decide ((idx (fun y => decide (v = y)) s) ≥ 0))) (y_bin rfl rfl rfl bn_geq) ?_
 refine Run.as ?_
 refine Run.nx ?_
 refine RunC.ret ?_
 refine RunQ.weak Sub.refl (perm_nil _) ?_
 refine RunQ.fin1 (.inl rfl) Tryz.results45 (rv_tmp rfl) ?_
 exact ⟨rfl, _, rfl, (rd_eq (T := tBool) (x := decide ((idx (fun y => decide (v = y)) s) ≥ 0)) rfl (by exact contains_idx _ _))⟩

theorem c_IndexFunc_apiSeal (I : Imm) {As : Option Addr} {cs : Nat} (s : List ASeal) (hs : Sl tSeal I As cs s) (fidf : FuncId) (capf : List Value) (f : ASeal → Bool) (hcallf : ∀ args w, (callFunc fidf args).run Tryz.prog w = .ok (.enter fidf args) w) (hf : ∀ J cs x, I.le J → tSeal.rd J cs x → x ∈ s → Con Tryz.prog fidf ([tSeal.g.v cs] ++ capf).toArray J [] (Ret1 tBool.o (f x))) : Con Tryz.prog 88 [.slice As s.length cs, .func (.func fidf) #[] capf.toArray].toArray I [] (Ret1 (tInt.o) (idx f s)) := by
 have hsms := hs.small
 refine Con.enter (n := 19) (L := [(0, .slice As s.length cs), (1, .func (.func fidf) #[] capf.toArray)]) Tryz.func88 rfl rfl (Nat.le_of_ble_eq_true rfl) rfl (fun E => ?_)
 refine RunC.sr ?_
 refine Run.as ?_
 refine Run.nx ?_
 refine RunC.seq ?_
 refine RunC.sr ?_
 refine Run.mv ?_
 refine Run.m (y_len rfl Tryz.runUnderlying33 rfl) ?_
 refine Run.mv ?_
 refine Run.nx ?_
 refine RunC.block ?_
 obtain ⟨Inv0, hInv0⟩ : ∃ Inv : Nat → Act → World → Prop, ∀ mm aa ww, Inv mm aa ww ↔ (∃ (k : Nat) (J : Imm), (I.le J) ∧ (k ≤ s.length) ∧ (∀ y ∈ s.take k, f y = false) ∧ (mm = (s.length - k)) ∧ Frm aa 19 [(0, .slice As s.length cs), (1, .func (.func fidf) #[] capf.toArray), (7, .int .i64 (s.length : Int)), (8, .int .i64 (k : Int))] ∧ S E ww J []) := ⟨_, fun _ _ _ => Iff.rfl⟩
 refine RunC.loopX Inv0 (fun aa ww hF hS => ⟨_, (hInv0 _ _ _).2 ⟨0, I, (Imm.le.refl _), (by simp), (by simp), rfl, hF.sub (Sub.of rfl), hS.sub (perm_self _)⟩⟩) ?_
 intro mm0 aa ww hv
 obtain ⟨k, J, hJ_le, hk, hn, hmm_, hF, hS⟩ := (hInv0 _ _ _).1 hv
 clear hv
 refine RunC.go ?_ hF hS
 clear hF hS aa ww
 refine RunC.sr ?_
 refine Run.m (v := .bool (decide ((k : Int) < (s.length : Int)))) (y_bin rfl rfl rfl bn_lss) ?_
 refine Run.nx ?_
 refine RunC.seq ?_
 refine RunC.cond rfl (fun hc0 => ?_) (fun hc0 => ?_)
 ·
  try simp only [z1, z2, z3, z4, z5, z6, z7, z8, z9, z10, z11, z12, z13, z14, z15, z16] at hc0
  refine RunC.skip ?_
  refine RunQ.next ?_
  refine RunC.seq ?_
  refine RunC.block ?_
  refine RunC.sr ?_
  refine Run.mv ?_
  refine Run.as ?_
  refine Run.nx ?_
  refine RunC.sr ?_
  refine Run.mv ?_
  refine Run.mv ?_
  refine Run.mv ?_
  obtain ⟨x14, p14_1, cs14_1, hx14, hp14_1, hcs14_1, hrc14_1⟩ := Sl.at_ (P := Tryz.prog) (T := tSeal) Tryz.runUnderlying33 Tryz.sizeOf38 (hs.mono hJ_le) (k := .i64) (i := (k : Int)) (by omega) (by omega)
  replace hx14 : s[k]? = some x14 := hx14
  obtain ⟨A14_1_4, c14_1_4, rfl, f14_1_0, f14_1_1, f14_1_2, f14_1_3, f14_1_4⟩ := hcs14_1
  have hsm14_1_4 := f14_1_4.small
  refine Run.m (v := .pointer (some p14_1)) (y_index rfl rfl rfl hp14_1) ?_
  refine Run.m (v := .agg [.int .i64 x14.number, .int .i64 x14.index, .int .i64 x14.data, .int .i64 x14.parity, .slice A14_1_4 x14.labels.length c14_1_4].toArray) (y_loadA (cs := [.int .i64 x14.number, .int .i64 x14.index, .int .i64 x14.data, .int .i64 x14.parity, .slice A14_1_4 x14.labels.length c14_1_4]) rfl Tryz.isAgg38 Tryz.sizeOf38 rfl hrc14_1 rfl) ?_
  have hcl2 : Con Tryz.prog fidf ([(.agg [.int .i64 x14.number, .int .i64 x14.index, .int .i64 x14.data, .int .i64 x14.parity, .slice A14_1_4 x14.labels.length c14_1_4].toArray : Value)] ++ capf).toArray J [] (Ret1 tBool.o (f x14)) := (hf J [.int .i64 x14.number, .int .i64 x14.index, .int .i64 x14.data, .int .i64 x14.parity, .slice A14_1_4 x14.labels.length c14_1_4] x14 hJ_le ⟨_, _, rfl, f14_1_0, f14_1_1, f14_1_2, f14_1_3, f14_1_4⟩ (List.mem_of_getElem? (by assumption)))
  refine Run.callV (en_clos rfl rfl hcallf rfl rfl) (conv_bool hcl2) rfl rfl (by decide) (fun hI3 => ?_)
  refine Run.nx ?_
  refine RunC.cond rfl (fun hc1 => ?_) (fun hc1 => ?_)
  ·
   try simp only [z1, z2, z3, z4, z5, z6, z7, z8, z9, z10, z11, z12, z13, z14, z15, z16] at hc1
   refine RunC.sr ?_
   refine Run.mv ?_
   refine Run.as ?_
   refine Run.nx ?_
   refine RunC.ret ?_
   refine RunQ.inR ?_
   refine RunQ.pass (fun h => by cases h) ?_
   refine RunQ.pass (fun h => by cases h) ?_
   refine RunQ.inR ?_
   refine RunQ.pass (fun h => by cases h) ?_
   refine RunQ.weak Sub.refl (perm_nil _) ?_
   refine RunQ.fin1 (.inl rfl) Tryz.results88 (rv_tmp rfl) ?_
   exact ⟨rfl, _, rfl, (rd_eq (T := tInt) (x := (k : Int)) ⟨rfl, (by first | omega | (dsimp only; omega))⟩ (by first | exact (idx_at hx14 (by simpa using hc1) hn).symm | exact (idx_none (by rw [List.take_of_length_le (by omega)] at hn; exact hn)).symm))⟩
  ·
   try simp only [z1, z2, z3, z4, z5, z6, z7, z8, z9, z10, z11, z12, z13, z14, z15, z16] at hc1
   refine RunC.skip ?_
   refine RunQ.inB ?_
   refine RunQ.next ?_
   refine RunC.region ?_
   refine Run.m (v := .int .i64 ((k : Int) + 1)) (y_bin rfl rfl rfl (bn_add (by omega) (by omega))) ?_
   refine Run.mv ?_
   refine Run.nil ?_
   exact RunQ.thenI (fun aa ww hF hS => ⟨_, (by omega), (hInv0 _ _ _).2 ⟨(k + 1), J, hJ_le, (by omega), (take_all hx14 (by simpa using hc1) hn), rfl, hF.sub (Sub.of rfl), hS.sub (perm_self _)⟩⟩)
 ·
  try simp only [z1, z2, z3, z4, z5, z6, z7, z8, z9, z10, z11, z12, z13, z14, z15, z16] at hc0
  refine RunC.exit ?_
  refine RunQ.pass (fun h => by cases h) ?_
  refine RunQ.pass (fun h => by cases h) ?_
  refine RunQ.out ?_
  refine RunQ.next ?_
  refine RunC.sr ?_
  refine Run.as ?_
  refine Run.nx ?_
  refine RunC.ret ?_
  refine RunQ.weak Sub.refl (perm_nil _) ?_
  refine RunQ.fin1 (.inl rfl) Tryz.results88 (rv_tmp rfl) ?_
  exact ⟨rfl, _, rfl, (rd_eq (T := tInt) (x := (-1)) ⟨rfl, (by first | omega | (dsimp only; omega))⟩ (by first | exact (idx_at hx14 (by simpa using hc1) hn).symm | exact (idx_none (by rw [List.take_of_length_le (by omega)] at hn; exact hn)).symm))⟩

theorem c_IndexFunc_apiTape (I : Imm) {As : Option Addr} {cs : Nat} (s : List ATape) (hs : Sl tTape I As cs s) (fidf : FuncId) (capf : List Value) (f : ATape → Bool) (hcallf : ∀ args w, (callFunc fidf args).run Tryz.prog w = .ok (.enter fidf args) w) (hf : ∀ J cs x, I.le J → tTape.rd J cs x → x ∈ s → Con Tryz.prog fidf ([tTape.g.v cs] ++ capf).toArray J [] (Ret1 tBool.o (f x))) : Con Tryz.prog 104 [.slice As s.length cs, .func (.func fidf) #[] capf.toArray].toArray I [] (Ret1 (tInt.o) (idx f s)) := by
 have hsms := hs.small
 refine Con.enter (n := 19) (L := [(0, .slice As s.length cs), (1, .func (.func fidf) #[] capf.toArray)]) Tryz.func104 rfl rfl (Nat.le_of_ble_eq_true rfl) rfl (fun E => ?_)
 refine RunC.sr ?_
 refine Run.as ?_
 refine Run.nx ?_
 refine RunC.seq ?_
 refine RunC.sr ?_
 refine Run.mv ?_
 refine Run.m (y_len rfl Tryz.runUnderlying22 rfl) ?_
 refine Run.mv ?_
 refine Run.nx ?_
 refine RunC.block ?_
 obtain ⟨Inv0, hInv0⟩ : ∃ Inv : Nat → Act → World → Prop, ∀ mm aa ww, Inv mm aa ww ↔ (∃ (k : Nat) (J : Imm), (I.le J) ∧ (k ≤ s.length) ∧ (∀ y ∈ s.take k, f y = false) ∧ (mm = (s.length - k)) ∧ Frm aa 19 [(0, .slice As s.length cs), (1, .func (.func fidf) #[] capf.toArray), (7, .int .i64 (s.length : Int)), (8, .int .i64 (k : Int))] ∧ S E ww J []) := ⟨_, fun _ _ _ => Iff.rfl⟩
 refine RunC.loopX Inv0 (fun aa ww hF hS => ⟨_, (hInv0 _ _ _).2 ⟨0, I, (Imm.le.refl _), (by simp), (by simp), rfl, hF.sub (Sub.of rfl), hS.sub (perm_self _)⟩⟩) ?_
 intro mm0 aa ww hv
 obtain ⟨k, J, hJ_le, hk, hn, hmm_, hF, hS⟩ := (hInv0 _ _ _).1 hv
 clear hv
 refine RunC.go ?_ hF hS
 clear hF hS aa ww
 refine RunC.sr ?_
 refine Run.m (v := .bool (decide ((k : Int) < (s.length : Int)))) (y_bin rfl rfl rfl bn_lss) ?_
 refine Run.nx ?_
 refine RunC.seq ?_
 refine RunC.cond rfl (fun hc0 => ?_) (fun hc0 => ?_)
 ·
  try simp only [z1, z2, z3, z4, z5, z6, z7, z8, z9, z10, z11, z12, z13, z14, z15, z16] at hc0
  refine RunC.skip ?_
  refine RunQ.next ?_
  refine RunC.seq ?_
  refine RunC.block ?_
  refine RunC.sr ?_
  refine Run.mv ?_
  refine Run.as ?_
  refine Run.nx ?_
  refine RunC.sr ?_
  refine Run.mv ?_
  refine Run.mv ?_
  refine Run.mv ?_
  obtain ⟨x14, p14_1, cs14_1, hx14, hp14_1, hcs14_1, hrc14_1⟩ := Sl.at_ (P := Tryz.prog) (T := tTape) Tryz.runUnderlying22 Tryz.sizeOf45 (hs.mono hJ_le) (k := .i64) (i := (k : Int)) (by omega) (by omega)
  replace hx14 : s[k]? = some x14 := hx14
  obtain ⟨A14_1_2, c14_1_2, rfl, f14_1_0, f14_1_1, f14_1_2⟩ := hcs14_1
  have hsm14_1_2 := f14_1_2.small
  refine Run.m (v := .pointer (some p14_1)) (y_index rfl rfl rfl hp14_1) ?_
  refine Run.m (v := .agg [.int .i64 x14.label, .int .i64 x14.cap, .slice A14_1_2 x14.blocks.length c14_1_2, .bool x14.lost].toArray) (y_loadA (cs := [.int .i64 x14.label, .int .i64 x14.cap, .slice A14_1_2 x14.blocks.length c14_1_2, .bool x14.lost]) rfl Tryz.isAgg45 Tryz.sizeOf45 rfl hrc14_1 rfl) ?_
  have hcl2 : Con Tryz.prog fidf ([(.agg [.int .i64 x14.label, .int .i64 x14.cap, .slice A14_1_2 x14.blocks.length c14_1_2, .bool x14.lost].toArray : Value)] ++ capf).toArray J [] (Ret1 tBool.o (f x14)) := (hf J [.int .i64 x14.label, .int .i64 x14.cap, .slice A14_1_2 x14.blocks.length c14_1_2, .bool x14.lost] x14 hJ_le ⟨_, _, rfl, f14_1_0, f14_1_1, f14_1_2⟩ (List.mem_of_getElem? (by assumption)))
  refine Run.callV (en_clos rfl rfl hcallf rfl rfl) (conv_bool hcl2) rfl rfl (by decide) (fun hI3 => ?_)
  refine Run.nx ?_
  refine RunC.cond rfl (fun hc1 => ?_) (fun hc1 => ?_)
  ·
   try simp only [z1, z2, z3, z4, z5, z6, z7, z8, z9, z10, z11, z12, z13, z14, z15, z16] at hc1
   refine RunC.sr ?_
   refine Run.mv ?_
   refine Run.as ?_
   refine Run.nx ?_
   refine RunC.ret ?_
   refine RunQ.inR ?_
   refine RunQ.pass (fun h => by cases h) ?_
   refine RunQ.pass (fun h => by cases h) ?_
   refine RunQ.inR ?_
   refine RunQ.pass (fun h => by cases h) ?_
   refine RunQ.weak Sub.refl (perm_nil _) ?_
   refine RunQ.fin1 (.inl rfl) Tryz.results104 (rv_tmp rfl) ?_
   exact ⟨rfl, _, rfl, (rd_eq (T := tInt) (x := (k : Int)) ⟨rfl, (by first | omega | (dsimp only; omega))⟩ (by first | exact (idx_at hx14 (by simpa using hc1) hn).symm | exact (idx_none (by rw [List.take_of_length_le (by omega)] at hn; exact hn)).symm))⟩
  ·
   try simp only [z1, z2, z3, z4, z5, z6, z7, z8, z9, z10, z11, z12, z13, z14, z15, z16] at hc1
   refine RunC.skip ?_
   refine RunQ.inB ?_
   refine RunQ.next ?_
   refine RunC.region ?_
   refine Run.m (v := .int .i64 ((k : Int) + 1)) (y_bin rfl rfl rfl (bn_add (by omega) (by omega))) ?_
   refine Run.mv ?_
   refine Run.nil ?_
   exact RunQ.thenI (fun aa ww hF hS => ⟨_, (by omega), (hInv0 _ _ _).2 ⟨(k + 1), J, hJ_le, (by omega), (take_all hx14 (by simpa using hc1) hn), rfl, hF.sub (Sub.of rfl), hS.sub (perm_self _)⟩⟩)
 ·
  try simp only [z1, z2, z3, z4, z5, z6, z7, z8, z9, z10, z11, z12, z13, z14, z15, z16] at hc0
  refine RunC.exit ?_
  refine RunQ.pass (fun h => by cases h) ?_
  refine RunQ.pass (fun h => by cases h) ?_
  refine RunQ.out ?_
  refine RunQ.next ?_
  refine RunC.sr ?_
  refine Run.as ?_
  refine Run.nx ?_
  refine RunC.ret ?_
  refine RunQ.weak Sub.refl (perm_nil _) ?_
  refine RunQ.fin1 (.inl rfl) Tryz.results104 (rv_tmp rfl) ?_
  exact ⟨rfl, _, rfl, (rd_eq (T := tInt) (x := (-1)) ⟨rfl, (by first | omega | (dsimp only; omega))⟩ (by first | exact (idx_at hx14 (by simpa using hc1) hn).symm | exact (idx_none (by rw [List.take_of_length_le (by omega)] at hn; exact hn)).symm))⟩

theorem c_IndexFunc_Lbyte (I : Imm) {As : Option Addr} {cs : Nat} (s : List (List UInt8)) (hs : Sl (tSl tU8) I As cs s) (fidf : FuncId) (capf : List Value) (f : (List UInt8) → Bool) (hcallf : ∀ args w, (callFunc fidf args).run Tryz.prog w = .ok (.enter fidf args) w) (hf : ∀ J cs x, I.le J → (tSl tU8).rd J cs x → x ∈ s → Con Tryz.prog fidf ([(tSl tU8).o.v cs] ++ capf).toArray J [] (Ret1 tBool.o (f x))) : Con Tryz.prog 109 [.slice As s.length cs, .func (.func fidf) #[] capf.toArray].toArray I [] (Ret1 (tInt.o) (idx f s)) := by
 have hsms := hs.small
 refine Con.enter (n := 19) (L := [(0, .slice As s.length cs), (1, .func (.func fidf) #[] capf.toArray)]) Tryz.func109 rfl rfl (Nat.le_of_ble_eq_true rfl) rfl (fun E => ?_)
 refine RunC.sr ?_
 refine Run.as ?_
 refine Run.nx ?_
 refine RunC.seq ?_
 refine RunC.sr ?_
 refine Run.mv ?_
 refine Run.m (y_len rfl Tryz.runUnderlying43 rfl) ?_
 refine Run.mv ?_
 refine Run.nx ?_
 refine RunC.block ?_
 obtain ⟨Inv0, hInv0⟩ : ∃ Inv : Nat → Act → World → Prop, ∀ mm aa ww, Inv mm aa ww ↔ (∃ (k : Nat) (J : Imm), (I.le J) ∧ (k ≤ s.length) ∧ (∀ y ∈ s.take k, f y = false) ∧ (mm = (s.length - k)) ∧ Frm aa 19 [(0, .slice As s.length cs), (1, .func (.func fidf) #[] capf.toArray), (7, .int .i64 (s.length : Int)), (8, .int .i64 (k : Int))] ∧ S E ww J []) := ⟨_, fun _ _ _ => Iff.rfl⟩
 refine RunC.loopX Inv0 (fun aa ww hF hS => ⟨_, (hInv0 _ _ _).2 ⟨0, I, (Imm.le.refl _), (by simp), (by simp), rfl, hF.sub (Sub.of rfl), hS.sub (perm_self _)⟩⟩) ?_
 intro mm0 aa ww hv
 obtain ⟨k, J, hJ_le, hk, hn, hmm_, hF, hS⟩ := (hInv0 _ _ _).1 hv
 clear hv
 refine RunC.go ?_ hF hS
 clear hF hS aa ww
 refine RunC.sr ?_
 refine Run.m (v := .bool (decide ((k : Int) < (s.length : Int)))) (y_bin rfl rfl rfl bn_lss) ?_
 refine Run.nx ?_
 refine RunC.seq ?_
 refine RunC.cond rfl (fun hc0 => ?_) (fun hc0 => ?_)
 ·
  try simp only [z1, z2, z3, z4, z5, z6, z7, z8, z9, z10, z11, z12, z13, z14, z15, z16] at hc0
  refine RunC.skip ?_
  refine RunQ.next ?_
  refine RunC.seq ?_
  refine RunC.block ?_
  refine RunC.sr ?_
  refine Run.mv ?_
  refine Run.as ?_
  refine Run.nx ?_
  refine RunC.sr ?_
  refine Run.mv ?_
  refine Run.mv ?_
  refine Run.mv ?_
  obtain ⟨x14, p14_1, cs14_1, hx14, hp14_1, hcs14_1, hrc14_1⟩ := Sl.at_ (P := Tryz.prog) (T := (tSl tU8)) Tryz.runUnderlying43 Tryz.sizeOf42 (hs.mono hJ_le) (k := .i64) (i := (k : Int)) (by omega) (by omega)
  replace hx14 : s[k]? = some x14 := hx14
  obtain ⟨A14_1_0, c14_1_0, rfl, f14_1_0⟩ := hcs14_1
  have hsm14_1_0 := f14_1_0.small
  refine Run.m (v := .pointer (some p14_1)) (y_index rfl rfl rfl hp14_1) ?_
  refine Run.m (v := .slice A14_1_0 x14.length c14_1_0) (y_load1 rfl Tryz.isAgg42 rfl (RCells.hd hrc14_1)) ?_
  have hcl2 : Con Tryz.prog fidf ([(.slice A14_1_0 x14.length c14_1_0 : Value)] ++ capf).toArray J [] (Ret1 tBool.o (f x14)) := (hf J [.slice A14_1_0 x14.length c14_1_0] x14 hJ_le ⟨_, _, rfl, f14_1_0⟩ (List.mem_of_getElem? (by assumption)))
  refine Run.callV (en_clos rfl rfl hcallf rfl rfl) (conv_bool hcl2) rfl rfl (by decide) (fun hI3 => ?_)
  refine Run.nx ?_
  refine RunC.cond rfl (fun hc1 => ?_) (fun hc1 => ?_)
  ·
   try simp only [z1, z2, z3, z4, z5, z6, z7, z8, z9, z10, z11, z12, z13, z14, z15, z16] at hc1
   refine RunC.sr ?_
   refine Run.mv ?_
   refine Run.as ?_
   refine Run.nx ?_
   refine RunC.ret ?_
   refine RunQ.inR ?_
   refine RunQ.pass (fun h => by cases h) ?_
   refine RunQ.pass (fun h => by cases h) ?_
   refine RunQ.inR ?_
   refine RunQ.pass (fun h => by cases h) ?_
   refine RunQ.weak Sub.refl (perm_nil _) ?_
   refine RunQ.fin1 (.inl rfl) Tryz.results109 (rv_tmp rfl) ?_
   exact ⟨rfl, _, rfl, (rd_eq (T := tInt) (x := (k : Int)) ⟨rfl, (by first | omega | (dsimp only; omega))⟩ (by first | exact (idx_at hx14 (by simpa using hc1) hn).symm | exact (idx_none (by rw [List.take_of_length_le (by omega)] at hn; exact hn)).symm))⟩
  ·
   try simp only [z1, z2, z3, z4, z5, z6, z7, z8, z9, z10, z11, z12, z13, z14, z15, z16] at hc1
   refine RunC.skip ?_
   refine RunQ.inB ?_
   refine RunQ.next ?_
   refine RunC.region ?_
   refine Run.m (v := .int .i64 ((k : Int) + 1)) (y_bin rfl rfl rfl (bn_add (by omega) (by omega))) ?_
   refine Run.mv ?_
   refine Run.nil ?_
   exact RunQ.thenI (fun aa ww hF hS => ⟨_, (by omega), (hInv0 _ _ _).2 ⟨(k + 1), J, hJ_le, (by omega), (take_all hx14 (by simpa using hc1) hn), rfl, hF.sub (Sub.of rfl), hS.sub (perm_self _)⟩⟩)
 ·
  try simp only [z1, z2, z3, z4, z5, z6, z7, z8, z9, z10, z11, z12, z13, z14, z15, z16] at hc0
  refine RunC.exit ?_
  refine RunQ.pass (fun h => by cases h) ?_
  refine RunQ.pass (fun h => by cases h) ?_
  refine RunQ.out ?_
  refine RunQ.next ?_
  refine RunC.sr ?_
  refine Run.as ?_
  refine Run.nx ?_
  refine RunC.ret ?_
  refine RunQ.weak Sub.refl (perm_nil _) ?_
  refine RunQ.fin1 (.inl rfl) Tryz.results109 (rv_tmp rfl) ?_
  exact ⟨rfl, _, rfl, (rd_eq (T := tInt) (x := (-1)) ⟨rfl, (by first | omega | (dsimp only; omega))⟩ (by first | exact (idx_at hx14 (by simpa using hc1) hn).symm | exact (idx_none (by rw [List.take_of_length_le (by omega)] at hn; exact hn)).symm))⟩

theorem c_ContainsFunc_apiSeal (I : Imm) {As : Option Addr} {cs : Nat} (s : List ASeal) (hs : Sl tSeal I As cs s) (fidf : FuncId) (capf : List Value) (f : ASeal → Bool) (hcallf : ∀ args w, (callFunc fidf args).run Tryz.prog w = .ok (.enter fidf args) w) (hf : ∀ J cs x, I.le J → tSeal.rd J cs x → x ∈ s → Con Tryz.prog fidf ([tSeal.g.v cs] ++ capf).toArray J [] (Ret1 tBool.o (f x))) : Con Tryz.prog 39 [.slice As s.length cs, .func (.func fidf) #[] capf.toArray].toArray I [] (Ret1 (tBool.o) (s.any f)) := by
 have hsms := hs.small
 refine Con.enter (n := 9) (L := [(0, .slice As s.length cs), (1, .func (.func fidf) #[] capf.toArray)]) Tryz.func39 rfl rfl (Nat.le_of_ble_eq_true rfl) rfl (fun E => ?_)
 refine RunC.sr ?_
 refine Run.as ?_
 refine Run.nx ?_
 refine RunC.sr ?_
 refine Run.mv ?_
 refine Run.mv ?_
 refine Run.callV (en_func rfl Tryz.call88 rfl) (conv_int (c_IndexFunc_apiSeal _ s hs fidf capf f hcallf hf)) rfl rfl (by decide) (fun hI2 => ?_)
 refine Run.m (v := .bool (decide ((idx f s) ≥ 0))) (y_bin rfl rfl rfl bn_geq) ?_
 refine Run.as ?_
 refine Run.nx ?_
 refine RunC.ret ?_
 refine RunQ.weak Sub.refl (perm_nil _) ?_
 refine RunQ.fin1 (.inl rfl) Tryz.results39 (rv_tmp rfl) ?_
 exact ⟨rfl, _, rfl, (rd_eq (T := tBool) (x := decide ((idx f s) ≥ 0)) rfl (by exact any_idx _ _))⟩

theorem c_ContainsFunc_apiTape (I : Imm) {As : Option Addr} {cs : Nat} (s : List ATape) (hs : Sl tTape I As cs s) (fidf : FuncId) (capf : List Value) (f : ATape → Bool) (hcallf : ∀ args w, (callFunc fidf args).run Tryz.prog w = .ok (.enter fidf args) w) (hf : ∀ J cs x, I.le J → tTape.rd J cs x → x ∈ s → Con Tryz.prog fidf ([tTape.g.v cs] ++ capf).toArray J [] (Ret1 tBool.o (f x))) : Con Tryz.prog 71 [.slice As s.length cs, .func (.func fidf) #[] capf.toArray].toArray I [] (Ret1 (tBool.o) (s.any f)) := by
 have hsms := hs.small
 refine Con.enter (n := 9) (L := [(0, .slice As s.length cs), (1, .func (.func fidf) #[] capf.toArray)]) Tryz.func71 rfl rfl (Nat.le_of_ble_eq_true rfl) rfl (fun E => ?_)
 refine RunC.sr ?_
 refine Run.as ?_
 refine Run.nx ?_
 refine RunC.sr ?_
 refine Run.mv ?_
 refine Run.mv ?_
 refine Run.callV (en_func rfl Tryz.call104 rfl) (conv_int (c_IndexFunc_apiTape _ s hs fidf capf f hcallf hf)) rfl rfl (by decide) (fun hI2 => ?_)
 refine Run.m (v := .bool (decide ((idx f s) ≥ 0))) (y_bin rfl rfl rfl bn_geq) ?_
 refine Run.as ?_
 refine Run.nx ?_
 refine RunC.ret ?_
 refine RunQ.weak Sub.refl (perm_nil _) ?_
 refine RunQ.fin1 (.inl rfl) Tryz.results71 (rv_tmp rfl) ?_
 exact ⟨rfl, _, rfl, (rd_eq (T := tBool) (x := decide ((idx f s) ≥ 0)) rfl (by exact any_idx _ _))⟩

theorem c_ContainsFunc_Lbyte (I : Imm) {As : Option Addr} {cs : Nat} (s : List (List UInt8)) (hs : Sl (tSl tU8) I As cs s) (fidf : FuncId) (capf : List Value) (f : (List UInt8) → Bool) (hcallf : ∀ args w, (callFunc fidf args).run Tryz.prog w = .ok (.enter fidf args) w) (hf : ∀ J cs x, I.le J → (tSl tU8).rd J cs x → x ∈ s → Con Tryz.prog fidf ([(tSl tU8).o.v cs] ++ capf).toArray J [] (Ret1 tBool.o (f x))) : Con Tryz.prog 79 [.slice As s.length cs, .func (.func fidf) #[] capf.toArray].toArray I [] (Ret1 (tBool.o) (s.any f)) := by
 have hsms := hs.small
 refine Con.enter (n := 9) (L := [(0, .slice As s.length cs), (1, .func (.func fidf) #[] capf.toArray)]) Tryz.func79 rfl rfl (Nat.le_of_ble_eq_true rfl) rfl (fun E => ?_)
 refine RunC.sr ?_
 refine Run.as ?_
 refine Run.nx ?_
 refine RunC.sr ?_
 refine Run.mv ?_
 refine Run.mv ?_
 refine Run.callV (en_func rfl Tryz.call109 rfl) (conv_int (c_IndexFunc_Lbyte _ s hs fidf capf f hcallf hf)) rfl rfl (by decide) (fun hI2 => ?_)
 refine Run.m (v := .bool (decide ((idx f s) ≥ 0))) (y_bin rfl rfl rfl bn_geq) ?_
 refine Run.as ?_
 refine Run.nx ?_
 refine RunC.ret ?_
 refine RunQ.weak Sub.refl (perm_nil _) ?_
 refine RunQ.fin1 (.inl rfl) Tryz.results79 (rv_tmp rfl) ?_
 exact ⟨rfl, _, rfl, (rd_eq (T := tBool) (x := decide ((idx f s) ≥ 0)) rfl (by exact any_idx _ _))⟩

theorem c_gf_power (I : Imm) (a : UInt8) (n : Int) (hn : 0 ≤ n) (hn2 : n ≤ 9223372036854775807) : Con Tryz.prog 158 [.int .u8 (a.toNat : Int), .int .i64 n].toArray I [] (Ret1 (tU8.o) (gpow a n.toNat)) := by
 obtain ⟨N, rfl⟩ := Int.eq_ofNat_of_zero_le hn
 refine Con.enter (n := 20) (L := [(0, .int .u8 (a.toNat : Int)), (1, .int .i64 (N : Int))]) Tryz.func158 rfl rfl (Nat.le_of_ble_eq_true rfl) rfl (fun E => ?_)
 refine RunC.sr ?_
 refine Run.as ?_
 refine Run.nx ?_
 refine RunC.sr ?_
 refine Run.as ?_
 refine Run.nx ?_
 refine RunC.seq ?_
 refine RunC.block ?_
 obtain ⟨Inv0, hInv0⟩ : ∃ Inv : Nat → Act → World → Prop, ∀ mm aa ww, Inv mm aa ww ↔ (∃ (q : Nat) (m : Nat) (a1 : UInt8) (o1 : UInt8), (q ≤ m) ∧ ((q : Int) ≤ 9223372036854775807) ∧ (gpowL m a1 q o1 = gpow a N) ∧ (mm = (q)) ∧ Frm aa 20 [(4, .int .u8 ((0 : UInt8).toNat : Int)), (0, .int .u8 (a1.toNat : Int)), (1, .int .i64 (q : Int)), (5, .int .u8 (o1.toNat : Int))] ∧ S E ww I []) := ⟨_, fun _ _ _ => Iff.rfl⟩
 refine RunC.loopX Inv0 (fun aa ww hF hS => ⟨_, (hInv0 _ _ _).2 ⟨N, N, a, (1 : UInt8), (Nat.le_refl _), (by omega), rfl, rfl, hF.sub (Sub.of rfl), hS.sub (perm_self _)⟩⟩) ?_
 intro mm0 aa ww hv
 obtain ⟨q, m, a1, o1, hq, hb, hg, hmm_, hF, hS⟩ := (hInv0 _ _ _).1 hv
 clear hv
 refine RunC.go ?_ hF hS
 clear hF hS aa ww
 refine RunC.seq ?_
 refine RunC.sr ?_
 refine Run.mv ?_
 refine Run.m (v := .bool (decide ((q : Int) > 0))) (y_bin rfl rfl rfl bn_gtr) ?_
 refine Run.nx ?_
 refine RunC.cond rfl (fun hc0 => ?_) (fun hc0 => ?_)
 ·
  try simp only [z1, z2, z3, z4, z5, z6, z7, z8, z9, z10, z11, z12, z13, z14, z15, z16] at hc0
  obtain ⟨m, rfl⟩ : ∃ k, m = k + 1 := ⟨m - 1, by omega⟩
  refine RunC.skip ?_
  refine RunQ.next ?_
  refine RunC.seq ?_
  refine RunC.block ?_
  refine RunC.seq ?_
  obtain ⟨Jn1, hJn1⟩ : ∃ Jn : Act → World → Prop, ∀ aa ww, Jn aa ww ↔ (∃ (o2 : UInt8), (o2 = if q % 2 = 1 then gmul o1 a1 else o1) ∧ Frm aa 20 [(4, .int .u8 ((0 : UInt8).toNat : Int)), (0, .int .u8 (a1.toNat : Int)), (1, .int .i64 (q : Int)), (6, .int .i64 (q : Int)), (7, .bool (decide ((q : Int) > 0))), (5, .int .u8 (o2.toNat : Int))] ∧ S E ww I []) := ⟨_, fun _ _ => Iff.rfl⟩
  refine RunC.cut Jn1 (fun aa ww hv => ?_) ?_
  ·
   obtain ⟨o2, ho2, hF, hS⟩ := (hJn1 _ _).1 hv
   clear hv
   refine RunC.go ?_ hF hS
   clear hF hS aa ww
   refine RunC.region ?_
   refine Run.mv ?_
   refine Run.mv ?_
   refine Run.callV (en_func rfl Tryz.call166 rfl) (conv_u8 (c_gf_Mul _ a1 a1)) rfl rfl (by decide) (fun hI1 => ?_)
   refine Run.as ?_
   refine Run.nil ?_
   refine RunQ.inB ?_
   refine RunQ.next ?_
   refine RunC.region ?_
   refine Run.mv ?_
   refine Run.m (v := .int .i64 ((q : Int) / 2 ^ 1)) (y_bin rfl rfl rfl (bn_shr (c := 1) (by decide))) ?_
   refine Run.as ?_
   refine Run.nil ?_
   exact RunQ.thenI (fun aa ww hF hS => ⟨_, (by omega), (hInv0 _ _ _).2 ⟨(q / 2), m, (gmul a1 a1), o2, (by omega), (by omega), (by rw [← hg, gpowL, if_neg (by omega), ho2]), rfl, hF.sub (Sub.of rfl), hS.sub (perm_self _)⟩⟩)
  ·
   refine RunC.sr ?_
   refine Run.mv ?_
   refine Run.m (v := .int .i64 ((q : Int) % 2 ^ 1)) (y_bin rfl rfl rfl (bn_mask 1 (by decide) rfl)) ?_
   refine Run.m (v := .bool (decide ((q : Int) % 2 ^ 1 = 1))) (y_bin rfl rfl rfl bn_eql) ?_
   refine Run.nx ?_
   refine RunC.cond rfl (fun hc1 => ?_) (fun hc1 => ?_)
   ·
    try simp only [z1, z2, z3, z4, z5, z6, z7, z8, z9, z10, z11, z12, z13, z14, z15, z16] at hc1
    refine RunC.region ?_
    refine Run.mv ?_
    refine Run.mv ?_
    refine Run.callV (en_func rfl Tryz.call166 rfl) (conv_u8 (c_gf_Mul _ o1 a1)) rfl rfl (by decide) (fun hI2 => ?_)
    refine Run.as ?_
    refine Run.nil ?_
    exact RunQ.thenI (fun aa ww hF hS => (hJn1 _ _).2 ⟨(gmul o1 a1), (by split <;> first | rfl | omega), hF.sub (Sub.of rfl), hS.sub (perm_self _)⟩)
   ·
    try simp only [z1, z2, z3, z4, z5, z6, z7, z8, z9, z10, z11, z12, z13, z14, z15, z16] at hc1
    refine RunC.skip ?_
    exact RunQ.thenI (fun aa ww hF hS => (hJn1 _ _).2 ⟨o1, (by split <;> first | rfl | omega), hF.sub (Sub.of rfl), hS.sub (perm_self _)⟩)
 ·
  try simp only [z1, z2, z3, z4, z5, z6, z7, z8, z9, z10, z11, z12, z13, z14, z15, z16] at hc0
  refine RunC.exit ?_
  refine RunQ.pass (fun h => by cases h) ?_
  refine RunQ.pass (fun h => by cases h) ?_
  refine RunQ.out ?_
  refine RunQ.next ?_
  refine RunC.sr ?_
  refine Run.mv ?_
  refine Run.as ?_
  refine Run.nx ?_
  refine RunC.ret ?_
  refine RunQ.weak Sub.refl (perm_nil _) ?_
  refine RunQ.fin1 (.inl rfl) Tryz.results158 (rv_tmp rfl) ?_
  exact ⟨rfl, _, rfl, (rd_eq (T := tU8) (x := o1) rfl (by show o1 = gpow a N; rw [← hg, show q = 0 from by omega, gpowL_zero]))⟩

theorem c_gf_Inv (I : Imm) (a : UInt8) : Con Tryz.prog 140 [.int .u8 (a.toNat : Int)].toArray I [] (Ret1 (tU8.o) (ginv a)) := by
 refine Con.enter (n := 5) (L := [(0, .int .u8 (a.toNat : Int))]) Tryz.func140 rfl rfl (Nat.le_of_ble_eq_true rfl) rfl (fun E => ?_)
 refine RunC.sr ?_
 refine Run.as ?_
 refine Run.nx ?_
 refine RunC.sr ?_
 refine Run.mv ?_
 refine Run.callV (en_func rfl Tryz.call158 rfl) (conv_u8 (c_gf_power _ a 254 (by omega) (by omega))) rfl rfl (by decide) (fun hI1 => ?_)
 refine Run.as ?_
 refine Run.nx ?_
 refine RunC.ret ?_
 refine RunQ.weak Sub.refl (perm_nil _) ?_
 refine RunQ.fin1 (.inl rfl) Tryz.results140 (rv_tmp rfl) ?_
 exact ⟨rfl, _, rfl, (rd_eq (T := tU8) (x := (gpow a 254)) rfl (by rfl))⟩

theorem c_castagnoli_More (I : Imm) (sum : UInt32) {Ab : Option Addr} {cb : Nat} (b : List UInt8) (hb : Sl tU8 I Ab cb b) : Con Tryz.prog 102 [.int .u32 (sum.toNat : Int), .slice Ab b.length cb].toArray I [] (Ret1 (tU32.o) (crcL (sum ^^^ 0xffffffff) b ^^^ 0xffffffff)) := by
 have hsmb := hb.small
 refine Con.enter (n := 34) (L := [(0, .int .u32 (sum.toNat : Int)), (1, .slice Ab b.length cb)]) Tryz.func102 rfl rfl (Nat.le_of_ble_eq_true rfl) rfl (fun E => ?_)
 refine RunC.sr ?_
 refine Run.as ?_
 refine Run.nx ?_
 refine RunC.sr ?_
 refine Run.mv ?_
 refine Run.m (v := .int .u32 ((sum ^^^ (4294967295 : UInt32)).toNat : Int)) (y_bin rfl rfl rfl (bn_xor32 (a := sum) (b := (4294967295 : UInt32)))) ?_
 refine Run.as ?_
 refine Run.nx ?_
 refine RunC.seq ?_
 refine RunC.sr ?_
 refine Run.mv ?_
 refine Run.m (y_len rfl Tryz.runUnderlying42 rfl) ?_
 refine Run.mv ?_
 refine Run.nx ?_
 refine RunC.block ?_
 obtain ⟨Inv0, hInv0⟩ : ∃ Inv : Nat → Act → World → Prop, ∀ mm aa ww, Inv mm aa ww ↔ (∃ (k : Nat) (x1 : UInt32), (k ≤ b.length) ∧ (x1 = crcL (sum ^^^ 0xffffffff) (b.take k)) ∧ (mm = (b.length - k)) ∧ Frm aa 34 [(4, .int .u32 ((0 : UInt32).toNat : Int)), (10, .slice Ab b.length cb), (11, .int .i64 (b.length : Int)), (12, .int .i64 (k : Int)), (5, .int .u32 (x1.toNat : Int))] ∧ S E ww I []) := ⟨_, fun _ _ _ => Iff.rfl⟩
 refine RunC.loopX Inv0 (fun aa ww hF hS => ⟨_, (hInv0 _ _ _).2 ⟨0, sum ^^^ (4294967295 : UInt32), (by simp), rfl, rfl, hF.sub (Sub.of rfl), hS.sub (perm_self _)⟩⟩) ?_
 intro mm0 aa ww hv
 obtain ⟨k, x1, hk, hx1, hmm_, hF, hS⟩ := (hInv0 _ _ _).1 hv
 clear hv
 refine RunC.go ?_ hF hS
 clear hF hS aa ww
 refine RunC.sr ?_
 refine Run.m (v := .bool (decide ((k : Int) < (b.length : Int)))) (y_bin rfl rfl rfl bn_lss) ?_
 refine Run.nx ?_
 refine RunC.seq ?_
 refine RunC.cond rfl (fun hc0 => ?_) (fun hc0 => ?_)
 ·
  try simp only [z1, z2, z3, z4, z5, z6, z7, z8, z9, z10, z11, z12, z13, z14, z15, z16] at hc0
  refine RunC.skip ?_
  refine RunQ.next ?_
  refine RunC.seq ?_
  refine RunC.block ?_
  refine RunC.sr ?_
  obtain ⟨x14, p14_1, cs14_1, hx14, hp14_1, hcs14_1, hrc14_1⟩ := Sl.at_ (P := Tryz.prog) (T := tU8) Tryz.runUnderlying42 Tryz.sizeOf5 hb (k := .i64) (i := (k : Int)) (by omega) (by omega)
  replace hx14 : b[k]? = some x14 := hx14
  obtain rfl := hcs14_1
  refine Run.m (v := .pointer (some p14_1)) (y_index rfl rfl rfl hp14_1) ?_
  refine Run.m (v := .int .u8 (x14.toNat : Int)) (y_load1 rfl Tryz.isAgg5 rfl (RCells.hd hrc14_1)) ?_
  refine Run.as ?_
  refine Run.nx ?_
  refine RunC.sr ?_
  refine Run.mv ?_
  refine Run.mv ?_
  refine Run.m (v := .int .u32 (x14.toUInt32.toNat : Int)) (y_conv rfl rfl (cv_int Tryz.underlying5 Tryz.underlying100 (wrap32_u8 _))) ?_
  refine Run.m (v := .int .u32 ((x1 ^^^ x14.toUInt32).toNat : Int)) (y_bin rfl rfl rfl (bn_xor32 (a := x1) (b := x14.toUInt32))) ?_
  refine Run.as ?_
  refine Run.nx ?_
  refine RunC.sr ?_
  refine Run.mv ?_
  refine Run.nx ?_
  refine RunC.block ?_
  obtain ⟨Inv1, hInv1⟩ : ∃ Inv : Nat → Act → World → Prop, ∀ mm aa ww, Inv mm aa ww ↔ (∃ (j : Nat) (y1 : UInt32), (j ≤ 8) ∧ (y1 = crcBits j (x1 ^^^ x14.toUInt32)) ∧ (mm = (8 - j)) ∧ Frm aa 34 [(4, .int .u32 ((0 : UInt32).toNat : Int)), (10, .slice Ab b.length cb), (11, .int .i64 (b.length : Int)), (12, .int .i64 (k : Int)), (13, .bool (decide ((k : Int) < (b.length : Int)))), (14, .pointer (some p14_1)), (15, .int .u8 (x14.toNat : Int)), (7, .int .u8 (x14.toNat : Int)), (16, .int .u32 (x1.toNat : Int)), (17, .int .u8 (x14.toNat : Int)), (18, .int .u32 (x14.toUInt32.toNat : Int)), (19, .int .u32 ((x1 ^^^ x14.toUInt32).toNat : Int)), (20, .int .i64 (j : Int)), (5, .int .u32 (y1.toNat : Int))] ∧ S E ww I []) := ⟨_, fun _ _ _ => Iff.rfl⟩
  refine RunC.loopX Inv1 (fun aa ww hF hS => ⟨_, (hInv1 _ _ _).2 ⟨0, x1 ^^^ x14.toUInt32, (by omega), rfl, rfl, hF.sub (Sub.of rfl), hS.sub (perm_self _)⟩⟩) ?_
  intro mm1 aa ww hv
  obtain ⟨j, y1, hj, hy1, hmm_, hF, hS⟩ := (hInv1 _ _ _).1 hv
  clear hv
  refine RunC.go ?_ hF hS
  clear hF hS aa ww
  refine RunC.sr ?_
  refine Run.m (v := .bool (decide ((j : Int) < 8))) (y_bin rfl rfl rfl bn_lss) ?_
  refine Run.nx ?_
  refine RunC.seq ?_
  refine RunC.cond rfl (fun hc1 => ?_) (fun hc1 => ?_)
  ·
   try simp only [z1, z2, z3, z4, z5, z6, z7, z8, z9, z10, z11, z12, z13, z14, z15, z16] at hc1
   refine RunC.skip ?_
   refine RunQ.next ?_
   refine RunC.seq ?_
   refine RunC.block ?_
   refine RunC.sr ?_
   refine Run.mv ?_
   refine Run.m (v := .int .u32 ((y1 &&& (1 : UInt32)).toNat : Int)) (y_bin rfl rfl rfl (bn_and32 (a := y1) (b := (1 : UInt32)))) ?_
   refine Run.m (v := .bool (decide (y1 &&& (1 : UInt32) = (1 : UInt32)))) (y_bin rfl rfl rfl (bn_eql32 (a := y1 &&& (1 : UInt32)) (b := (1 : UInt32)))) ?_
   refine Run.nx ?_
   refine RunC.cond rfl (fun hc2 => ?_) (fun hc2 => ?_)
   ·
    try simp only [z1, z2, z3, z4, z5, z6, z7, z8, z9, z10, z11, z12, z13, z14, z15, z16] at hc2
    refine RunC.region ?_
    refine Run.mv ?_
    refine Run.m (v := .int .u32 ((y1 >>> 1).toNat : Int)) (y_bin rfl rfl rfl (bn_shr32 (a := y1))) ?_
    refine Run.m (v := .int .u32 (((y1 >>> 1) ^^^ (2197175160 : UInt32)).toNat : Int)) (y_bin rfl rfl rfl (bn_xor32 (a := y1 >>> 1) (b := (2197175160 : UInt32)))) ?_
    refine Run.as ?_
    refine Run.nil ?_
    refine RunQ.inB ?_
    refine RunQ.next ?_
    refine RunC.region ?_
    refine Run.m (v := .int .i64 ((j : Int) + 1)) (y_bin rfl rfl rfl (bn_add (by omega) (by omega))) ?_
    refine Run.mv ?_
    refine Run.nil ?_
    exact RunQ.thenI (fun aa ww hF hS => ⟨_, (by omega), (hInv1 _ _ _).2 ⟨(j + 1), (y1 >>> 1) ^^^ (2197175160 : UInt32), (by omega), (by rw [crcBits_succ, ← hy1, crcBit]; simp [hc2]), rfl, hF.sub (Sub.of rfl), hS.sub (perm_self _)⟩⟩)
   ·
    try simp only [z1, z2, z3, z4, z5, z6, z7, z8, z9, z10, z11, z12, z13, z14, z15, z16] at hc2
    refine RunC.region ?_
    refine Run.mv ?_
    refine Run.m (v := .int .u32 ((y1 >>> 1).toNat : Int)) (y_bin rfl rfl rfl (bn_shr32 (a := y1))) ?_
    refine Run.as ?_
    refine Run.nil ?_
    refine RunQ.inB ?_
    refine RunQ.next ?_
    refine RunC.region ?_
    refine Run.m (v := .int .i64 ((j : Int) + 1)) (y_bin rfl rfl rfl (bn_add (by omega) (by omega))) ?_
    refine Run.mv ?_
    refine Run.nil ?_
    exact RunQ.thenI (fun aa ww hF hS => ⟨_, (by omega), (hInv1 _ _ _).2 ⟨(j + 1), y1 >>> 1, (by omega), (by rw [crcBits_succ, ← hy1, crcBit]; simp [hc2]), rfl, hF.sub (Sub.of rfl), hS.sub (perm_self _)⟩⟩)
  ·
   try simp only [z1, z2, z3, z4, z5, z6, z7, z8, z9, z10, z11, z12, z13, z14, z15, z16] at hc1
   refine RunC.exit ?_
   refine RunQ.pass (fun h => by cases h) ?_
   refine RunQ.pass (fun h => by cases h) ?_
   refine RunQ.out ?_
   refine RunQ.inB ?_
   refine RunQ.next ?_
   refine RunC.region ?_
   refine Run.m (v := .int .i64 ((k : Int) + 1)) (y_bin rfl rfl rfl (bn_add (by omega) (by omega))) ?_
   refine Run.mv ?_
   refine Run.nil ?_
   exact RunQ.thenI (fun aa ww hF hS => ⟨_, (by omega), (hInv0 _ _ _).2 ⟨(k + 1), y1, (by omega), (by rw [take_snoc' hx14, crcL_snoc, ← hx1, hy1, show j = 8 from by omega]), rfl, hF.sub (Sub.of rfl), hS.sub (perm_self _)⟩⟩)
 ·
  try simp only [z1, z2, z3, z4, z5, z6, z7, z8, z9, z10, z11, z12, z13, z14, z15, z16] at hc0
  refine RunC.exit ?_
  refine RunQ.pass (fun h => by cases h) ?_
  refine RunQ.pass (fun h => by cases h) ?_
  refine RunQ.out ?_
  refine RunQ.next ?_
  refine RunC.sr ?_
  refine Run.mv ?_
  refine Run.m (v := .int .u32 ((x1 ^^^ (4294967295 : UInt32)).toNat : Int)) (y_bin rfl rfl rfl (bn_xor32 (a := x1) (b := (4294967295 : UInt32)))) ?_
  refine Run.as ?_
  refine Run.nx ?_
  refine RunC.ret ?_
  refine RunQ.weak Sub.refl (perm_nil _) ?_
  refine RunQ.fin1 (.inl rfl) Tryz.results102 (rv_tmp rfl) ?_
  exact ⟨rfl, _, rfl, (rd_eq (T := tU32) (x := x1 ^^^ (4294967295 : UInt32)) rfl (by rw [hx1, List.take_of_length_le (by omega)]))⟩

theorem c_castagnoli_Sum (I : Imm) {Ab : Option Addr} {cb : Nat} (b : List UInt8) (hb : Sl tU8 I Ab cb b) : Con Tryz.prog 59 [.slice Ab b.length cb].toArray I [] (Ret1 (tU32.o) (crc b)) := by
 have hsmb := hb.small
 refine Con.enter (n := 5) (L := [(0, .slice Ab b.length cb)]) Tryz.func59 rfl rfl (Nat.le_of_ble_eq_true rfl) rfl (fun E => ?_)
 refine RunC.sr ?_
 refine Run.as ?_
 refine Run.nx ?_
 refine RunC.sr ?_
 refine Run.mv ?_
 refine Run.callV (en_func rfl Tryz.call102 rfl) (conv_u32 (c_castagnoli_More _ (0 : UInt32) b hb)) rfl rfl (by decide) (fun hI1 => ?_)
 refine Run.as ?_
 refine Run.nx ?_
 refine RunC.ret ?_
 refine RunQ.weak Sub.refl (perm_nil _) ?_
 refine RunQ.fin1 (.inl rfl) Tryz.results59 (rv_tmp rfl) ?_
 exact ⟨rfl, _, rfl, (rd_eq (T := tU32) (x := (crcL ((0 : UInt32) ^^^ 0xffffffff) b ^^^ 0xffffffff)) rfl (by rfl))⟩

theorem c_slices_Clone_byte_byte (I : Imm) {As : Option Addr} {cs : Nat} (s : List UInt8) (hs : Sl tU8 I As cs s) (hb : s.length ≤ 1000000) : Con Tryz.prog 143 [.slice As s.length cs].toArray I [] (fun J o v => ∃ (yr0 : List UInt8) (Ar0 : Option Addr) (cr0 : Nat) (clr0 : List Value), yr0 = s ∧ o = [row (.slice Ar0 yr0.length cr0) 5 1 clr0] ∧ v = .slice Ar0 yr0.length cr0 ∧ tU8.all J clr0 yr0) := by
 have hsms := hs.small
 refine Con.enter (n := 8) (L := [(0, .slice As s.length cs)]) Tryz.func143 rfl rfl (Nat.le_of_ble_eq_true rfl) rfl (fun E => ?_)
 refine RunC.sr ?_
 refine Run.as ?_
 refine Run.nx ?_
 refine RunC.seq ?_
 refine RunC.sr ?_
 refine Run.mv ?_
 refine Run.m (v := .bool As.isNone) (y_bin rfl rfl rfl (bn_eqlSN Tryz.underlying42)) ?_
 refine Run.nx ?_
 refine RunC.cond rfl (fun hc0 => ?_) (fun hc0 => ?_)
 ·
  try simp only [z1, z2, z3, z4, z5, z6, z7, z8, z9, z10, z11, z12, z13, z14, z15, z16] at hc0
  have hnil : s = [] := slc_nil hs (by simpa using hc0)
  refine RunC.sr ?_
  refine Run.as ?_
  refine Run.nx ?_
  refine RunC.ret ?_
  refine RunQ.pass (fun h => by cases h) ?_
  refine RunQ.nilrow none 5 1 ?_
  refine RunQ.weak Sub.refl (perm_self _) ?_
  refine RunQ.fin1 (.inl rfl) Tryz.results143 (rv_tmp rfl) ?_
  exact ⟨([] : List UInt8), none, 0, [], (by first | (simp; done) | exact hnil.symm), rfl, rfl, all_nil⟩
 ·
  try simp only [z1, z2, z3, z4, z5, z6, z7, z8, z9, z10, z11, z12, z13, z14, z15, z16] at hc0
  refine RunC.skip ?_
  refine RunQ.next ?_
  refine RunC.sr ?_
  refine Run.lit (vs := []) (cs := []) (el := 5) (sz := 1) rfl rfl (fun w => by simp [Instr.buildSlice, Tryz.runUnderlying42, Tryz.sizeOf5, Tryz.zeroValue5, Instr.fill, Value.cells, newRow, (show Array.range 0 = #[] from rfl)]) rfl (by simp [maxLen]) rfl rfl (by decide) (fun g5 => ?_)
  refine Run.mv ?_
  have hlit1 : tU8.all I [] [] := all_nil
  obtain ⟨ys2, hraw2, hya2⟩ := Sl.raw hs
  have hall3 : tU8.all I (([]) ++ ys2) (([]) ++ s) := all_append hlit1 hya2
  refine Run.append (by_ := 1) (ys := ys2) (k := s.length) (own' := []) 0 rfl rfl rfl Tryz.runUnderlying42 (.inl Tryz.runUnderlying42) Tryz.sizeOf5 Tryz.typeInfo5 rfl Tryz.zeroValue5 rfl rfl rfl (fun w hS => src_raw hS hraw2) (hya2).1 (all_one hya2) ((([]) ++ s).length) (by first | (simp; done) | (simp; omega)) (by simp; omega) (by simp [maxLen]; omega) rfl rfl (by decide) (fun A7_3 c7_3 => ?_)
  refine Run.as ?_
  refine Run.nx ?_
  refine RunC.ret ?_
  refine RunQ.weak Sub.refl (perm_self _) ?_
  refine RunQ.fin1 (.inl rfl) Tryz.results143 (rv_tmp rfl) ?_
  exact ⟨(([]) ++ s), A7_3, c7_3, ([]) ++ ys2, (by first | (simp; done) | exact hnil.symm), rfl, rfl, hall3⟩

theorem c_code_Writer_Byte (I : Imm) (gw : Nat) (Aw_b : Option Addr) (cw_b : Nat) (clw_b : List Value) (w_b : List UInt8) (hw_b : tU8.all I clw_b w_b) (c : UInt8) (hb : w_b.length ≤ 1000000) : Con Tryz.prog 111 [.pointer (some ⟨gw, 0, none⟩), .int .u8 (c.toNat : Int)].toArray I [blk gw [.slice Aw_b w_b.length cw_b] 174, row (.slice Aw_b w_b.length cw_b) 5 1 clw_b] (fun J o v => ∃ (w_b' : List UInt8) (Aw_b' : Option Addr) (cw_b' : Nat) (clw_b' : List Value), w_b' = (w_b ++ [c]) ∧ o = [blk gw [.slice Aw_b' w_b'.length cw_b'] 174, row (.slice Aw_b' w_b'.length cw_b') 5 1 clw_b'] ∧ v = .tuple #[] ∧ tU8.all J clw_b' w_b') := by
 refine Con.enter (n := 14) (L := [(0, .pointer (some ⟨gw, 0, none⟩)), (1, .int .u8 (c.toNat : Int))]) Tryz.func111 rfl rfl (Nat.le_of_ble_eq_true rfl) rfl (fun E => ?_)
 refine RunC.region ?_
 refine Run.mv ?_
 refine Run.mv ?_
 refine Run.m (y_nilCheck rfl rfl) ?_
 refine Run.m (v := .pointer (some ⟨gw, 0, none⟩)) (y_fieldAddr rfl rfl Tryz.runUnderlying174 rfl Tryz.sizeOf42 (by decide) rfl) ?_
 refine Run.m (v := .slice Aw_b w_b.length cw_b) (y_loadB1 0 rfl Tryz.isAgg42 rfl rfl rfl) ?_
 refine Run.mv ?_
 refine Run.lit (vs := [(0, .int .u8 (c.toNat : Int))]) (cs := [.int .u8 (c.toNat : Int)]) (el := 5) (sz := 1) rfl rfl (fun w => by simp [Instr.buildSlice, Tryz.runUnderlying42, Tryz.sizeOf5, Tryz.zeroValue5, Instr.fill, Value.cells, newRow, (show Array.range 1 = #[0] from rfl)]) rfl (by simp [maxLen]) rfl rfl (by decide) (fun g10 => ?_)
 have hlit1 : tU8.all I [.int .u8 (c.toNat : Int)] [c] := (all_snoc (T := tU8) all_nil rfl)
 have hall2 : tU8.all I (clw_b ++ ([.int .u8 (c.toNat : Int)])) (w_b ++ ([c])) := all_append hw_b hlit1
 refine Run.append (by_ := 1) (ys := [.int .u8 (c.toNat : Int)]) (k := 1) (own' := [row (.slice (some ⟨g10, 0, none⟩) 1 1) 5 1 ([.int .u8 (c.toNat : Int)]), blk gw [.slice Aw_b w_b.length cw_b] 174]) 2 rfl rfl rfl Tryz.runUnderlying42 (.inl Tryz.runUnderlying42) Tryz.sizeOf5 Tryz.typeInfo5 rfl Tryz.zeroValue5 rfl rfl rfl (fun w hS => src_own hS (i := 0) rfl) (row_len hlit1 (by first | rfl | (simp; done) | (simp; omega)) rfl) (all_one hlit1) ((w_b ++ ([c])).length) (by first | (simp; done) | (simp; omega)) (by simp; omega) (by simp [maxLen]; omega) rfl rfl (by decide) (fun A11_2 c11_2 => ?_)
 refine Run.weak Sub.refl (perm_take (i := 0) rfl (perm_take (i := 1) rfl (perm_nil _))) ?_
 refine Run.m (y_nilCheck rfl rfl) ?_
 refine Run.m (v := .pointer (some ⟨gw, 0, none⟩)) (y_fieldAddr rfl rfl Tryz.runUnderlying174 rfl Tryz.sizeOf42 (by decide) rfl) ?_
 refine Run.storeB (vs := [.slice A11_2 ((w_b ++ ([c])).length) c11_2]) (cs' := [.slice A11_2 ((w_b ++ ([c])).length) c11_2]) (own' := [row (.slice A11_2 ((w_b ++ ([c])).length) c11_2) 5 1 (clw_b ++ ([.int .u8 (c.toNat : Int)]))]) 1 rfl rfl rfl Tryz.sizeOf42 rfl rfl rfl rfl rfl (Nat.le_of_ble_eq_true rfl) rfl rfl rfl ?_
 refine Run.nil ?_
 refine RunQ.weak Sub.refl (perm_self _) ?_
 refine RunQ.fin0 (.inr rfl) Tryz.results111  ?_
 exact ⟨(w_b ++ ([c])), A11_2, c11_2, clw_b ++ ([.int .u8 (c.toNat : Int)]), (by first | rfl | (simp; done)), rfl, rfl, hall2⟩

theorem c_code_Writer_Int (I : Imm) (gw : Nat) (Aw_b : Option Addr) (cw_b : Nat) (clw_b : List Value) (w_b : List UInt8) (hw_b : tU8.all I clw_b w_b) (n : Int) (hb : w_b.length ≤ 1000000) : Con Tryz.prog 110 [.pointer (some ⟨gw, 0, none⟩), .int .i64 n].toArray I [blk gw [.slice Aw_b w_b.length cw_b] 174, row (.slice Aw_b w_b.length cw_b) 5 1 clw_b] (fun J o v => ∃ (w_b' : List UInt8) (Aw_b' : Option Addr) (cw_b' : Nat) (clw_b' : List Value), w_b' = (w_b ++ be4 (b32 n)) ∧ o = [blk gw [.slice Aw_b' w_b'.length cw_b'] 174, row (.slice Aw_b' w_b'.length cw_b') 5 1 clw_b'] ∧ v = .tuple #[] ∧ tU8.all J clw_b' w_b') := by
 refine Con.enter (n := 27) (L := [(0, .pointer (some ⟨gw, 0, none⟩)), (1, .int .i64 n)]) Tryz.func110 rfl rfl (Nat.le_of_ble_eq_true rfl) rfl (fun E => ?_)
 refine RunC.sr ?_
 refine Run.mv ?_
 refine Run.m (v := .int .u32 ((b32 n).toNat : Int)) (y_conv rfl rfl (cv_int Tryz.underlying3 Tryz.underlying100 (wrapu32 _))) ?_
 refine Run.as ?_
 refine Run.nx ?_
 refine RunC.region ?_
 refine Run.mv ?_
 refine Run.mv ?_
 refine Run.m (y_nilCheck rfl rfl) ?_
 refine Run.m (v := .pointer (some ⟨gw, 0, none⟩)) (y_fieldAddr rfl rfl Tryz.runUnderlying174 rfl Tryz.sizeOf42 (by decide) rfl) ?_
 refine Run.m (v := .slice Aw_b w_b.length cw_b) (y_loadB1 0 rfl Tryz.isAgg42 rfl rfl rfl) ?_
 refine Run.mv ?_
 refine Run.m (v := .int .u32 (((b32 n) >>> 24).toNat : Int)) (y_bin rfl rfl rfl (bn_shr32k (a := b32 n) 24 24 rfl (by decide))) ?_
 refine Run.m (v := .int .u8 ((((b32 n) >>> 24).toUInt8).toNat : Int)) (y_conv rfl rfl (cv_int Tryz.underlying100 Tryz.underlying5 (wrapu8_32 _))) ?_
 refine Run.mv ?_
 refine Run.m (v := .int .u32 (((b32 n) >>> 16).toNat : Int)) (y_bin rfl rfl rfl (bn_shr32k (a := b32 n) 16 16 rfl (by decide))) ?_
 refine Run.m (v := .int .u8 ((((b32 n) >>> 16).toUInt8).toNat : Int)) (y_conv rfl rfl (cv_int Tryz.underlying100 Tryz.underlying5 (wrapu8_32 _))) ?_
 refine Run.mv ?_
 refine Run.m (v := .int .u32 (((b32 n) >>> 8).toNat : Int)) (y_bin rfl rfl rfl (bn_shr32k (a := b32 n) 8 8 rfl (by decide))) ?_
 refine Run.m (v := .int .u8 ((((b32 n) >>> 8).toUInt8).toNat : Int)) (y_conv rfl rfl (cv_int Tryz.underlying100 Tryz.underlying5 (wrapu8_32 _))) ?_
 refine Run.mv ?_
 refine Run.m (v := .int .u8 (((b32 n).toUInt8).toNat : Int)) (y_conv rfl rfl (cv_int Tryz.underlying100 Tryz.underlying5 (wrapu8_32 _))) ?_
 refine Run.lit (vs := [(0, .int .u8 ((((b32 n) >>> 24).toUInt8).toNat : Int)), (1, .int .u8 ((((b32 n) >>> 16).toUInt8).toNat : Int)), (2, .int .u8 ((((b32 n) >>> 8).toUInt8).toNat : Int)), (3, .int .u8 (((b32 n).toUInt8).toNat : Int))]) (cs := [.int .u8 ((((b32 n) >>> 24).toUInt8).toNat : Int), .int .u8 ((((b32 n) >>> 16).toUInt8).toNat : Int), .int .u8 ((((b32 n) >>> 8).toUInt8).toNat : Int), .int .u8 (((b32 n).toUInt8).toNat : Int)]) (el := 5) (sz := 1) rfl rfl (fun w => by simp [Instr.buildSlice, Tryz.runUnderlying42, Tryz.sizeOf5, Tryz.zeroValue5, Instr.fill, Value.cells, newRow, (show Array.range 4 = #[0, 1, 2, 3] from rfl)]) rfl (by simp [maxLen]) rfl rfl (by decide) (fun g23 => ?_)
 have hlit1 : tU8.all I [.int .u8 ((((b32 n) >>> 24).toUInt8).toNat : Int), .int .u8 ((((b32 n) >>> 16).toUInt8).toNat : Int), .int .u8 ((((b32 n) >>> 8).toUInt8).toNat : Int), .int .u8 (((b32 n).toUInt8).toNat : Int)] [((b32 n) >>> 24).toUInt8, ((b32 n) >>> 16).toUInt8, ((b32 n) >>> 8).toUInt8, (b32 n).toUInt8] := (all_snoc (T := tU8) (all_snoc (T := tU8) (all_snoc (T := tU8) (all_snoc (T := tU8) all_nil rfl) rfl) rfl) rfl)
 have hall2 : tU8.all I (clw_b ++ ([.int .u8 ((((b32 n) >>> 24).toUInt8).toNat : Int), .int .u8 ((((b32 n) >>> 16).toUInt8).toNat : Int), .int .u8 ((((b32 n) >>> 8).toUInt8).toNat : Int), .int .u8 (((b32 n).toUInt8).toNat : Int)])) (w_b ++ ([((b32 n) >>> 24).toUInt8, ((b32 n) >>> 16).toUInt8, ((b32 n) >>> 8).toUInt8, (b32 n).toUInt8])) := all_append hw_b hlit1
 refine Run.append (by_ := 1) (ys := [.int .u8 ((((b32 n) >>> 24).toUInt8).toNat : Int), .int .u8 ((((b32 n) >>> 16).toUInt8).toNat : Int), .int .u8 ((((b32 n) >>> 8).toUInt8).toNat : Int), .int .u8 (((b32 n).toUInt8).toNat : Int)]) (k := 4) (own' := [row (.slice (some ⟨g23, 0, none⟩) 4 4) 5 1 ([.int .u8 ((((b32 n) >>> 24).toUInt8).toNat : Int), .int .u8 ((((b32 n) >>> 16).toUInt8).toNat : Int), .int .u8 ((((b32 n) >>> 8).toUInt8).toNat : Int), .int .u8 (((b32 n).toUInt8).toNat : Int)]), blk gw [.slice Aw_b w_b.length cw_b] 174]) 2 rfl rfl rfl Tryz.runUnderlying42 (.inl Tryz.runUnderlying42) Tryz.sizeOf5 Tryz.typeInfo5 rfl Tryz.zeroValue5 rfl rfl rfl (fun w hS => src_own hS (i := 0) rfl) (row_len hlit1 (by first | rfl | (simp; done) | (simp; omega)) rfl) (all_one hlit1) ((w_b ++ ([((b32 n) >>> 24).toUInt8, ((b32 n) >>> 16).toUInt8, ((b32 n) >>> 8).toUInt8, (b32 n).toUInt8])).length) (by first | (simp; done) | (simp; omega)) (by simp; omega) (by simp [maxLen]; omega) rfl rfl (by decide) (fun A24_2 c24_2 => ?_)
 refine Run.weak Sub.refl (perm_take (i := 0) rfl (perm_take (i := 1) rfl (perm_nil _))) ?_
 refine Run.m (y_nilCheck rfl rfl) ?_
 refine Run.m (v := .pointer (some ⟨gw, 0, none⟩)) (y_fieldAddr rfl rfl Tryz.runUnderlying174 rfl Tryz.sizeOf42 (by decide) rfl) ?_
 refine Run.storeB (vs := [.slice A24_2 ((w_b ++ ([((b32 n) >>> 24).toUInt8, ((b32 n) >>> 16).toUInt8, ((b32 n) >>> 8).toUInt8, (b32 n).toUInt8])).length) c24_2]) (cs' := [.slice A24_2 ((w_b ++ ([((b32 n) >>> 24).toUInt8, ((b32 n) >>> 16).toUInt8, ((b32 n) >>> 8).toUInt8, (b32 n).toUInt8])).length) c24_2]) (own' := [row (.slice A24_2 ((w_b ++ ([((b32 n) >>> 24).toUInt8, ((b32 n) >>> 16).toUInt8, ((b32 n) >>> 8).toUInt8, (b32 n).toUInt8])).length) c24_2) 5 1 (clw_b ++ ([.int .u8 ((((b32 n) >>> 24).toUInt8).toNat : Int), .int .u8 ((((b32 n) >>> 16).toUInt8).toNat : Int), .int .u8 ((((b32 n) >>> 8).toUInt8).toNat : Int), .int .u8 (((b32 n).toUInt8).toNat : Int)]))]) 1 rfl rfl rfl Tryz.sizeOf42 rfl rfl rfl rfl rfl (Nat.le_of_ble_eq_true rfl) rfl rfl rfl ?_
 refine Run.nil ?_
 refine RunQ.weak Sub.refl (perm_self _) ?_
 refine RunQ.fin0 (.inr rfl) Tryz.results110  ?_
 exact ⟨(w_b ++ ([((b32 n) >>> 24).toUInt8, ((b32 n) >>> 16).toUInt8, ((b32 n) >>> 8).toUInt8, (b32 n).toUInt8])), A24_2, c24_2, clw_b ++ ([.int .u8 ((((b32 n) >>> 24).toUInt8).toNat : Int), .int .u8 ((((b32 n) >>> 16).toUInt8).toNat : Int), .int .u8 ((((b32 n) >>> 8).toUInt8).toNat : Int), .int .u8 (((b32 n).toUInt8).toNat : Int)]), (by first | rfl | (simp; done)), rfl, rfl, hall2⟩

theorem c_code_Writer_Bytes (I : Imm) (gw : Nat) (Aw_b : Option Addr) (cw_b : Nat) (w_b : List UInt8) (hw_b : Sl tU8 I Aw_b cw_b w_b) (hb : w_b.length ≤ 1000000) : Con Tryz.prog 112 [.pointer (some ⟨gw, 0, none⟩)].toArray I [blk gw [.slice Aw_b w_b.length cw_b] 174] (fun J o v => ∃ (w_b' : List UInt8) (Aw_b' : Option Addr) (cw_b' : Nat) (yr0 : List UInt8) (Ar0 : Option Addr) (cr0 : Nat) (clr0 : List Value), w_b' = w_b ∧ yr0 = w_b ∧ o = [blk gw [.slice Aw_b' w_b'.length cw_b'] 174, row (.slice Ar0 yr0.length cr0) 5 1 clr0] ∧ v = .slice Ar0 yr0.length cr0 ∧ Sl tU8 J Aw_b' cw_b' w_b' ∧ tU8.all J clr0 yr0) := by
 refine Con.enter (n := 8) (L := [(0, .pointer (some ⟨gw, 0, none⟩))]) Tryz.func112 rfl rfl (Nat.le_of_ble_eq_true rfl) rfl (fun E => ?_)
 refine RunC.sr ?_
 refine Run.as ?_
 refine Run.nx ?_
 refine RunC.sr ?_
 refine Run.mv ?_
 refine Run.m (y_nilCheck rfl rfl) ?_
 refine Run.m (v := .pointer (some ⟨gw, 0, none⟩)) (y_fieldAddr rfl rfl Tryz.runUnderlying174 rfl Tryz.sizeOf42 (by decide) rfl) ?_
 refine Run.m (v := .slice Aw_b w_b.length cw_b) (y_loadB1 0 rfl Tryz.isAgg42 rfl rfl rfl) ?_
 refine Run.call (own1 := []) (own2 := [blk gw [.slice Aw_b w_b.length cw_b] 174]) (en_func rfl Tryz.call143 rfl) (c_slices_Clone_byte_byte _ w_b hw_b (by omega)) (List.Perm.refl _) rfl rfl (by decide) (fun J1 o1 v1 hleJ1 hq1 => ?_)
 obtain ⟨yr1_0, Ar1_0, cr1_0, clr1_0, er1_0, rfl, rfl, hr1_0⟩ := hq1
 obtain rfl : w_b = yr1_0 := er1_0.symm
 refine Run.as ?_
 refine Run.nx ?_
 refine RunC.ret ?_
 refine RunQ.weak Sub.refl (perm_take (i := 1) rfl (perm_take (i := 0) rfl (perm_nil _))) ?_
 refine RunQ.fin1 (.inl rfl) Tryz.results112 (rv_tmp rfl) ?_
 exact ⟨w_b, Aw_b, cw_b, w_b, Ar1_0, cr1_0, clr1_0, (by first | rfl | (simp; done)), (by first | rfl | (simp; done)), rfl, rfl, (hw_b.mono hleJ1), hr1_0⟩

theorem c_code_Reader_take (I : Imm) (gr : Nat) (Ar_b : Option Addr) (cr_b : Nat) (r_b : List UInt8) (hr_b : Sl tU8 I Ar_b cr_b r_b) (r_bad : Bool) (n : Int) (hb : r_b.length ≤ 1000000) (hn : 0 ≤ n) : Con Tryz.prog 148 [.pointer (some ⟨gr, 0, none⟩), .int .i64 n].toArray I [blk gr [.slice Ar_b r_b.length cr_b, .bool r_bad] 208] (fun J o v => ∃ (r_b' : List UInt8) (Ar_b' : Option Addr) (cr_b' : Nat) (r_bad' : Bool) (csr0 : List Value), r_b' = (rdB n.toNat (r_b, r_bad)).1 ∧ r_bad' = (rdB n.toNat (r_b, r_bad)).2 ∧ o = [blk gr [.slice Ar_b' r_b'.length cr_b', .bool r_bad'] 208] ∧ v = ((tSl tU8).o).v csr0 ∧ Sl tU8 J Ar_b' cr_b' r_b' ∧ (tSl tU8).rd J csr0 (rdV n.toNat (r_b, r_bad))) := by
 obtain ⟨N, rfl⟩ := Int.eq_ofNat_of_zero_le hn
 refine Con.enter (n := 43) (L := [(0, .pointer (some ⟨gr, 0, none⟩)), (1, .int .i64 (N : Int))]) Tryz.func148 rfl rfl (Nat.le_of_ble_eq_true rfl) rfl (fun E => ?_)
 refine RunC.sr ?_
 refine Run.as ?_
 refine Run.nx ?_
 refine RunC.seq ?_
 refine RunC.sr ?_
 refine Run.mv ?_
 refine Run.m (v := .bool false) (y_bin rfl rfl rfl (bn_eqlPN Tryz.underlying182)) ?_
 refine Run.mv ?_
 refine Run.yes (v := .pointer (some ⟨gr, 0, none⟩)) (y_move rfl rfl) rfl rfl rfl rfl (rfl) rfl (by decide) ?_
 refine Run.yes (v := .pointer (some ⟨gr, 0, none⟩)) (y_nilCheck rfl rfl) rfl rfl rfl rfl (rfl) rfl (by decide) ?_
 refine Run.yes (v := .pointer (some ⟨gr, 1, none⟩)) (y_fieldAddr rfl rfl Tryz.runUnderlying208 rfl Tryz.sizeOf4 (by decide) rfl) rfl rfl rfl rfl (rfl) rfl (by decide) ?_
 refine Run.yes (v := .bool r_bad) (y_loadB1 0 rfl Tryz.isAgg4 rfl rfl rfl) rfl rfl rfl rfl (rfl) rfl (by decide) ?_
 refine Run.m (v := .bool r_bad) (y_pick rfl rfl rfl) ?_
 refine Run.nx ?_
 refine RunC.cond rfl (fun hc0 => ?_) (fun hc0 => ?_)
 ·
  try simp only [z1, z2, z3, z4, z5, z6, z7, z8, z9, z10, z11, z12, z13, z14, z15, z16] at hc0
  refine RunC.sr ?_
  refine Run.as ?_
  refine Run.nx ?_
  refine RunC.ret ?_
  refine RunQ.pass (fun h => by cases h) ?_
  refine RunQ.weak Sub.refl (perm_self _) ?_
  refine RunQ.fin1 (.inl rfl) Tryz.results148 (rv_tmp rfl) ?_
  exact ⟨r_b, Ar_b, cr_b, r_bad, _, (by show _ = _; first | (simp [rdB, tkB, tkF, *]; done) | (simp [rdB, tkB, tkF, *]; omega)), (by show _ = _; first | (simp [rdB, tkB, tkF, *]; done) | (simp [rdB, tkB, tkF, *]; omega)), rfl, rfl, hr_b, (rd_eq (T := (tSl tU8)) (x := ([] : List UInt8)) ⟨_, _, rfl, sl_nil0⟩ (by show _ = _; first | (simp [rdV, tkV, *]; done) | (simp [rdV, tkV, *]; omega)))⟩
 ·
  try simp only [z1, z2, z3, z4, z5, z6, z7, z8, z9, z10, z11, z12, z13, z14, z15, z16] at hc0
  refine RunC.skip ?_
  refine RunQ.next ?_
  refine RunC.seq ?_
  refine RunC.sr ?_
  refine Run.mv ?_
  refine Run.mv ?_
  refine Run.m (y_nilCheck rfl rfl) ?_
  refine Run.m (v := .pointer (some ⟨gr, 0, none⟩)) (y_fieldAddr rfl rfl Tryz.runUnderlying208 rfl Tryz.sizeOf42 (by decide) rfl) ?_
  refine Run.m (v := .slice Ar_b r_b.length cr_b) (y_loadB1 0 rfl Tryz.isAgg42 rfl rfl rfl) ?_
  refine Run.m (y_len rfl Tryz.runUnderlying42 rfl) ?_
  refine Run.m (v := .bool (decide ((N : Int) > (r_b.length : Int)))) (y_bin rfl rfl rfl bn_gtr) ?_
  refine Run.nx ?_
  refine RunC.cond rfl (fun hc1 => ?_) (fun hc1 => ?_)
  ·
   try simp only [z1, z2, z3, z4, z5, z6, z7, z8, z9, z10, z11, z12, z13, z14, z15, z16] at hc1
   have hlt : r_b.length < N := by omega
   refine RunC.sr ?_
   refine Run.mv ?_
   refine Run.mv ?_
   refine Run.m (y_nilCheck rfl rfl) ?_
   refine Run.m (v := .pointer (some ⟨gr, 0, none⟩)) (y_fieldAddr rfl rfl Tryz.runUnderlying208 rfl Tryz.sizeOf42 (by decide) rfl) ?_
   refine Run.storeB (vs := [.slice none 0 0]) (cs' := [.slice none 0 0, .bool r_bad]) (own' := []) 0 rfl rfl rfl Tryz.sizeOf42 rfl rfl rfl rfl rfl (Nat.le_of_ble_eq_true rfl) rfl rfl rfl ?_
   refine Run.m (y_nilCheck rfl rfl) ?_
   refine Run.m (v := .pointer (some ⟨gr, 1, none⟩)) (y_fieldAddr rfl rfl Tryz.runUnderlying208 rfl Tryz.sizeOf4 (by decide) rfl) ?_
   refine Run.storeB (vs := [.bool true]) (cs' := [.slice none 0 0, .bool true]) (own' := []) 0 rfl rfl rfl Tryz.sizeOf4 rfl rfl rfl rfl rfl (Nat.le_of_ble_eq_true rfl) rfl rfl rfl ?_
   refine Run.nx ?_
   refine RunC.sr ?_
   refine Run.as ?_
   refine Run.nx ?_
   refine RunC.ret ?_
   refine RunQ.pass (fun h => by cases h) ?_
   refine RunQ.weak Sub.refl (perm_self _) ?_
   refine RunQ.fin1 (.inl rfl) Tryz.results148 (rv_tmp rfl) ?_
   exact ⟨([] : List UInt8), none, 0, true, _, (by show _ = _; first | (simp [rdB, tkB, tkF, *]; done) | (simp [rdB, tkB, tkF, *]; omega)), (by show _ = _; first | (simp [rdB, tkB, tkF, *]; done) | (simp [rdB, tkB, tkF, *]; omega)), rfl, rfl, sl_nil0, (rd_eq (T := (tSl tU8)) (x := ([] : List UInt8)) ⟨_, _, rfl, sl_nil0⟩ (by show _ = _; first | (simp [rdV, tkV, *]; done) | (simp [rdV, tkV, *]; omega)))⟩
  ·
   try simp only [z1, z2, z3, z4, z5, z6, z7, z8, z9, z10, z11, z12, z13, z14, z15, z16] at hc1
   have hge : ¬ r_b.length < N := by omega
   refine RunC.skip ?_
   refine RunQ.next ?_
   refine RunC.sr ?_
   refine Run.mv ?_
   refine Run.m (y_nilCheck rfl rfl) ?_
   refine Run.m (v := .pointer (some ⟨gr, 0, none⟩)) (y_fieldAddr rfl rfl Tryz.runUnderlying208 rfl Tryz.sizeOf42 (by decide) rfl) ?_
   refine Run.m (v := .slice Ar_b r_b.length cr_b) (y_loadB1 0 rfl Tryz.isAgg42 rfl rfl rfl) ?_
   refine Run.mv ?_
   obtain ⟨A32_1, hsl1, hcut1⟩ := Sl.cut (P := Tryz.prog) (T := tU8) Tryz.runUnderlying42 Tryz.sizeOf5 hr_b (vl := none) (vh := some (.int .i64 (N : Int))) (l := 0) (m := N) (.inr ⟨rfl, rfl⟩) (.inl rfl) (by omega) (by omega)
   refine Run.m (v := .slice A32_1 (((r_b.take N).drop 0).length) (cr_b - 0)) (y_slice (vl := none) (vh := some (.int .i64 (N : Int))) rfl rfl rfl rfl rfl hsl1) ?_
   refine Run.as ?_
   refine Run.nx ?_
   refine RunC.sr ?_
   refine Run.mv ?_
   refine Run.mv ?_
   refine Run.m (y_nilCheck rfl rfl) ?_
   refine Run.m (v := .pointer (some ⟨gr, 0, none⟩)) (y_fieldAddr rfl rfl Tryz.runUnderlying208 rfl Tryz.sizeOf42 (by decide) rfl) ?_
   refine Run.m (v := .slice Ar_b r_b.length cr_b) (y_loadB1 0 rfl Tryz.isAgg42 rfl rfl rfl) ?_
   refine Run.mv ?_
   obtain ⟨A39_2, hsl2, hcut2⟩ := Sl.cut (P := Tryz.prog) (T := tU8) Tryz.runUnderlying42 Tryz.sizeOf5 hr_b (vl := some (.int .i64 (N : Int))) (vh := none) (l := N) (m := r_b.length) (.inl rfl) (.inr ⟨rfl, rfl⟩) (by omega) (by omega)
   refine Run.m (v := .slice A39_2 (((r_b.take r_b.length).drop N).length) (cr_b - N)) (y_slice (vl := some (.int .i64 (N : Int))) (vh := none) rfl rfl rfl rfl rfl hsl2) ?_
   refine Run.m (y_nilCheck rfl rfl) ?_
   refine Run.m (v := .pointer (some ⟨gr, 0, none⟩)) (y_fieldAddr rfl rfl Tryz.runUnderlying208 rfl Tryz.sizeOf42 (by decide) rfl) ?_
   refine Run.storeB (vs := [.slice A39_2 (((r_b.take r_b.length).drop N).length) (cr_b - N)]) (cs' := [.slice A39_2 (((r_b.take r_b.length).drop N).length) (cr_b - N), .bool r_bad]) (own' := []) 0 rfl rfl rfl Tryz.sizeOf42 rfl rfl rfl rfl rfl (Nat.le_of_ble_eq_true rfl) rfl rfl rfl ?_
   refine Run.nx ?_
   refine RunC.sr ?_
   refine Run.mv ?_
   refine Run.as ?_
   refine Run.nx ?_
   refine RunC.ret ?_
   refine RunQ.weak Sub.refl (perm_self _) ?_
   refine RunQ.fin1 (.inl rfl) Tryz.results148 (rv_tmp rfl) ?_
   exact ⟨((r_b.take r_b.length).drop N), A39_2, (cr_b - N), r_bad, _, (by show _ = _; first | (simp [rdB, tkB, tkF, *]; done) | (simp [rdB, tkB, tkF, *]; omega)), (by show _ = _; first | (simp [rdB, tkB, tkF, *]; done) | (simp [rdB, tkB, tkF, *]; omega)), rfl, rfl, hcut2, (rd_eq (T := (tSl tU8)) (x := ((r_b.take N).drop 0)) ⟨_, _, rfl, hcut1⟩ (by show _ = _; first | (simp [rdV, tkV, *]; done) | (simp [rdV, tkV, *]; omega)))⟩

theorem c_code_Reader_Byte (I : Imm) (gr : Nat) (Ar_b : Option Addr) (cr_b : Nat) (r_b : List UInt8) (hr_b : Sl tU8 I Ar_b cr_b r_b) (r_bad : Bool) (hb : r_b.length ≤ 1000000) : Con Tryz.prog 120 [.pointer (some ⟨gr, 0, none⟩)].toArray I [blk gr [.slice Ar_b r_b.length cr_b, .bool r_bad] 208] (fun J o v => ∃ (r_b' : List UInt8) (Ar_b' : Option Addr) (cr_b' : Nat) (r_bad' : Bool) (csr0 : List Value), r_b' = (rdB 1 (r_b, r_bad)).1 ∧ r_bad' = (rdB 1 (r_b, r_bad)).2 ∧ o = [blk gr [.slice Ar_b' r_b'.length cr_b', .bool r_bad'] 208] ∧ v = (tU8.o).v csr0 ∧ Sl tU8 J Ar_b' cr_b' r_b' ∧ tU8.rd J csr0 (u8at (rdV 1 (r_b, r_bad)))) := by
 refine Con.enter (n := 12) (L := [(0, .pointer (some ⟨gr, 0, none⟩))]) Tryz.func120 rfl rfl (Nat.le_of_ble_eq_true rfl) rfl (fun E => ?_)
 refine RunC.sr ?_
 refine Run.as ?_
 refine Run.nx ?_
 refine RunC.sr ?_
 refine Run.mv ?_
 refine Run.call (own1 := [blk gr [.slice Ar_b r_b.length cr_b, .bool r_bad] 208]) (own2 := []) (en_func rfl Tryz.call148 rfl) (c_code_Reader_take _ gr Ar_b cr_b r_b hr_b r_bad 1 (by omega) (by omega)) (permC (i := 0) rfl rfl (List.Perm.refl _)) rfl rfl (by decide) (fun J1 o1 v1 hleJ1 hq1 => ?_)
 obtain ⟨y1b, A1b, c1b, y1bad, csr1_0, e1b, e1bad, rfl, rfl, h1b, hr1_0⟩ := hq1
 obtain rfl : (rdB 1 (r_b, r_bad)).1 = y1b := e1b.symm
 obtain rfl : (rdB 1 (r_b, r_bad)).2 = y1bad := e1bad.symm
 replace hr1_0 : (tSl tU8).rd J1 csr1_0 (rdV 1 (r_b, r_bad)) := hr1_0
 obtain ⟨A1_0_0, c1_0_0, rfl, f1_0_0⟩ := hr1_0
 have hsm1_0_0 := f1_0_0.small
 refine Run.as ?_
 refine Run.nx ?_
 refine RunC.seq ?_
 refine RunC.sr ?_
 refine Run.mv ?_
 refine Run.m (y_len rfl Tryz.runUnderlying42 rfl) ?_
 refine Run.m (v := .bool (decide (((rdV 1 (r_b, r_bad)).length : Int) = 0))) (y_bin rfl rfl rfl bn_eql) ?_
 refine Run.nx ?_
 refine RunC.cond rfl (fun hc0 => ?_) (fun hc0 => ?_)
 ·
  try simp only [z1, z2, z3, z4, z5, z6, z7, z8, z9, z10, z11, z12, z13, z14, z15, z16] at hc0
  have h0 : rdV 1 (r_b, r_bad) = [] := List.eq_nil_of_length_eq_zero (by have := hc0; simpa using this)
  refine RunC.sr ?_
  refine Run.as ?_
  refine Run.nx ?_
  refine RunC.ret ?_
  refine RunQ.pass (fun h => by cases h) ?_
  refine RunQ.weak Sub.refl (perm_self _) ?_
  refine RunQ.fin1 (.inl rfl) Tryz.results120 (rv_tmp rfl) ?_
  exact ⟨(rdB 1 (r_b, r_bad)).1, A1b, c1b, (rdB 1 (r_b, r_bad)).2, _, (by rfl), (by rfl), rfl, rfl, h1b, (rd_eq (T := tU8) (x := (0 : UInt8)) rfl (by first | (simp [u8at, h0]; done) | (have h1 : (rdV 1 (r_b, r_bad))[0]? = some x10 := hx10; cases hl : rdV 1 (r_b, r_bad) <;> simp_all [u8at])))⟩
 ·
  try simp only [z1, z2, z3, z4, z5, z6, z7, z8, z9, z10, z11, z12, z13, z14, z15, z16] at hc0
  have h0 : (0 : Int) < (rdV 1 (r_b, r_bad)).length := by have := hc0; omega
  refine RunC.skip ?_
  refine RunQ.next ?_
  refine RunC.sr ?_
  refine Run.mv ?_
  obtain ⟨x10, p10_2, cs10_2, hx10, hp10_2, hcs10_2, hrc10_2⟩ := Sl.at_ (P := Tryz.prog) (T := tU8) Tryz.runUnderlying42 Tryz.sizeOf5 f1_0_0 (k := .i64) (i := 0) (by omega) (by omega)
  replace hx10 : (rdV 1 (r_b, r_bad))[0]? = some x10 := hx10
  obtain rfl := hcs10_2
  refine Run.m (v := .pointer (some p10_2)) (y_index rfl rfl rfl hp10_2) ?_
  refine Run.m (v := .int .u8 (x10.toNat : Int)) (y_load1 rfl Tryz.isAgg5 rfl (RCells.hd hrc10_2)) ?_
  refine Run.as ?_
  refine Run.nx ?_
  refine RunC.ret ?_
  refine RunQ.weak Sub.refl (perm_self _) ?_
  refine RunQ.fin1 (.inl rfl) Tryz.results120 (rv_tmp rfl) ?_
  exact ⟨(rdB 1 (r_b, r_bad)).1, A1b, c1b, (rdB 1 (r_b, r_bad)).2, _, (by rfl), (by rfl), rfl, rfl, h1b, (rd_eq (T := tU8) (x := x10) rfl (by first | (simp [u8at, h0]; done) | (have h1 : (rdV 1 (r_b, r_bad))[0]? = some x10 := hx10; cases hl : rdV 1 (r_b, r_bad) <;> simp_all [u8at])))⟩

theorem c_code_Reader_Int (I : Imm) (gr : Nat) (Ar_b : Option Addr) (cr_b : Nat) (r_b : List UInt8) (hr_b : Sl tU8 I Ar_b cr_b r_b) (r_bad : Bool) (hb : r_b.length ≤ 1000000) : Con Tryz.prog 119 [.pointer (some ⟨gr, 0, none⟩)].toArray I [blk gr [.slice Ar_b r_b.length cr_b, .bool r_bad] 208] (fun J o v => ∃ (r_b' : List UInt8) (Ar_b' : Option Addr) (cr_b' : Nat) (r_bad' : Bool) (csr0 : List Value), r_b' = (rdB 4 (r_b, r_bad)).1 ∧ r_bad' = (rdB 4 (r_b, r_bad)).2 ∧ o = [blk gr [.slice Ar_b' r_b'.length cr_b', .bool r_bad'] 208] ∧ v = (tInt.o).v csr0 ∧ Sl tU8 J Ar_b' cr_b' r_b' ∧ tInt.rd J csr0 ((rd4 (rdV 4 (r_b, r_bad))).toNat : Int)) := by
 refine Con.enter (n := 21) (L := [(0, .pointer (some ⟨gr, 0, none⟩))]) Tryz.func119 rfl rfl (Nat.le_of_ble_eq_true rfl) rfl (fun E => ?_)
 refine RunC.sr ?_
 refine Run.as ?_
 refine Run.nx ?_
 refine RunC.sr ?_
 refine Run.as ?_
 refine Run.nx ?_
 refine RunC.seq ?_
 refine RunC.sr ?_
 refine Run.mv ?_
 refine Run.call (own1 := [blk gr [.slice Ar_b r_b.length cr_b, .bool r_bad] 208]) (own2 := []) (en_func rfl Tryz.call148 rfl) (c_code_Reader_take _ gr Ar_b cr_b r_b hr_b r_bad 4 (by omega) (by omega)) (permC (i := 0) rfl rfl (List.Perm.refl _)) rfl rfl (by decide) (fun J1 o1 v1 hleJ1 hq1 => ?_)
 obtain ⟨y1b, A1b, c1b, y1bad, csr1_0, e1b, e1bad, rfl, rfl, h1b, hr1_0⟩ := hq1
 obtain rfl : (rdB 4 (r_b, r_bad)).1 = y1b := e1b.symm
 obtain rfl : (rdB 4 (r_b, r_bad)).2 = y1bad := e1bad.symm
 replace hr1_0 : (tSl tU8).rd J1 csr1_0 (rdV 4 (r_b, r_bad)) := hr1_0
 obtain ⟨A1_0_0, c1_0_0, rfl, f1_0_0⟩ := hr1_0
 have hsm1_0_0 := f1_0_0.small
 refine Run.m (y_len rfl Tryz.runUnderlying42 rfl) ?_
 refine Run.mv ?_
 refine Run.nx ?_
 refine RunC.block ?_
 have hvl : (rdV 4 (r_b, r_bad)).length ≤ r_b.length := rdV_len 4 (r_b, r_bad)
 obtain ⟨Inv0, hInv0⟩ : ∃ Inv : Nat → Act → World → Prop, ∀ mm aa ww, Inv mm aa ww ↔ (∃ (k : Nat) (n1 : UInt32), (k ≤ (rdV 4 (r_b, r_bad)).length) ∧ (n1 = rd4 ((rdV 4 (r_b, r_bad)).take k)) ∧ (mm = ((rdV 4 (r_b, r_bad)).length - k)) ∧ Frm aa 21 [(2, .int .i64 0), (7, .slice A1_0_0 ((rdV 4 (r_b, r_bad)).length) c1_0_0), (8, .int .i64 ((rdV 4 (r_b, r_bad)).length : Int)), (9, .int .i64 (k : Int)), (3, .int .u32 (n1.toNat : Int))] ∧ S E ww J1 [blk gr [.slice A1b (((rdB 4 (r_b, r_bad)).1).length) c1b, .bool ((rdB 4 (r_b, r_bad)).2)] 208]) := ⟨_, fun _ _ _ => Iff.rfl⟩
 refine RunC.loopX Inv0 (fun aa ww hF hS => ⟨_, (hInv0 _ _ _).2 ⟨0, (0 : UInt32), (Nat.zero_le _), (by simp [rd4]), rfl, hF.sub (Sub.of rfl), hS.sub (perm_self _)⟩⟩) ?_
 intro mm0 aa ww hv
 obtain ⟨k, n1, hk, hn1, hmm_, hF, hS⟩ := (hInv0 _ _ _).1 hv
 clear hv
 refine RunC.go ?_ hF hS
 clear hF hS aa ww
 refine RunC.sr ?_
 refine Run.m (v := .bool (decide ((k : Int) < ((rdV 4 (r_b, r_bad)).length : Int)))) (y_bin rfl rfl rfl bn_lss) ?_
 refine Run.nx ?_
 refine RunC.seq ?_
 refine RunC.cond rfl (fun hc0 => ?_) (fun hc0 => ?_)
 ·
  try simp only [z1, z2, z3, z4, z5, z6, z7, z8, z9, z10, z11, z12, z13, z14, z15, z16] at hc0
  refine RunC.skip ?_
  refine RunQ.next ?_
  refine RunC.seq ?_
  refine RunC.block ?_
  refine RunC.sr ?_
  obtain ⟨x11, p11_2, cs11_2, hx11, hp11_2, hcs11_2, hrc11_2⟩ := Sl.at_ (P := Tryz.prog) (T := tU8) Tryz.runUnderlying42 Tryz.sizeOf5 f1_0_0 (k := .i64) (i := (k : Int)) (by omega) (by omega)
  replace hx11 : (rdV 4 (r_b, r_bad))[k]? = some x11 := hx11
  obtain rfl := hcs11_2
  refine Run.m (v := .pointer (some p11_2)) (y_index rfl rfl rfl hp11_2) ?_
  refine Run.m (v := .int .u8 (x11.toNat : Int)) (y_load1 rfl Tryz.isAgg5 rfl (RCells.hd hrc11_2)) ?_
  refine Run.as ?_
  refine Run.nx ?_
  refine RunC.region ?_
  refine Run.mv ?_
  refine Run.m (v := .int .u32 ((n1 <<< 8).toNat : Int)) (y_bin rfl rfl rfl (bn_shl32k (a := n1) 8 8 rfl (by decide))) ?_
  refine Run.mv ?_
  refine Run.m (v := .int .u32 (x11.toUInt32.toNat : Int)) (y_conv rfl rfl (cv_int Tryz.underlying5 Tryz.underlying100 (wrap32_u8 _))) ?_
  refine Run.m (v := .int .u32 (((n1 <<< 8) ||| x11.toUInt32).toNat : Int)) (y_bin rfl rfl rfl (bn_or32 (a := n1 <<< 8) (b := x11.toUInt32))) ?_
  refine Run.as ?_
  refine Run.nil ?_
  refine RunQ.inB ?_
  refine RunQ.next ?_
  refine RunC.region ?_
  refine Run.m (v := .int .i64 ((k : Int) + 1)) (y_bin rfl rfl rfl (bn_add (by omega) (by omega))) ?_
  refine Run.mv ?_
  refine Run.nil ?_
  exact RunQ.thenI (fun aa ww hF hS => ⟨_, (by omega), (hInv0 _ _ _).2 ⟨(k + 1), (n1 <<< 8) ||| x11.toUInt32, (by omega), (by rw [take_snoc' hx11, rd4_snoc, ← hn1]), rfl, hF.sub (Sub.of rfl), hS.sub (perm_self _)⟩⟩)
 ·
  try simp only [z1, z2, z3, z4, z5, z6, z7, z8, z9, z10, z11, z12, z13, z14, z15, z16] at hc0
  refine RunC.exit ?_
  refine RunQ.pass (fun h => by cases h) ?_
  refine RunQ.pass (fun h => by cases h) ?_
  refine RunQ.out ?_
  refine RunQ.next ?_
  refine RunC.sr ?_
  refine Run.mv ?_
  refine Run.m (v := .int .i64 (n1.toNat : Int)) (y_conv rfl rfl (cv_int Tryz.underlying100 Tryz.underlying3 (wrap64_u32 _))) ?_
  refine Run.as ?_
  refine Run.nx ?_
  refine RunC.ret ?_
  refine RunQ.weak Sub.refl (perm_self _) ?_
  refine RunQ.fin1 (.inl rfl) Tryz.results119 (rv_tmp rfl) ?_
  exact ⟨(rdB 4 (r_b, r_bad)).1, A1b, c1b, (rdB 4 (r_b, r_bad)).2, _, (by rfl), (by rfl), rfl, rfl, h1b, (rd_eq (T := tInt) (x := (n1.toNat : Int)) ⟨rfl, (i64_u32 _)⟩ (by rw [hn1, List.take_of_length_le (by omega)]))⟩

theorem c_code_Reader_Left (I : Imm) (gr : Nat) (Ar_b : Option Addr) (cr_b : Nat) (r_b : List UInt8) (hr_b : Sl tU8 I Ar_b cr_b r_b) (r_bad : Bool) (hb : r_b.length ≤ 1000000) : Con Tryz.prog 121 [.pointer (some ⟨gr, 0, none⟩)].toArray I [blk gr [.slice Ar_b r_b.length cr_b, .bool r_bad] 208] (fun J o v => ∃ (r_b' : List UInt8) (Ar_b' : Option Addr) (cr_b' : Nat) (r_bad' : Bool) (csr0 : List Value), r_b' = r_b ∧ r_bad' = r_bad ∧ o = [blk gr [.slice Ar_b' r_b'.length cr_b', .bool r_bad'] 208] ∧ v = (tInt.o).v csr0 ∧ Sl tU8 J Ar_b' cr_b' r_b' ∧ tInt.rd J csr0 (r_b.length : Int)) := by
 refine Con.enter (n := 10) (L := [(0, .pointer (some ⟨gr, 0, none⟩))]) Tryz.func121 rfl rfl (Nat.le_of_ble_eq_true rfl) rfl (fun E => ?_)
 refine RunC.sr ?_
 refine Run.as ?_
 refine Run.nx ?_
 refine RunC.seq ?_
 refine RunC.sr ?_
 refine Run.mv ?_
 refine Run.m (v := .bool false) (y_bin rfl rfl rfl (bn_eqlPN Tryz.underlying182)) ?_
 refine Run.nx ?_
 refine RunC.condF rfl ?_
 refine RunC.skip ?_
 refine RunQ.next ?_
 refine RunC.sr ?_
 refine Run.mv ?_
 refine Run.m (y_nilCheck rfl rfl) ?_
 refine Run.m (v := .pointer (some ⟨gr, 0, none⟩)) (y_fieldAddr rfl rfl Tryz.runUnderlying208 rfl Tryz.sizeOf42 (by decide) rfl) ?_
 refine Run.m (v := .slice Ar_b r_b.length cr_b) (y_loadB1 0 rfl Tryz.isAgg42 rfl rfl rfl) ?_
 refine Run.m (y_len rfl Tryz.runUnderlying42 rfl) ?_
 refine Run.as ?_
 refine Run.nx ?_
 refine RunC.ret ?_
 refine RunQ.weak Sub.refl (perm_self _) ?_
 refine RunQ.fin1 (.inl rfl) Tryz.results121 (rv_tmp rfl) ?_
 exact ⟨r_b, Ar_b, cr_b, r_bad, _, (by rfl), (by rfl), rfl, rfl, hr_b, (rd_eq (T := tInt) (x := (r_b.length : Int)) ⟨rfl, (by first | omega | (dsimp only; omega))⟩ (by rfl))⟩

theorem c_code_Reader_Bad (I : Imm) (gr : Nat) (Ar_b : Option Addr) (cr_b : Nat) (r_b : List UInt8) (hr_b : Sl tU8 I Ar_b cr_b r_b) (r_bad : Bool) (hb : r_b.length ≤ 1000000) : Con Tryz.prog 122 [.pointer (some ⟨gr, 0, none⟩)].toArray I [blk gr [.slice Ar_b r_b.length cr_b, .bool r_bad] 208] (fun J o v => ∃ (r_b' : List UInt8) (Ar_b' : Option Addr) (cr_b' : Nat) (r_bad' : Bool) (csr0 : List Value), r_b' = r_b ∧ r_bad' = r_bad ∧ o = [blk gr [.slice Ar_b' r_b'.length cr_b', .bool r_bad'] 208] ∧ v = (tBool.o).v csr0 ∧ Sl tU8 J Ar_b' cr_b' r_b' ∧ tBool.rd J csr0 r_bad) := by
 refine Con.enter (n := 11) (L := [(0, .pointer (some ⟨gr, 0, none⟩))]) Tryz.func122 rfl rfl (Nat.le_of_ble_eq_true rfl) rfl (fun E => ?_)
 refine RunC.sr ?_
 refine Run.as ?_
 refine Run.nx ?_
 refine RunC.sr ?_
 refine Run.mv ?_
 refine Run.m (v := .bool true) (y_bin rfl rfl rfl (bn_neqPN Tryz.underlying182)) ?_
 refine Run.mv ?_
 refine Run.yes (v := .pointer (some ⟨gr, 0, none⟩)) (y_move rfl rfl) rfl rfl rfl rfl (rfl) rfl (by decide) ?_
 refine Run.yes (v := .pointer (some ⟨gr, 0, none⟩)) (y_nilCheck rfl rfl) rfl rfl rfl rfl (rfl) rfl (by decide) ?_
 refine Run.yes (v := .pointer (some ⟨gr, 1, none⟩)) (y_fieldAddr rfl rfl Tryz.runUnderlying208 rfl Tryz.sizeOf4 (by decide) rfl) rfl rfl rfl rfl (rfl) rfl (by decide) ?_
 refine Run.yes (v := .bool r_bad) (y_loadB1 0 rfl Tryz.isAgg4 rfl rfl rfl) rfl rfl rfl rfl (rfl) rfl (by decide) ?_
 refine Run.m (v := .bool r_bad) (y_pick rfl rfl rfl) ?_
 refine Run.as ?_
 refine Run.nx ?_
 refine RunC.ret ?_
 refine RunQ.weak Sub.refl (perm_self _) ?_
 refine RunQ.fin1 (.inl rfl) Tryz.results122 (rv_tmp rfl) ?_
 exact ⟨r_b, Ar_b, cr_b, r_bad, _, (by rfl), (by rfl), rfl, rfl, hr_b, (rd_eq (T := tBool) (x := r_bad) rfl (by simp))⟩

theorem c_code_Reader_Raw (I : Imm) (gr : Nat) (Ar_b : Option Addr) (cr_b : Nat) (r_b : List UInt8) (hr_b : Sl tU8 I Ar_b cr_b r_b) (r_bad : Bool) (n : Int) (hb : r_b.length ≤ 1000000) : Con Tryz.prog 146 [.pointer (some ⟨gr, 0, none⟩), .int .i64 n].toArray I [blk gr [.slice Ar_b r_b.length cr_b, .bool r_bad] 208] (fun J o v => ∃ (r_b' : List UInt8) (Ar_b' : Option Addr) (cr_b' : Nat) (r_bad' : Bool) (csr0 : List Value), r_b' = (rdB n.toNat (r_b, r_bad)).1 ∧ r_bad' = (rdB n.toNat (r_b, r_bad)).2 ∧ o = [blk gr [.slice Ar_b' r_b'.length cr_b', .bool r_bad'] 208] ∧ v = ((tSl tU8).o).v csr0 ∧ Sl tU8 J Ar_b' cr_b' r_b' ∧ (tSl tU8).rd J csr0 (rdV n.toNat (r_b, r_bad))) := by
 refine Con.enter (n := 10) (L := [(0, .pointer (some ⟨gr, 0, none⟩)), (1, .int .i64 n)]) Tryz.func146 rfl rfl (Nat.le_of_ble_eq_true rfl) rfl (fun E => ?_)
 refine RunC.sr ?_
 refine Run.as ?_
 refine Run.nx ?_
 refine RunC.seq ?_
 have hmx : (max 0 n).toNat = n.toNat := by omega
 have hvl : (rdV n.toNat (r_b, r_bad)).length ≤ r_b.length := rdV_len n.toNat (r_b, r_bad)
 refine RunC.region ?_
 refine Run.mv ?_
 refine Run.mv ?_
 refine Run.m (v := .int .i64 (max 0 n)) (y_max rfl rfl rfl) ?_
 refine Run.call (own1 := [blk gr [.slice Ar_b r_b.length cr_b, .bool r_bad] 208]) (own2 := []) (en_func rfl Tryz.call148 rfl) (c_code_Reader_take _ gr Ar_b cr_b r_b hr_b r_bad (max 0 n) (by first | omega | (rw [hmx]; exact Nat.le_trans hvl hb)) (by first | omega | (rw [hmx]; exact Nat.le_trans hvl hb))) (permC (i := 0) rfl rfl (List.Perm.refl _)) rfl rfl (by decide) (fun J1 o1 v1 hleJ1 hq1 => ?_)
 obtain ⟨y1b, A1b, c1b, y1bad, csr1_0, e1b, e1bad, rfl, rfl, h1b, hr1_0⟩ := hq1
 obtain rfl : (rdB (max 0 n).toNat (r_b, r_bad)).1 = y1b := e1b.symm
 obtain rfl : (rdB (max 0 n).toNat (r_b, r_bad)).2 = y1bad := e1bad.symm
 replace hr1_0 : (tSl tU8).rd J1 csr1_0 (rdV (max 0 n).toNat (r_b, r_bad)) := hr1_0
 obtain ⟨A1_0_0, c1_0_0, rfl, f1_0_0⟩ := hr1_0
 have hsm1_0_0 := f1_0_0.small
 refine Run.call (own1 := []) (own2 := [blk gr [.slice A1b (((rdB (max 0 n).toNat (r_b, r_bad)).1).length) c1b, .bool ((rdB (max 0 n).toNat (r_b, r_bad)).2)] 208]) (en_func rfl Tryz.call143 rfl) (c_slices_Clone_byte_byte _ (rdV (max 0 n).toNat (r_b, r_bad)) f1_0_0 (by rw [hmx]; exact Nat.le_trans hvl hb)) (List.Perm.refl _) rfl rfl (by decide) (fun J2 o2 v2 hleJ2 hq2 => ?_)
 obtain ⟨yr2_0, Ar2_0, cr2_0, clr2_0, er2_0, rfl, rfl, hr2_0⟩ := hq2
 obtain rfl : (rdV (max 0 n).toNat (r_b, r_bad)) = yr2_0 := er2_0.symm
 refine Run.as ?_
 refine Run.nx ?_
 refine RunC.ret ?_
 refine RunQ.freezeR 0 rfl (own' := [blk gr [.slice A1b (((rdB (max 0 n).toNat (r_b, r_bad)).1).length) c1b, .bool ((rdB (max 0 n).toNat (r_b, r_bad)).2)] 208]) rfl (fun J3 hleJ3 hfzJ3 => ?_)
 have hslJ3 : Sl tU8 J3 Ar2_0 cr2_0 (rdV (max 0 n).toNat (r_b, r_bad)) := Sl.of_rowN hfzJ3 rfl rfl (hr2_0.mono hleJ3)
 refine RunQ.weak Sub.refl (perm_self _) ?_
 refine RunQ.fin1 (.inl rfl) Tryz.results146 (rv_tmp rfl) ?_
 exact ⟨(rdB (max 0 n).toNat (r_b, r_bad)).1, A1b, c1b, (rdB (max 0 n).toNat (r_b, r_bad)).2, _, (by (try rw [hmx])), (by (try rw [hmx])), rfl, rfl, (h1b.mono (hleJ2.trans hleJ3)), (rd_eq (T := (tSl tU8)) (x := (rdV (max 0 n).toNat (r_b, r_bad))) ⟨_, _, rfl, hslJ3⟩ (by rw [hmx]))⟩

theorem c_slices_Equal_byte_byte (I : Imm) {Aa : Option Addr} {ca : Nat} (a : List UInt8) (ha : Sl tU8 I Aa ca a) {Ab : Option Addr} {cb : Nat} (b : List UInt8) (hb : Sl tU8 I Ab cb b) : Con Tryz.prog 147 [.slice Aa a.length ca, .slice Ab b.length cb].toArray I [] (Ret1 (tBool.o) (decide (a = b))) := by
 have hsma := ha.small
 have hsmb := hb.small
 refine Con.enter (n := 26) (L := [(0, .slice Aa a.length ca), (1, .slice Ab b.length cb)]) Tryz.func147 rfl rfl (Nat.le_of_ble_eq_true rfl) rfl (fun E => ?_)
 refine RunC.sr ?_
 refine Run.as ?_
 refine Run.nx ?_
 refine RunC.seq ?_
 refine RunC.sr ?_
 refine Run.mv ?_
 refine Run.m (y_len rfl Tryz.runUnderlying42 rfl) ?_
 refine Run.mv ?_
 refine Run.m (y_len rfl Tryz.runUnderlying42 rfl) ?_
 refine Run.m (v := .bool (decide ((a.length : Int) ≠ (b.length : Int)))) (y_bin rfl rfl rfl bn_neq) ?_
 refine Run.nx ?_
 refine RunC.cond rfl (fun hc0 => ?_) (fun hc0 => ?_)
 ·
  try simp only [z1, z2, z3, z4, z5, z6, z7, z8, z9, z10, z11, z12, z13, z14, z15, z16] at hc0
  refine RunC.sr ?_
  refine Run.as ?_
  refine Run.nx ?_
  refine RunC.ret ?_
  refine RunQ.pass (fun h => by cases h) ?_
  refine RunQ.weak Sub.refl (perm_nil _) ?_
  refine RunQ.fin1 (.inl rfl) Tryz.results147 (rv_tmp rfl) ?_
  exact ⟨rfl, _, rfl, (rd_eq (T := tBool) (x := false) rfl (by first | exact (decide_eq_true (by rw [List.take_of_length_le (by omega), List.take_of_length_le (by omega)] at ht; exact ht)).symm | exact (decide_eq_false (fun e => by subst e; simp_all)).symm))⟩
 ·
  try simp only [z1, z2, z3, z4, z5, z6, z7, z8, z9, z10, z11, z12, z13, z14, z15, z16] at hc0
  refine RunC.skip ?_
  refine RunQ.next ?_
  refine RunC.seq ?_
  refine RunC.sr ?_
  refine Run.mv ?_
  refine Run.m (y_len rfl Tryz.runUnderlying42 rfl) ?_
  refine Run.mv ?_
  refine Run.nx ?_
  refine RunC.block ?_
  obtain ⟨Inv0, hInv0⟩ : ∃ Inv : Nat → Act → World → Prop, ∀ mm aa ww, Inv mm aa ww ↔ (∃ (k : Nat), (k ≤ a.length) ∧ (a.length = b.length) ∧ (a.take k = b.take k) ∧ (mm = (a.length - k)) ∧ Frm aa 26 [(0, .slice Aa a.length ca), (1, .slice Ab b.length cb), (12, .int .i64 (a.length : Int)), (13, .int .i64 (k : Int))] ∧ S E ww I []) := ⟨_, fun _ _ _ => Iff.rfl⟩
  refine RunC.loopX Inv0 (fun aa ww hF hS => ⟨_, (hInv0 _ _ _).2 ⟨0, (by simp), (by omega), (by simp), rfl, hF.sub (Sub.of rfl), hS.sub (perm_self _)⟩⟩) ?_
  intro mm0 aa ww hv
  obtain ⟨k, hk, hl, ht, hmm_, hF, hS⟩ := (hInv0 _ _ _).1 hv
  clear hv
  refine RunC.go ?_ hF hS
  clear hF hS aa ww
  refine RunC.sr ?_
  refine Run.m (v := .bool (decide ((k : Int) < (a.length : Int)))) (y_bin rfl rfl rfl bn_lss) ?_
  refine Run.nx ?_
  refine RunC.seq ?_
  refine RunC.cond rfl (fun hc1 => ?_) (fun hc1 => ?_)
  ·
   try simp only [z1, z2, z3, z4, z5, z6, z7, z8, z9, z10, z11, z12, z13, z14, z15, z16] at hc1
   refine RunC.skip ?_
   refine RunQ.next ?_
   refine RunC.seq ?_
   refine RunC.block ?_
   refine RunC.sr ?_
   refine Run.mv ?_
   refine Run.as ?_
   refine Run.nx ?_
   refine RunC.seq ?_
   refine RunC.regionD (by kernel_rfl) (by kernel_rfl) ?_
   refine RunZ.y (v := .slice Aa a.length ca) (y_move rfl rfl) rfl rfl (by decide) ?_
   refine RunZ.y (v := .int .i64 (k : Int)) (y_move rfl rfl) rfl rfl (by decide) ?_
   obtain ⟨x18, p18_1, cs18_1, hx18, hp18_1, hcs18_1, hrc18_1⟩ := Sl.at_ (P := Tryz.prog) (T := tU8) Tryz.runUnderlying42 Tryz.sizeOf5 ha (k := .i64) (i := (k : Int)) (by omega) (by omega)
   replace hx18 : a[k]? = some x18 := hx18
   obtain rfl := hcs18_1
   refine RunZ.y (v := .pointer (some p18_1)) (y_index rfl rfl rfl hp18_1) rfl rfl (by decide) ?_
   refine RunZ.y (v := .int .u8 (x18.toNat : Int)) (y_load1 rfl Tryz.isAgg5 rfl (RCells.hd hrc18_1)) rfl rfl (by decide) ?_
   refine RunZ.y (v := .slice Ab b.length cb) (y_move rfl rfl) rfl rfl (by decide) ?_
   refine RunZ.y (v := .int .i64 (k : Int)) (y_move rfl rfl) rfl rfl (by decide) ?_
   obtain ⟨x22, p22_2, cs22_2, hx22, hp22_2, hcs22_2, hrc22_2⟩ := Sl.at_ (P := Tryz.prog) (T := tU8) Tryz.runUnderlying42 Tryz.sizeOf5 hb (k := .i64) (i := (k : Int)) (by omega) (by omega)
   replace hx22 : b[k]? = some x22 := hx22
   obtain rfl := hcs22_2
   refine RunZ.y (v := .pointer (some p22_2)) (y_index rfl rfl rfl hp22_2) rfl rfl (by decide) ?_
   refine RunZ.y (v := .int .u8 (x22.toNat : Int)) (y_load1 rfl Tryz.isAgg5 rfl (RCells.hd hrc22_2)) rfl rfl (by decide) ?_
   refine RunZ.y (v := .bool (decide (x18 ≠ x22))) (y_bin rfl rfl rfl (bn_neq8 (a := x18) (b := x22))) rfl rfl (by decide) ?_
   refine RunZ.nil ?_
   refine RunQ.next ?_
   refine RunC.cond rfl (fun hc2 => ?_) (fun hc2 => ?_)
   ·
    try simp only [z1, z2, z3, z4, z5, z6, z7, z8, z9, z10, z11, z12, z13, z14, z15, z16] at hc2
    refine RunC.sr ?_
    refine Run.as ?_
    refine Run.nx ?_
    refine RunC.ret ?_
    refine RunQ.inR ?_
    refine RunQ.pass (fun h => by cases h) ?_
    refine RunQ.pass (fun h => by cases h) ?_
    refine RunQ.inR ?_
    refine RunQ.pass (fun h => by cases h) ?_
    refine RunQ.weak Sub.refl (perm_nil _) ?_
    refine RunQ.fin1 (.inl rfl) Tryz.results147 (rv_tmp rfl) ?_
    exact ⟨rfl, _, rfl, (rd_eq (T := tBool) (x := false) rfl (by first | exact (decide_eq_true (by rw [List.take_of_length_le (by omega), List.take_of_length_le (by omega)] at ht; exact ht)).symm | exact (decide_eq_false (fun e => by subst e; simp_all)).symm))⟩
   ·
    try simp only [z1, z2, z3, z4, z5, z6, z7, z8, z9, z10, z11, z12, z13, z14, z15, z16] at hc2
    refine RunC.skip ?_
    refine RunQ.inB ?_
    refine RunQ.next ?_
    refine RunC.region ?_
    refine Run.m (v := .int .i64 ((k : Int) + 1)) (y_bin rfl rfl rfl (bn_add (by omega) (by omega))) ?_
    refine Run.mv ?_
    refine Run.nil ?_
    exact RunQ.thenI (fun aa ww hF hS => ⟨_, (by omega), (hInv0 _ _ _).2 ⟨(k + 1), (by omega), hl, (by rw [take_snoc' hx18, take_snoc' hx22, ht, hc2]), rfl, hF.sub (Sub.of rfl), hS.sub (perm_self _)⟩⟩)
  ·
   try simp only [z1, z2, z3, z4, z5, z6, z7, z8, z9, z10, z11, z12, z13, z14, z15, z16] at hc1
   refine RunC.exit ?_
   refine RunQ.pass (fun h => by cases h) ?_
   refine RunQ.pass (fun h => by cases h) ?_
   refine RunQ.out ?_
   refine RunQ.next ?_
   refine RunC.sr ?_
   refine Run.as ?_
   refine Run.nx ?_
   refine RunC.ret ?_
   refine RunQ.weak Sub.refl (perm_nil _) ?_
   refine RunQ.fin1 (.inl rfl) Tryz.results147 (rv_tmp rfl) ?_
   exact ⟨rfl, _, rfl, (rd_eq (T := tBool) (x := true) rfl (by first | exact (decide_eq_true (by rw [List.take_of_length_le (by omega), List.take_of_length_le (by omega)] at ht; exact ht)).symm | exact (decide_eq_false (fun e => by subst e; simp_all)).symm))⟩

theorem c_frame_check (I : Imm) {csu : List Value} (u : AUnit) (hu : tUnit.rd I csu u) : Con Tryz.prog 113 [.agg csu.toArray].toArray I [] (Ret1 (tInt.o) (uCheck u)) := by
 obtain ⟨Au_3, cu_3, rfl, fu_0, fu_1, fu_2, fu_3⟩ := hu
 have hsmu_3 := fu_3.small
 refine Con.enter (n := 42) (L := [(0, .agg [.int .i64 u.kind, .int .i64 u.label, .int .i64 u.number, .slice Au_3 u.load.length cu_3].toArray)]) Tryz.func113 rfl rfl (Nat.le_of_ble_eq_true rfl) rfl (fun E => ?_)
 refine RunC.sr ?_
 refine Run.box (cs := [.int .i64 u.kind, .int .i64 u.label, .int .i64 u.number, .slice Au_3 u.load.length cu_3]) rfl rfl rfl rfl rfl (by decide) (fun g1 => ?_)
 refine Run.as ?_
 refine Run.nx ?_
 refine RunC.seq ?_
 refine RunC.sr ?_
 refine Run.m (v := .pointer (some ⟨g1, 1, none⟩)) (y_fieldAddr rfl rfl Tryz.runUnderlying63 rfl Tryz.sizeOf3 (by decide) rfl) ?_
 refine Run.m (v := .int .i64 u.label) (y_loadB1 0 rfl Tryz.isAgg3 rfl rfl rfl) ?_
 refine Run.m (v := .bool (decide (u.label < 1))) (y_bin rfl rfl rfl bn_lss) ?_
 refine Run.mv ?_
 refine Run.split 4 rfl (b := decide (u.label < 1)) (d := 10) (v := .bool ((decide (u.label < 1)) || (decide (u.label > 2147483647)))) (fun hb6 K6 => ?_) (fun hb6 K6 => ?_) ?_
 ·
  have hc1006 := hb6; try simp only [z1, z2, z3, z4, z5, z6, z7, z8, z9, z10, z11, z12, z13, z14, z15, z16] at hc1006
  refine Run.no rfl rfl rfl rfl (hb6) rfl (by decide) ?_
  refine Run.no rfl rfl rfl rfl (hb6) rfl (by decide) ?_
  refine Run.no rfl rfl rfl rfl (hb6) rfl (by decide) ?_
  refine Run.y (y_pickB rfl rfl (hb6) rfl) rfl rfl (by decide) ?_
  exact K6 _ _ _ (Imm.le.refl _) (by rw [hb6]; simp) (Sub.tl 3 rfl rfl)
 ·
  have hc1006 := hb6; try simp only [z1, z2, z3, z4, z5, z6, z7, z8, z9, z10, z11, z12, z13, z14, z15, z16] at hc1006
  refine Run.yes (v := .pointer (some ⟨g1, 1, none⟩)) (y_fieldAddr rfl rfl Tryz.runUnderlying63 rfl Tryz.sizeOf3 (by decide) rfl) rfl rfl rfl rfl (hb6) rfl (by decide) ?_
  refine Run.yes (v := .int .i64 u.label) (y_loadB1 0 rfl Tryz.isAgg3 rfl rfl rfl) rfl rfl rfl rfl (hb6) rfl (by decide) ?_
  refine Run.yes (v := .bool (decide (u.label > 2147483647))) (y_bin rfl rfl rfl bn_gtr) rfl rfl rfl rfl (hb6) rfl (by decide) ?_
  refine Run.y (y_pickB rfl rfl (hb6) rfl) rfl rfl (by decide) ?_
  exact K6 _ _ _ (Imm.le.refl _) (by rw [hb6]; simp) (Sub.tl 3 rfl rfl)
 refine Run.mv ?_
 refine Run.split 4 rfl (b := ((decide (u.label < 1)) || (decide (u.label > 2147483647)))) (d := 15) (v := .bool (((decide (u.label < 1)) || (decide (u.label > 2147483647))) || (decide (u.number < 0)))) (fun hb11 K11 => ?_) (fun hb11 K11 => ?_) ?_
 ·
  have hc1011 := hb11; try simp only [z1, z2, z3, z4, z5, z6, z7, z8, z9, z10, z11, z12, z13, z14, z15, z16] at hc1011
  refine Run.no rfl rfl rfl rfl (hb11) rfl (by decide) ?_
  refine Run.no rfl rfl rfl rfl (hb11) rfl (by decide) ?_
  refine Run.no rfl rfl rfl rfl (hb11) rfl (by decide) ?_
  refine Run.y (y_pickB rfl rfl (hb11) rfl) rfl rfl (by decide) ?_
  exact K11 _ _ _ (Imm.le.refl _) (by rw [hb11]; simp) (Sub.tl 3 rfl rfl)
 ·
  have hc1011 := hb11; try simp only [z1, z2, z3, z4, z5, z6, z7, z8, z9, z10, z11, z12, z13, z14, z15, z16] at hc1011
  refine Run.yes (v := .pointer (some ⟨g1, 2, none⟩)) (y_fieldAddr rfl rfl Tryz.runUnderlying63 rfl Tryz.sizeOf3 (by decide) rfl) rfl rfl rfl rfl (hb11) rfl (by decide) ?_
  refine Run.yes (v := .int .i64 u.number) (y_loadB1 0 rfl Tryz.isAgg3 rfl rfl rfl) rfl rfl rfl rfl (hb11) rfl (by decide) ?_
  refine Run.yes (v := .bool (decide (u.number < 0))) (y_bin rfl rfl rfl bn_lss) rfl rfl rfl rfl (hb11) rfl (by decide) ?_
  refine Run.y (y_pickB rfl rfl (hb11) rfl) rfl rfl (by decide) ?_
  exact K11 _ _ _ (Imm.le.refl _) (by rw [hb11]; simp) (Sub.tl 3 rfl rfl)
 refine Run.mv ?_
 refine Run.split 4 rfl (b := (((decide (u.label < 1)) || (decide (u.label > 2147483647))) || (decide (u.number < 0)))) (d := 20) (v := .bool ((((decide (u.label < 1)) || (decide (u.label > 2147483647))) || (decide (u.number < 0))) || (decide (u.number > 2147483647)))) (fun hb16 K16 => ?_) (fun hb16 K16 => ?_) ?_
 ·
  have hc1016 := hb16; try simp only [z1, z2, z3, z4, z5, z6, z7, z8, z9, z10, z11, z12, z13, z14, z15, z16] at hc1016
  refine Run.no rfl rfl rfl rfl (hb16) rfl (by decide) ?_
  refine Run.no rfl rfl rfl rfl (hb16) rfl (by decide) ?_
  refine Run.no rfl rfl rfl rfl (hb16) rfl (by decide) ?_
  refine Run.y (y_pickB rfl rfl (hb16) rfl) rfl rfl (by decide) ?_
  exact K16 _ _ _ (Imm.le.refl _) (by rw [hb16]; simp) (Sub.tl 3 rfl rfl)
 ·
  have hc1016 := hb16; try simp only [z1, z2, z3, z4, z5, z6, z7, z8, z9, z10, z11, z12, z13, z14, z15, z16] at hc1016
  refine Run.yes (v := .pointer (some ⟨g1, 2, none⟩)) (y_fieldAddr rfl rfl Tryz.runUnderlying63 rfl Tryz.sizeOf3 (by decide) rfl) rfl rfl rfl rfl (hb16) rfl (by decide) ?_
  refine Run.yes (v := .int .i64 u.number) (y_loadB1 0 rfl Tryz.isAgg3 rfl rfl rfl) rfl rfl rfl rfl (hb16) rfl (by decide) ?_
  refine Run.yes (v := .bool (decide (u.number > 2147483647))) (y_bin rfl rfl rfl bn_gtr) rfl rfl rfl rfl (hb16) rfl (by decide) ?_
  refine Run.y (y_pickB rfl rfl (hb16) rfl) rfl rfl (by decide) ?_
  exact K16 _ _ _ (Imm.le.refl _) (by rw [hb16]; simp) (Sub.tl 3 rfl rfl)
 refine Run.nx ?_
 refine RunC.cond rfl (fun hc0 => ?_) (fun hc0 => ?_)
 ·
  try simp only [z1, z2, z3, z4, z5, z6, z7, z8, z9, z10, z11, z12, z13, z14, z15, z16] at hc0
  refine RunC.sr ?_
  refine Run.as ?_
  refine Run.nx ?_
  refine RunC.ret ?_
  refine RunQ.pass (fun h => by cases h) ?_
  refine RunQ.weak Sub.refl (perm_nil _) ?_
  refine RunQ.fin1 (.inl rfl) Tryz.results113 (rv_tmp rfl) ?_
  exact ⟨rfl, _, rfl, (rd_eq (T := tInt) (x := 1) ⟨rfl, (by first | omega | (dsimp only; omega))⟩ (by unfold uCheck roomOf; (repeat' split) <;> first | rfl | omega))⟩
 ·
  try simp only [z1, z2, z3, z4, z5, z6, z7, z8, z9, z10, z11, z12, z13, z14, z15, z16] at hc0
  refine RunC.skip ?_
  refine RunQ.next ?_
  refine RunC.seq ?_
  refine RunC.sr ?_
  refine Run.m (v := .pointer (some ⟨g1, 0, none⟩)) (y_fieldAddr rfl rfl Tryz.runUnderlying63 rfl Tryz.sizeOf3 (by decide) rfl) ?_
  refine Run.m (v := .int .i64 u.kind) (y_loadB1 0 rfl Tryz.isAgg3 rfl rfl rfl) ?_
  refine Run.nx ?_
  refine RunC.block ?_
  refine RunC.seq ?_
  refine RunC.block ?_
  refine RunC.block ?_
  refine RunC.block ?_
  refine RunC.block ?_
  refine RunC.block ?_
  refine RunC.block ?_
  refine RunC.seq ?_
  refine RunC.seq ?_
  refine RunC.sr ?_
  refine Run.m (v := .bool (decide (u.kind = 1))) (y_bin rfl rfl rfl bn_eql) ?_
  refine Run.as ?_
  refine Run.nx ?_
  refine RunC.cond rfl (fun hc1 => ?_) (fun hc1 => ?_)
  ·
   try simp only [z1, z2, z3, z4, z5, z6, z7, z8, z9, z10, z11, z12, z13, z14, z15, z16] at hc1
   refine RunC.exit ?_
   refine RunQ.pass (fun h => by cases h) ?_
   refine RunQ.pass (fun h => by cases h) ?_
   refine RunQ.out ?_
   refine RunQ.inB ?_
   refine RunQ.inB ?_
   refine RunQ.inB ?_
   refine RunQ.inB ?_
   refine RunQ.inB ?_
   refine RunQ.next ?_
   refine RunC.seq ?_
   refine RunC.seq ?_
   refine RunC.seq ?_
   refine RunC.regionD (by kernel_rfl) (by kernel_rfl) ?_
   refine RunZ.y (v := .pointer (some ⟨g1, 3, none⟩)) (y_fieldAddr rfl rfl Tryz.runUnderlying63 rfl Tryz.sizeOf42 (by decide) rfl) rfl rfl (by decide) ?_
   refine RunZ.y (v := .slice Au_3 u.load.length cu_3) (y_loadB1 0 rfl Tryz.isAgg42 rfl rfl rfl) rfl rfl (by decide) ?_
   refine RunZ.y (v := .int .i64 (u.load.length : Int)) (y_len rfl Tryz.runUnderlying42 rfl) rfl rfl (by decide) ?_
   refine RunZ.y (v := .pointer (some ⟨g1, 0, none⟩)) (y_fieldAddr rfl rfl Tryz.runUnderlying63 rfl Tryz.sizeOf3 (by decide) rfl) rfl rfl (by decide) ?_
   refine RunZ.y (v := .int .i64 u.kind) (y_loadB1 0 rfl Tryz.isAgg3 rfl rfl rfl) rfl rfl (by decide) ?_
   refine RunZ.call (en_func rfl Tryz.call144 rfl) (con_int (c_frame_room _ u.kind)) rfl rfl (by decide) ?_
   refine RunZ.y (v := .bool (decide ((u.load.length : Int) > (if u.kind = 6 then (79 : Int) else 64)))) (y_bin rfl rfl rfl bn_gtr) rfl rfl (by decide) ?_
   refine RunZ.nil ?_
   refine RunQ.next ?_
   refine RunC.cond rfl (fun hc7 => ?_) (fun hc7 => ?_)
   ·
    try simp only [z1, z2, z3, z4, z5, z6, z7, z8, z9, z10, z11, z12, z13, z14, z15, z16] at hc7
    refine RunC.sr ?_
    refine Run.as ?_
    refine Run.nx ?_
    refine RunC.ret ?_
    refine RunQ.pass (fun h => by cases h) ?_
    refine RunQ.pass (fun h => by cases h) ?_
    refine RunQ.inR ?_
    refine RunQ.pass (fun h => by cases h) ?_
    refine RunQ.weak Sub.refl (perm_nil _) ?_
    refine RunQ.fin1 (.inl rfl) Tryz.results113 (rv_tmp rfl) ?_
    exact ⟨rfl, _, rfl, (rd_eq (T := tInt) (x := 4) ⟨rfl, (by first | omega | (dsimp only; omega))⟩ (by unfold uCheck roomOf; (repeat' split) <;> first | rfl | omega))⟩
   ·
    try simp only [z1, z2, z3, z4, z5, z6, z7, z8, z9, z10, z11, z12, z13, z14, z15, z16] at hc7
    refine RunC.skip ?_
    refine RunQ.next ?_
    refine RunC.sr ?_
    refine Run.as ?_
    refine Run.nx ?_
    refine RunC.ret ?_
    refine RunQ.pass (fun h => by cases h) ?_
    refine RunQ.inR ?_
    refine RunQ.pass (fun h => by cases h) ?_
    refine RunQ.weak Sub.refl (perm_nil _) ?_
    refine RunQ.fin1 (.inl rfl) Tryz.results113 (rv_tmp rfl) ?_
    exact ⟨rfl, _, rfl, (rd_eq (T := tInt) (x := 0) ⟨rfl, (by first | omega | (dsimp only; omega))⟩ (by unfold uCheck roomOf; (repeat' split) <;> first | rfl | omega))⟩
  ·
   try simp only [z1, z2, z3, z4, z5, z6, z7, z8, z9, z10, z11, z12, z13, z14, z15, z16] at hc1
   refine RunC.skip ?_
   refine RunQ.next ?_
   refine RunC.seq ?_
   refine RunC.sr ?_
   refine Run.m (v := .bool (decide (u.kind = 2))) (y_bin rfl rfl rfl bn_eql) ?_
   refine Run.as ?_
   refine Run.nx ?_
   refine RunC.cond rfl (fun hc2 => ?_) (fun hc2 => ?_)
   ·
    try simp only [z1, z2, z3, z4, z5, z6, z7, z8, z9, z10, z11, z12, z13, z14, z15, z16] at hc2
    refine RunC.exit ?_
    refine RunQ.pass (fun h => by cases h) ?_
    refine RunQ.pass (fun h => by cases h) ?_
    refine RunQ.by_ rfl ?_
    refine RunQ.out ?_
    refine RunQ.inB ?_
    refine RunQ.inB ?_
    refine RunQ.inB ?_
    refine RunQ.inB ?_
    refine RunQ.next ?_
    refine RunC.seq ?_
    refine RunC.seq ?_
    refine RunC.seq ?_
    refine RunC.regionD (by kernel_rfl) (by kernel_rfl) ?_
    refine RunZ.y (v := .pointer (some ⟨g1, 3, none⟩)) (y_fieldAddr rfl rfl Tryz.runUnderlying63 rfl Tryz.sizeOf42 (by decide) rfl) rfl rfl (by decide) ?_
    refine RunZ.y (v := .slice Au_3 u.load.length cu_3) (y_loadB1 0 rfl Tryz.isAgg42 rfl rfl rfl) rfl rfl (by decide) ?_
    refine RunZ.y (v := .int .i64 (u.load.length : Int)) (y_len rfl Tryz.runUnderlying42 rfl) rfl rfl (by decide) ?_
    refine RunZ.y (v := .pointer (some ⟨g1, 0, none⟩)) (y_fieldAddr rfl rfl Tryz.runUnderlying63 rfl Tryz.sizeOf3 (by decide) rfl) rfl rfl (by decide) ?_
    refine RunZ.y (v := .int .i64 u.kind) (y_loadB1 0 rfl Tryz.isAgg3 rfl rfl rfl) rfl rfl (by decide) ?_
    refine RunZ.call (en_func rfl Tryz.call144 rfl) (con_int (c_frame_room _ u.kind)) rfl rfl (by decide) ?_
    refine RunZ.y (v := .bool (decide ((u.load.length : Int) > (if u.kind = 6 then (79 : Int) else 64)))) (y_bin rfl rfl rfl bn_gtr) rfl rfl (by decide) ?_
    refine RunZ.nil ?_
    refine RunQ.next ?_
    refine RunC.cond rfl (fun hc7 => ?_) (fun hc7 => ?_)
    ·
     try simp only [z1, z2, z3, z4, z5, z6, z7, z8, z9, z10, z11, z12, z13, z14, z15, z16] at hc7
     refine RunC.sr ?_
     refine Run.as ?_
     refine Run.nx ?_
     refine RunC.ret ?_
     refine RunQ.pass (fun h => by cases h) ?_
     refine RunQ.pass (fun h => by cases h) ?_
     refine RunQ.inR ?_
     refine RunQ.pass (fun h => by cases h) ?_
     refine RunQ.weak Sub.refl (perm_nil _) ?_
     refine RunQ.fin1 (.inl rfl) Tryz.results113 (rv_tmp rfl) ?_
     exact ⟨rfl, _, rfl, (rd_eq (T := tInt) (x := 4) ⟨rfl, (by first | omega | (dsimp only; omega))⟩ (by unfold uCheck roomOf; (repeat' split) <;> first | rfl | omega))⟩
    ·
     try simp only [z1, z2, z3, z4, z5, z6, z7, z8, z9, z10, z11, z12, z13, z14, z15, z16] at hc7
     refine RunC.skip ?_
     refine RunQ.next ?_
     refine RunC.sr ?_
     refine Run.as ?_
     refine Run.nx ?_
     refine RunC.ret ?_
     refine RunQ.pass (fun h => by cases h) ?_
     refine RunQ.inR ?_
     refine RunQ.pass (fun h => by cases h) ?_
     refine RunQ.weak Sub.refl (perm_nil _) ?_
     refine RunQ.fin1 (.inl rfl) Tryz.results113 (rv_tmp rfl) ?_
     exact ⟨rfl, _, rfl, (rd_eq (T := tInt) (x := 0) ⟨rfl, (by first | omega | (dsimp only; omega))⟩ (by unfold uCheck roomOf; (repeat' split) <;> first | rfl | omega))⟩
   ·
    try simp only [z1, z2, z3, z4, z5, z6, z7, z8, z9, z10, z11, z12, z13, z14, z15, z16] at hc2
    refine RunC.skip ?_
    refine RunQ.next ?_
    refine RunC.seq ?_
    refine RunC.sr ?_
    refine Run.m (v := .bool (decide (u.kind = 3))) (y_bin rfl rfl rfl bn_eql) ?_
    refine Run.as ?_
    refine Run.nx ?_
    refine RunC.cond rfl (fun hc3 => ?_) (fun hc3 => ?_)
    ·
     try simp only [z1, z2, z3, z4, z5, z6, z7, z8, z9, z10, z11, z12, z13, z14, z15, z16] at hc3
     refine RunC.exit ?_
     refine RunQ.pass (fun h => by cases h) ?_
     refine RunQ.pass (fun h => by cases h) ?_
     refine RunQ.by_ rfl ?_
     refine RunQ.by_ rfl ?_
     refine RunQ.out ?_
     refine RunQ.inB ?_
     refine RunQ.inB ?_
     refine RunQ.inB ?_
     refine RunQ.next ?_
     refine RunC.seq ?_
     refine RunC.seq ?_
     refine RunC.seq ?_
     refine RunC.regionD (by kernel_rfl) (by kernel_rfl) ?_
     refine RunZ.y (v := .pointer (some ⟨g1, 3, none⟩)) (y_fieldAddr rfl rfl Tryz.runUnderlying63 rfl Tryz.sizeOf42 (by decide) rfl) rfl rfl (by decide) ?_
     refine RunZ.y (v := .slice Au_3 u.load.length cu_3) (y_loadB1 0 rfl Tryz.isAgg42 rfl rfl rfl) rfl rfl (by decide) ?_
     refine RunZ.y (v := .int .i64 (u.load.length : Int)) (y_len rfl Tryz.runUnderlying42 rfl) rfl rfl (by decide) ?_
     refine RunZ.y (v := .pointer (some ⟨g1, 0, none⟩)) (y_fieldAddr rfl rfl Tryz.runUnderlying63 rfl Tryz.sizeOf3 (by decide) rfl) rfl rfl (by decide) ?_
     refine RunZ.y (v := .int .i64 u.kind) (y_loadB1 0 rfl Tryz.isAgg3 rfl rfl rfl) rfl rfl (by decide) ?_
     refine RunZ.call (en_func rfl Tryz.call144 rfl) (con_int (c_frame_room _ u.kind)) rfl rfl (by decide) ?_
     refine RunZ.y (v := .bool (decide ((u.load.length : Int) > (if u.kind = 6 then (79 : Int) else 64)))) (y_bin rfl rfl rfl bn_gtr) rfl rfl (by decide) ?_
     refine RunZ.nil ?_
     refine RunQ.next ?_
     refine RunC.cond rfl (fun hc7 => ?_) (fun hc7 => ?_)
     ·
      try simp only [z1, z2, z3, z4, z5, z6, z7, z8, z9, z10, z11, z12, z13, z14, z15, z16] at hc7
      refine RunC.sr ?_
      refine Run.as ?_
      refine Run.nx ?_
      refine RunC.ret ?_
      refine RunQ.pass (fun h => by cases h) ?_
      refine RunQ.pass (fun h => by cases h) ?_
      refine RunQ.inR ?_
      refine RunQ.pass (fun h => by cases h) ?_
      refine RunQ.weak Sub.refl (perm_nil _) ?_
      refine RunQ.fin1 (.inl rfl) Tryz.results113 (rv_tmp rfl) ?_
      exact ⟨rfl, _, rfl, (rd_eq (T := tInt) (x := 4) ⟨rfl, (by first | omega | (dsimp only; omega))⟩ (by unfold uCheck roomOf; (repeat' split) <;> first | rfl | omega))⟩
     ·
      try simp only [z1, z2, z3, z4, z5, z6, z7, z8, z9, z10, z11, z12, z13, z14, z15, z16] at hc7
      refine RunC.skip ?_
      refine RunQ.next ?_
      refine RunC.sr ?_
      refine Run.as ?_
      refine Run.nx ?_
      refine RunC.ret ?_
      refine RunQ.pass (fun h => by cases h) ?_
      refine RunQ.inR ?_
      refine RunQ.pass (fun h => by cases h) ?_
      refine RunQ.weak Sub.refl (perm_nil _) ?_
      refine RunQ.fin1 (.inl rfl) Tryz.results113 (rv_tmp rfl) ?_
      exact ⟨rfl, _, rfl, (rd_eq (T := tInt) (x := 0) ⟨rfl, (by first | omega | (dsimp only; omega))⟩ (by unfold uCheck roomOf; (repeat' split) <;> first | rfl | omega))⟩
    ·
     try simp only [z1, z2, z3, z4, z5, z6, z7, z8, z9, z10, z11, z12, z13, z14, z15, z16] at hc3
     refine RunC.skip ?_
     refine RunQ.next ?_
     refine RunC.seq ?_
     refine RunC.sr ?_
     refine Run.m (v := .bool (decide (u.kind = 4))) (y_bin rfl rfl rfl bn_eql) ?_
     refine Run.as ?_
     refine Run.nx ?_
     refine RunC.cond rfl (fun hc4 => ?_) (fun hc4 => ?_)
     ·
      try simp only [z1, z2, z3, z4, z5, z6, z7, z8, z9, z10, z11, z12, z13, z14, z15, z16] at hc4
      refine RunC.exit ?_
      refine RunQ.pass (fun h => by cases h) ?_
      refine RunQ.pass (fun h => by cases h) ?_
      refine RunQ.by_ rfl ?_
      refine RunQ.by_ rfl ?_
      refine RunQ.by_ rfl ?_
      refine RunQ.out ?_
      refine RunQ.inB ?_
      refine RunQ.inB ?_
      refine RunQ.next ?_
      refine RunC.seq ?_
      refine RunC.seq ?_
      refine RunC.seq ?_
      refine RunC.regionD (by kernel_rfl) (by kernel_rfl) ?_
      refine RunZ.y (v := .pointer (some ⟨g1, 3, none⟩)) (y_fieldAddr rfl rfl Tryz.runUnderlying63 rfl Tryz.sizeOf42 (by decide) rfl) rfl rfl (by decide) ?_
      refine RunZ.y (v := .slice Au_3 u.load.length cu_3) (y_loadB1 0 rfl Tryz.isAgg42 rfl rfl rfl) rfl rfl (by decide) ?_
      refine RunZ.y (v := .int .i64 (u.load.length : Int)) (y_len rfl Tryz.runUnderlying42 rfl) rfl rfl (by decide) ?_
      refine RunZ.y (v := .pointer (some ⟨g1, 0, none⟩)) (y_fieldAddr rfl rfl Tryz.runUnderlying63 rfl Tryz.sizeOf3 (by decide) rfl) rfl rfl (by decide) ?_
      refine RunZ.y (v := .int .i64 u.kind) (y_loadB1 0 rfl Tryz.isAgg3 rfl rfl rfl) rfl rfl (by decide) ?_
      refine RunZ.call (en_func rfl Tryz.call144 rfl) (con_int (c_frame_room _ u.kind)) rfl rfl (by decide) ?_
      refine RunZ.y (v := .bool (decide ((u.load.length : Int) > (if u.kind = 6 then (79 : Int) else 64)))) (y_bin rfl rfl rfl bn_gtr) rfl rfl (by decide) ?_
      refine RunZ.nil ?_
      refine RunQ.next ?_
      refine RunC.cond rfl (fun hc7 => ?_) (fun hc7 => ?_)
      ·
       try simp only [z1, z2, z3, z4, z5, z6, z7, z8, z9, z10, z11, z12, z13, z14, z15, z16] at hc7
       refine RunC.sr ?_
       refine Run.as ?_
       refine Run.nx ?_
       refine RunC.ret ?_
       refine RunQ.pass (fun h => by cases h) ?_
       refine RunQ.pass (fun h => by cases h) ?_
       refine RunQ.inR ?_
       refine RunQ.pass (fun h => by cases h) ?_
       refine RunQ.weak Sub.refl (perm_nil _) ?_
       refine RunQ.fin1 (.inl rfl) Tryz.results113 (rv_tmp rfl) ?_
       exact ⟨rfl, _, rfl, (rd_eq (T := tInt) (x := 4) ⟨rfl, (by first | omega | (dsimp only; omega))⟩ (by unfold uCheck roomOf; (repeat' split) <;> first | rfl | omega))⟩
      ·
       try simp only [z1, z2, z3, z4, z5, z6, z7, z8, z9, z10, z11, z12, z13, z14, z15, z16] at hc7
       refine RunC.skip ?_
       refine RunQ.next ?_
       refine RunC.sr ?_
       refine Run.as ?_
       refine Run.nx ?_
       refine RunC.ret ?_
       refine RunQ.pass (fun h => by cases h) ?_
       refine RunQ.inR ?_
       refine RunQ.pass (fun h => by cases h) ?_
       refine RunQ.weak Sub.refl (perm_nil _) ?_
       refine RunQ.fin1 (.inl rfl) Tryz.results113 (rv_tmp rfl) ?_
       exact ⟨rfl, _, rfl, (rd_eq (T := tInt) (x := 0) ⟨rfl, (by first | omega | (dsimp only; omega))⟩ (by unfold uCheck roomOf; (repeat' split) <;> first | rfl | omega))⟩
     ·
      try simp only [z1, z2, z3, z4, z5, z6, z7, z8, z9, z10, z11, z12, z13, z14, z15, z16] at hc4
      refine RunC.skip ?_
      refine RunQ.next ?_
      refine RunC.seq ?_
      refine RunC.sr ?_
      refine Run.m (v := .bool (decide (u.kind = 5))) (y_bin rfl rfl rfl bn_eql) ?_
      refine Run.as ?_
      refine Run.nx ?_
      refine RunC.cond rfl (fun hc5 => ?_) (fun hc5 => ?_)
      ·
       try simp only [z1, z2, z3, z4, z5, z6, z7, z8, z9, z10, z11, z12, z13, z14, z15, z16] at hc5
       refine RunC.exit ?_
       refine RunQ.pass (fun h => by cases h) ?_
       refine RunQ.pass (fun h => by cases h) ?_
       refine RunQ.by_ rfl ?_
       refine RunQ.by_ rfl ?_
       refine RunQ.by_ rfl ?_
       refine RunQ.by_ rfl ?_
       refine RunQ.out ?_
       refine RunQ.inB ?_
       refine RunQ.next ?_
       refine RunC.seq ?_
       refine RunC.seq ?_
       refine RunC.seq ?_
       refine RunC.regionD (by kernel_rfl) (by kernel_rfl) ?_
       refine RunZ.y (v := .pointer (some ⟨g1, 3, none⟩)) (y_fieldAddr rfl rfl Tryz.runUnderlying63 rfl Tryz.sizeOf42 (by decide) rfl) rfl rfl (by decide) ?_
       refine RunZ.y (v := .slice Au_3 u.load.length cu_3) (y_loadB1 0 rfl Tryz.isAgg42 rfl rfl rfl) rfl rfl (by decide) ?_
       refine RunZ.y (v := .int .i64 (u.load.length : Int)) (y_len rfl Tryz.runUnderlying42 rfl) rfl rfl (by decide) ?_
       refine RunZ.y (v := .pointer (some ⟨g1, 0, none⟩)) (y_fieldAddr rfl rfl Tryz.runUnderlying63 rfl Tryz.sizeOf3 (by decide) rfl) rfl rfl (by decide) ?_
       refine RunZ.y (v := .int .i64 u.kind) (y_loadB1 0 rfl Tryz.isAgg3 rfl rfl rfl) rfl rfl (by decide) ?_
       refine RunZ.call (en_func rfl Tryz.call144 rfl) (con_int (c_frame_room _ u.kind)) rfl rfl (by decide) ?_
       refine RunZ.y (v := .bool (decide ((u.load.length : Int) > (if u.kind = 6 then (79 : Int) else 64)))) (y_bin rfl rfl rfl bn_gtr) rfl rfl (by decide) ?_
       refine RunZ.nil ?_
       refine RunQ.next ?_
       refine RunC.cond rfl (fun hc7 => ?_) (fun hc7 => ?_)
       ·
        try simp only [z1, z2, z3, z4, z5, z6, z7, z8, z9, z10, z11, z12, z13, z14, z15, z16] at hc7
        refine RunC.sr ?_
        refine Run.as ?_
        refine Run.nx ?_
        refine RunC.ret ?_
        refine RunQ.pass (fun h => by cases h) ?_
        refine RunQ.pass (fun h => by cases h) ?_
        refine RunQ.inR ?_
        refine RunQ.pass (fun h => by cases h) ?_
        refine RunQ.weak Sub.refl (perm_nil _) ?_
        refine RunQ.fin1 (.inl rfl) Tryz.results113 (rv_tmp rfl) ?_
        exact ⟨rfl, _, rfl, (rd_eq (T := tInt) (x := 4) ⟨rfl, (by first | omega | (dsimp only; omega))⟩ (by unfold uCheck roomOf; (repeat' split) <;> first | rfl | omega))⟩
       ·
        try simp only [z1, z2, z3, z4, z5, z6, z7, z8, z9, z10, z11, z12, z13, z14, z15, z16] at hc7
        refine RunC.skip ?_
        refine RunQ.next ?_
        refine RunC.sr ?_
        refine Run.as ?_
        refine Run.nx ?_
        refine RunC.ret ?_
        refine RunQ.pass (fun h => by cases h) ?_
        refine RunQ.inR ?_
        refine RunQ.pass (fun h => by cases h) ?_
        refine RunQ.weak Sub.refl (perm_nil _) ?_
        refine RunQ.fin1 (.inl rfl) Tryz.results113 (rv_tmp rfl) ?_
        exact ⟨rfl, _, rfl, (rd_eq (T := tInt) (x := 0) ⟨rfl, (by first | omega | (dsimp only; omega))⟩ (by unfold uCheck roomOf; (repeat' split) <;> first | rfl | omega))⟩
      ·
       try simp only [z1, z2, z3, z4, z5, z6, z7, z8, z9, z10, z11, z12, z13, z14, z15, z16] at hc5
       refine RunC.skip ?_
       refine RunQ.next ?_
       refine RunC.sr ?_
       refine Run.m (v := .bool (decide (u.kind = 6))) (y_bin rfl rfl rfl bn_eql) ?_
       refine Run.as ?_
       refine Run.nx ?_
       refine RunC.cond rfl (fun hc6 => ?_) (fun hc6 => ?_)
       ·
        try simp only [z1, z2, z3, z4, z5, z6, z7, z8, z9, z10, z11, z12, z13, z14, z15, z16] at hc6
        refine RunC.exit ?_
        refine RunQ.pass (fun h => by cases h) ?_
        refine RunQ.by_ rfl ?_
        refine RunQ.by_ rfl ?_
        refine RunQ.by_ rfl ?_
        refine RunQ.by_ rfl ?_
        refine RunQ.by_ rfl ?_
        refine RunQ.out ?_
        refine RunQ.next ?_
        refine RunC.seq ?_
        refine RunC.seq ?_
        refine RunC.seq ?_
        refine RunC.regionD (by kernel_rfl) (by kernel_rfl) ?_
        refine RunZ.y (v := .pointer (some ⟨g1, 3, none⟩)) (y_fieldAddr rfl rfl Tryz.runUnderlying63 rfl Tryz.sizeOf42 (by decide) rfl) rfl rfl (by decide) ?_
        refine RunZ.y (v := .slice Au_3 u.load.length cu_3) (y_loadB1 0 rfl Tryz.isAgg42 rfl rfl rfl) rfl rfl (by decide) ?_
        refine RunZ.y (v := .int .i64 (u.load.length : Int)) (y_len rfl Tryz.runUnderlying42 rfl) rfl rfl (by decide) ?_
        refine RunZ.y (v := .pointer (some ⟨g1, 0, none⟩)) (y_fieldAddr rfl rfl Tryz.runUnderlying63 rfl Tryz.sizeOf3 (by decide) rfl) rfl rfl (by decide) ?_
        refine RunZ.y (v := .int .i64 u.kind) (y_loadB1 0 rfl Tryz.isAgg3 rfl rfl rfl) rfl rfl (by decide) ?_
        refine RunZ.call (en_func rfl Tryz.call144 rfl) (con_int (c_frame_room _ u.kind)) rfl rfl (by decide) ?_
        refine RunZ.y (v := .bool (decide ((u.load.length : Int) > (if u.kind = 6 then (79 : Int) else 64)))) (y_bin rfl rfl rfl bn_gtr) rfl rfl (by decide) ?_
        refine RunZ.nil ?_
        refine RunQ.next ?_
        refine RunC.cond rfl (fun hc7 => ?_) (fun hc7 => ?_)
        ·
         try simp only [z1, z2, z3, z4, z5, z6, z7, z8, z9, z10, z11, z12, z13, z14, z15, z16] at hc7
         refine RunC.sr ?_
         refine Run.as ?_
         refine Run.nx ?_
         refine RunC.ret ?_
         refine RunQ.pass (fun h => by cases h) ?_
         refine RunQ.pass (fun h => by cases h) ?_
         refine RunQ.inR ?_
         refine RunQ.pass (fun h => by cases h) ?_
         refine RunQ.weak Sub.refl (perm_nil _) ?_
         refine RunQ.fin1 (.inl rfl) Tryz.results113 (rv_tmp rfl) ?_
         exact ⟨rfl, _, rfl, (rd_eq (T := tInt) (x := 4) ⟨rfl, (by first | omega | (dsimp only; omega))⟩ (by unfold uCheck roomOf; (repeat' split) <;> first | rfl | omega))⟩
        ·
         try simp only [z1, z2, z3, z4, z5, z6, z7, z8, z9, z10, z11, z12, z13, z14, z15, z16] at hc7
         refine RunC.skip ?_
         refine RunQ.next ?_
         refine RunC.sr ?_
         refine Run.as ?_
         refine Run.nx ?_
         refine RunC.ret ?_
         refine RunQ.pass (fun h => by cases h) ?_
         refine RunQ.inR ?_
         refine RunQ.pass (fun h => by cases h) ?_
         refine RunQ.weak Sub.refl (perm_nil _) ?_
         refine RunQ.fin1 (.inl rfl) Tryz.results113 (rv_tmp rfl) ?_
         exact ⟨rfl, _, rfl, (rd_eq (T := tInt) (x := 0) ⟨rfl, (by first | omega | (dsimp only; omega))⟩ (by unfold uCheck roomOf; (repeat' split) <;> first | rfl | omega))⟩
       ·
        try simp only [z1, z2, z3, z4, z5, z6, z7, z8, z9, z10, z11, z12, z13, z14, z15, z16] at hc6
        refine RunC.skip ?_
        refine RunQ.next ?_
        refine RunC.exit ?_
        refine RunQ.by_ rfl ?_
        refine RunQ.by_ rfl ?_
        refine RunQ.by_ rfl ?_
        refine RunQ.by_ rfl ?_
        refine RunQ.by_ rfl ?_
        refine RunQ.by_ rfl ?_
        refine RunQ.pass (fun h => by cases h) ?_
        refine RunQ.out ?_
        refine RunQ.next ?_
        refine RunC.sr ?_
        refine Run.as ?_
        refine Run.nx ?_
        refine RunC.ret ?_
        refine RunQ.weak Sub.refl (perm_nil _) ?_
        refine RunQ.fin1 (.inl rfl) Tryz.results113 (rv_tmp rfl) ?_
        exact ⟨rfl, _, rfl, (rd_eq (T := tInt) (x := 1) ⟨rfl, (by first | omega | (dsimp only; omega))⟩ (by unfold uCheck roomOf; (repeat' split) <;> first | rfl | omega))⟩
end Go.Proofs.YtmelbclhkkbmiaaGreat.K
