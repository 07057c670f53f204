/- Contracts of functions of the program, each proved by a walk through its operations, for all memory and all arguments that the theorem names. Printed by a program of mine. -/
import Derived.Test.YtmelbclhkkbmiaaGreatF8
import Derived.Test.YtmelbclhkkbmiaaGreatK15
import Derived.Test.YtmelbclhkkbmiaaGreatSp7
set_option linter.unusedVariables false
set_option linter.unusedSimpArgs false
set_option maxRecDepth 100000
namespace Go.Proofs.YtmelbclhkkbmiaaGreat.K
open Go Go.RowKit

theorem c_cartridgeref1_Mul (I : Imm) (a : UInt8) (b : UInt8) : Con Tryz.prog 116 [.int .u8 (a.toNat : Int), .int .u8 (b.toNat : Int)].toArray I [] (Ret1 (tU8.o) (rmul a b)) := by
 refine Con.enter (n := 43) (L := [(0, .int .u8 (a.toNat : Int)), (1, .int .u8 (b.toNat : Int))]) Tryz.func116 rfl rfl (Nat.le_of_ble_eq_true rfl) rfl (fun E => ?_)
 refine RunC.sr ?_
 refine Run.as ?_
 refine Run.nx ?_
 refine RunC.sr ?_
 refine Run.as ?_
 refine Run.nx ?_
 refine RunC.seq ?_
 refine RunC.sr ?_
 refine Run.as ?_
 refine Run.nx ?_
 refine RunC.block ?_
 obtain ⟨Inv0, hInv0⟩ : ∃ Inv : Nat → Act → World → Prop, ∀ mm aa ww, Inv mm aa ww ↔ (∃ (k : Nat) (x1 : Nat), (k ≤ 8) ∧ (x1 = rmA a b k) ∧ (x1 < 32768) ∧ (mm = (8 - k)) ∧ Frm aa 43 [(0, .int .u8 (a.toNat : Int)), (1, .int .u8 (b.toNat : Int)), (4, .int .u8 ((0 : UInt8).toNat : Int)), (6, .int .i64 (k : Int)), (5, .int .i64 (x1 : Int))] ∧ S E ww I []) := ⟨_, fun _ _ _ => Iff.rfl⟩
 refine RunC.loopX Inv0 (fun aa ww hF hS => ⟨_, (hInv0 _ _ _).2 ⟨0, 0, (by omega), rfl, (by omega), rfl, hF.sub (Sub.of rfl), hS.sub (perm_self _)⟩⟩) ?_
 intro mm0 aa ww hv
 obtain ⟨k, x1, hk, hg, hx1, hmm_, hF, hS⟩ := (hInv0 _ _ _).1 hv
 clear hv
 refine RunC.go ?_ hF hS
 clear hF hS aa ww
 refine RunC.seq ?_
 refine RunC.sr ?_
 refine Run.mv ?_
 refine Run.m (v := .bool (decide ((k : Int) < 8))) (y_bin rfl rfl rfl bn_lss) ?_
 refine Run.nx ?_
 refine RunC.cond rfl (fun hc0 => ?_) (fun hc0 => ?_)
 ·
  try simp only [z1, z2, z3, z4, z5, z6, z7, z8, z9, z10, z11, z12, z13, z14, z15, z16] at hc0
  refine RunC.skip ?_
  refine RunQ.next ?_
  refine RunC.seq ?_
  refine RunC.block ?_
  refine RunC.sr ?_
  refine Run.mv ?_
  refine Run.mv ?_
  refine Run.m (v := .int .u64 (IntKind.u64.wrap (k : Int))) (y_conv rfl rfl (cv_int Tryz.underlying3 Tryz.underlying131 rfl)) ?_
  refine Run.cast (s := 14) (v' := .int .u64 (k : Int)) rfl (by exact congrArg _ (wrap_u64 rfl (by omega))) ?_
  refine Run.m (v := .int .u8 ((b >>> UInt8.ofNat k).toNat : Int)) (y_bin rfl rfl rfl (bn_shr8N (a := b) (c := k) (by omega))) ?_
  refine Run.m (v := .int .u8 (((b >>> UInt8.ofNat k) &&& (1 : UInt8)).toNat : Int)) (y_bin rfl rfl rfl (bn_and8 (a := b >>> UInt8.ofNat k) (b := (1 : UInt8)))) ?_
  refine Run.m (v := .bool (decide ((b >>> UInt8.ofNat k) &&& (1 : UInt8) = (1 : UInt8)))) (y_bin rfl rfl rfl (bn_eql8 (a := (b >>> UInt8.ofNat k) &&& (1 : UInt8)) (b := (1 : UInt8)))) ?_
  refine Run.nx ?_
  refine RunC.cond rfl (fun hc1 => ?_) (fun hc1 => ?_)
  ·
   try simp only [z1, z2, z3, z4, z5, z6, z7, z8, z9, z10, z11, z12, z13, z14, z15, z16] at hc1
   refine RunC.region ?_
   refine Run.mv ?_
   refine Run.mv ?_
   refine Run.m (v := .int .i64 (a.toNat : Int)) (y_conv rfl rfl (cv_int Tryz.underlying5 Tryz.underlying3 (wrap64_u8 _))) ?_
   refine Run.mv ?_
   refine Run.m (v := .int .u64 (IntKind.u64.wrap (k : Int))) (y_conv rfl rfl (cv_int Tryz.underlying3 Tryz.underlying131 rfl)) ?_
   refine Run.cast (s := 22) (v' := .int .u64 (k : Int)) rfl (by exact congrArg _ (wrap_u64 rfl (by omega))) ?_
   refine Run.m (v := .int .i64 ((a.toNat * 2 ^ k : Nat) : Int)) (y_bin rfl rfl rfl (bn_shlV (a := a.toNat) (c := k) (by omega) (by have := shl_lt15 (a := a) (k := k) (by omega); omega))) ?_
   refine Run.m (v := .int .i64 ((x1 ^^^ a.toNat * 2 ^ k : Nat) : Int)) (y_bin rfl rfl rfl (bn_xorN (a := x1) (b := a.toNat * 2 ^ k) hx1 (shl_lt15 (by omega)))) ?_
   refine Run.as ?_
   refine Run.nil ?_
   refine RunQ.inB ?_
   refine RunQ.next ?_
   refine RunC.region ?_
   refine Run.mv ?_
   refine Run.m (v := .int .i64 ((k : Int) + 1)) (y_bin rfl rfl rfl (bn_add (by omega) (by omega))) ?_
   refine Run.as ?_
   refine Run.nil ?_
   exact RunQ.thenI (fun aa ww hF hS => ⟨_, (by omega), (hInv0 _ _ _).2 ⟨(k + 1), (x1 ^^^ a.toNat * 2 ^ k : Nat), (by omega), (by rw [rmA]; first | (rw [if_pos hc1, ← hg]; done) | (rw [if_neg hc1, ← hg]; done)), (by first | exact hx1 | exact Nat.xor_lt_two_pow (n := 15) hx1 (shl_lt15 (by omega))), rfl, hF.sub (Sub.of rfl), hS.sub (perm_self _)⟩⟩)
  ·
   try simp only [z1, z2, z3, z4, z5, z6, z7, z8, z9, z10, z11, z12, z13, z14, z15, z16] at hc1
   refine RunC.skip ?_
   refine RunQ.inB ?_
   refine RunQ.next ?_
   refine RunC.region ?_
   refine Run.mv ?_
   refine Run.m (v := .int .i64 ((k : Int) + 1)) (y_bin rfl rfl rfl (bn_add (by omega) (by omega))) ?_
   refine Run.as ?_
   refine Run.nil ?_
   exact RunQ.thenI (fun aa ww hF hS => ⟨_, (by omega), (hInv0 _ _ _).2 ⟨(k + 1), x1, (by omega), (by rw [rmA]; first | (rw [if_pos hc1, ← hg]; done) | (rw [if_neg hc1, ← hg]; done)), (by first | exact hx1 | exact Nat.xor_lt_two_pow (n := 15) hx1 (shl_lt15 (by omega))), rfl, hF.sub (Sub.of rfl), hS.sub (perm_self _)⟩⟩)
 ·
  try simp only [z1, z2, z3, z4, z5, z6, z7, z8, z9, z10, z11, z12, z13, z14, z15, z16] at hc0
  refine RunC.exit ?_
  refine RunQ.pass (fun h => by cases h) ?_
  refine RunQ.pass (fun h => by cases h) ?_
  refine RunQ.out ?_
  refine RunQ.next ?_
  refine RunC.seq ?_
  refine RunC.sr ?_
  refine Run.as ?_
  refine Run.nx ?_
  refine RunC.block ?_
  obtain ⟨Inv1, hInv1⟩ : ∃ Inv : Nat → Act → World → Prop, ∀ mm aa ww, Inv mm aa ww ↔ (∃ (j : Nat) (iv : Int) (y1 : Nat), (j ≤ 7) ∧ (iv = 14 - (j : Int)) ∧ (y1 = rmB (rmA a b 8) j) ∧ (y1 < 32768) ∧ (mm = (7 - j)) ∧ Frm aa 43 [(4, .int .u8 ((0 : UInt8).toNat : Int)), (7, .int .i64 iv), (5, .int .i64 (y1 : Int))] ∧ S E ww I []) := ⟨_, fun _ _ _ => Iff.rfl⟩
  refine RunC.loopX Inv1 (fun aa ww hF hS => ⟨_, (hInv1 _ _ _).2 ⟨0, 14, x1, (by omega), rfl, (by rw [hg, show k = 8 from by omega]; rfl), hx1, rfl, hF.sub (Sub.of rfl), hS.sub (perm_self _)⟩⟩) ?_
  intro mm1 aa ww hv
  obtain ⟨j, iv, y1, hj, hiv, hgb, hy1, hmm_, hF, hS⟩ := (hInv1 _ _ _).1 hv
  clear hv
  refine RunC.go ?_ hF hS
  clear hF hS aa ww
  refine RunC.seq ?_
  refine RunC.sr ?_
  refine Run.mv ?_
  refine Run.m (v := .bool (decide (iv ≥ 8))) (y_bin rfl rfl rfl bn_geq) ?_
  refine Run.nx ?_
  refine RunC.cond rfl (fun hc2 => ?_) (fun hc2 => ?_)
  ·
   try simp only [z1, z2, z3, z4, z5, z6, z7, z8, z9, z10, z11, z12, z13, z14, z15, z16] at hc2
   refine RunC.skip ?_
   refine RunQ.next ?_
   refine RunC.seq ?_
   refine RunC.block ?_
   refine RunC.sr ?_
   refine Run.mv ?_
   refine Run.mv ?_
   refine Run.m (v := .int .u64 (IntKind.u64.wrap iv)) (y_conv rfl rfl (cv_int Tryz.underlying3 Tryz.underlying131 rfl)) ?_
   refine Run.cast (s := 31) (v' := .int .u64 ((14 - j : Nat) : Int)) rfl (by exact congrArg _ (wrap_u64 (by omega) (by omega))) ?_
   refine Run.m (v := .int .i64 ((y1 / 2 ^ (14 - j) : Nat) : Int)) (y_bin rfl rfl rfl (bn_shrN (a := y1) (c := 14 - j) (by omega))) ?_
   refine Run.m (v := .int .i64 (((y1 / 2 ^ (14 - j) : Nat) : Int) % 2 ^ 1)) (y_bin rfl rfl rfl (bn_mask 1 (by decide) rfl)) ?_
   refine Run.m (v := .bool (decide (((y1 / 2 ^ (14 - j) : Nat) : Int) % 2 ^ 1 = 1))) (y_bin rfl rfl rfl bn_eql) ?_
   refine Run.nx ?_
   refine RunC.cond rfl (fun hc3 => ?_) (fun hc3 => ?_)
   ·
    try simp only [z1, z2, z3, z4, z5, z6, z7, z8, z9, z10, z11, z12, z13, z14, z15, z16] at hc3
    refine RunC.region ?_
    refine Run.mv ?_
    refine Run.mv ?_
    refine Run.m (v := .int .i64 (iv - 8)) (y_bin rfl rfl rfl (bn_sub (by omega) (by omega))) ?_
    refine Run.m (v := .int .u64 (IntKind.u64.wrap (iv - 8))) (y_conv rfl rfl (cv_int Tryz.underlying3 Tryz.underlying131 rfl)) ?_
    refine Run.cast (s := 38) (v' := .int .u64 ((6 - j : Nat) : Int)) rfl (by exact congrArg _ (wrap_u64 (by omega) (by omega))) ?_
    refine Run.m (v := .int .i64 ((285 * 2 ^ (6 - j) : Nat) : Int)) (y_bin rfl rfl rfl (bn_shlV (a := 285) (c := 6 - j) (by omega) (by have := poly_lt15 (j := j); omega))) ?_
    refine Run.m (v := .int .i64 ((y1 ^^^ 285 * 2 ^ (6 - j) : Nat) : Int)) (y_bin rfl rfl rfl (bn_xorN (a := y1) (b := 285 * 2 ^ (6 - j)) hy1 poly_lt15)) ?_
    refine Run.as ?_
    refine Run.nil ?_
    refine RunQ.inB ?_
    refine RunQ.next ?_
    refine RunC.region ?_
    refine Run.mv ?_
    refine Run.m (v := .int .i64 (iv - 1)) (y_bin rfl rfl rfl (bn_sub (by omega) (by omega))) ?_
    refine Run.as ?_
    refine Run.nil ?_
    exact RunQ.thenI (fun aa ww hF hS => ⟨_, (by omega), (hInv1 _ _ _).2 ⟨(j + 1), (iv - 1), (y1 ^^^ 285 * 2 ^ (6 - j) : Nat), (by omega), (by omega), (by rw [rmB, ← hgb]; first | (rw [if_pos (by omega)]; done) | (rw [if_neg (by omega)]; done)), (by first | exact hy1 | exact Nat.xor_lt_two_pow (n := 15) hy1 poly_lt15), rfl, hF.sub (Sub.of rfl), hS.sub (perm_self _)⟩⟩)
   ·
    try simp only [z1, z2, z3, z4, z5, z6, z7, z8, z9, z10, z11, z12, z13, z14, z15, z16] at hc3
    refine RunC.skip ?_
    refine RunQ.inB ?_
    refine RunQ.next ?_
    refine RunC.region ?_
    refine Run.mv ?_
    refine Run.m (v := .int .i64 (iv - 1)) (y_bin rfl rfl rfl (bn_sub (by omega) (by omega))) ?_
    refine Run.as ?_
    refine Run.nil ?_
    exact RunQ.thenI (fun aa ww hF hS => ⟨_, (by omega), (hInv1 _ _ _).2 ⟨(j + 1), (iv - 1), y1, (by omega), (by omega), (by rw [rmB, ← hgb]; first | (rw [if_pos (by omega)]; done) | (rw [if_neg (by omega)]; done)), (by first | exact hy1 | exact Nat.xor_lt_two_pow (n := 15) hy1 poly_lt15), rfl, hF.sub (Sub.of rfl), hS.sub (perm_self _)⟩⟩)
  ·
   try simp only [z1, z2, z3, z4, z5, z6, z7, z8, z9, z10, z11, z12, z13, z14, z15, z16] at hc2
   refine RunC.exit ?_
   refine RunQ.pass (fun h => by cases h) ?_
   refine RunQ.pass (fun h => by cases h) ?_
   refine RunQ.out ?_
   refine RunQ.next ?_
   refine RunC.sr ?_
   refine Run.mv ?_
   refine Run.m (v := .int .u8 ((b8 (y1 : Int)).toNat : Int)) (y_conv rfl rfl (cv_int Tryz.underlying3 Tryz.underlying5 (wrapu8 _))) ?_
   refine Run.as ?_
   refine Run.nx ?_
   refine RunC.ret ?_
   refine RunQ.weak Sub.refl (perm_nil _) ?_
   refine RunQ.fin1 (.inl rfl) Tryz.results116 (rv_tmp rfl) ?_
   exact ⟨rfl, _, rfl, (rd_eq (T := tU8) (x := b8 (y1 : Int)) rfl (by rw [hgb, show j = 7 from by omega]; rfl))⟩

theorem c_cartridgeref1_Inv (I : Imm) (a : UInt8) : Con Tryz.prog 145 [.int .u8 (a.toNat : Int)].toArray I [] (Ret1 (tU8.o) (rinv a)) := by
 refine Con.enter (n := 13) (L := [(0, .int .u8 (a.toNat : Int))]) Tryz.func145 rfl rfl (Nat.le_of_ble_eq_true rfl) rfl (fun E => ?_)
 refine RunC.sr ?_
 refine Run.as ?_
 refine Run.nx ?_
 refine RunC.sr ?_
 refine Run.as ?_
 refine Run.nx ?_
 refine RunC.seq ?_
 refine RunC.sr ?_
 refine Run.as ?_
 refine Run.nx ?_
 refine RunC.block ?_
 obtain ⟨Inv0, hInv0⟩ : ∃ Inv : Nat → Act → World → Prop, ∀ mm aa ww, Inv mm aa ww ↔ (∃ (k : Nat) (o1 : UInt8), (k ≤ 254) ∧ (o1 = rpow a k) ∧ (mm = (254 - k)) ∧ Frm aa 13 [(0, .int .u8 (a.toNat : Int)), (2, .int .u8 ((0 : UInt8).toNat : Int)), (4, .int .i64 (k : Int)), (3, .int .u8 (o1.toNat : Int))] ∧ S E ww I []) := ⟨_, fun _ _ _ => Iff.rfl⟩
 refine RunC.loopX Inv0 (fun aa ww hF hS => ⟨_, (hInv0 _ _ _).2 ⟨0, (1 : UInt8), (by omega), rfl, rfl, hF.sub (Sub.of rfl), hS.sub (perm_self _)⟩⟩) ?_
 intro mm0 aa ww hv
 obtain ⟨k, o1, hk, hg, hmm_, hF, hS⟩ := (hInv0 _ _ _).1 hv
 clear hv
 refine RunC.go ?_ hF hS
 clear hF hS aa ww
 refine RunC.seq ?_
 refine RunC.sr ?_
 refine Run.mv ?_
 refine Run.m (v := .bool (decide ((k : Int) < 254))) (y_bin rfl rfl rfl bn_lss) ?_
 refine Run.nx ?_
 refine RunC.cond rfl (fun hc0 => ?_) (fun hc0 => ?_)
 ·
  try simp only [z1, z2, z3, z4, z5, z6, z7, z8, z9, z10, z11, z12, z13, z14, z15, z16] at hc0
  refine RunC.skip ?_
  refine RunQ.next ?_
  refine RunC.seq ?_
  refine RunC.block ?_
  refine RunC.region ?_
  refine Run.mv ?_
  refine Run.mv ?_
  refine Run.callV (en_func rfl Tryz.call116 rfl) (conv_u8 (c_cartridgeref1_Mul _ o1 a)) rfl rfl (by decide) (fun hI1 => ?_)
  refine Run.as ?_
  refine Run.nil ?_
  refine RunQ.inB ?_
  refine RunQ.next ?_
  refine RunC.region ?_
  refine Run.mv ?_
  refine Run.m (v := .int .i64 ((k : Int) + 1)) (y_bin rfl rfl rfl (bn_add (by omega) (by omega))) ?_
  refine Run.as ?_
  refine Run.nil ?_
  exact RunQ.thenI (fun aa ww hF hS => ⟨_, (by omega), (hInv0 _ _ _).2 ⟨(k + 1), (rmul o1 a), (by omega), (by rw [hg]; rfl), rfl, hF.sub (Sub.of rfl), hS.sub (perm_self _)⟩⟩)
 ·
  try simp only [z1, z2, z3, z4, z5, z6, z7, z8, z9, z10, z11, z12, z13, z14, z15, z16] at hc0
  refine RunC.exit ?_
  refine RunQ.pass (fun h => by cases h) ?_
  refine RunQ.pass (fun h => by cases h) ?_
  refine RunQ.out ?_
  refine RunQ.next ?_
  refine RunC.sr ?_
  refine Run.mv ?_
  refine Run.as ?_
  refine Run.nx ?_
  refine RunC.ret ?_
  refine RunQ.weak Sub.refl (perm_nil _) ?_
  refine RunQ.fin1 (.inl rfl) Tryz.results145 (rv_tmp rfl) ?_
  exact ⟨rfl, _, rfl, (rd_eq (T := tU8) (x := o1) rfl (by rw [hg, show k = 254 from by omega]; rfl))⟩
end Go.Proofs.YtmelbclhkkbmiaaGreat.K
