/- Rules for operations that yield a value: operators, conversions. No condition beyond those that each theorem names. -/
import Derived.Test.YtmelbclhkkbmiaaGreatK0
set_option linter.unusedVariables false
set_option linter.unusedSimpArgs false
namespace Go.Proofs.YtmelbclhkkbmiaaGreat.K
open Go Go.RowKit

section
variable {P : Program} {ops : Array Oper} {Q : Exit → Act → World → Prop} {e : Ent} {n : Nat} {L : List (Nat × Value)} {I : Imm} {own : List Res}

/-! Values moved. -/
theorem y_move {o : Oper} {x : Operand} {v : Value} (ho : o.op = .move x) (hx : evO L x = some v) : Yld P o n L I own v := fun a w hF hS => by
  simp only [execOp, ho, hF.ev hx]; rfl
theorem y_assign {o : Oper} {x : Operand} {v : Value} (ho : o.op = .assign x) (hx : evO L x = some v) : Yld P o n L I own v := fun a w hF hS => by
  simp only [execOp, ho, hF.ev hx]; rfl
theorem y_pick {o : Oper} {c x y : Operand} {b : Bool} {v : Value} (ho : o.op = .pick c x y) (hc : evO L c = some (.bool b)) (hv : evO L (if b then x else y) = some v) : Yld P o n L I own v := fun a w hF hS => by
  have hv' := hF.ev hv
  simp only [execOp, ho, hF.ev hc, asBool]
  cases b
  · simp only [Bool.false_eq_true, if_false] at hv'; simp [hv']
  · simp only [if_true] at hv'; simp [hv']
theorem y_not {o : Oper} {t : TypeId} {x : Operand} {b : Bool} (ho : o.op = .unOp .not t x) (hx : evO L x = some (.bool b)) : Yld P o n L I own (.bool (!b)) := fun a w hF hS => by
  simp only [execOp, ho, hF.ev hx, Op.unary]; rfl
theorem y_nilCheck {o : Oper} {x : Operand} {a : Addr} (ho : o.op = .nilCheck x) (hx : evO L x = some (.pointer (some a))) : Yld P o n L I own (.pointer (some a)) := fun b w hF hS => by
  simp only [execOp, ho, hF.ev hx]; rfl
theorem y_nilCheckF {o : Oper} {x : Operand} {f : FuncId} {p q : Array Value} (ho : o.op = .nilCheck x) (hx : evO L x = some (.func (.func f) p q)) : Yld P o n L I own (.func (.func f) p q) := fun b w hF hS => by
  simp only [execOp, ho, hF.ev hx]; rfl
def evs (L : List (Nat × Value)) : List Operand → Option (List Value)
  | [] => some []
  | x :: l => match evO L x, evs L l with
    | some v, some vs => some (v :: vs)
    | _, _ => none
theorem evs_ok {a : Act} (hF : Frm a n L) : ∀ {xs : List Operand} {vs : List Value}, evs L xs = some vs → xs.map a.eval = vs
  | [], vs, h => by simp [evs] at h; simp [h]
  | x :: l, vs, h => by
    simp only [evs] at h
    cases hx : evO L x with
    | none => simp [hx] at h
    | some v =>
      cases hl : evs L l with
      | none => simp [hx, hl] at h
      | some us =>
        simp [hx, hl] at h
        subst h
        simp [hF.ev hx, evs_ok hF hl]
theorem evs_arr {a : Act} (hF : Frm a n L) {xs : Array Operand} {vs : List Value} (h : evs L xs.toList = some vs) : xs.map a.eval = vs.toArray := by
  apply Array.ext'
  simp [evs_ok hF h]
theorem y_makeFunc {o : Oper} {f : Fn} {p q : Array Operand} {vp vq : List Value} (ho : o.op = .makeFunc f p q) (hp : evs L p.toList = some vp) (hq : evs L q.toList = some vq) :
    Yld P o n L I own (.func f vp.toArray vq.toArray) := fun a w hF hS => by
  simp only [execOp, ho, evs_arr hF hp, evs_arr hF hq, Instr.makeFunc]; rfl

/-! Operators. -/
def BR (P : Program) (op : BinOp) (t : TypeId) (x y : Operand) (a b v : Value) : Prop := ∀ w, (do eqGuard op t x y a b; binOp op t a b : Sem Value).run P w = .ok v w
theorem y_bin {o : Oper} {op : BinOp} {t ty : TypeId} {x y : Operand} {a b v : Value} (ho : o.op = .binOp op t x y ty) (hx : evO L x = some a) (hy : evO L y = some b) (hr : BR P op t x y a b v) :
    Yld P o n L I own v := fun c w hF hS => by
  have := hr w
  simp only [execOp, ho, hF.ev hx, hF.ev hy, Sem.run_bind] at *
  rw [this]; rfl
section
variable {t : TypeId} {x y : Operand} {k : IntKind} {a b : Int}
theorem bn_arith {op : BinOp} {r : Int} (hop : Op.intArith op k a b = pure (.int k r)) (h3 : binOp op t (.int k a) (.int k b) = Op.intArith op k a b) : BR P op t x y (.int k a) (.int k b) (.int k r) := fun w => by
  simp only [eqGuard_at_int, h3, hop]; rfl
theorem bn_add (h1 : -9223372036854775808 ≤ a + b) (h2 : a + b ≤ 9223372036854775807) : BR P .add t x y (.int .i64 a) (.int .i64 b) (.int .i64 (a + b)) :=
  bn_arith (by simp only [Op.intArith, IntWalk.i64_in _ ⟨h1, h2⟩]) (binOp_add ..)
theorem bn_sub (h1 : -9223372036854775808 ≤ a - b) (h2 : a - b ≤ 9223372036854775807) : BR P .sub t x y (.int .i64 a) (.int .i64 b) (.int .i64 (a - b)) :=
  bn_arith (by simp only [Op.intArith, IntWalk.i64_in _ ⟨h1, h2⟩]) (binOp_sub ..)
theorem bn_mul (h1 : -9223372036854775808 ≤ a * b) (h2 : a * b ≤ 9223372036854775807) : BR P .mul t x y (.int .i64 a) (.int .i64 b) (.int .i64 (a * b)) :=
  bn_arith (by simp only [Op.intArith, IntWalk.i64_in _ ⟨h1, h2⟩]) (binOp_mul ..)
theorem bn_addW : BR P .add t x y (.int k a) (.int k b) (.int k (k.wrap (a + b))) := bn_arith rfl (binOp_add ..)
theorem bn_subW : BR P .sub t x y (.int k a) (.int k b) (.int k (k.wrap (a - b))) := bn_arith rfl (binOp_sub ..)
theorem bn_lss : BR P .lss t x y (.int k a) (.int k b) (.bool (decide (a < b))) := fun w => by simp only [eqGuard_at_int, binOp_lss]; rfl
theorem bn_leq : BR P .leq t x y (.int k a) (.int k b) (.bool (decide (a ≤ b))) := fun w => by simp only [eqGuard_at_int, binOp_leq]; rfl
theorem bn_gtr : BR P .gtr t x y (.int k a) (.int k b) (.bool (decide (a > b))) := fun w => by simp only [eqGuard_at_int, binOp_gtr]; rfl
theorem bn_geq : BR P .geq t x y (.int k a) (.int k b) (.bool (decide (a ≥ b))) := fun w => by simp only [eqGuard_at_int, binOp_geq]; rfl
theorem bn_eql : BR P .eql t x y (.int k a) (.int k b) (.bool (decide (a = b))) := fun w => by
  simp only [eqGuard_at_int, binOp_eql]
  have : (a == b) = decide (a = b) := by by_cases h : a = b <;> simp [h]
  rw [this]; rfl
theorem bn_neq : BR P .neq t x y (.int k a) (.int k b) (.bool (decide (a ≠ b))) := fun w => by
  simp only [eqGuard_at_int, binOp_neq]
  have : (a != b) = decide (a ≠ b) := by by_cases h : a = b <;> simp [h]
  rw [this]; rfl
theorem bn_quo (h0 : 0 ≤ a) (h2 : a ≤ 9223372036854775807) (hb : 1 ≤ b) : BR P .quo t x y (.int .i64 a) (.int .i64 b) (.int .i64 (a / b)) := fun w => by
  simp only [eqGuard_at_int, binOp_quo, Op.intDiv, show b ≠ 0 from by omega, if_false]
  rw [Int.tdiv_eq_ediv_of_nonneg h0]
  have h3 : 0 ≤ a / b := Int.ediv_nonneg h0 (by omega)
  have h4 : a / b ≤ a := Int.ediv_le_self _ h0
  rw [IntWalk.i64_in _ (by omega)]; rfl
theorem bn_rem (h0 : 0 ≤ a) (hb : 1 ≤ b) : BR P .rem t x y (.int .i64 a) (.int .i64 b) (.int .i64 (a % b)) := fun w => by
  simp only [eqGuard_at_int, binOp_rem, Op.intDiv, show b ≠ 0 from by omega, if_false]
  rw [Int.tmod_eq_emod_of_nonneg h0]; rfl
end
/-! Bytes. -/
theorem u8_range (a : UInt8) : (a.toNat : Int) < 256 := by have := a.toNat_lt; omega
theorem bits_run {op : BinOp} {k : IntKind} {a b r : Int} (w : World) (h : bits op k a b = r) (hop : op = .and ∨ op = .or ∨ op = .xor) : (Op.intBits op k a b).run P w = .ok (.int k r) w := by
  subst h
  rcases hop with rfl | rfl | rfl <;> rfl
section
variable {t : TypeId} {x y : Operand}
theorem bn_bits {op : BinOp} {k : IntKind} {a b r : Int} (h : bits op k a b = r) (hop : op = .and ∨ op = .or ∨ op = .xor) : BR P op t x y (.int k a) (.int k b) (.int k r) := fun w => by
  have := bits_run (P := P) w h hop
  simp only [eqGuard_at_int, Sem.run_bind, Sem.run_pure, Result.andThen_ok]
  rcases hop with rfl | rfl | rfl
  · rw [binOp_and]; exact this
  · rw [binOp_or]; exact this
  · rw [binOp_xor]; exact this
theorem bn_xor8 {a b : UInt8} : BR P .xor t x y (.int .u8 a.toNat) (.int .u8 b.toNat) (.int .u8 (a ^^^ b).toNat) :=
  bn_bits (by rw [u8_xor_nat _ _ a.toNat_lt b.toNat_lt]; simp) (.inr (.inr rfl))
theorem bn_and8 {a b : UInt8} : BR P .and t x y (.int .u8 a.toNat) (.int .u8 b.toNat) (.int .u8 (a &&& b).toNat) :=
  bn_bits (by rw [u8_and_nat _ _ a.toNat_lt b.toNat_lt]; simp) (.inl rfl)
theorem bn_or8 {a b : UInt8} : BR P .or t x y (.int .u8 a.toNat) (.int .u8 b.toNat) (.int .u8 (a ||| b).toNat) :=
  bn_bits (by rw [u8_or_nat _ _ a.toNat_lt b.toNat_lt]; simp) (.inr (.inl rfl))
theorem bn_xor32 {a b : UInt32} : BR P .xor t x y (.int .u32 a.toNat) (.int .u32 b.toNat) (.int .u32 (a ^^^ b).toNat) :=
  bn_bits (by rw [u32_xor_nat _ _ a.toNat_lt b.toNat_lt]; simp) (.inr (.inr rfl))
theorem bn_and32 {a b : UInt32} : BR P .and t x y (.int .u32 a.toNat) (.int .u32 b.toNat) (.int .u32 (a &&& b).toNat) :=
  bn_bits (by rw [u32_and_nat _ _ a.toNat_lt b.toNat_lt]; simp) (.inl rfl)
theorem bn_or32 {a b : UInt32} : BR P .or t x y (.int .u32 a.toNat) (.int .u32 b.toNat) (.int .u32 (a ||| b).toNat) :=
  bn_bits (by rw [u32_or_nat _ _ a.toNat_lt b.toNat_lt]; simp) (.inr (.inl rfl))
theorem bn_sh {op : BinOp} {k yk : IntKind} {a b r : Int} (hb : 0 ≤ b) (hop : op = .shl ∧ k.wrap (a * 2 ^ (min b.toNat k.bits)) = r ∨ op = .shr ∧ a.fdiv (2 ^ (min b.toNat k.bits)) = r) : BR P op t x y (.int k a) (.int yk b) (.int k r) := fun w => by
  simp only [eqGuard_at_int, Sem.run_bind, Sem.run_pure, Result.andThen_ok]
  rcases hop with ⟨rfl, h⟩ | ⟨rfl, h⟩
  · rw [binOp_shl]; simp only [Op.shift, show ¬ b < 0 from by omega, if_false, h]; rfl
  · rw [binOp_shr]; simp only [Op.shift, show ¬ b < 0 from by omega, if_false, h]; rfl
/-- '>>' of a number by a constant count. -/
theorem bn_shr {k yk : IntKind} {a : Int} {c : Nat} (hc : c ≤ k.bits) : BR P .shr t x y (.int k a) (.int yk (c : Int)) (.int k (a / 2 ^ c)) :=
  bn_sh (by omega) (.inr ⟨rfl, by
    simp only [Int.toNat_natCast, Nat.min_eq_left hc]
    exact Int.fdiv_eq_ediv_of_nonneg _ (Int.pow_nonneg (by decide))⟩)
theorem bn_shl {k yk : IntKind} {a : Int} {c : Nat} (hc : c ≤ k.bits) : BR P .shl t x y (.int k a) (.int yk (c : Int)) (.int k (k.wrap (a * 2 ^ c))) :=
  bn_sh (by omega) (.inl ⟨rfl, by simp only [Int.toNat_natCast, Nat.min_eq_left hc]⟩)
theorem bn_shr8 {yk : IntKind} {a : UInt8} : BR P .shr t x y (.int .u8 a.toNat) (.int yk 1) (.int .u8 (a >>> 1).toNat) :=
  bn_sh (by omega) (.inr ⟨rfl, by
    simp only [IntKind.bits]
    rw [Int.fdiv_eq_ediv_of_nonneg _ (by decide)]
    simp [UInt8.toNat_shiftRight, Nat.shiftRight_eq_div_pow]⟩)
theorem bn_shl8 {yk : IntKind} {a : UInt8} : BR P .shl t x y (.int .u8 a.toNat) (.int yk 1) (.int .u8 (a <<< 1).toNat) :=
  bn_sh (by omega) (.inl ⟨rfl, by
    rw [IntKind.wrap_u8]
    simp [UInt8.toNat_shiftLeft, Nat.shiftLeft_eq, IntKind.bits]⟩)
theorem bn_shr32 {yk : IntKind} {a : UInt32} : BR P .shr t x y (.int .u32 a.toNat) (.int yk 1) (.int .u32 (a >>> 1).toNat) :=
  bn_sh (by omega) (.inr ⟨rfl, by
    simp only [IntKind.bits]
    rw [Int.fdiv_eq_ediv_of_nonneg _ (by decide)]
    simp [UInt32.toNat_shiftRight, Nat.shiftRight_eq_div_pow]⟩)
theorem bn_shr32k {yk : IntKind} {a : UInt32} (c : UInt32) (n : Nat) (h : c.toNat = n) (hc : n < 32) : BR P .shr t x y (.int .u32 a.toNat) (.int yk (n : Int)) (.int .u32 (a >>> c).toNat) :=
  bn_sh (by omega) (.inr ⟨rfl, by
    subst h
    simp only [IntKind.bits, Int.toNat_natCast]
    rw [Nat.min_eq_left (by omega), Int.fdiv_eq_ediv_of_nonneg _ (Int.pow_nonneg (by decide)), UInt32.toNat_shiftRight, Nat.shiftRight_eq_div_pow, Nat.mod_eq_of_lt hc]
    simp⟩)
theorem bn_shl32k {yk : IntKind} {a : UInt32} (c : UInt32) (n : Nat) (h : c.toNat = n) (hc : n < 32) : BR P .shl t x y (.int .u32 a.toNat) (.int yk (n : Int)) (.int .u32 (a <<< c).toNat) :=
  bn_sh (by omega) (.inl ⟨rfl, by
    subst h
    simp only [IntKind.bits, Int.toNat_natCast]
    rw [Nat.min_eq_left (by omega), IntKind.wrap_u32, UInt32.toNat_shiftLeft, Nat.shiftLeft_eq, Nat.mod_eq_of_lt hc]
    simp⟩)
theorem bn_eql32 {a b : UInt32} : BR P .eql t x y (.int .u32 a.toNat) (.int .u32 b.toNat) (.bool (decide (a = b))) := fun w => by
  have := bn_eql (P := P) (t := t) (x := x) (y := y) (k := .u32) (a := a.toNat) (b := b.toNat) w
  rw [this]
  congr 2
  by_cases h : a = b
  · simp [h]
  · have : ¬ ((a.toNat : Int) = b.toNat) := fun hh => h (UInt32.toNat_inj.1 (by omega))
    simp [h, this]
theorem bn_eql8 {a b : UInt8} : BR P .eql t x y (.int .u8 a.toNat) (.int .u8 b.toNat) (.bool (decide (a = b))) := fun w => by
  have := bn_eql (P := P) (t := t) (x := x) (y := y) (k := .u8) (a := a.toNat) (b := b.toNat) w
  rw [this]
  congr 2
  by_cases h : a = b
  · simp [h]
  · have : ¬ ((a.toNat : Int) = b.toNat) := fun hh => h (UInt8.toNat_inj.1 (by omega))
    simp [h, this]
theorem bn_neq8 {a b : UInt8} : BR P .neq t x y (.int .u8 a.toNat) (.int .u8 b.toNat) (.bool (decide (a ≠ b))) := fun w => by
  have := bn_neq (P := P) (t := t) (x := x) (y := y) (k := .u8) (a := a.toNat) (b := b.toNat) w
  rw [this]
  congr 2
  by_cases h : a = b
  · simp [h]
  · have : ¬ ((a.toNat : Int) = b.toNat) := fun hh => h (UInt8.toNat_inj.1 (by omega))
    simp [h, this]
/-- '&' with a number 2^c - 1, of any int. -/
theorem bits_mask (a : Int) (c : Nat) (hc : c < 63) : bits .and .i64 a ((2 ^ c - 1 : Nat) : Int) = a % 2 ^ c := by
  have hp : 0 < 2 ^ c := Nat.two_pow_pos c
  have hlt : 2 ^ c ≤ 2 ^ 62 := Nat.pow_le_pow_right (by decide) (by omega)
  show IntKind.i64.wrap ((BitVec.ofInt 64 a &&& BitVec.ofInt 64 ((2 ^ c - 1 : Nat) : Int)).toNat : Int) = _
  rw [BitVec.toNat_and, BitVec.ofInt_natCast, BitVec.toNat_ofNat, Nat.mod_eq_of_lt (show 2 ^ c - 1 < 2 ^ 64 by omega), Nat.and_two_pow_sub_one_eq_mod, BitVec.toNat_ofInt]
  have hdvd : ((2 ^ c : Nat) : Int) ∣ ((2 ^ 64 : Nat) : Int) := Int.natCast_dvd_natCast.2 (Nat.pow_dvd_pow 2 (by omega))
  have h1 : (((a % ((2 ^ 64 : Nat) : Int)).toNat % 2 ^ c : Nat) : Int) = a % ((2 ^ c : Nat) : Int) := by
    rw [Int.natCast_emod, Int.toNat_of_nonneg (Int.emod_nonneg _ (by decide))]
    exact Int.emod_emod_of_dvd _ hdvd
  rw [h1]
  have h2 : (0 : Int) ≤ a % ((2 ^ c : Nat) : Int) := Int.emod_nonneg _ (by omega)
  have h3 : a % ((2 ^ c : Nat) : Int) < ((2 ^ c : Nat) : Int) := Int.emod_lt_of_pos _ (by omega)
  rw [IntWalk.i64_in _ (by omega)]
  simp
theorem bn_mask {a : Int} {m : Int} (c : Nat) (hc : c < 63) (hm : m = ((2 ^ c - 1 : Nat) : Int)) : BR P .and t x y (.int .i64 a) (.int .i64 m) (.int .i64 (a % 2 ^ c)) :=
  bn_bits (by rw [hm]; exact bits_mask a c hc) (.inl rfl)
/-! Bools, strings, pointers, slices against nil. -/
theorem eq_of {t : TypeId} {a b : Value} {r : Bool} {w : World} (h : ∀ d, (Op.equalIn (d + 1) t a b).run P w = .ok r w) : (Op.equal t a b).run P w = .ok r w := h 9999
theorem bn_eqlB {a b : Bool} (hu : P.underlying t = some .bool) : BR P .eql t x y (.bool a) (.bool b) (.bool (a == b)) := fun w => by
  have h := eq_of (P := P) (w := w) (r := (a == b)) (a := .bool a) (b := .bool b) (t := t) (fun d => by simp [Op.equalIn, run_underlying hu])
  simp only [eqGuard_at_bool, binOp, Sem.run_bind, Sem.run_pure, Result.andThen_ok, h]
theorem bn_neqB {a b : Bool} (hu : P.underlying t = some .bool) : BR P .neq t x y (.bool a) (.bool b) (.bool (a != b)) := fun w => by
  have h := eq_of (P := P) (w := w) (r := (a == b)) (a := .bool a) (b := .bool b) (t := t) (fun d => by simp [Op.equalIn, run_underlying hu])
  simp only [eqGuard_at_bool, binOp, Sem.run_bind, Sem.run_pure, Result.andThen_ok, h, bne]
theorem bn_str {op : BinOp} {a b : ByteArray} {r : Bool} (h : Op.stringOp op a b = pure (.bool r)) (hop : binOp op t (.string a) (.string b) = Op.stringOp op a b) : BR P op t x y (.string a) (.string b) (.bool r) := fun w => by
  simp only [eqGuard_at_string, hop, h]; rfl
theorem bn_eqlS {a b : ByteArray} : BR P .eql t x y (.string a) (.string b) (.bool (a.toList == b.toList)) := bn_str rfl rfl
theorem bn_neqS {a b : ByteArray} : BR P .neq t x y (.string a) (.string b) (.bool (!(a.toList == b.toList))) := bn_str rfl rfl
theorem bn_lssS {a b : ByteArray} : BR P .lss t x y (.string a) (.string b) (.bool (Op.bytesLess a.toList b.toList)) := bn_str rfl rfl
theorem bn_eqlPN {a : Addr} {el : TypeId} (hu : P.underlying t = some (.pointer el)) : BR P .eql t x y (.pointer (some a)) (.pointer none) (.bool false) := fun w => by
  have h := eq_of (P := P) (w := w) (r := false) (a := .pointer (some a)) (b := .pointer none) (t := t) (fun d => by simp [Op.equalIn, run_underlying hu])
  simp only [eqGuard_at_pointer, binOp, Sem.run_bind, Sem.run_pure, Result.andThen_ok, h]
theorem bn_neqPN {a : Addr} {el : TypeId} (hu : P.underlying t = some (.pointer el)) : BR P .neq t x y (.pointer (some a)) (.pointer none) (.bool true) := fun w => by
  have h := eq_of (P := P) (w := w) (r := false) (a := .pointer (some a)) (b := .pointer none) (t := t) (fun d => by simp [Op.equalIn, run_underlying hu])
  simp only [eqGuard_at_pointer, binOp, Sem.run_bind, Sem.run_pure, Result.andThen_ok, h, Bool.not_false]
theorem bn_eqlSN {A : Option Addr} {m c : Nat} {el : TypeId} (hu : P.underlying t = some (.slice el)) : BR P .eql t x y (.slice A m c) (.slice none 0 0) (.bool A.isNone) := fun w => by
  have h := eq_of (P := P) (w := w) (r := A.isNone) (a := .slice A m c) (b := .slice none 0 0) (t := t) (fun d => by cases A <;> simp [Op.equalIn, run_underlying hu])
  simp only [eqGuard_at_slice, binOp, Sem.run_bind, Sem.run_pure, Result.andThen_ok, h]
theorem bn_neqSN {A : Option Addr} {m c : Nat} {el : TypeId} (hu : P.underlying t = some (.slice el)) : BR P .neq t x y (.slice A m c) (.slice none 0 0) (.bool A.isSome) := fun w => by
  have h := eq_of (P := P) (w := w) (r := A.isNone) (a := .slice A m c) (b := .slice none 0 0) (t := t) (fun d => by cases A <;> simp [Op.equalIn, run_underlying hu])
  simp only [eqGuard_at_slice, binOp, Sem.run_bind, Sem.run_pure, Result.andThen_ok, h]
  cases A <;> rfl
end
/-! Conversions between whole numbers. -/
def b8 (x : Int) : UInt8 := UInt8.ofNat (x % 256).toNat
theorem b8_toNat (x : Int) : ((b8 x).toNat : Int) = x % 256 := by
  unfold b8
  have h1 : 0 ≤ x % 256 := Int.emod_nonneg _ (by decide)
  have h2 : x % 256 < 256 := Int.emod_lt_of_pos _ (by decide)
  rw [UInt8.toNat_ofNat']
  omega
def b32 (x : Int) : UInt32 := UInt32.ofNat (x % 4294967296).toNat
theorem b32_toNat (x : Int) : ((b32 x).toNat : Int) = x % 4294967296 := by
  unfold b32
  have h1 : 0 ≤ x % 4294967296 := Int.emod_nonneg _ (by decide)
  have h2 : x % 4294967296 < 4294967296 := Int.emod_lt_of_pos _ (by decide)
  rw [UInt32.toNat_ofNat']
  omega
def CR (P : Program) (src dst : TypeId) (a v : Value) : Prop := ∀ w, (convert src dst a).run P w = .ok v w
theorem y_conv {o : Oper} {src dst : TypeId} {x : Operand} {a v : Value} (ho : o.op = .convert src dst x) (hx : evO L x = some a) (hr : CR P src dst a v) : Yld P o n L I own v := fun c w hF hS => by
  simp only [execOp, ho, hF.ev hx, Sem.run_bind, hr w]; rfl
theorem cv_int {src dst : TypeId} {k k' : IntKind} {a r : Int} {ds : TypeDesc} (hs : P.underlying src = some ds) (hd : P.underlying dst = some (.int k)) (h : k.wrap a = r) : CR P src dst (.int k' a) (.int k r) := fun w => by
  subst h
  simp only [convert, Sem.run_bind, run_underlying hs, run_underlying hd, Result.andThen_ok, Conv.intToInt]; rfl
theorem wrapu8 (a : Int) : IntKind.u8.wrap a = ((b8 a).toNat : Int) := by rw [b8_toNat, IntKind.wrap_u8]
theorem wrapu32 (a : Int) : IntKind.u32.wrap a = ((b32 a).toNat : Int) := by rw [b32_toNat, IntKind.wrap_u32]
theorem wrap64_u8 (a : UInt8) : IntKind.i64.wrap (a.toNat : Int) = a.toNat := IntWalk.i64_in _ (by have := a.toNat_lt; omega)
theorem wrap64_u32 (a : UInt32) : IntKind.i64.wrap (a.toNat : Int) = a.toNat := IntWalk.i64_in _ (by have := a.toNat_lt; omega)
theorem wrap32_u8 (a : UInt8) : IntKind.u32.wrap (a.toNat : Int) = (a.toUInt32.toNat : Int) := by
  rw [IntKind.wrap_u32]
  have := a.toNat_lt
  simp
  omega
theorem wrap32_32 (a : UInt32) : IntKind.u32.wrap (a.toNat : Int) = (a.toNat : Int) := by
  rw [IntKind.wrap_u32]
  have := a.toNat_lt
  omega
theorem wrapu8_32 (a : UInt32) : IntKind.u8.wrap (a.toNat : Int) = (a.toUInt8.toNat : Int) := by
  rw [IntKind.wrap_u8]
  simp

/-! Results of several parts; addresses of fields. -/
theorem y_extract {o : Oper} {x : Operand} {i : Nat} {vs : Array Value} {v : Value} (ho : o.op = .extract x i) (hx : evO L x = some (.tuple vs)) (hi : vs[i]? = some v) : Yld P o n L I own v := fun c w hF hS => by
  simp only [execOp, ho, hF.ev hx, Instr.extract, hi]; rfl
theorem fieldPlace_ok {f : Field} {sz : Nat} (hs : ∀ w, (sizeOf f.type).run P w = .ok sz w) (hz : 0 < sz) (a : Addr) (w : World) : (fieldPlace a f).run P w = .ok (a.add f.offset) w := by
  unfold fieldPlace
  rw [Sem.run_bind, hs w]
  simp only [Result.andThen_ok, show sz ≠ 0 from by omega, if_false]
  rfl
theorem y_fieldAddr {o : Oper} {t : TypeId} {x : Operand} {i : Nat} {a r : Addr} {fs : Array Field} {f : Field} {sz : Nat} (ho : o.op = .fieldAddr t x i) (hx : evO L x = some (.pointer (some a)))
    (hu : ∀ w, (underlying t).run P w = .ok (.struct fs) w) (hf : fs[i]? = some f) (hs : ∀ w, (sizeOf f.type).run P w = .ok sz w) (hz : 0 < sz) (hr : a.add f.offset = r) : Yld P o n L I own (.pointer (some r)) := fun c w hF hS => by
  subst hr
  simp only [execOp, ho, hF.ev hx, Instr.fieldAt, Sem.run_bind, hu w, Result.andThen_ok, hf, Instr.sureAddr, Sem.run_pure, fieldPlace_ok hs hz]
end
end Go.Proofs.YtmelbclhkkbmiaaGreat.K
