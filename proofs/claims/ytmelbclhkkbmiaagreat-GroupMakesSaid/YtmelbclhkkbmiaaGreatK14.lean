/- Bytes as strings; arguments of a law as data. No condition beyond those that each theorem names. -/
import Derived.Test.YtmelbclhkkbmiaaGreatK8
import Derived.Test.YtmelbclhkkbmiaaGreatK13
import Derived.Laws.BytesString
set_option linter.unusedVariables false
set_option linter.unusedSimpArgs false
namespace Go.Proofs.YtmelbclhkkbmiaaGreat.K
open Go Go.RowKit

section
variable {P : Program} {ops : Array Oper} {Q : Exit → Act → World → Prop} {e : Ent} {n : Nat} {L : List (Nat × Value)} {I : Imm} {own : List Res}
theorem push_all : ∀ (xs : List UInt8) (s : ByteArray), (xs.map fun b => (b.toNat : Int)).foldl (fun r n => r.push (UInt8.ofNat n.toNat)) s = ⟨s.data ++ xs.toArray⟩
  | [], s => by simp
  | x :: xs, s => by
    rw [List.map_cons, List.foldl_cons, push_all xs]
    simp [ByteArray.push]
theorem u8_cells {I : Imm} : ∀ {cells : List Value} {xs : List UInt8}, tU8.all I cells xs → cells = (xs.map fun b => (b.toNat : Int)).map (Value.int .u8)
  | cells, [], h => by have := h.1; simp at this; simp [this]
  | cells, x :: xs, h => by
    obtain ⟨h0, h1⟩ := all_tail h
    have h0' : cells.take 1 = [Value.int .u8 (x.toNat : Int)] := h0
    have h1' : cells.drop 1 = (xs.map fun b => (b.toNat : Int)).map (Value.int .u8) := u8_cells h1
    rw [← List.take_append_drop 1 cells, h0', h1']; rfl
theorem y_bytesStr {o : Oper} {src dst el : TypeId} {x : Operand} {A : Option Addr} {c : Nat} {xs : List UInt8} (ho : o.op = .convert src dst x) (hx : evO L x = some (.slice A xs.length c)) (hs : P.underlying src = some (.slice el)) (he : P.underlying el = some (.int .u8)) (hd : P.underlying dst = some .string)
    (h : Sl tU8 I A c xs) : Yld P o n L I own (.string (bstr xs)) := fun a w hF hS => by
  have hr : (convert src dst (.slice A xs.length c)).run P w = .ok (.string (bstr xs)) w := by
    rw [run_convert_bytes_string w src dst el A xs.length c hs he hd]
    obtain ⟨cells, hraw, hall⟩ := h
    rcases Nat.eq_zero_or_pos xs.length with h0 | h0
    · obtain rfl : xs = [] := List.eq_nil_of_length_eq_zero h0
      cases A with
      | none => rfl
      | some p =>
        have := run_bytesToString (P := P) w p 0 c [] (by simpa using run_loadCells_list (P := P) w p [] (fun j v hv => by simp at hv))
        exact this
    · obtain ⟨p, rfl, hp⟩ := hraw.2.2.2 h0
      have hc := u8_cells hall
      have hl := run_loadCells_list (P := P) w p cells (fun j v hv => imm_cell hS (hp j v hv))
      have hlen : cells.length = xs.length := by have := hraw.1; simpa [tU8] using this
      rw [hlen, hc] at hl
      rw [run_bytesToString w p xs.length c _ hl, push_all]
      have e1 : (ByteArray.empty.data : Array UInt8) = #[] := rfl
      rw [e1, Array.empty_append]; rfl
  simp only [execOp, ho, hF.ev hx, Sem.run_bind, hr]; rfl
end
theorem bstr_inj {xs ys : List UInt8} : bstr xs = bstr ys ↔ xs = ys := by
  constructor
  · intro h
    have := congrArg (fun b => b.data.toList) h
    simpa [bstr] using this
  · rintro rfl; rfl
section
variable {P : Program} {t : TypeId} {x y : Operand}
theorem bn_shlN {a : Nat} (ha : a < 1099511627776) : BR P .shl t x y (.int .i64 (a : Int)) (.int .u64 8) (.int .i64 ((a * 256 : Nat) : Int)) := by
  have h := bn_shl (P := P) (t := t) (x := x) (y := y) (k := .i64) (yk := .u64) (a := (a : Int)) (c := 8) (by decide)
  have e : (a : Int) * 2 ^ 8 = ((a * 256 : Nat) : Int) := by omega
  rw [e, IntWalk.i64_in _ (by omega)] at h
  exact h
theorem bn_orN {a : Nat} {b : UInt8} (ha : a < 1099511627776) : BR P .or t x y (.int .i64 ((a * 256 : Nat) : Int)) (.int .i64 (b.toNat : Int)) (.int .i64 ((a * 256 + b.toNat : Nat) : Int)) :=
  bn_bits (by
    have hb := b.toNat_lt
    have e : a * 256 ||| b.toNat = a * 256 + b.toNat := by
      have := Nat.two_pow_add_eq_or_of_lt (i := 8) (b := b.toNat) (by omega) a
      rw [Nat.mul_comm]; exact this.symm
    show IntKind.i64.wrap ((BitVec.ofInt 64 ((a * 256 : Nat) : Int) ||| BitVec.ofInt 64 ((b.toNat : Nat) : Int)).toNat : Int) = _
    rw [BitVec.toNat_or, BitVec.ofInt_natCast, BitVec.ofInt_natCast, BitVec.toNat_ofNat, BitVec.toNat_ofNat, Nat.mod_eq_of_lt (by omega), Nat.mod_eq_of_lt (by omega), e]
    exact IntWalk.i64_in _ (by omega)) (.inr (.inl rfl))
end
/-! ### Arguments of a law, as data -/
def Arg {α : Type} (P : Program) (W : World) (t : TypeId) (T : Ty α) : Prop :=
  ∀ {H : Type} (enc : TypeId × Value → H) (base : Nat) (spare : Nat → Bool) (held : Bool) (fuel : Nat) (cs : List Value) (x : DataW H × List MemPlace), DataW.trod enc P W base spare held fuel t cs = some x → ∃ y, T.rd (fun k => W.heap[k]?) cs y
section
variable {P : Program} {W : World} {t : TypeId}
theorem arg_int (ht : P.underlying t = some (.int .i64)) : Arg P W t tInt := fun enc base spare held fuel cs x h => by
  obtain ⟨n, rfl, _, hw⟩ := DataW.trod_int ht h
  exact ⟨n, rfl, by simpa [Lit.wf, IntKind.min, IntKind.max, IntKind.signed, IntKind.bits] using hw⟩
theorem arg_u8 (ht : P.underlying t = some (.int .u8)) : Arg P W t tU8 := fun enc base spare held fuel cs x h => by
  obtain ⟨n, rfl, _, hw⟩ := DataW.trod_int ht h
  have h2 : 0 ≤ n ∧ n ≤ 255 := by simpa [Lit.wf, IntKind.min, IntKind.max, IntKind.signed, IntKind.bits] using hw
  refine ⟨b8 n, ?_⟩
  show [Value.int .u8 n] = [Value.int .u8 ((b8 n).toNat : Int)]
  rw [b8_toNat, show n % 256 = n by omega]
theorem arg_bool (ht : P.underlying t = some .bool) : Arg P W t tBool := fun enc base spare held fuel cs x h => by
  obtain ⟨b, rfl, _⟩ := DataW.trod_bool ht h
  exact ⟨b, rfl⟩
theorem arg_str (ht : P.underlying t = some .string) : Arg P W t tStr := fun enc base spare held fuel cs x h => by
  obtain ⟨s, rfl, _, hs⟩ := DataW.trod_string ht h
  exact ⟨s, rfl, hs⟩
theorem arg_list {α : Type} {T : Ty α} {I : Imm} {p : Addr} (n : Nat) (h : ∀ i, i < n → ∃ (cs : List Value) (y : α), RCells I (p.add (i * T.sz)) cs ∧ T.rd I cs y) :
    ∃ (cells : List Value) (ys : List α), ys.length = n ∧ RCells I p cells ∧ T.all I cells ys := by
  induction n with
  | zero => exact ⟨[], [], rfl, fun j v hv => by simp at hv, all_nil⟩
  | succ n ih =>
    obtain ⟨cells, ys, hl, hr, ha⟩ := ih (fun i hi => h i (by omega))
    obtain ⟨cs, y, h1, h2⟩ := h n (by omega)
    refine ⟨cells ++ cs, ys ++ [y], by simp [hl], fun j v hv => ?_, all_snoc ha h2⟩
    have hlen : cells.length = n * T.sz := by rw [ha.1, hl]
    rcases Nat.lt_or_ge j cells.length with hj | hj
    · rw [List.getElem?_append_left hj] at hv; exact hr j v hv
    · rw [List.getElem?_append_right hj] at hv
      have := h1 _ v hv
      rwa [add_add', hlen, show n * T.sz + (j - n * T.sz) = j by omega] at this
theorem arg_sl {α : Type} {T : Ty α} {el : TypeId} (ht : P.underlying t = some (.slice el)) (hz : P.cellsOf el = T.sz) (hT : Arg P W el T) : Arg P W t (tSl T) := fun enc base spare held fuel cs x h => by
  rcases DataW.trod_slice ht h with ⟨rfl, _⟩ | ⟨a, len, cap, elems, rest, m, _, rfl, _, _, hl, hm, hlen, hel, _, _⟩
  · exact ⟨[], none, 0, rfl, sl_nil0⟩
  · obtain ⟨cells, ys, hys, hr, ha⟩ := arg_list (T := T) (I := fun k => W.heap[k]?) (p := a) len (fun i hi => by
      have h1 := hel i hi
      rw [hz, List.getElem?_eq_getElem (by omega)] at h1
      obtain ⟨cs', hcs, htr⟩ := Option.bind_eq_some_iff.1 h1
      obtain ⟨y, hy⟩ := hT enc base spare held m cs' _ htr
      refine ⟨cs', y, fun j v hv => ?_, hy⟩
      have hc := World.cells?_some hcs
      have hj := (List.getElem?_eq_some_iff.1 hv).1
      have h2 := hc.2.2 j (by omega)
      rw [hv] at h2
      exact h2)
    subst hys
    exact ⟨ys, some a, cap, rfl, cells, ⟨ha.1, hl, hm, fun _ => ⟨a, rfl, hr⟩⟩, ha⟩
theorem arg_of {α : Type} {T : Ty α} {H : Type} {enc : TypeId × Value → H} {base : Nat} {spare : Nat → Bool} {held : Bool} {v : Value} {d : DataW H} {ps : List MemPlace} (hT : Arg P W t T) (h : DataW.Trod enc P W base spare held t v d ps) : ∃ y, T.rd (fun k => W.heap[k]?) v.cells.toList y := by
  obtain ⟨fuel, hf⟩ := h
  exact hT enc base spare held fuel _ _ hf
end
theorem dcons {α : Type} {cs : List α} {k : Nat} {v : α} (h : (cs.drop k).take 1 = [v]) : cs.drop k = v :: cs.drop (k + 1) := by
  cases hd : cs.drop k with
  | nil => rw [hd] at h; cases h
  | cons a l =>
    rw [hd] at h
    have e1 : a = v := by simpa using h
    rw [e1, show cs.drop (k + 1) = (cs.drop k).drop 1 by rw [List.drop_drop], hd]; rfl
theorem dnil {α : Type} {cs : List α} {n : Nat} (h : cs.length = n) : cs.drop n = [] := List.drop_eq_nil_of_le (by omega)
theorem dzero {α : Type} {cs r : List α} (h : cs.drop 0 = r) : cs = r := h
end Go.Proofs.YtmelbclhkkbmiaaGreat.K
