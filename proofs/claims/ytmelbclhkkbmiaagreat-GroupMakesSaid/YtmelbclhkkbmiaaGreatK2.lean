/- Rules for memory that is only read, and for kinds of data. No condition beyond those that each theorem names. -/
import Derived.Test.YtmelbclhkkbmiaaGreatK1
set_option linter.unusedVariables false
set_option linter.unusedSimpArgs false
namespace Go.Proofs.YtmelbclhkkbmiaaGreat.K
open Go Go.RowKit

/-! ### Data -/
structure Ty (α : Type) where
  sz : Nat
  rd : Imm → List Value → α → Prop
  len : ∀ {I cs x}, rd I cs x → cs.length = sz
  mono : ∀ {I J cs x}, I.le J → rd I cs x → rd J cs x
  one : ∀ {I cs x}, rd I cs x → ∀ v ∈ cs, v.oneCell' = true
def Ty.all {α : Type} (T : Ty α) (I : Imm) (cells : List Value) (xs : List α) : Prop :=
  cells.length = xs.length * T.sz ∧ ∀ j x, xs[j]? = some x → T.rd I ((cells.drop (j * T.sz)).take T.sz) x
def RCells (I : Imm) (p : Addr) (cs : List Value) : Prop := ∀ j v, cs[j]? = some v → I.cell (p.add j) = some v
def Raw (I : Imm) (A : Option Addr) (n c sz : Nat) (cells : List Value) : Prop :=
  cells.length = n * sz ∧ n ≤ c ∧ c ≤ maxLen ∧ (0 < n → ∃ p, A = some p ∧ RCells I p cells)
def Sl {α : Type} (T : Ty α) (I : Imm) (A : Option Addr) (c : Nat) (xs : List α) : Prop := ∃ cells, Raw I A xs.length c T.sz cells ∧ T.all I cells xs
theorem RCells.mono {I J : Imm} (h : I.le J) {p : Addr} {cs : List Value} (hc : RCells I p cs) : RCells J p cs := fun j v hv => Imm.cell_le h (hc j v hv)
theorem Raw.mono {I J : Imm} (h : I.le J) {A : Option Addr} {n c sz : Nat} {cs : List Value} (hc : Raw I A n c sz cs) : Raw J A n c sz cs :=
  ⟨hc.1, hc.2.1, hc.2.2.1, fun hn => let ⟨p, e, hp⟩ := hc.2.2.2 hn; ⟨p, e, hp.mono h⟩⟩
theorem Ty.all.mono {α : Type} {T : Ty α} {I J : Imm} (h : I.le J) {cs : List Value} {xs : List α} (hc : T.all I cs xs) : T.all J cs xs := ⟨hc.1, fun j x hx => T.mono h (hc.2 j x hx)⟩
theorem Sl.mono {α : Type} {T : Ty α} {I J : Imm} (h : I.le J) {A : Option Addr} {c : Nat} {xs : List α} (hc : Sl T I A c xs) : Sl T J A c xs :=
  let ⟨cells, hr, ha⟩ := hc; ⟨cells, hr.mono h, ha.mono h⟩
theorem Sl.small {α : Type} {T : Ty α} {I : Imm} {A : Option Addr} {c : Nat} {xs : List α} (h : Sl T I A c xs) : (xs.length : Int) ≤ 9223372036854775807 := by
  obtain ⟨cells, hr, _⟩ := h
  have h1 := hr.2.1
  have h2 := hr.2.2.1
  simp only [maxLen] at h2
  omega
theorem Sl.le_cap {α : Type} {T : Ty α} {I : Imm} {A : Option Addr} {c : Nat} {xs : List α} (h : Sl T I A c xs) : xs.length ≤ c := h.choose_spec.1.2.1
theorem all_one {α : Type} {T : Ty α} {I : Imm} {cs : List Value} {xs : List α} (h : T.all I cs xs) : ∀ v ∈ cs, v.oneCell' = true := by
  intro v hv
  obtain ⟨i, hi, rfl⟩ := List.getElem_of_mem hv
  have hz : 0 < T.sz := by
    rcases Nat.eq_zero_or_pos T.sz with h0 | h0
    · have := h.1; rw [h0] at this; omega
    · exact h0
  have hj : i / T.sz < xs.length := Nat.div_lt_of_lt_mul (by rw [Nat.mul_comm]; have := h.1; omega)
  refine T.one (h.2 (i / T.sz) xs[i / T.sz] (List.getElem?_eq_getElem hj)) _ ?_
  refine List.mem_iff_getElem?.2 ⟨i % T.sz, ?_⟩
  rw [List.getElem?_take, if_pos (Nat.mod_lt _ hz), List.getElem?_drop, Nat.mul_comm, Nat.div_add_mod]
  exact List.getElem?_eq_getElem hi
theorem all_nil {α : Type} {T : Ty α} {I : Imm} : T.all I [] [] := ⟨by simp, fun j x h => by simp at h⟩
theorem all_snoc {α : Type} {T : Ty α} {I : Imm} {cs c : List Value} {xs : List α} {x : α} (h : T.all I cs xs) (hx : T.rd I c x) : T.all I (cs ++ c) (xs ++ [x]) := by
  have hc := T.len hx
  refine ⟨by rw [List.length_append, h.1, hc, List.length_append, List.length_singleton, Nat.add_mul, Nat.one_mul], fun j y hy => ?_⟩
  rcases Nat.lt_or_ge j xs.length with hj | hj
  · rw [List.getElem?_append_left hj] at hy
    have h1 : j * T.sz + T.sz ≤ cs.length := by rw [h.1, ← Nat.succ_mul]; exact Nat.mul_le_mul_right _ hj
    rw [List.drop_append_of_le_length (by omega), List.take_append_of_le_length (by rw [List.length_drop]; omega)]
    exact h.2 j y hy
  · have hj' : j = xs.length := by
      have := (List.getElem?_eq_some_iff.1 hy).1
      rw [List.length_append, List.length_singleton] at this
      omega
    subst hj'
    have hy' : x = y := by simpa using hy
    subst hy'
    rw [← h.1, List.drop_left, List.take_of_length_le (by omega)]
    exact hx
theorem all_append {α : Type} {T : Ty α} {I : Imm} {cs ds : List Value} {xs ys : List α} (h : T.all I cs xs) (k : T.all I ds ys) : T.all I (cs ++ ds) (xs ++ ys) := by
  refine ⟨by rw [List.length_append, h.1, k.1, List.length_append, Nat.add_mul], fun j y hy => ?_⟩
  rcases Nat.lt_or_ge j xs.length with hj | hj
  · rw [List.getElem?_append_left hj] at hy
    have h1 : j * T.sz + T.sz ≤ cs.length := by rw [h.1, ← Nat.succ_mul]; exact Nat.mul_le_mul_right _ hj
    rw [List.drop_append_of_le_length (by omega), List.take_append_of_le_length (by rw [List.length_drop]; omega)]
    exact h.2 j y hy
  · rw [List.getElem?_append_right hj] at hy
    have h2 := k.2 _ y hy
    have h3 : j * T.sz = cs.length + (j - xs.length) * T.sz := by rw [h.1, ← Nat.add_mul]; congr 1; omega
    rw [h3, List.drop_append]
    have : cs.drop (cs.length + (j - xs.length) * T.sz) = [] := List.drop_eq_nil_of_le (by omega)
    rw [this, List.nil_append, show cs.length + (j - xs.length) * T.sz - cs.length = (j - xs.length) * T.sz by omega]
    exact h2
theorem all_cut {α : Type} {T : Ty α} {I : Imm} {cs : List Value} {xs : List α} (h : T.all I cs xs) (l m : Nat) (hm : m ≤ xs.length) : T.all I ((cs.take (m * T.sz)).drop (l * T.sz)) ((xs.take m).drop l) := by
  refine ⟨?_, fun j x hx => ?_⟩
  · rw [List.length_drop, List.length_take, h.1, List.length_drop, List.length_take, Nat.min_eq_left hm, Nat.min_eq_left (Nat.mul_le_mul_right _ hm), Nat.sub_mul]
  · have hlt := (List.getElem?_eq_some_iff.1 hx).1
    rw [List.length_drop, List.length_take, Nat.min_eq_left hm] at hlt
    rw [List.getElem?_drop, List.getElem?_take, if_pos (by omega)] at hx
    have h1 := h.2 _ x hx
    have hle : (l + j) * T.sz + T.sz ≤ m * T.sz := by rw [← Nat.succ_mul]; exact Nat.mul_le_mul_right _ (by omega)
    have heq : ((cs.take (m * T.sz)).drop (l * T.sz)).drop (j * T.sz) = (cs.take (m * T.sz)).drop ((l + j) * T.sz) := by rw [List.drop_drop, Nat.add_mul]
    rw [heq, List.drop_take, List.take_take, Nat.min_eq_left (by omega)]
    exact h1

/-- Whole numbers, bytes, bools, texts. -/
abbrev I64 (x : Int) : Prop := -9223372036854775808 ≤ x ∧ x ≤ 9223372036854775807
theorem i64_u8 (x : UInt8) : I64 (x.toNat : Int) := by have := x.toNat_lt; omega
theorem i64_u32 (x : UInt32) : I64 (x.toNat : Int) := by have := x.toNat_lt; omega
def tInt : Ty Int where
  sz := 1
  rd _ cs x := cs = [.int .i64 x] ∧ I64 x
  len h := by rw [h.1]; rfl
  mono _ h := h
  one h v hv := by rw [h.1] at hv; simp at hv; subst hv; rfl
def tU8 : Ty UInt8 where
  sz := 1
  rd _ cs x := cs = [.int .u8 (x.toNat : Int)]
  len h := by rw [h]; rfl
  mono _ h := h
  one h v hv := by rw [h] at hv; simp at hv; subst hv; rfl
def tU32 : Ty UInt32 where
  sz := 1
  rd _ cs x := cs = [.int .u32 (x.toNat : Int)]
  len h := by rw [h]; rfl
  mono _ h := h
  one h v hv := by rw [h] at hv; simp at hv; subst hv; rfl
def tBool : Ty Bool where
  sz := 1
  rd _ cs x := cs = [.bool x]
  len h := by rw [h]; rfl
  mono _ h := h
  one h v hv := by rw [h] at hv; simp at hv; subst hv; rfl
def tStr : Ty ByteArray where
  sz := 1
  rd _ cs x := cs = [.string x] ∧ x.size ≤ maxLen
  len h := by rw [h.1]; rfl
  mono _ h := h
  one h v hv := by rw [h.1] at hv; simp at hv; subst hv; rfl
def tSl {α : Type} (T : Ty α) : Ty (List α) where
  sz := 1
  rd I cs xs := ∃ A c, cs = [.slice A xs.length c] ∧ Sl T I A c xs
  len h := by obtain ⟨A, c, rfl, _⟩ := h; rfl
  mono hm h := by obtain ⟨A, c, rfl, hs⟩ := h; exact ⟨A, c, rfl, hs.mono hm⟩
  one h v hv := by obtain ⟨A, c, rfl, hs⟩ := h; simp at hv; subst hv; rfl
abbrev tB : Ty (List UInt8) := tSl tU8

theorem add_add' (p : Addr) (i j : Nat) : (p.add i).add j = p.add (i + j) := by
  unfold Addr.add
  by_cases hi : i = 0 <;> by_cases hj : j = 0 <;> simp [hi, hj, Nat.add_assoc]
theorem add_zero' (p : Addr) : p.add 0 = p := by simp [Addr.add]
theorem add_lit' (g o k : Nat) : Addr.add ⟨g, o, none⟩ k = ⟨g, o + k, none⟩ := by unfold Addr.add; split <;> simp_all
theorem RCells.at_ {I : Imm} {p q : Addr} {cs : List Value} (h : RCells I p cs) (j : Nat) {v : Value} (hv : cs[j]? = some v) (hq : p.add j = q) : I.cell q = some v := by subst hq; exact h j v hv
theorem RCells.hd {I : Imm} {p : Addr} {v : Value} {l : List Value} (h : RCells I p (v :: l)) : I.cell p = some v := h.at_ 0 rfl (add_zero' p)
theorem RCells.sub {I : Imm} {p : Addr} {cs : List Value} (h : RCells I p cs) (i m : Nat) : RCells I (p.add i) ((cs.drop i).take m) := fun j v hv => by
  rw [add_add']
  refine h _ v ?_
  rw [List.getElem?_take] at hv
  split at hv
  · rw [List.getElem?_drop] at hv; exact hv
  · cases hv

section
variable {P : Program} {ops : Array Oper} {Q : Exit → Act → World → Prop} {e : Ent} {n : Nat} {L : List (Nat × Value)} {I : Imm} {own : List Res}

theorem Sl.at_ {α : Type} {T : Ty α} {A : Option Addr} {c : Nat} {xs : List α} {t el : TypeId} (hu : ∀ w, (underlying t).run P w = .ok (.slice el) w) (hz : ∀ w, (sizeOf el).run P w = .ok T.sz w)
    (h : Sl T I A c xs) {k : IntKind} {i : Int} (h0 : 0 ≤ i) (h1 : i < xs.length) :
    ∃ x p cs, xs[i.toNat]? = some x ∧ (∀ w, (Instr.indexAt t (.slice A xs.length c) (.int k i)).run P w = .ok (.pointer (some p)) w) ∧ T.rd I cs x ∧ RCells I p cs := by
  obtain ⟨cells, hr, ha⟩ := h
  have hi : i.toNat < xs.length := by omega
  obtain ⟨p, rfl, hp⟩ := hr.2.2.2 (by omega)
  refine ⟨xs[i.toNat], p.add (i.toNat * T.sz), (cells.drop (i.toNat * T.sz)).take T.sz, List.getElem?_eq_getElem hi, fun w => ?_, ha.2 _ _ (List.getElem?_eq_getElem hi), hp.sub _ _⟩
  simp [Instr.indexAt, asIntOf, hu w, hz w, h0, h1]
theorem y_index {o : Oper} {t : TypeId} {x i : Operand} {v u r : Value} (ho : o.op = .indexAddr t x i) (hx : evO L x = some v) (hi : evO L i = some u) (hr : ∀ w, (Instr.indexAt t v u).run P w = .ok r w) : Yld P o n L I own r := fun a w hF hS => by
  simp only [execOp, ho, hF.ev hx, hF.ev hi, Sem.run_bind, hr w]; rfl

theorem imm_cell {w : World} (hS : St w I own) {q : Addr} {v : Value} (h : I.cell q = some v) : w.cell? q = some v := by
  unfold Imm.cell at h
  unfold World.cell?
  cases hI : I q.block with
  | none => simp [hI] at h
  | some o => rw [hS.ok _ _ hI]; rw [hI] at h; exact h
theorem loadVar_one {t : TypeId} {q : Addr} {v : Value} {w : World} (hg : ∀ w, (isAgg t).run P w = .ok false w) (hc : w.cell? q = some v) : (loadVar t q).run P w = .ok v w := by
  simp [loadVar, hg w, hc]
theorem loadVar_agg {t : TypeId} {q : Addr} {cs : List Value} {w : World} {sz : Nat} (hg : ∀ w, (isAgg t).run P w = .ok true w) (hz : ∀ w, (sizeOf t).run P w = .ok sz w) (hl : cs.length = sz)
    (hc : ∀ j v, cs[j]? = some v → w.cell? (q.add j) = some v) : (loadVar t q).run P w = .ok (.agg cs.toArray) w := by
  subst hl
  simp [loadVar, hg w, hz w, run_loadCells_list (P := P) w q cs hc]
theorem y_load1 {o : Oper} {t : TypeId} {x : Operand} {q : Addr} {v : Value} (ho : o.op = .load t x) (hg : ∀ w, (isAgg t).run P w = .ok false w) (hx : evO L x = some (.pointer (some q))) (hc : I.cell q = some v) : Yld P o n L I own v := fun a w hF hS => by
  simp only [execOp, ho, hF.ev hx, Instr.loadAt, Instr.sureAddr, Sem.run_bind, Sem.run_pure, Result.andThen_ok, loadVar_one hg (imm_cell hS hc)]
theorem y_loadA {o : Oper} {t : TypeId} {x : Operand} {q : Addr} {cs : List Value} {sz : Nat} (ho : o.op = .load t x) (hg : ∀ w, (isAgg t).run P w = .ok true w) (hz : ∀ w, (sizeOf t).run P w = .ok sz w)
    (hx : evO L x = some (.pointer (some q))) (hc : RCells I q cs) (hl : cs.length = sz) : Yld P o n L I own (.agg cs.toArray) := fun a w hF hS => by
  simp only [execOp, ho, hF.ev hx, Instr.loadAt, Instr.sureAddr, Sem.run_bind, Sem.run_pure, Result.andThen_ok, loadVar_agg hg hz hl (fun j v hv => imm_cell hS (hc j v hv))]
theorem own_holds {w : World} (hS : St w I own) {i : Nat} {r : Res} (hi : own[i]? = some r) : r.holds w := hS.holds r (List.mem_of_getElem? hi)
theorem blk_cell {w : World} {g : Nat} {cs : List Value} {t : TypeId} (h : (blk g cs t).holds w) {o : Nat} {v : Value} (hv : cs[o]? = some v) : w.cell? ⟨g, o, none⟩ = some v := by
  have h' : w.heap[g]? = some (.cells cs.toArray t (0, 0)) := h
  simp [World.cell?, h', hv]
theorem y_loadB1 {o : Oper} {t t' : TypeId} {x : Operand} {g off : Nat} {v : Value} {cs : List Value} (i : Nat) (ho : o.op = .load t x) (hg : ∀ w, (isAgg t).run P w = .ok false w) (hx : evO L x = some (.pointer (some ⟨g, off, none⟩)))
    (hi : own[i]? = some (blk g cs t')) (hv : cs[off]? = some v) : Yld P o n L I own v := fun a w hF hS => by
  simp only [execOp, ho, hF.ev hx, Instr.loadAt, Instr.sureAddr, Sem.run_bind, Sem.run_pure, Result.andThen_ok, loadVar_one hg (blk_cell (own_holds hS hi) hv)]
theorem y_loadBA {o : Oper} {t t' : TypeId} {x : Operand} {g off sz : Nat} {vs cs : List Value} (i : Nat) (ho : o.op = .load t x) (hg : ∀ w, (isAgg t).run P w = .ok true w) (hz : ∀ w, (sizeOf t).run P w = .ok sz w)
    (hx : evO L x = some (.pointer (some ⟨g, off, none⟩))) (hi : own[i]? = some (blk g cs t')) (hv : (cs.drop off).take sz = vs) (hl : vs.length = sz) : Yld P o n L I own (.agg vs.toArray) := fun a w hF hS => by
  have hc : ∀ j v, vs[j]? = some v → w.cell? ((⟨g, off, none⟩ : Addr).add j) = some v := fun j v hj => by
    rw [add_lit']
    refine blk_cell (own_holds hS hi) ?_
    rw [← hv, List.getElem?_take] at hj
    split at hj
    · rw [List.getElem?_drop] at hj; exact hj
    · cases hj
  simp only [execOp, ho, hF.ev hx, Instr.loadAt, Instr.sureAddr, Sem.run_bind, Sem.run_pure, Result.andThen_ok, loadVar_agg hg hz hl hc]

/-! Structs and slices made, cut; len. -/
def evp (L : List (Nat × Value)) : List (Nat × Operand) → Option (List (Nat × Value))
  | [] => some []
  | x :: l => match evO L x.2, evp L l with
    | some v, some vs => some ((x.1, v) :: vs)
    | _, _ => none
theorem evp_ok {a : Act} (hF : Frm a n L) : ∀ {xs : List (Nat × Operand)} {vs : List (Nat × Value)}, evp L xs = some vs → (xs.map fun x => (x.1, a.eval x.2)) = vs
  | [], vs, h => by simp [evp] at h; simp [h]
  | x :: l, vs, h => by
    simp only [evp] at h
    cases hx : evO L x.2 with
    | none => simp [hx] at h
    | some v =>
      cases hl : evp L l with
      | none => simp [hx, hl] at h
      | some us =>
        simp [hx, hl] at h
        subst h
        simp [hF.ev hx, evp_ok hF hl]
theorem evp_arr {a : Act} (hF : Frm a n L) {xs : Array (Nat × Operand)} {vs : List (Nat × Value)} (h : evp L xs.toList = some vs) : (xs.map fun (i, x) => (i, a.eval x)) = vs.toArray := by
  apply Array.ext'
  simpa using evp_ok hF h
theorem y_build {o : Oper} {t : TypeId} {ps : Array (Nat × Operand)} {vs : List (Nat × Value)} {v : Value} (ho : o.op = .build t ps) (hp : evp L ps.toList = some vs) (hr : ∀ w, (Instr.build t vs.toArray).run P w = .ok v w) : Yld P o n L I own v := fun a w hF hS => by
  have he := evp_arr hF hp
  simp only [execOp, ho, Sem.run_bind]
  rw [he, hr w]; rfl
theorem y_len {o : Oper} {x : Operand} {t el : TypeId} {A : Option Addr} {m c : Nat} (ho : o.op = .call { callee := .builtin .len, args := #[x], argTypes := #[t] }) (hu : ∀ w, (underlying t).run P w = .ok (.slice el) w)
    (hx : evO L x = some (.slice A m c)) : Yld P o n L I own (.int .i64 (m : Int)) := fun a w hF hS => by
  simp [execOp, ho, resolve, invoke, builtin, Builtin.len_, hF.ev hx, hu w, goInt]
theorem y_lenS {o : Oper} {x : Operand} {t : TypeId} {s : ByteArray} (ho : o.op = .call { callee := .builtin .len, args := #[x], argTypes := #[t] }) (hu : ∀ w, (underlying t).run P w = .ok .string w)
    (hx : evO L x = some (.string s)) : Yld P o n L I own (.int .i64 (s.size : Int)) := fun a w hF hS => by
  simp [execOp, ho, resolve, invoke, builtin, Builtin.len_, hF.ev hx, hu w, goInt]
theorem y_cap {o : Oper} {x : Operand} {t el : TypeId} {A : Option Addr} {m c : Nat} (ho : o.op = .call { callee := .builtin .cap, args := #[x], argTypes := #[t] }) (hu : ∀ w, (underlying t).run P w = .ok (.slice el) w)
    (hx : evO L x = some (.slice A m c)) : Yld P o n L I own (.int .i64 (c : Int)) := fun a w hF hS => by
  simp [execOp, ho, resolve, invoke, builtin, Builtin.cap_, hF.ev hx, hu w, goInt]
def evOp (L : List (Nat × Value)) : Option Operand → Option (Option Value)
  | none => some none
  | some x => match evO L x with
    | some v => some (some v)
    | none => none
theorem evOp_ok {a : Act} (hF : Frm a n L) {x : Option Operand} {v : Option Value} (h : evOp L x = some v) : x.map a.eval = v := by
  cases x with
  | none => simp [evOp] at h; simp [h]
  | some y =>
    simp only [evOp] at h
    cases hy : evO L y with
    | none => simp [hy] at h
    | some u => simp [hy] at h; subst h; simp [hF.ev hy]
theorem y_slice {o : Oper} {x : Operand} {lo hi mx : Option Operand} {t : TypeId} {v r : Value} {vl vh : Option Value} (ho : o.op = .slice t x lo hi mx) (hx : evO L x = some v)
    (hl : evOp L lo = some vl) (hh : evOp L hi = some vh) (hm : mx = none) (hr : ∀ w, (Instr.sliceAt t v vl vh none).run P w = .ok r w) : Yld P o n L I own r := fun a w hF hS => by
  simp only [execOp, ho, hF.ev hx, evOp_ok hF hl, evOp_ok hF hh, hm, Option.map_none, Sem.run_bind, hr w]; rfl
/-- 'xs[l:h]' of a slice that is read. -/
theorem Sl.cut {α : Type} {T : Ty α} {A : Option Addr} {c : Nat} {xs : List α} {t el : TypeId} (hu : ∀ w, (underlying t).run P w = .ok (.slice el) w) (hz : ∀ w, (sizeOf el).run P w = .ok T.sz w) (h : Sl T I A c xs)
    {vl vh : Option Value} {l m : Nat} (hl : vl = some (.int .i64 (l : Int)) ∨ vl = none ∧ l = 0) (hm : vh = some (.int .i64 (m : Int)) ∨ vh = none ∧ m = xs.length) (h1 : l ≤ m) (h2 : m ≤ xs.length) :
    ∃ A', (∀ w, (Instr.sliceAt t (.slice A xs.length c) vl vh none).run P w = .ok (.slice A' ((xs.take m).drop l).length (c - l)) w) ∧ Sl T I A' (c - l) ((xs.take m).drop l) := by
  have hlc := h.le_cap
  refine ⟨if c = l then A else A.map (·.add (l * T.sz)), fun w => ?_, ?_⟩
  · have hlen : ((xs.take m).drop l).length = m - l := by rw [List.length_drop, List.length_take, Nat.min_eq_left h2]
    rw [hlen]
    rcases hl with rfl | ⟨rfl, rfl⟩ <;> rcases hm with rfl | ⟨rfl, rfl⟩ <;>
      simp [Instr.sliceAt, Instr.slice, Instr.sliceBounds, Instr.sliceBound, asIntOf, hu w, hz w] <;>
      (try (rw [if_pos (by omega)])) <;> (try simp) <;> (try (rw [if_pos (by omega)])) <;> (try simp) <;> (try (intro hh; omega))
  · obtain ⟨cells, hr, ha⟩ := h
    refine ⟨(cells.take (m * T.sz)).drop (l * T.sz), ?_, all_cut ha l m h2⟩
    refine ⟨(all_cut ha l m h2).1, by rw [List.length_drop, List.length_take]; omega, by have := hr.2.2.1; omega, fun hn => ?_⟩
    rw [List.length_drop, List.length_take] at hn
    obtain ⟨p, rfl, hp⟩ := hr.2.2.2 (by omega)
    rw [if_neg (by omega)]
    refine ⟨p.add (l * T.sz), rfl, ?_⟩
    intro j v hv
    rw [add_add']
    refine hp _ v ?_
    rw [List.getElem?_drop, List.getElem?_take] at hv
    split at hv
    · exact hv
    · cases hv
end
end Go.Proofs.YtmelbclhkkbmiaaGreat.K
