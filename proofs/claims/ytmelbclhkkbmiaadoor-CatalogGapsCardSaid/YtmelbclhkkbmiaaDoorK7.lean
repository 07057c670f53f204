/- Rules for strings and structs that are compared, and for maps that are made. No condition beyond those that each theorem names. -/
import Derived.Test.YtmelbclhkkbmiaaDoorK6
import Derived.Laws.StructEq
set_option linter.unusedVariables false
set_option linter.unusedSimpArgs false
namespace Go.Proofs.YtmelbclhkkbmiaaDoor.K
open Go Go.RowKit

/-! ### Strings and structs that are compared; maps that are made -/
def bstr (l : List UInt8) : ByteArray := ⟨l.toArray⟩
theorem beqS (a b : ByteArray) : (a.toList == b.toList) = decide (a = b) := by
  rw [ByteArray.toList_eq, ByteArray.toList_eq]
  by_cases h : a = b
  · subst h; simp
  · have : ¬ (a.data = b.data) := fun e => h (ByteArray.ext e)
    simp [h, this]
section
variable {P : Program} {d : Nat} {xs ys : Array Value} {f : Field} {fs : List Field} {a b : Value} {r s : Bool}
theorem bn_eqlD {t : TypeId} {x y : Operand} {a b : ByteArray} : BR P .eql t x y (.string a) (.string b) (.bool (decide (a = b))) := by
  have := bn_eqlS (P := P) (t := t) (x := x) (y := y) (a := a) (b := b)
  rwa [beqS] at this
theorem bn_neqD {t : TypeId} {x y : Operand} {a b : ByteArray} : BR P .neq t x y (.string a) (.string b) (.bool (!decide (a = b))) := by
  have := bn_neqS (P := P) (t := t) (x := x) (y := y) (a := a) (b := b)
  rwa [beqS] at this
/-- Two fields alike, or not. -/
def FEq (P : Program) (xs ys : Array Value) (f : Field) (r : Bool) : Prop := ∀ w, ∃ a b, (part f.type xs f.offset).run P w = .ok a w ∧ (part f.type ys f.offset).run P w = .ok b w ∧ ∀ d, (Op.equalIn (d + 1) f.type a b).run P w = .ok r w
theorem eqf_nil (w : World) : (Op.eqFields d xs ys []).run P w = .ok true w := by simp [Op.eqFields]
theorem eqf_cons (hn : (f.name == "_") = false) (hf : FEq P xs ys f r) (hr : ∀ w, (Op.eqFields (d + 1) xs ys fs).run P w = .ok s w) (w : World) : (Op.eqFields (d + 1) xs ys (f :: fs)).run P w = .ok (r && s) w := by
  have hn' : f.name ≠ "_" := by simpa using hn
  obtain ⟨a, b, ha, hb, he⟩ := hf w
  rw [Op.eqFields]
  simp only [if_pos hn', Sem.run_bind, ha, hb, he d, Result.andThen_ok]
  cases r
  · simp
  · simpa using hr w
theorem part_one {t : TypeId} {xs : Array Value} {i : Nat} {v : Value} (hg : ∀ w, (isAgg t).run P w = .ok false w) (hv : xs[i]? = some v) (w : World) : (part t xs i).run P w = .ok v w := by
  simp [part, hg w, hv]
theorem feq_int {k : IntKind} {p q : Int} (hg : ∀ w, (isAgg f.type).run P w = .ok false w) (hu : P.underlying f.type = some (.int k)) (hx : xs[f.offset]? = some (.int k p)) (hy : ys[f.offset]? = some (.int k q)) : FEq P xs ys f (decide (p = q)) :=
  fun w => ⟨_, _, part_one hg hx w, part_one hg hy w, fun d => by rw [run_equalIn_int w d f.type k k p q hu]; congr 1⟩
theorem feq_bool {p q : Bool} (hg : ∀ w, (isAgg f.type).run P w = .ok false w) (hu : P.underlying f.type = some .bool) (hx : xs[f.offset]? = some (.bool p)) (hy : ys[f.offset]? = some (.bool q)) : FEq P xs ys f (decide (p = q)) :=
  fun w => ⟨_, _, part_one hg hx w, part_one hg hy w, fun d => by rw [run_equalIn_bool' w d f.type p q hu]; cases p <;> cases q <;> rfl⟩
theorem feq_str {p q : ByteArray} (hg : ∀ w, (isAgg f.type).run P w = .ok false w) (hu : P.underlying f.type = some .string) (hx : xs[f.offset]? = some (.string p)) (hy : ys[f.offset]? = some (.string q)) : FEq P xs ys f (decide (p = q)) :=
  fun w => ⟨_, _, part_one hg hx w, part_one hg hy w, fun d => by rw [run_equalIn_string w d f.type p q hu, beqS]⟩
theorem bn_eqlA {t : TypeId} {x y : Operand} {fs : Array Field} (hu : P.underlying t = some (.struct fs)) (hp : P.stoodInHeld t = false) (hm : P.eqGuardType P.depth t = false) (h : ∀ w, (Op.eqFields 9999 xs ys fs.toList).run P w = .ok r w) : BR P .eql t x y (.agg xs) (.agg ys) (.bool r) := fun w => by
  have hf : P.fieldsOf t = fs := by simp [Program.fieldsOf, hu]
  have he : (Op.equalIn 10000 t (.agg xs) (.agg ys)).run P w = .ok r w := by
    rw [run_equalIn_struct (P := P) w 9999 t xs ys (by rw [hf]; exact hu) hp, hf]; exact h w
  rw [Sem.run_bind, run_eqGuard_agg w .eql t x y xs ys hm, Result.andThen_ok, run_eql_struct, he]; rfl
theorem bn_neqA {t : TypeId} {x y : Operand} {fs : Array Field} (hu : P.underlying t = some (.struct fs)) (hp : P.stoodInHeld t = false) (hm : P.eqGuardType P.depth t = false) (h : ∀ w, (Op.eqFields 9999 xs ys fs.toList).run P w = .ok r w) : BR P .neq t x y (.agg xs) (.agg ys) (.bool (!r)) := fun w => by
  have hf : P.fieldsOf t = fs := by simp [Program.fieldsOf, hu]
  have he : (Op.equalIn 10000 t (.agg xs) (.agg ys)).run P w = .ok r w := by
    rw [run_equalIn_struct (P := P) w 9999 t xs ys (by rw [hf]; exact hu) hp, hf]; exact h w
  rw [Sem.run_bind, run_eqGuard_agg w .neq t x y xs ys hm, Result.andThen_ok, run_neq_struct, he]; rfl
theorem bn_cast {op : BinOp} {t : TypeId} {x y : Operand} {a b : Value} {r s : Bool} (h : BR P op t x y a b (.bool r)) (e : r = s) : BR P op t x y a b (.bool s) := e ▸ h
end
section
variable {P : Program} {ops : Array Oper} {Q : Exit → Act → World → Prop} {e : Ent} {n : Nat} {L : List (Nat × Value)} {I : Imm} {own : List Res}
/-- A map of the call's own. -/
def mapR (g : Nat) (es : Array MapEntry) (clock : Nat) : Res := obj g (.map es clock)
theorem Run.makeMap {o : Oper} {rest : List Oper} {d : Nat} {t : TypeId} (ho : o.op = .makeMap t none) (hg : o.guard = none) (hd : o.dst = some d) (hn : d < n)
    (K : ∀ g, Run P ops Q rest e n ((d, .map (some g)) :: L) I (mapR g #[] 0 :: own)) : Run P ops Q (o :: rest) e n L I own :=
  Run.eff hg hd hn fun a w hF hS => ⟨_, _, I, _, by simp only [execOp, ho, Instr.makeMap, Sem.run_bind, run_newObj]; rfl,
    hS.add (r' := mapR w.heap.size #[] 0) (w' := w.alloc (.map #[] 0)) (heap_alloc_new w _) (fun k hk => by simp [mapR, obj] at hk; omega) (by simp [mapR, obj]) (fun k hk => Below.heap_alloc w _ k hk) (by simp) rfl rfl rfl, K w.heap.size⟩
end
/-- A contract whose answer is a struct without slices: one value. -/
theorem con_of {α : Type} {P : Program} {f : FuncId} {args : Array Value} {I : Imm} {T : Ty α} {x : α} {cs : List Value} (hT : ∀ J cs', T.rd J cs' x → cs' = cs) (h : Con P f args I [] (Ret1 T.g x)) : Con P f args I [] fun _ o v => o = [] ∧ v = .agg cs.toArray :=
  h.mono fun J o v _ ⟨h1, cs', h2, h3⟩ => ⟨h1, by rw [h2, hT J cs' h3]; rfl⟩
end Go.Proofs.YtmelbclhkkbmiaaDoor.K
