/- Rules for strings and structs that are compared, and for maps that are made. No condition beyond those that each theorem names. -/
import Derived.Test.YtmelbclhkkbmiaaGreatK6
import Derived.Laws.StructEq
import Derived.LoopN
set_option linter.unusedVariables false
set_option linter.unusedSimpArgs false
namespace Go.Proofs.YtmelbclhkkbmiaaGreat.K
open Go Go.RowKit

/-! ### Strings and structs that are compared; maps that are made -/
def bstr (l : List UInt8) : ByteArray := ⟨l.toArray⟩
theorem beqS (a b : ByteArray) : (a.toList == b.toList) = decide (a = b) := by
  rw [ByteArray.toList_eq, ByteArray.toList_eq]
  by_cases h : a = b
  · subst h; simp
  · have : ¬ (a.data = b.data) := fun e => h (ByteArray.ext e)
    simp [h, this]
section
variable {P : Program} {d : Nat} {xs ys : Array Value} {f : Field} {fs : List Field} {a b : Value} {r s : Bool}
theorem bn_eqlD {t : TypeId} {x y : Operand} {a b : ByteArray} : BR P .eql t x y (.string a) (.string b) (.bool (decide (a = b))) := by
  have := bn_eqlS (P := P) (t := t) (x := x) (y := y) (a := a) (b := b)
  rwa [beqS] at this
theorem bn_neqD {t : TypeId} {x y : Operand} {a b : ByteArray} : BR P .neq t x y (.string a) (.string b) (.bool (!decide (a = b))) := by
  have := bn_neqS (P := P) (t := t) (x := x) (y := y) (a := a) (b := b)
  rwa [beqS] at this
theorem bn_shlB {t : TypeId} {x y : Operand} {a : UInt8} : BR P .shl t x y (.int .i64 (a.toNat : Int)) (.int .u64 8) (.int .i64 ((a.toNat * 256 : Nat) : Int)) := by
  have h := bn_shl (P := P) (t := t) (x := x) (y := y) (k := .i64) (yk := .u64) (a := (a.toNat : Int)) (c := 8) (by decide)
  have hl := a.toNat_lt
  have e : (a.toNat : Int) * 2 ^ 8 = ((a.toNat * 256 : Nat) : Int) := by omega
  rw [e, IntWalk.i64_in _ (by omega)] at h
  exact h
theorem bn_orB {t : TypeId} {x y : Operand} {a b : UInt8} : BR P .or t x y (.int .i64 ((a.toNat * 256 : Nat) : Int)) (.int .i64 (b.toNat : Int)) (.int .i64 ((a.toNat * 256 + b.toNat : Nat) : Int)) :=
  bn_bits (by
    have ha := a.toNat_lt
    have hb := b.toNat_lt
    have e : a.toNat * 256 ||| b.toNat = a.toNat * 256 + b.toNat := by
      have := Nat.two_pow_add_eq_or_of_lt (i := 8) (b := b.toNat) (by omega) a.toNat
      rw [Nat.mul_comm]; exact this.symm
    show IntKind.i64.wrap ((BitVec.ofInt 64 ((a.toNat * 256 : Nat) : Int) ||| BitVec.ofInt 64 ((b.toNat : Nat) : Int)).toNat : Int) = _
    rw [BitVec.toNat_or, BitVec.ofInt_natCast, BitVec.ofInt_natCast, BitVec.toNat_ofNat, BitVec.toNat_ofNat, Nat.mod_eq_of_lt (by omega), Nat.mod_eq_of_lt (by omega), e]
    exact IntWalk.i64_in _ (by omega)) (.inr (.inl rfl))
/-- Two fields alike, or not. -/
def FEq (P : Program) (xs ys : Array Value) (f : Field) (r : Bool) : Prop := ∀ w, ∃ a b, (part f.type xs f.offset).run P w = .ok a w ∧ (part f.type ys f.offset).run P w = .ok b w ∧ ∀ d, (Op.equalIn (d + 1) f.type a b).run P w = .ok r w
theorem eqf_nil (w : World) : (Op.eqFields d xs ys []).run P w = .ok true w := by simp [Op.eqFields]
theorem eqf_cons (hn : (f.name == "_") = false) (hf : FEq P xs ys f r) (hr : ∀ w, (Op.eqFields (d + 1) xs ys fs).run P w = .ok s w) (w : World) : (Op.eqFields (d + 1) xs ys (f :: fs)).run P w = .ok (r && s) w := by
  have hn' : f.name ≠ "_" := by simpa using hn
  obtain ⟨a, b, ha, hb, he⟩ := hf w
  rw [Op.eqFields]
  simp only [if_pos hn', Sem.run_bind, ha, hb, he d, Result.andThen_ok]
  cases r
  · simp
  · simpa using hr w
theorem part_one {t : TypeId} {xs : Array Value} {i : Nat} {v : Value} (hg : ∀ w, (isAgg t).run P w = .ok false w) (hv : xs[i]? = some v) (w : World) : (part t xs i).run P w = .ok v w := by
  simp [part, hg w, hv]
theorem feq_int {k : IntKind} {p q : Int} (hg : ∀ w, (isAgg f.type).run P w = .ok false w) (hu : P.underlying f.type = some (.int k)) (hx : xs[f.offset]? = some (.int k p)) (hy : ys[f.offset]? = some (.int k q)) : FEq P xs ys f (decide (p = q)) :=
  fun w => ⟨_, _, part_one hg hx w, part_one hg hy w, fun d => by rw [run_equalIn_int w d f.type k k p q hu]; congr 1⟩
theorem feq_bool {p q : Bool} (hg : ∀ w, (isAgg f.type).run P w = .ok false w) (hu : P.underlying f.type = some .bool) (hx : xs[f.offset]? = some (.bool p)) (hy : ys[f.offset]? = some (.bool q)) : FEq P xs ys f (decide (p = q)) :=
  fun w => ⟨_, _, part_one hg hx w, part_one hg hy w, fun d => by rw [run_equalIn_bool' w d f.type p q hu]; cases p <;> cases q <;> rfl⟩
theorem feq_str {p q : ByteArray} (hg : ∀ w, (isAgg f.type).run P w = .ok false w) (hu : P.underlying f.type = some .string) (hx : xs[f.offset]? = some (.string p)) (hy : ys[f.offset]? = some (.string q)) : FEq P xs ys f (decide (p = q)) :=
  fun w => ⟨_, _, part_one hg hx w, part_one hg hy w, fun d => by rw [run_equalIn_string w d f.type p q hu, beqS]⟩
theorem bn_eqlA {t : TypeId} {x y : Operand} {fs : Array Field} (hu : P.underlying t = some (.struct fs)) (hp : P.stoodInHeld t = false) (hm : P.eqGuardType P.depth t = false) (h : ∀ w, (Op.eqFields 9999 xs ys fs.toList).run P w = .ok r w) : BR P .eql t x y (.agg xs) (.agg ys) (.bool r) := fun w => by
  have hf : P.fieldsOf t = fs := by simp [Program.fieldsOf, hu]
  have he : (Op.equalIn 10000 t (.agg xs) (.agg ys)).run P w = .ok r w := by
    rw [run_equalIn_struct (P := P) w 9999 t xs ys (by rw [hf]; exact hu) hp, hf]; exact h w
  rw [Sem.run_bind, run_eqGuard_agg w .eql t x y xs ys hm, Result.andThen_ok, run_eql_struct, he]; rfl
theorem bn_neqA {t : TypeId} {x y : Operand} {fs : Array Field} (hu : P.underlying t = some (.struct fs)) (hp : P.stoodInHeld t = false) (hm : P.eqGuardType P.depth t = false) (h : ∀ w, (Op.eqFields 9999 xs ys fs.toList).run P w = .ok r w) : BR P .neq t x y (.agg xs) (.agg ys) (.bool (!r)) := fun w => by
  have hf : P.fieldsOf t = fs := by simp [Program.fieldsOf, hu]
  have he : (Op.equalIn 10000 t (.agg xs) (.agg ys)).run P w = .ok r w := by
    rw [run_equalIn_struct (P := P) w 9999 t xs ys (by rw [hf]; exact hu) hp, hf]; exact h w
  rw [Sem.run_bind, run_eqGuard_agg w .neq t x y xs ys hm, Result.andThen_ok, run_neq_struct, he]; rfl
theorem bn_cast {op : BinOp} {t : TypeId} {x y : Operand} {a b : Value} {r s : Bool} (h : BR P op t x y a b (.bool r)) (e : r = s) : BR P op t x y a b (.bool s) := e ▸ h
end
section
variable {P : Program} {ops : Array Oper} {Q : Exit → Act → World → Prop} {e : Ent} {n : Nat} {L : List (Nat × Value)} {I : Imm} {own : List Res}
/-- A map of the call's own. -/
def mapR (g : Nat) (es : Array MapEntry) (clock : Nat) : Res := obj g (.map es clock)
theorem Run.makeMap {o : Oper} {rest : List Oper} {d : Nat} {t : TypeId} (ho : o.op = .makeMap t none) (hg : o.guard = none) (hd : o.dst = some d) (hn : d < n)
    (K : ∀ g, Run P ops Q rest e n ((d, .map (some g)) :: L) I (mapR g #[] 0 :: own)) : Run P ops Q (o :: rest) e n L I own :=
  Run.eff hg hd hn fun a w hF hS => ⟨_, _, I, _, by simp only [execOp, ho, Instr.makeMap, Sem.run_bind, run_newObj]; rfl,
    hS.add (r' := mapR w.heap.size #[] 0) (w' := w.alloc (.map #[] 0)) (heap_alloc_new w _) (fun k hk => by simp [mapR, obj] at hk; omega) (by simp [mapR, obj]) (fun k hk => Below.heap_alloc w _ k hk) (by simp) rfl rfl rfl, K w.heap.size⟩
end
theorem RunQ.nilrow {Q : Exit → Act → World → Prop} {x : Exit} {e : Ent} {n : Nat} {L : List (Nat × Value)} {I : Imm} {own : List Res} (A : Option Addr) (t : TypeId) (sz : Nat) (K : RunQ Q x e n L I (row (.slice A 0 0) t sz [] :: own)) : RunQ Q x e n L I own := fun a w hF hS => K a w hF (hS.nilrow A t sz)
theorem row_len {α : Type} {T : Ty α} {I : Imm} {xs : List Value} {X : List α} {m sz : Nat} (h : T.all I xs X) (hm : X.length = m) (hz : T.sz = sz) : xs.length = m * sz := by
  subst hm; subst hz; exact h.1
/-! A loop that is walked round by round. -/
theorem RunC.loopN {P : Program} {Q : Exit → Act → World → Prop} {c : Code} {e : Ent} {n : Nat} {L : List (Nat × Value)} {I : Imm} {own : List Res} (m : Nat) (h : RunC P (Exit.then (Code.rounds P c Q m) Q) c e n L I own) : RunC P Q (.loop c) e n L I own := fun a w hF hS => wp_loop_rounds (m + 1) (h a w hF hS)
theorem RunQ.more {P : Program} {Q : Exit → Act → World → Prop} {c : Code} {e : Ent} {n : Nat} {L : List (Nat × Value)} {I : Imm} {own : List Res} {m : Nat} (h : RunC P (Exit.then (Code.rounds P c Q m) Q) c e n L I own) : RunQ (Exit.then (Code.rounds P c Q (m + 1)) Q) .normal e n L I own := fun a w hF hS => h a w hF hS
theorem permC {own own' rest : List Res} {r : Res} {i : Nat} (hi : own[i]? = some r) (he : own.eraseIdx i = own') (h : rest.Perm own') : (r :: rest).Perm own := (List.Perm.cons r h).trans (perm_at hi he)
/-! Rows of the call's own that another function reads, and that stay its own. -/
section
variable {P : Program} {ops : Array Oper} {Q : Exit → Act → World → Prop} {e : Ent} {n : Nat} {L : List (Nat × Value)} {I : Imm} {own : List Res}
def Bor (P : Program) (e : Ent) (I : Imm) (own : List Res) (f : FuncId) (args : Array Value) (Φ : Imm → List Res → Value → Prop) : Prop := ∀ w, S e w I own → ∃ J, St w J [] ∧ Con P f args J [] Φ
theorem Bor.base {f : FuncId} {args : Array Value} {Φ : Imm → List Res → Value → Prop} (h : Con P f args I [] Φ) : Bor P e I own f args Φ := fun w hS => ⟨I, hS.st.sub ⟨own, by simp⟩, h⟩
theorem Bor.row {f : FuncId} {args : Array Value} {Φ : Imm → List Res → Value → Prop} {A : Option Addr} {m c sz : Nat} {xs : List Value} {t : TypeId} {own' : List Res} (i : Nat) (hi : own[i]? = some (row (.slice A m c) t sz xs)) (he : own.eraseIdx i = own')
    (h : ∀ J, I.le J → Raw J A m c sz xs → Bor P e J own' f args Φ) : Bor P e I own f args Φ := fun w hS => by
  obtain ⟨J, hle, hJ, hS'⟩ := hS.freeze (perm_at hi he)
  exact h J hle (row_Raw (own_holds hS.st hi) hJ) w hS'
theorem Run.callGY {o : Oper} {rest : List Oper} {d dj j : Nat} {b b' : Bool} {o' : Oper} {f : FuncId} {vs : List Value} {own1 own2 : List Res} {Qc : Imm → List Res → Value → Prop} (hen : Enters P o n L f vs) (hc : Con P f vs.toArray I own1 Qc) (hp : (own1 ++ own2).Perm own)
    (hg : o.guard = some (j, b)) (ho : ops[j]? = some o') (hdj : o'.dst = some dj) (hb : get L dj = some (.bool b')) (hbb : b' = b) (hd : o.dst = some d) (hn : d < n)
    (K : ∀ J own1' v, I.le J → Qc J own1' v → Run P ops Q rest e n ((d, v) :: L) J (own1' ++ own2)) : Run P ops Q (o :: rest) e n L I own := fun a w hF hS => by
  subst hbb
  refine wpList_step fun K' hK => ?_
  have hw : Region.wanted o (yielded ops a.tmps) = true := by simp [Region.wanted, hg, yielded_of hF ho hdj hb]
  rw [if_pos hw]
  unfold Oper.wp
  rw [hen a w hF, Oper.upon_enter]
  refine (hc w (hS.st.sub ⟨own2, hp⟩)).mono ?_
  rintro x w' ⟨J, own1', v, rfl, hs, hu, hq⟩
  rw [hd]
  exact hK _ _ (K J own1' v hu.le hq _ w' (hF.put hn v) (hS.after hp hs hu))
theorem Run.callVB {o : Oper} {rest : List Oper} {d : Nat} {f : FuncId} {vs : List Value} {v : Value} {p : Prop} (hen : Enters P o n L f vs) (hc : Bor P e I own f vs.toArray fun _ o' v' => o' = [] ∧ v' = v ∧ p) (hg : o.guard = none) (hd : o.dst = some d) (hn : d < n)
    (K : p → Run P ops Q rest e n ((d, v) :: L) I own) : Run P ops Q (o :: rest) e n L I own := fun a w hF hS => by
  refine wpList_plain hg fun K' hK => ?_
  unfold Oper.wp
  rw [hen a w hF, Oper.upon_enter]
  obtain ⟨J, hJ, hC⟩ := hc w hS
  refine (hC w hJ).mono ?_
  rintro x w' ⟨J', own1', u, rfl, hs, hu, rfl, rfl, hp⟩
  rw [hd]
  have hu' : Upd w I (keysOf []) w' I [] := ⟨hu.os, hu.tape, hu.output, hu.size, hu.frame, Imm.le.refl _, fun _ _ _ => rfl, by simp⟩
  have hs' : St w' I [] := ⟨fun k o h => (hu.frame k (lt_of_some (hS.st.ok k o h)) (by simp)).trans (hS.st.ok k o h), (fun _ h => absurd h (by simp)), (fun _ h => absurd h (by simp)), by simp⟩
  exact hK _ _ (K hp _ w' (hF.put hn u) (by simpa using hS.after (own2 := own) (by simp) hs' hu'))
theorem Run.callVBYes {o : Oper} {rest : List Oper} {d dj j : Nat} {b b' : Bool} {o' : Oper} {f : FuncId} {vs : List Value} {v : Value} {p : Prop} (hen : Enters P o n L f vs) (hc : Bor P e I own f vs.toArray fun _ o' v' => o' = [] ∧ v' = v ∧ p)
    (hg : o.guard = some (j, b)) (ho : ops[j]? = some o') (hdj : o'.dst = some dj) (hb : get L dj = some (.bool b')) (hbb : b' = b) (hd : o.dst = some d) (hn : d < n)
    (K : p → Run P ops Q rest e n ((d, v) :: L) I own) : Run P ops Q (o :: rest) e n L I own := fun a w hF hS => by
  subst hbb
  refine wpList_step fun K' hK => ?_
  have hw : Region.wanted o (yielded ops a.tmps) = true := by simp [Region.wanted, hg, yielded_of hF ho hdj hb]
  rw [if_pos hw]
  unfold Oper.wp
  rw [hen a w hF, Oper.upon_enter]
  obtain ⟨J, hJ, hC⟩ := hc w hS
  refine (hC w hJ).mono ?_
  rintro x w' ⟨J', own1', u, rfl, hs, hu, rfl, rfl, hp⟩
  rw [hd]
  have hu' : Upd w I (keysOf []) w' I [] := ⟨hu.os, hu.tape, hu.output, hu.size, hu.frame, Imm.le.refl _, fun _ _ _ => rfl, by simp⟩
  have hs' : St w' I [] := ⟨fun k o h => (hu.frame k (lt_of_some (hS.st.ok k o h)) (by simp)).trans (hS.st.ok k o h), (fun _ h => absurd h (by simp)), (fun _ h => absurd h (by simp)), by simp⟩
  exact hK _ _ (K hp _ w' (hF.put hn u) (by simpa using hS.after (own2 := own) (by simp) hs' hu'))
end
/-- A contract whose answer is a struct without slices: one value. -/
theorem con_of {α : Type} {P : Program} {f : FuncId} {args : Array Value} {I : Imm} {T : Ty α} {x : α} {cs : List Value} (hT : ∀ J cs', T.rd J cs' x → cs' = cs) (h : Con P f args I [] (Ret1 T.g x)) : Con P f args I [] fun _ o v => o = [] ∧ v = .agg cs.toArray :=
  h.mono fun J o v _ ⟨h1, cs', h2, h3⟩ => ⟨h1, by rw [h2, hT J cs' h3]; rfl⟩
/-! Short words for what is printed often. -/
section
variable {P : Program} {ops : Array Oper} {Q : Exit → Act → World → Prop} {e : Ent} {n : Nat} {L : List (Nat × Value)} {I : Imm} {own : List Res}
theorem Run.mv {o : Oper} {rest : List Oper} {d : Nat} {x : Operand} {v : Value} (K : Run P ops Q rest e n ((d, v) :: L) I own) (ho : o.op = .move x := by rfl) (hx : evO L x = some v := by rfl) (hg : o.guard = none := by rfl) (hd : o.dst = some d := by rfl) (hn : d < n := by decide) : Run P ops Q (o :: rest) e n L I own :=
  Run.y (y_move ho hx) hg hd hn K
theorem Run.as {o : Oper} {rest : List Oper} {d : Nat} {x : Operand} {v : Value} (K : Run P ops Q rest e n ((d, v) :: L) I own) (ho : o.op = .assign x := by rfl) (hx : evO L x = some v := by rfl) (hg : o.guard = none := by rfl) (hd : o.dst = some d := by rfl) (hn : d < n := by decide) : Run P ops Q (o :: rest) e n L I own :=
  Run.y (y_assign ho hx) hg hd hn K
theorem Run.m {o : Oper} {rest : List Oper} {d : Nat} {v : Value} (hy : Yld P o n L I own v) (K : Run P ops Q rest e n ((d, v) :: L) I own) (hg : o.guard = none := by rfl) (hd : o.dst = some d := by rfl) (hn : d < n := by decide) : Run P ops Q (o :: rest) e n L I own :=
  Run.y hy hg hd hn K
theorem RunC.sr {id : Nat} {l : List Oper} {y : Code} (h : Run P l.toArray (Exit.then (y.wp P Q) Q) l e n L I own) : RunC P Q (.seq (.region id l.toArray false) y) e n L I own := .seq (.region h)
theorem Run.nx {y : Code} (h : RunC P Q y e n L I own) : Run P ops (Exit.then (y.wp P Q) Q) [] e n L I own := .nil (.next h)
theorem Sub.of {L' L : List (Nat × Value)} (h : (L'.map fun x => get L x.1) = L'.map fun x => some x.2) : Sub L' L := by
  induction L' with
  | nil => exact Sub.nil
  | cons x l ih =>
    simp only [List.map_cons, List.cons.injEq] at h
    exact Sub.cons h.1 (ih h.2)
theorem Sub.tl' {L' : List (Nat × Value)} (k : Nat) (h : ((L'.take k).all fun x => (get (L'.drop k) x.1).isNone) = true) : Sub (L'.drop k) L' := by
  induction k generalizing L' with
  | zero => exact Sub.refl
  | succ k ih =>
    cases L' with
    | nil => exact Sub.refl
    | cons x l =>
      simp only [List.take_succ_cons, List.all_cons, List.drop_succ_cons, Bool.and_eq_true, Option.isNone_iff_eq_none] at h ⊢
      exact Sub.push (ih h.2) h.1
theorem Sub.tl {L L' : List (Nat × Value)} (k : Nat) (h : L'.drop k = L) (h2 : ((L'.take k).all fun x => (get L x.1).isNone) = true) : Sub L L' := by
  subst h; exact Sub.tl' k h2
end
theorem z1 (a b : Bool) : ((a && b) = true) = (a = true ∧ b = true) := Bool.and_eq_true a b
theorem z2 (a b : Bool) : ((a || b) = true) = (a = true ∨ b = true) := Bool.or_eq_true a b
theorem z3 (a b : Bool) : (a && b) = false ↔ a = false ∨ b = false := Bool.and_eq_false_iff
theorem z4 (a b : Bool) : (a || b) = false ↔ a = false ∧ b = false := Bool.or_eq_false_iff
theorem z5 (p : Prop) [Decidable p] : (decide p = true) = p := decide_eq_true_eq
theorem z6 (p : Prop) [Decidable p] : (decide p = false) ↔ ¬ p := decide_eq_false_iff_not
theorem z7 (b : Bool) : ((!b) = true) = (b = false) := Bool.not_eq_true' b
theorem z8 (b : Bool) : ((!b) = false) = (b = true) := Bool.not_eq_false' b
theorem z9 (b : Bool) : (¬ b = true) = (b = false) := Bool.not_eq_true b
theorem z10 (b : Bool) : (¬ b = false) = (b = true) := Bool.not_eq_false b
theorem z11 (a b : Int) : ¬ a < b ↔ b ≤ a := Int.not_lt
theorem z12 (a b : Int) : ¬ a ≤ b ↔ b < a := Int.not_le
theorem z13 {α : Type} [LE α] (a b : α) : a ≥ b ↔ b ≤ a := Iff.rfl
theorem z14 {α : Type} [LT α] (a b : α) : a > b ↔ b < a := Iff.rfl
theorem z15 {α : Type} (a b : α) : a ≠ b ↔ ¬ a = b := Iff.rfl
theorem z16 (p : Prop) [Decidable p] : ¬ ¬ p ↔ p := Decidable.not_not
end Go.Proofs.YtmelbclhkkbmiaaGreat.K
