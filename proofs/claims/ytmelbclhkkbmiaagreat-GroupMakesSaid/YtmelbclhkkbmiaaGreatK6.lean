/- Rules for data of several cells, calls by contract, copy and make. No condition beyond those that each theorem names. -/
import Derived.Test.YtmelbclhkkbmiaaGreatK5
set_option linter.unusedVariables false
set_option linter.unusedSimpArgs false
namespace Go.Proofs.YtmelbclhkkbmiaaGreat.K
open Go Go.RowKit

section
variable {P : Program} {ops : Array Oper} {Q : Exit → Act → World → Prop} {e : Ent} {n : Nat} {L : List (Nat × Value)} {I : Imm} {own : List Res}

/-! ### Cuts and loops, by what holds there -/
theorem RunC.cut {x y : Code} (J : Act → World → Prop) (hJ : ∀ a w, J a w → y.wp P Q a w) (h : RunC P (Exit.then J Q) x e n L I own) : RunC P (Exit.then (y.wp P Q) Q) x e n L I own := fun a w hF hS =>
  wp_mono (h a w hF hS) fun z a w hz => by cases z <;> first | exact hz | exact hJ a w hz
theorem RunQ.thenI {J : Act → World → Prop} (h : ∀ a w, Frm a n L → S e w I own → J a w) : RunQ (Exit.then J Q) .normal e n L I own := h
theorem RunC.loopX {c : Code} (Inv : Nat → Act → World → Prop) (h0 : ∀ a w, Frm a n L → S e w I own → ∃ m, Inv m a w)
    (round : ∀ m a w, Inv m a w → c.wp P (Exit.then (fun a' w' => ∃ m', m' < m ∧ Inv m' a' w') Q) a w) : RunC P Q (.loop c) e n L I own := fun a w hF hS =>
  wp_loop_m Inv (h0 a w hF hS) round
theorem RunC.go {c : Code} (h : RunC P Q c e n L I own) {a : Act} {w : World} (hF : Frm a n L) (hS : S e w I own) : c.wp P Q a w := h a w hF hS

/-! ### Answers -/
structure TyV (α : Type) extends Ty α where
  v : List Value → Value
def Ret1 {α : Type} (T : TyV α) (x : α) : Imm → List Res → Value → Prop := fun J o v => o = [] ∧ ∃ cs, v = T.v cs ∧ T.rd J cs x
def Ret2 {α β : Type} (T : TyV α) (U : TyV β) (x : α) (y : β) : Imm → List Res → Value → Prop := fun J o v => o = [] ∧ ∃ cs ds, v = .tuple #[T.v cs, U.v ds] ∧ T.rd J cs x ∧ U.rd J ds y
def Ret3 {α β γ : Type} (T : TyV α) (U : TyV β) (V : TyV γ) (x : α) (y : β) (z : γ) : Imm → List Res → Value → Prop := fun J o v =>
  o = [] ∧ ∃ cs ds es, v = .tuple #[T.v cs, U.v ds, V.v es] ∧ T.rd J cs x ∧ U.rd J ds y ∧ V.rd J es z
def Ty.o {α : Type} (T : Ty α) : TyV α := { T with v := fun cs => cs.headD undef }
def Ty.g {α : Type} (T : Ty α) : TyV α := { T with v := fun cs => .agg cs.toArray }

/-! ### Rows of the call's own, read and written, as data -/
theorem all_get {α : Type} {T : Ty α} {cells : List Value} {xs : List α} (h : T.all I cells xs) {k : Nat} {x : α} (hx : xs[k]? = some x) : ∃ cs, T.rd I cs x ∧ (cells.drop (k * T.sz)).take T.sz = cs ∧ ∀ j v, cs[j]? = some v → cells[k * T.sz + j]? = some v := by
  refine ⟨_, h.2 k x hx, rfl, fun j v hv => ?_⟩
  rw [List.getElem?_take] at hv
  split at hv
  · rwa [List.getElem?_drop] at hv
  · cases hv
theorem all_set {α : Type} {T : Ty α} {cells cs : List Value} {xs : List α} (h : T.all I cells xs) {k : Nat} {x : α} (hk : k < xs.length) (hx : T.rd I cs x) : T.all I (cells.take (k * T.sz) ++ cs ++ cells.drop (k * T.sz + cs.length)) (xs.set k x) := by
  have hc := T.len hx
  have hle : k * T.sz + T.sz ≤ xs.length * T.sz := by rw [← Nat.succ_mul]; exact Nat.mul_le_mul_right _ hk
  have hl := h.1
  refine ⟨?_, fun j y hy => ?_⟩
  · simp only [List.length_append, List.length_take, List.length_drop, List.length_set, hc, hl]; omega
  · by_cases hjk : j = k
    · subst hjk
      have hy' : x = y := by simpa [hk] using hy
      subst hy'
      rw [List.append_assoc, List.drop_append_of_le_length (by rw [List.length_take]; omega), List.drop_eq_nil_of_le (by rw [List.length_take]; omega), List.nil_append, List.take_append_of_le_length (by omega), List.take_of_length_le (by omega)]
      exact hx
    · rw [List.getElem?_set_ne (fun e => hjk e.symm)] at hy
      have hj := (List.getElem?_eq_some_iff.1 hy).1
      have h2 := h.2 j y hy
      have hjl : j * T.sz + T.sz ≤ xs.length * T.sz := by rw [← Nat.succ_mul]; exact Nat.mul_le_mul_right _ hj
      rcases Nat.lt_or_ge j k with h3 | h3
      · have h4 : j * T.sz + T.sz ≤ k * T.sz := by rw [← Nat.succ_mul]; exact Nat.mul_le_mul_right _ h3
        rw [List.append_assoc, List.drop_append_of_le_length (by rw [List.length_take]; omega), List.take_append_of_le_length (by rw [List.length_drop, List.length_take]; omega), List.drop_take, List.take_take, Nat.min_eq_left (by omega)]
        exact h2
      · have h4 : k * T.sz + T.sz ≤ j * T.sz := by rw [← Nat.succ_mul]; exact Nat.mul_le_mul_right _ (by omega)
        have h5 : (cells.take (k * T.sz) ++ cs ++ cells.drop (k * T.sz + cs.length)).drop (j * T.sz) = cells.drop (j * T.sz) := by
          rw [List.drop_append, List.drop_eq_nil_of_le (by simp only [List.length_append, List.length_take]; omega), List.nil_append, List.drop_drop]
          congr 1
          simp only [List.length_append, List.length_take]; omega
        rw [h5]; exact h2
theorem Sl.of_row {α : Type} {T : Ty α} {A : Option Addr} {c : Nat} {cells : List Value} {xs : List α} (hr : Raw I A xs.length c T.sz cells) (ha : T.all I cells xs) : Sl T I A c xs := ⟨cells, hr, ha⟩
theorem Sl.of_rowN {α : Type} {T : Ty α} {A : Option Addr} {m c sz : Nat} {cells : List Value} {xs : List α} (hr : Raw I A m c sz cells) (hm : xs.length = m) (hz : T.sz = sz) (ha : T.all I cells xs) : Sl T I A c xs := by
  subst hm; subst hz; exact ⟨cells, hr, ha⟩
theorem rd_eq {α : Type} {T : Ty α} {cs : List Value} {x y : α} (h : T.rd I cs x) (e : x = y) : T.rd I cs y := e ▸ h
theorem all_lit1 {α : Type} {T : Ty α} {cs : List Value} {x : α} (h : T.rd I cs x) : T.all I cs [x] := all_snoc all_nil h
/-- The answer of a contract, as one value. -/
theorem con_int {f : FuncId} {args : Array Value} {x : Int} (h : Con P f args I [] (Ret1 tInt.o x)) : Con P f args I [] fun _ o v => o = [] ∧ v = .int .i64 x := h.mono fun J o v _ ⟨h1, cs, h2, h3⟩ => ⟨h1, by rw [h2, h3.1]; rfl⟩
theorem con_bool {f : FuncId} {args : Array Value} {x : Bool} (h : Con P f args I [] (Ret1 tBool.o x)) : Con P f args I [] fun _ o v => o = [] ∧ v = .bool x := h.mono fun J o v _ ⟨h1, cs, h2, h3⟩ => ⟨h1, by rw [h2, show cs = _ from h3]; rfl⟩
theorem con_u8 {f : FuncId} {args : Array Value} {x : UInt8} (h : Con P f args I [] (Ret1 tU8.o x)) : Con P f args I [] fun _ o v => o = [] ∧ v = .int .u8 x.toNat := h.mono fun J o v _ ⟨h1, cs, h2, h3⟩ => ⟨h1, by rw [h2, show cs = _ from h3]; rfl⟩
theorem con_u32 {f : FuncId} {args : Array Value} {x : UInt32} (h : Con P f args I [] (Ret1 tU32.o x)) : Con P f args I [] fun _ o v => o = [] ∧ v = .int .u32 x.toNat := h.mono fun J o v _ ⟨h1, cs, h2, h3⟩ => ⟨h1, by rw [h2, show cs = _ from h3]; rfl⟩
theorem Sl.raw {α : Type} {T : Ty α} {A : Option Addr} {c : Nat} {xs : List α} (h : Sl T I A c xs) : ∃ cells, Raw I A xs.length c T.sz cells ∧ T.all I cells xs := h
theorem sl_nil {α : Type} {T : Ty α} {A : Option Addr} {c : Nat} (hc : c ≤ maxLen) : Sl T I A c ([] : List α) := ⟨[], ⟨by simp, Nat.zero_le _, hc, fun h => absurd h (by simp)⟩, all_nil⟩
theorem sl_nil0 {α : Type} {T : Ty α} {A : Option Addr} : Sl T I A 0 ([] : List α) := sl_nil (by simp [maxLen])

theorem y_pickB {o : Oper} {c x y : Operand} {b b' : Bool} {v : Value} (ho : o.op = .pick c x y) (hc : evO L c = some (.bool b)) (hb : b = b') (hv : evO L (if b' then x else y) = some v) : Yld P o n L I own v := by
  subst hb; exact y_pick ho hc hv
theorem row_room {α : Type} {T : Ty α} {cells : List Value} {xs : List α} {vs : List Value} {k : Nat} (h : T.all I cells xs) (hk : k < xs.length) (hv : vs.length = T.sz) : k * T.sz + vs.length ≤ cells.length := by
  rw [h.1, hv, ← Nat.succ_mul]; exact Nat.mul_le_mul_right _ hk
theorem all_str (s : ByteArray) : tU8.all I (s.data.toList.map fun b => Value.int .u8 b.toNat) s.data.toList := by
  refine ⟨by simp [tU8], fun j x hx => ?_⟩
  have hlt := (List.getElem?_eq_some_iff.1 hx).1
  show ((s.data.toList.map _).drop (j * 1)).take 1 = [Value.int .u8 (x.toNat : Int)]
  rw [Nat.mul_one, List.drop_eq_getElem_cons (by simpa using hlt)]
  simp only [List.getElem_map, List.take_succ_cons, List.take_zero]
  rw [(List.getElem?_eq_some_iff.1 hx).2]
theorem all_replicate {α : Type} {T : Ty α} {v : Value} {x : α} (h : T.rd I [v] x) (m : Nat) : T.all I (List.replicate m v) (List.replicate m x) := by
  have hz : T.sz = 1 := (T.len h).symm
  refine ⟨by simp [hz], fun j y hy => ?_⟩
  have hj : j < m := by have := (List.getElem?_eq_some_iff.1 hy).1; simpa using this
  have : x = y := by simpa [List.getElem?_replicate, hj] using hy
  subst this
  rw [hz, Nat.mul_one, List.drop_replicate, List.take_replicate, Nat.min_eq_left (by omega)]
  exact h

theorem Sub.castS {s : Nat} {v v' : Value} (h : get L s = some v) (e : v = v') : Sub ((s, v') :: L) L := by subst e; exact Sub.cons h Sub.refl
theorem Run.cast {rest : List Oper} {s : Nat} {v v' : Value} (h : get L s = some v) (he : v = v') (K : Run P ops Q rest e n ((s, v') :: L) I own) : Run P ops Q rest e n L I own := fun a w hF hS => K a w (hF.sub (Sub.castS h he)) hS
theorem RunC.cast {c : Code} {s : Nat} {v v' : Value} (h : get L s = some v) (he : v = v') (K : RunC P Q c e n ((s, v') :: L) I own) : RunC P Q c e n L I own := fun a w hF hS => K a w (hF.sub (Sub.castS h he)) hS
theorem RunQ.cast {x : Exit} {s : Nat} {v v' : Value} (h : get L s = some v) (he : v = v') (K : RunQ Q x e n ((s, v') :: L) I own) : RunQ Q x e n L I own := fun a w hF hS => K a w (hF.sub (Sub.castS h he)) hS
theorem y_max {o : Oper} {x y : Operand} {ats : Array TypeId} {a b : Int} (ho : o.op = .call { callee := .builtin .max, args := #[x, y], argTypes := ats }) (hx : evO L x = some (.int .i64 a)) (hy : evO L y = some (.int .i64 b)) : Yld P o n L I own (.int .i64 (max a b)) := fun c w hF hS => by
  simp only [execOp, ho, resolve, invoke, builtin, Sem.run_bind, Sem.run_pure, Result.andThen_ok, List.map_toArray, List.map_cons, List.map_nil, hF.ev hx, hF.ev hy]
  have hm : (if a < b then b else a) = max a b := by rw [Int.max_def]; split <;> split <;> omega
  simp [Builtin.max_, Builtin.max2, hm]
theorem y_min {o : Oper} {x y : Operand} {ats : Array TypeId} {a b : Int} (ho : o.op = .call { callee := .builtin .min, args := #[x, y], argTypes := ats }) (hx : evO L x = some (.int .i64 a)) (hy : evO L y = some (.int .i64 b)) : Yld P o n L I own (.int .i64 (min a b)) := fun c w hF hS => by
  simp only [execOp, ho, resolve, invoke, builtin, Sem.run_bind, Sem.run_pure, Result.andThen_ok, List.map_toArray, List.map_cons, List.map_nil, hF.ev hx, hF.ev hy]
  have hm : (if b < a then b else a) = min a b := by rw [Int.min_def]; split <;> split <;> omega
  simp [Builtin.min_, Builtin.min2, hm]
/-! copy, onto a row of the call's own that has room -/
theorem all_copy {α : Type} {T : Ty α} {xs ys : List Value} {X Y : List α} {n : Nat} (h : T.all I xs X) (k : T.all I ys Y) (hn : Y.length = n) (hfit : n ≤ X.length) : T.all I (ys ++ xs.drop ys.length) (Y ++ X.drop n) := by
  have h1 := all_cut h n X.length (Nat.le_refl _)
  rw [List.take_of_length_le (Nat.le_refl _), List.take_of_length_le (by rw [h.1]; exact Nat.le_refl _)] at h1
  have h2 := all_append k h1
  rw [k.1, hn]; exact h2
theorem copy_fit {α : Type} {T : Ty α} {xs ys : List Value} {X Y : List α} (h : T.all I xs X) (k : T.all I ys Y) (hfit : Y.length ≤ X.length) : ys.length ≤ xs.length := by
  rw [h.1, k.1]; exact Nat.mul_le_mul_right _ hfit
theorem Run.copy {o : Oper} {rest : List Oper} {d : Nat} {s x : Operand} {t t2 el : TypeId} {sz : Nat} {A B : Option Addr} {m c k c2 : Nat} {xs ys xs' : List Value} {own' : List Res} (i : Nat)
    (ho : o.op = .call { callee := .builtin .copy, args := #[s, x], argTypes := #[t, t2] }) (hs : evO L s = some (.slice A m c)) (hv : evO L x = some (.slice B k c2))
    (hu : ∀ w, (underlying t).run P w = .ok (.slice el) w) (hz : ∀ w, (sizeOf el).run P w = .ok sz w)
    (hi : own[i]? = some (row (.slice A m c) el sz xs)) (he : own.eraseIdx i = own') (hx : Raw I B k c2 sz ys) (h1 : ∀ v ∈ ys, v.oneCell' = true) (hl : ys.length = k * sz) (hkm : k ≤ m) (hfit : ys.length ≤ xs.length)
    (hc : ys ++ xs.drop ys.length = xs') (hg : o.guard = none) (hd : o.dst = some d) (hn : d < n)
    (K : Run P ops Q rest e n ((d, .int .i64 (k : Int)) :: L) I (row (.slice A m c) el sz xs' :: own')) : Run P ops Q (o :: rest) e n L I own :=
  Run.eff hg hd hn fun a w hF hS => by
    subst hc
    have hsrc := (src_raw (P := P) hS.st hx).2 w rfl
    have hkeys : (row (.slice A m c) el sz xs).keys.Nodup := by
      have hk := keys_perm (perm_at hi he)
      simp only [keysOf_cons] at hk
      exact (List.nodup_append.1 (hk.nodup_iff.2 hS.st.nodup)).1
    have hmin : Nat.min k m = k := Nat.min_eq_left hkm
    rcases Nat.eq_zero_or_pos ys.length with h0 | h0
    · have hy : ys = [] := List.eq_nil_of_length_eq_zero h0
      subst hy
      refine ⟨_, w, I, _, ?_, hS.turn (r' := row (.slice A m c) el sz ([] ++ xs.drop ([] : List Value).length)) (perm_at hi he) (by simpa using own_holds hS.st hi) (fun k hk => .inl hk) hkeys (fun _ _ _ => rfl) (Nat.le_refl _) rfl rfl rfl, K⟩
      simp only [execOp, ho, resolve, invoke, builtin, Sem.run_bind, Sem.run_pure, Result.andThen_ok, List.map_toArray, List.map_cons, List.map_nil, hF.ev hs, hF.ev hv]
      cases A <;> simp [Builtin.copy_, hu w, hz w, Builtin.lenOf, hmin, hsrc, storeCells, goInt]
    · obtain ⟨w', hr, hh, hb, hsz, h2, h3, h4⟩ := row_set (P := P) (j := 0) (own_holds hS.st hi) (by omega) h0 h1
      have hm : 0 < m := by
        rcases Nat.eq_zero_or_pos m with h5 | h5
        · subst h5
          have : k = 0 := by omega
          subst this
          omega
        · exact h5
      obtain ⟨g, off, cur, rfl, _⟩ := row_form (own_holds hS.st hi) hm
      refine ⟨_, w', I, _, ?_, hS.turn (perm_at hi he) (r' := row (.slice (some ⟨g, off, none⟩) m c) el sz (ys ++ xs.drop ys.length)) (by simpa using hh) (fun k hk => .inl hk) hkeys (fun k _ hk => hb k hk) (by omega) h2 h3 h4, K⟩
      rw [pt_some] at hr
      simp only [execOp, ho, resolve, invoke, builtin, Sem.run_bind, Sem.run_pure, Result.andThen_ok, List.map_toArray, List.map_cons, List.map_nil, hF.ev hs, hF.ev hv]
      simp only [Nat.add_zero] at hr
      simp [Builtin.copy_, hu w, hz w, Builtin.lenOf, hmin, hsrc, hr, goInt]

/-- A call whose answer is a plain value: memory is as well known as it was. -/
theorem Run.callV {o : Oper} {rest : List Oper} {d : Nat} {f : FuncId} {vs : List Value} {v : Value} {p : Prop} (hen : Enters P o n L f vs) (hc : Con P f vs.toArray I [] fun _ o' v' => o' = [] ∧ v' = v ∧ p) (hg : o.guard = none) (hd : o.dst = some d) (hn : d < n)
    (K : p → Run P ops Q rest e n ((d, v) :: L) I own) : Run P ops Q (o :: rest) e n L I own := fun a w hF hS => by
  refine wpList_plain hg fun K' hK => ?_
  unfold Oper.wp
  rw [hen a w hF, Oper.upon_enter]
  refine (hc w (hS.st.sub ⟨own, by simp⟩)).mono ?_
  rintro x w' ⟨J, own1', u, rfl, hs, hu, rfl, rfl, hp⟩
  rw [hd]
  exact hK _ _ (K hp _ w' (hF.put hn u) (hS.forget (by simpa using hS.after (own2 := own) (by simp) hs hu) hu.le))
theorem Run.callVYes {o : Oper} {rest : List Oper} {d dj j : Nat} {b b' : Bool} {o' : Oper} {f : FuncId} {vs : List Value} {v : Value} {p : Prop} (hen : Enters P o n L f vs) (hc : Con P f vs.toArray I [] fun _ o' v' => o' = [] ∧ v' = v ∧ p)
    (hg : o.guard = some (j, b)) (ho : ops[j]? = some o') (hdj : o'.dst = some dj) (hb : get L dj = some (.bool b')) (hbb : b' = b) (hd : o.dst = some d) (hn : d < n)
    (K : p → Run P ops Q rest e n ((d, v) :: L) I own) : Run P ops Q (o :: rest) e n L I own := fun a w hF hS => by
  subst hbb
  refine wpList_step fun K' hK => ?_
  have hw : Region.wanted o (yielded ops a.tmps) = true := by simp [Region.wanted, hg, yielded_of hF ho hdj hb]
  rw [if_pos hw]
  unfold Oper.wp
  rw [hen a w hF, Oper.upon_enter]
  refine (hc w (hS.st.sub ⟨own, by simp⟩)).mono ?_
  rintro x w' ⟨J, own1', u, rfl, hs, hu, rfl, rfl, hp⟩
  rw [hd]
  exact hK _ _ (K hp _ w' (hF.put hn u) (hS.forget (by simpa using hS.after (own2 := own) (by simp) hs hu) hu.le))
theorem conv_int {f : FuncId} {args : Array Value} {x : Int} (h : Con P f args I [] (Ret1 tInt.o x)) : Con P f args I [] fun _ o v => o = [] ∧ v = .int .i64 x ∧ I64 x := h.mono fun J o v _ ⟨h1, cs, h2, h3⟩ => ⟨h1, by rw [h2, h3.1]; rfl, h3.2⟩
theorem conv_bool {f : FuncId} {args : Array Value} {x : Bool} (h : Con P f args I [] (Ret1 tBool.o x)) : Con P f args I [] fun _ o v => o = [] ∧ v = .bool x ∧ True := h.mono fun J o v _ ⟨h1, cs, h2, h3⟩ => ⟨h1, by rw [h2, show cs = _ from h3]; rfl, trivial⟩
theorem conv_u8 {f : FuncId} {args : Array Value} {x : UInt8} (h : Con P f args I [] (Ret1 tU8.o x)) : Con P f args I [] fun _ o v => o = [] ∧ v = .int .u8 x.toNat ∧ True := h.mono fun J o v _ ⟨h1, cs, h2, h3⟩ => ⟨h1, by rw [h2, show cs = _ from h3]; rfl, trivial⟩
theorem conv_u32 {f : FuncId} {args : Array Value} {x : UInt32} (h : Con P f args I [] (Ret1 tU32.o x)) : Con P f args I [] fun _ o v => o = [] ∧ v = .int .u32 x.toNat ∧ True := h.mono fun J o v _ ⟨h1, cs, h2, h3⟩ => ⟨h1, by rw [h2, show cs = _ from h3]; rfl, trivial⟩

/-! ### make, literals -/
theorem mk_run {t el : TypeId} {ti : TypeInfo} {z : Value} {by_ : Nat} (hu : ∀ w, (underlying t).run P w = .ok (.slice el) w) (hti : ∀ w, (typeInfo el).run P w = .ok ti w) (hby : ti.bytes = by_) (hz : ∀ w, (sizeOf el).run P w = .ok 1 w)
    (hzv : ∀ w, (zeroValue el).run P w = .ok z w) (hzs : z.cells = #[z]) {m : Nat} (hm : m * by_ ≤ 281474976710656) (h63 : (m : Int) ≤ 9223372036854775807) :
    ∀ w, (Instr.makeSlice t (.int .i64 (m : Int)) (.int .i64 (m : Int))).run P w = .ok (.slice (some ⟨w.heap.size, 0, none⟩) m m) (w.alloc (.cells (List.replicate m z).toArray el)) := fun w => by
  subst hby
  have hw : IntKind.i64.wrap (m : Int) = m := IntWalk.i64_in _ (by omega)
  have h1 : ¬ ((281474976710656 : Int) < (ti.bytes : Int) * (m : Int)) := by rw [← Int.natCast_mul, Nat.mul_comm]; omega
  have hcells : ((Array.range m).map fun i => (if m = 0 then (#[] : Array Value) else z.cells)[i % (if m = 0 then (#[] : Array Value) else z.cells).size]!) = (List.replicate m z).toArray := by
    apply Array.ext
    · simp
    · intro i h2 h3
      have hi : i < m := by simpa using h3
      have hm0 : m ≠ 0 := by omega
      simp [hm0, hzs, Nat.mod_one]
  simp [Instr.makeSlice, hu w, asInt, asIntOf, hti w, hw, h1, hz w, newRow]
  by_cases h0 : m = 0
  · subst h0
    have h9 : (Array.map (fun _ => (default : Value)) (Array.range 0)) = #[] := by
      apply Array.ext'
      simp
    simp [h9]
  · simp only [h0, if_false] at hcells
    simp [h0, hzv w, hcells]
    intro hh; omega
end
end Go.Proofs.YtmelbclhkkbmiaaGreat.K
