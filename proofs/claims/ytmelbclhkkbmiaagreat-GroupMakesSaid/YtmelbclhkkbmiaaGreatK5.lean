/- Rules for guards, joins, and regions whose order is drawn but that touch nothing. No condition beyond those that each theorem names. -/
import Derived.Test.YtmelbclhkkbmiaaGreatK4
set_option linter.unusedVariables false
set_option linter.unusedSimpArgs false
namespace Go.Proofs.YtmelbclhkkbmiaaGreat.K
open Go Go.RowKit

section
variable {P : Program} {ops : Array Oper} {Q : Exit → Act → World → Prop} {e : Ent} {n : Nat} {L : List (Nat × Value)} {I : Imm} {own : List Res}

theorem Sub.put {L L' : List (Nat × Value)} (h : Sub L L') {d : Nat} {v : Value} : Sub ((d, v) :: L) ((d, v) :: L') := fun s u hs => by
  simp only [get] at *
  cases hb : Nat.beq d s
  · rw [hb] at hs; exact h s u (by simpa using hs)
  · rw [hb] at hs; simpa using hs
theorem Sub.push {L L' : List (Nat × Value)} (h : Sub L L') {d : Nat} {v : Value} (hd : get L d = none) : Sub L ((d, v) :: L') := fun s u hs => by
  simp only [get]
  cases hb : Nat.beq d s
  · exact h s u hs
  · have : d = s := Nat.eq_of_beq_eq_true hb
    subst this
    rw [hd] at hs; cases hs

/-! ### Calls -/
theorem S.after {w w' : World} {J : Imm} {own1 own2 own1' : List Res} (h : S e w I own) (hp : (own1 ++ own2).Perm own) (hs : St w' J own1') (hu : Upd w I (keysOf own1) w' J own1') : S e w' J (own1' ++ own2) := by
  have hkp := keys_perm hp
  simp only [keysOf_append] at hkp
  have hnd := hkp.nodup_iff.2 h.st.nodup
  rw [List.nodup_append] at hnd
  have hl2 : ∀ k ∈ keysOf own2, k < w.heap.size := fun k hk => h.st.lt (hkp.subset (List.mem_append.2 (.inr hk)))
  have hne : ∀ k ∈ keysOf own2, k ∉ keysOf own1 := fun k hk hk1 => hnd.2.2 k hk1 k hk rfl
  refine ⟨⟨hs.ok, fun r hr => ?_, fun k hk => ?_, ?_⟩, ⟨hu.os.trans h.up.os, hu.tape.trans h.up.tape, hu.output.trans h.up.output, Nat.le_trans h.up.size hu.size, fun k hk1 hk2 => ?_, h.up.le.trans hu.le, fun k hk1 hk2 => ?_, fun k hk => ?_⟩⟩
  · rcases List.mem_append.1 hr with hr | hr
    · exact hs.holds r hr
    · refine r.loc (fun k hk => ?_) (h.st.holds r (hp.subset (List.mem_append.2 (.inr hr))))
      have hk2 : k ∈ keysOf own2 := by simp only [keysOf, List.mem_flatMap]; exact ⟨r, hr, hk⟩
      exact hu.frame k (hl2 k hk2) (hne k hk2)
  · rw [keysOf_append] at hk
    rcases List.mem_append.1 hk with hk | hk
    · exact hs.apart k hk
    · rw [hu.ext k (hl2 k hk) (hne k hk)]
      exact h.st.apart k (hkp.subset (List.mem_append.2 (.inr hk)))
  · rw [keysOf_append, List.nodup_append]
    refine ⟨hs.nodup, hnd.2.1, fun k hk1 k' hk2 => ?_⟩
    rcases hu.new k hk1 with h1 | h1
    · exact hnd.2.2 k h1 k' hk2
    · have := hl2 k' hk2; omega
  · have hk3 : k ∉ keysOf own1 := fun hk3 => by
      rcases h.up.new k (hkp.subset (List.mem_append.2 (.inl hk3))) with h1 | h1
      · exact hk2 h1
      · omega
    rw [hu.frame k (Nat.lt_of_lt_of_le hk1 h.up.size) hk3]
    exact h.up.frame k hk1 hk2
  · have hk3 : k ∉ keysOf own1 := fun hk3 => by
      rcases h.up.new k (hkp.subset (List.mem_append.2 (.inl hk3))) with h1 | h1
      · exact hk2 h1
      · omega
    rw [hu.ext k (Nat.lt_of_lt_of_le hk1 h.up.size) hk3]
    exact h.up.ext k hk1 hk2
  · rw [keysOf_append] at hk
    rcases List.mem_append.1 hk with hk | hk
    · rcases hu.new k hk with h1 | h1
      · exact h.up.new k (hkp.subset (List.mem_append.2 (.inl h1)))
      · exact .inr (Nat.le_trans h.up.size h1)
    · exact h.up.new k (hkp.subset (List.mem_append.2 (.inr hk)))
/-- An operation that calls function f with these values. -/
def Enters (P : Program) (o : Oper) (n : Nat) (L : List (Nat × Value)) (f : FuncId) (vs : List Value) : Prop := ∀ a w, Frm a n L → (execOp a.eval o).run P w = .ok (.enter f vs.toArray) w
theorem en_func {o : Oper} {f : FuncId} {xs : Array Operand} {ats : Array TypeId} {vs : List Value} (ho : o.op = .call { callee := .value (.func f), args := xs, argTypes := ats }) (hc : ∀ args w, (callFunc f args).run P w = .ok (.enter f args) w)
    (hx : evs L xs.toList = some vs) : Enters P o n L f vs := fun a w hF => by
  have he := evs_arr hF hx
  simp only [execOp, ho, resolve, Act.eval, Deferred.ofValue, invoke, Sem.run_bind, Sem.run_pure, Result.andThen_ok] at *
  rw [he, hc]
  simp
theorem en_clos {o : Oper} {f : FuncId} {xs : Array Operand} {ats : Array TypeId} {x : Operand} {vs : List Value} {cap : Array Value} {us : List Value} (ho : o.op = .call { callee := .value x, args := xs, argTypes := ats }) (hv : evO L x = some (.func (.func f) #[] cap))
    (hc : ∀ args w, (callFunc f args).run P w = .ok (.enter f args) w) (hx : evs L xs.toList = some vs) (hu : vs ++ cap.toList = us) : Enters P o n L f us := fun a w hF => by
  have he := evs_arr hF hx
  have hv' := hF.ev hv
  subst hu
  simp only [execOp, ho, resolve, hv', Deferred.ofValue, invoke, Sem.run_bind, Sem.run_pure, Result.andThen_ok] at *
  rw [he, hc]
  simp
theorem Run.call {o : Oper} {rest : List Oper} {d : Nat} {f : FuncId} {vs : List Value} {own1 own2 : List Res} {Qc : Imm → List Res → Value → Prop} (hen : Enters P o n L f vs) (hc : Con P f vs.toArray I own1 Qc) (hp : (own1 ++ own2).Perm own)
    (hg : o.guard = none) (hd : o.dst = some d) (hn : d < n)
    (K : ∀ J own1' v, I.le J → Qc J own1' v → Run P ops Q rest e n ((d, v) :: L) J (own1' ++ own2)) : Run P ops Q (o :: rest) e n L I own := fun a w hF hS => by
  refine wpList_plain hg fun K' hK => ?_
  unfold Oper.wp
  rw [hen a w hF, Oper.upon_enter]
  refine (hc w (hS.st.sub ⟨own2, hp⟩)).mono ?_
  rintro x w' ⟨J, own1', v, rfl, hs, hu, hq⟩
  rw [hd]
  exact hK _ _ (K J own1' v hu.le hq _ w' (hF.put hn v) (hS.after hp hs hu))
/-- A call that turns nothing of the caller's. -/
theorem Run.call0 {o : Oper} {rest : List Oper} {d : Nat} {f : FuncId} {vs : List Value} {Qc : Imm → List Res → Value → Prop} (hen : Enters P o n L f vs) (hc : Con P f vs.toArray I [] Qc)
    (hg : o.guard = none) (hd : o.dst = some d) (hn : d < n)
    (K : ∀ J own' v, I.le J → Qc J own' v → Run P ops Q rest e n ((d, v) :: L) J (own' ++ own)) : Run P ops Q (o :: rest) e n L I own :=
  Run.call hen hc (List.Perm.refl _) hg hd hn K
theorem Run.callYes {o : Oper} {rest : List Oper} {d dj j : Nat} {b b' : Bool} {o' : Oper} {f : FuncId} {vs : List Value} {Qc : Imm → List Res → Value → Prop} (hen : Enters P o n L f vs) (hc : Con P f vs.toArray I [] Qc)
    (hg : o.guard = some (j, b)) (ho : ops[j]? = some o') (hdj : o'.dst = some dj) (hb : get L dj = some (.bool b')) (hbb : b' = b) (hd : o.dst = some d) (hn : d < n)
    (K : ∀ J own' v, I.le J → Qc J own' v → Run P ops Q rest e n ((d, v) :: L) J (own' ++ own)) : Run P ops Q (o :: rest) e n L I own := fun a w hF hS => by
  subst hbb
  refine wpList_step fun K' hK => ?_
  have hw : Region.wanted o (yielded ops a.tmps) = true := by simp [Region.wanted, hg, yielded_of hF ho hdj hb]
  rw [if_pos hw]
  unfold Oper.wp
  rw [hen a w hF, Oper.upon_enter]
  refine (hc w (hS.st.sub ⟨own, List.Perm.refl _⟩)).mono ?_
  rintro x w' ⟨J, own1', v, rfl, hs, hu, hq⟩
  rw [hd]
  exact hK _ _ (K J own1' v hu.le hq _ w' (hF.put hn v) (hS.after (List.Perm.refl _) hs hu))
/-- Of what a callee has left one may know less: the old I. -/
theorem S.forget {w w' : World} {J : Imm} (h : S e w I own) (h' : S e w' J own) (hle : I.le J) : S e w' I own :=
  ⟨⟨fun k o hk => h'.st.ok k o (hle k o hk), h'.st.holds, h.st.apart, h'.st.nodup⟩, ⟨h'.up.os, h'.up.tape, h'.up.output, h'.up.size, h'.up.frame, h.up.le, h.up.ext, h'.up.new⟩⟩

/-! ### Entry and end -/
def RQ (e : Ent) (Q : Imm → List Res → Value → Prop) : Ending → World → Prop := fun x w' => ∃ I' own' v, x = .returned v ∧ S e w' I' own' ∧ Q I' own' v
def zipA (k : Nat) : List Value → List (Nat × Value)
  | [] => []
  | v :: l => (k, v) :: zipA (k + 1) l
theorem zipA_get : ∀ (vs : List Value) (k s : Nat) (v : Value), get (zipA k vs) s = some v → k ≤ s ∧ vs[s - k]? = some v
  | [], k, s, v, h => by simp [zipA, get] at h
  | u :: l, k, s, v, h => by
    simp only [zipA, get] at h
    by_cases hk : k = s
    · subst hk; simp at h; subst h; simp
    · rw [beq_false_of hk] at h
      have := zipA_get l (k + 1) s v (by simpa using h)
      refine ⟨by omega, ?_⟩
      rw [show s - k = (s - (k + 1)) + 1 by omega]
      simpa using this.2
theorem Con.enter {f : FuncId} {fn : Func} {c : Code} {vs : List Value} {Qc : Imm → List Res → Value → Prop} {L : List (Nat × Value)} (hf : P.funcs[f]? = some fn) (hb : fn.body = some c) (hn : fn.ntmps = n) (hvn : vs.length ≤ n) (hL : zipA 0 vs = L)
    (h : ∀ E : Ent, RunC P (bodyPost P fn (RQ E Qc)) c E n L I own) : Con P f vs.toArray I own Qc := fun w hw => by
  have hcalls : Calls P f vs.toArray w (RQ ⟨w, I, keysOf own⟩ Qc) := by
    refine calls_of_wp hf hb (h ⟨w, I, keysOf own⟩ _ w ⟨?_, rfl, fun s v hs => ?_⟩ ⟨hw, Upd.refl hw⟩)
    · simp only [Array.size_append, List.size_toArray, Array.size_replicate, hn]; omega
    · subst hL
      obtain ⟨_, hv⟩ := zipA_get vs 0 s v hs
      simp only [Nat.sub_zero] at hv
      have hlt := (List.getElem?_eq_some_iff.1 hv).1
      rw [Array.getElem?_append, if_pos (by simpa using hlt)]
      simpa using hv
  exact hcalls.mono fun x w' ⟨J, o, v, he, hs, hq⟩ => ⟨J, o, v, he, hs.st, hs.up, hq⟩
/-- One result, as it stands in the frame or in memory. -/
def RV (P : Program) (rv : ResultVar) (n : Nat) (L : List (Nat × Value)) (I : Imm) (own : List Res) (v : Value) : Prop :=
  ∀ a w, Frm a n L → St w I own → ((match rv with | .tmp t => pure (a.tmps.getD t undef) | .cell p t => do loadVar t (← asAddr (a.tmps.getD p undef))) : Sem Value).run P w = .ok v w
theorem rv_tmp {t : Tmp} {v : Value} (h : get L t = some v) : RV P (.tmp t) n L I own v := fun a w hF hS => by
  have := hF.val _ _ h
  simp [this]
theorem rv_cellA {p : Tmp} {t t' : TypeId} {g sz : Nat} {cs : List Value} (i : Nat) (h : get L p = some (.pointer (some ⟨g, 0, none⟩))) (hg : ∀ w, (isAgg t).run P w = .ok true w) (hz : ∀ w, (sizeOf t).run P w = .ok sz w) (hi : own[i]? = some (blk g cs t')) (hl : cs.length = sz) : RV P (.cell p t) n L I own (.agg cs.toArray) := fun a w hF hS => by
  have := hF.val _ _ h
  have hc : ∀ j v, cs[j]? = some v → w.cell? ((⟨g, 0, none⟩ : Addr).add j) = some v := fun j v hj => by rw [add_lit']; exact blk_cell (own_holds hS hi) (by simpa using hj)
  simp [this, asAddr, loadVar_agg hg hz hl hc]
theorem rv_cell1 {p : Tmp} {t t' : TypeId} {g : Nat} {v : Value} (i : Nat) (h : get L p = some (.pointer (some ⟨g, 0, none⟩))) (hg : ∀ w, (isAgg t).run P w = .ok false w) (hi : own[i]? = some (blk g [v] t')) : RV P (.cell p t) n L I own v := fun a w hF hS => by
  have := hF.val _ _ h
  simp [this, asAddr, loadVar_one hg (blk_cell (own_holds hS hi) (o := 0) (v := v) rfl)]
section
variable {fn : Func} {Qc : Imm → List Res → Value → Prop}
theorem RunQ.fin {x : Exit} {v : Value} (hx : x = .ret ∨ x = .normal) (hres : ∀ a w, Frm a n L → St w I own → (results fn a.tmps).run P w = .ok v w) (hq : Qc I own v) : RunQ (bodyPost P fn (RQ e Qc)) x e n L I own := fun a w hF hS => by
  rcases hx with rfl | rfl <;> exact ⟨hF.defers, v, hres a w hF hS.st, I, own, v, rfl, hS, hq⟩
theorem RunQ.fin0 {x : Exit} (hx : x = .ret ∨ x = .normal) (hr : fn.results = #[]) (hq : Qc I own (.tuple #[])) : RunQ (bodyPost P fn (RQ e Qc)) x e n L I own :=
  RunQ.fin hx (fun a w hF hS => by simp [results, hr]) hq
theorem res1 {w : World} {r1 : ResultVar} {v1 : Value} (f : ResultVar → Sem Value) (h1 : (f r1).run P w = .ok v1 w) : (do let vs ← #[r1].mapM f; pure (if h : vs.size = 1 then vs[0] else .tuple vs) : Sem Value).run P w = .ok v1 w := by
  simp [h1]
theorem res2 {w : World} {r1 r2 : ResultVar} {v1 v2 : Value} (f : ResultVar → Sem Value) (h1 : (f r1).run P w = .ok v1 w) (h2 : (f r2).run P w = .ok v2 w) : (do let vs ← #[r1, r2].mapM f; pure (if h : vs.size = 1 then vs[0] else .tuple vs) : Sem Value).run P w = .ok (.tuple #[v1, v2]) w := by
  simp [h1, h2]
theorem res3 {w : World} {r1 r2 r3 : ResultVar} {v1 v2 v3 : Value} (f : ResultVar → Sem Value) (h1 : (f r1).run P w = .ok v1 w) (h2 : (f r2).run P w = .ok v2 w) (h3 : (f r3).run P w = .ok v3 w) : (do let vs ← #[r1, r2, r3].mapM f; pure (if h : vs.size = 1 then vs[0] else .tuple vs) : Sem Value).run P w = .ok (.tuple #[v1, v2, v3]) w := by
  simp [h1, h2, h3]
/-- The results are read where they lie; what else is known is dropped. -/
theorem RunQ.end1 {x : Exit} {r : ResultVar} {v : Value} (hx : x = .ret ∨ x = .normal) (hr : fn.results = #[r]) (h1 : RV P r n L I own v) (hq : Qc I [] v) : RunQ (bodyPost P fn (RQ e Qc)) x e n L I own := fun a w hF hS => by
  have hres : (results fn a.tmps).run P w = .ok v w := by
    unfold results
    rw [hr]
    exact res1 _ (h1 a w hF hS.st)
  rcases hx with rfl | rfl <;> exact ⟨hF.defers, v, hres, I, [], v, rfl, hS.sub (perm_nil _), hq⟩
theorem RunQ.end2 {x : Exit} {r1 r2 : ResultVar} {v1 v2 : Value} (hx : x = .ret ∨ x = .normal) (hr : fn.results = #[r1, r2]) (h1 : RV P r1 n L I own v1) (h2 : RV P r2 n L I own v2) (hq : Qc I [] (.tuple #[v1, v2])) : RunQ (bodyPost P fn (RQ e Qc)) x e n L I own := fun a w hF hS => by
  have hres : (results fn a.tmps).run P w = .ok (.tuple #[v1, v2]) w := by
    unfold results
    rw [hr]
    exact res2 _ (h1 a w hF hS.st) (h2 a w hF hS.st)
  rcases hx with rfl | rfl <;> exact ⟨hF.defers, _, hres, I, [], _, rfl, hS.sub (perm_nil _), hq⟩
theorem RunQ.end3 {x : Exit} {r1 r2 r3 : ResultVar} {v1 v2 v3 : Value} (hx : x = .ret ∨ x = .normal) (hr : fn.results = #[r1, r2, r3]) (h1 : RV P r1 n L I own v1) (h2 : RV P r2 n L I own v2) (h3 : RV P r3 n L I own v3) (hq : Qc I [] (.tuple #[v1, v2, v3])) : RunQ (bodyPost P fn (RQ e Qc)) x e n L I own := fun a w hF hS => by
  have hres : (results fn a.tmps).run P w = .ok (.tuple #[v1, v2, v3]) w := by
    unfold results
    rw [hr]
    exact res3 _ (h1 a w hF hS.st) (h2 a w hF hS.st) (h3 a w hF hS.st)
  rcases hx with rfl | rfl <;> exact ⟨hF.defers, _, hres, I, [], _, rfl, hS.sub (perm_nil _), hq⟩
theorem RunQ.fin1 {x : Exit} {r : ResultVar} {v : Value} (hx : x = .ret ∨ x = .normal) (hr : fn.results = #[r]) (h1 : RV P r n L I own v) (hq : Qc I own v) : RunQ (bodyPost P fn (RQ e Qc)) x e n L I own :=
  RunQ.fin hx (fun a w hF hS => by
    unfold results
    rw [hr]
    exact res1 _ (h1 a w hF hS)) hq
theorem RunQ.fin2 {x : Exit} {r1 r2 : ResultVar} {v1 v2 : Value} (hx : x = .ret ∨ x = .normal) (hr : fn.results = #[r1, r2]) (h1 : RV P r1 n L I own v1) (h2 : RV P r2 n L I own v2) (hq : Qc I own (.tuple #[v1, v2])) : RunQ (bodyPost P fn (RQ e Qc)) x e n L I own :=
  RunQ.fin hx (fun a w hF hS => by
    unfold results
    rw [hr]
    exact res2 _ (h1 a w hF hS) (h2 a w hF hS)) hq
theorem RunQ.fin3 {x : Exit} {r1 r2 r3 : ResultVar} {v1 v2 v3 : Value} (hx : x = .ret ∨ x = .normal) (hr : fn.results = #[r1, r2, r3]) (h1 : RV P r1 n L I own v1) (h2 : RV P r2 n L I own v2) (h3 : RV P r3 n L I own v3) (hq : Qc I own (.tuple #[v1, v2, v3])) : RunQ (bodyPost P fn (RQ e Qc)) x e n L I own :=
  RunQ.fin hx (fun a w hF hS => by
    unfold results
    rw [hr]
    exact res3 _ (h1 a w hF hS) (h2 a w hF hS) (h3 a w hF hS)) hq
end

/-! ### Regions that draw their order, whose operations read alone -/
def RunZ (P : Program) (ops : Array Oper) (Q : Exit → Act → World → Prop) (rest : List Oper) (e : Ent) (n : Nat) (L : List (Nat × Value)) (I : Imm) (own : List Res) : Prop :=
  ∀ a, Frm a n L → wpQuiet P ops (fun w => S e w I own) (fun a' => ∀ w', S e w' I own → Q .normal a' w') rest a
theorem S.drew {w : World} (h : S e w I own) : S e { w with drawn := w.drawn + 1 } I own :=
  ⟨⟨h.st.ok, fun r hr => r.loc (w := w) (fun _ _ => rfl) (h.st.holds r hr), h.st.apart, h.st.nodup⟩, ⟨h.up.os, h.up.tape, h.up.output, h.up.size, h.up.frame, h.up.le, h.up.ext, h.up.new⟩⟩
theorem RunC.regionD {id : Nat} {l : List Oper} (hm : P.follows .mixedOrders = true) (hB : Region.lexB .any l.toArray = true) (h : RunZ P l.toArray Q l e n L I own) : RunC P Q (.region id l.toArray true) e n L I own := fun a w hF hS =>
  wp_region_quiet (C := fun w => S e w I own) hm hB hS.drew (by simpa using h a hF)
theorem RunZ.nil (h : RunQ Q .normal e n L I own) : RunZ P ops Q [] e n L I own := fun a hF => wpQuiet_nil fun w hS => h a w hF hS
theorem RunZ.y {o : Oper} {rest : List Oper} {d : Nat} {v : Value} (hy : Yld P o n L I own v) (hg : o.guard = none) (hd : o.dst = some d) (hn : d < n)
    (h : RunZ P ops Q rest e n ((d, v) :: L) I own) : RunZ P ops Q (o :: rest) e n L I own := fun a hF => by
  refine wpQuiet_step fun K hK => ?_
  simp only [Region.wanted, hg, if_true]
  refine ⟨v, fun w hS => ?_, ?_⟩
  · unfold Oper.quietAt
    rw [hy a w hF hS.st]
    exact ⟨rfl, rfl⟩
  · rw [hd]; exact hK _ (h _ (hF.put hn v))
theorem RunZ.yes {o : Oper} {rest : List Oper} {d dj : Nat} {v : Value} {j : Nat} {b b' : Bool} {o' : Oper} (hy : Yld P o n L I own v) (hg : o.guard = some (j, b)) (ho : ops[j]? = some o') (hdj : o'.dst = some dj)
    (hb : get L dj = some (.bool b')) (hbb : b' = b) (hd : o.dst = some d) (hn : d < n) (h : RunZ P ops Q rest e n ((d, v) :: L) I own) : RunZ P ops Q (o :: rest) e n L I own := fun a hF => by
  subst hbb
  refine wpQuiet_step fun K hK => ?_
  have hw : Region.wanted o (yielded ops a.tmps) = true := by simp [Region.wanted, hg, yielded_of hF ho hdj hb]
  rw [if_pos hw]
  refine ⟨v, fun w hS => ?_, ?_⟩
  · unfold Oper.quietAt
    rw [hy a w hF hS.st]
    exact ⟨rfl, rfl⟩
  · rw [hd]; exact hK _ (h _ (hF.put hn v))
theorem RunZ.no {o : Oper} {rest : List Oper} {d dj : Nat} {j : Nat} {b b' : Bool} {o' : Oper} (hg : o.guard = some (j, b)) (ho : ops[j]? = some o') (hdj : o'.dst = some dj)
    (hb : get L dj = some (.bool b')) (hne : b' = !b) (hd : o.dst = some d) (hn : d < n) (h : RunZ P ops Q rest e n ((d, undef) :: L) I own) : RunZ P ops Q (o :: rest) e n L I own := fun a hF => by
  refine wpQuiet_step fun K hK => ?_
  have hw : ¬ Region.wanted o (yielded ops a.tmps) = true := by simp [Region.wanted, hg, yielded_of hF ho hdj hb, hne]
  rw [if_neg hw, hd]
  exact hK _ (h _ (hF.put hn undef))
theorem RunZ.noU {o : Oper} {rest : List Oper} {d dj : Nat} {j : Nat} {b : Bool} {o' : Oper} (hg : o.guard = some (j, b)) (ho : ops[j]? = some o') (hdj : o'.dst = some dj)
    (hb : get L dj = some undef) (hd : o.dst = some d) (hn : d < n) (h : RunZ P ops Q rest e n ((d, undef) :: L) I own) : RunZ P ops Q (o :: rest) e n L I own := fun a hF => by
  refine wpQuiet_step fun K hK => ?_
  have hw : ¬ Region.wanted o (yielded ops a.tmps) = true := by simp [Region.wanted, hg, yielded_none hF ho hdj hb]
  rw [if_neg hw, hd]
  exact hK _ (h _ (hF.put hn undef))
/-- A call whose answer is known. -/
theorem quiet_call {o : Oper} {f : FuncId} {vs : List Value} {v : Value} (hen : Enters P o n L f vs) (hc : Con P f vs.toArray I [] fun _ o' v' => o' = [] ∧ v' = v) {a : Act} (hF : Frm a n L) {w : World} (hS : S e w I own) : o.quietAt P a (fun w => S e w I own) w v := by
  unfold Oper.quietAt
  rw [hen a w hF]
  refine ⟨rfl, (hc w (hS.st.sub ⟨own, by simp⟩)).mono ?_⟩
  rintro x w' ⟨J, own1', u, rfl, hs, hu, rfl, rfl⟩
  exact ⟨rfl, hS.forget (by simpa using hS.after (own2 := own) (by simp) hs hu) hu.le⟩
theorem RunZ.call {o : Oper} {rest : List Oper} {d : Nat} {f : FuncId} {vs : List Value} {v : Value} (hen : Enters P o n L f vs) (hc : Con P f vs.toArray I [] fun _ o' v' => o' = [] ∧ v' = v) (hg : o.guard = none) (hd : o.dst = some d) (hn : d < n)
    (h : RunZ P ops Q rest e n ((d, v) :: L) I own) : RunZ P ops Q (o :: rest) e n L I own := fun a hF => by
  refine wpQuiet_step fun K hK => ?_
  simp only [Region.wanted, hg, if_true]
  refine ⟨v, fun w hS => quiet_call hen hc hF hS, ?_⟩
  rw [hd]; exact hK _ (h _ (hF.put hn v))
theorem RunZ.callYes {o : Oper} {rest : List Oper} {d dj j : Nat} {b b' : Bool} {o' : Oper} {f : FuncId} {vs : List Value} {v : Value} (hen : Enters P o n L f vs) (hc : Con P f vs.toArray I [] fun _ o' v' => o' = [] ∧ v' = v)
    (hg : o.guard = some (j, b)) (ho : ops[j]? = some o') (hdj : o'.dst = some dj) (hb : get L dj = some (.bool b')) (hbb : b' = b) (hd : o.dst = some d) (hn : d < n)
    (h : RunZ P ops Q rest e n ((d, v) :: L) I own) : RunZ P ops Q (o :: rest) e n L I own := fun a hF => by
  subst hbb
  refine wpQuiet_step fun K hK => ?_
  have hw : Region.wanted o (yielded ops a.tmps) = true := by simp [Region.wanted, hg, yielded_of hF ho hdj hb]
  rw [if_pos hw]
  refine ⟨v, fun w hS => quiet_call hen hc hF hS, ?_⟩
  rw [hd]; exact hK _ (h _ (hF.put hn v))
/-- A test of which both ways come to one place. -/
theorem Run.split {l rest : List Oper} (k : Nat) (hk : l.drop k = rest) {b : Bool} {d : Nat} {v : Value} (h1 : b = true → (∀ J L' v', I.le J → v' = v → Sub L L' → Run P ops Q rest e n ((d, v') :: L') J own) → Run P ops Q l e n L I own)
    (h2 : b = false → (∀ J L' v', I.le J → v' = v → Sub L L' → Run P ops Q rest e n ((d, v') :: L') J own) → Run P ops Q l e n L I own) (H : Run P ops Q rest e n ((d, v) :: L) I own) : Run P ops Q l e n L I own := fun a w hF hS => by
  have K : ∀ J L' v', I.le J → v' = v → Sub L L' → Run P ops Q rest e n ((d, v') :: L') J own := fun J L' v' hle hv hL a' w' hF' hS' => by
    subst hv
    refine H a' w' (hF'.sub (Sub.put hL)) (hS.forget hS' hle)
  cases hb : b
  · exact h2 hb K a w hF hS
  · exact h1 hb K a w hF hS
theorem RunZ.split {l rest : List Oper} (k : Nat) (hk : l.drop k = rest) {b : Bool} {d : Nat} {v : Value} (h1 : b = true → (∀ L' v', v' = v → Sub L L' → RunZ P ops Q rest e n ((d, v') :: L') I own) → RunZ P ops Q l e n L I own)
    (h2 : b = false → (∀ L' v', v' = v → Sub L L' → RunZ P ops Q rest e n ((d, v') :: L') I own) → RunZ P ops Q l e n L I own) (H : RunZ P ops Q rest e n ((d, v) :: L) I own) : RunZ P ops Q l e n L I own := fun a hF => by
  have K : ∀ L' v', v' = v → Sub L L' → RunZ P ops Q rest e n ((d, v') :: L') I own := fun L' v' hv hL a' hF' => by
    subst hv
    exact H a' (hF'.sub (Sub.put hL))
  cases hb : b
  · exact h2 hb K a hF
  · exact h1 hb K a hF
/-- A case that is made ahead of more operations. -/
theorem Run.sub {rest : List Oper} {L' : List (Nat × Value)} (hL : Sub L' L) (h : Run P ops Q rest e n L' I own) : Run P ops Q rest e n L I own := fun a w hF hS => h a w (hF.sub hL) hS
theorem RunZ.sub {rest : List Oper} {L' : List (Nat × Value)} (hL : Sub L' L) (h : RunZ P ops Q rest e n L' I own) : RunZ P ops Q rest e n L I own := fun a hF => h a (hF.sub hL)
end
end Go.Proofs.YtmelbclhkkbmiaaGreat.K
