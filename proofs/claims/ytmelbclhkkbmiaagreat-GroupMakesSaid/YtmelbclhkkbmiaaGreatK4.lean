/- Rules for rows that the call owns: index, load, store, append. No condition beyond those that each theorem names. -/
import Derived.Test.YtmelbclhkkbmiaaGreatK3
set_option linter.unusedVariables false
set_option linter.unusedSimpArgs false
namespace Go.Proofs.YtmelbclhkkbmiaaGreat.K
open Go Go.RowKit

section
variable {P : Program} {ops : Array Oper} {Q : Exit → Act → World → Prop} {e : Ent} {n : Nat} {L : List (Nat × Value)} {I : Imm} {own : List Res}

/-! ### Places of rows of the call's own -/
def pt (A : Option Addr) (j : Nat) : Addr := (A.getD ⟨0, 0, none⟩).add j
theorem pt_add (A : Option Addr) (j k : Nat) : (pt A j).add k = pt A (j + k) := add_add' _ _ _
theorem pt_some (g off j : Nat) : pt (some ⟨g, off, none⟩) j = ⟨g, off + j, none⟩ := add_lit' _ _ _
theorem row_index {t el : TypeId} {A : Option Addr} {m c sz : Nat} {k : IntKind} {i : Int} (hu : ∀ w, (underlying t).run P w = .ok (.slice el) w) (hz : ∀ w, (sizeOf el).run P w = .ok sz w) (h0 : 0 ≤ i) (h1 : i < m) {w : World} (hA : ∃ p, A = some p) :
    (Instr.indexAt t (.slice A m c) (.int k i)).run P w = .ok (.pointer (some (pt A (i.toNat * sz)))) w := by
  obtain ⟨p, rfl⟩ := hA
  simp [Instr.indexAt, asIntOf, hu w, hz w, h0, h1, pt]
theorem y_indexR {o : Oper} {t el t' : TypeId} {x ix : Operand} {A : Option Addr} {m c sz : Nat} {k : IntKind} {q : Int} {xs : List Value} (i : Nat) (ho : o.op = .indexAddr t x ix) (hx : evO L x = some (.slice A m c)) (hq : evO L ix = some (.int k q))
    (hu : ∀ w, (underlying t).run P w = .ok (.slice el) w) (hz : ∀ w, (sizeOf el).run P w = .ok sz w) (hi : own[i]? = some (row (.slice A m c) t' sz xs)) (h0 : 0 ≤ q) (h1 : q < m) : Yld P o n L I own (.pointer (some (pt A (q.toNat * sz)))) := fun a w hF hS => by
  obtain ⟨g, off, cur, hA, _⟩ := row_form (own_holds hS hi) (by omega)
  simp only [execOp, ho, hF.ev hx, hF.ev hq, Sem.run_bind, row_index hu hz h0 h1 ⟨_, hA⟩]; rfl
theorem row_cell {w : World} {A : Option Addr} {m c sz : Nat} {xs : List Value} {t : TypeId} (h : (row (.slice A m c) t sz xs).holds w) {j : Nat} {v : Value} (hv : xs[j]? = some v) : w.cell? (pt A j) = some v := by
  have hm : 0 < m := by
    rcases Nat.eq_zero_or_pos m with h0 | h0
    · subst h0
      have : xs.length = 0 := by
        rcases h with ⟨A', _, rfl⟩ | ⟨g, off, n, cap, cur, he, _, _, _, _, _, hl, _⟩
        · rfl
        · simp only [Value.slice.injEq] at he
          obtain ⟨_, rfl, _⟩ := he
          simpa using hl
      rw [List.eq_nil_of_length_eq_zero this] at hv
      simp at hv
    · exact h0
  obtain ⟨g, off, cur, rfl, hg, hmc, hc, hsz, hl, htk⟩ := row_form h hm
  rw [← htk, List.getElem?_take] at hv
  rw [pt_some]
  split at hv
  · rw [List.getElem?_drop] at hv
    simp [World.cell?, hg]
    simpa using hv
  · cases hv
theorem y_loadR1 {o : Oper} {t t' : TypeId} {x : Operand} {A : Option Addr} {m c sz j : Nat} {v : Value} {xs : List Value} (i : Nat) (ho : o.op = .load t x) (hg : ∀ w, (isAgg t).run P w = .ok false w) (hx : evO L x = some (.pointer (some (pt A j))))
    (hi : own[i]? = some (row (.slice A m c) t' sz xs)) (hv : xs[j]? = some v) : Yld P o n L I own v := fun a w hF hS => by
  simp only [execOp, ho, hF.ev hx, Instr.loadAt, Instr.sureAddr, Sem.run_bind, Sem.run_pure, Result.andThen_ok, loadVar_one hg (row_cell (own_holds hS hi) hv)]
theorem y_loadRA {o : Oper} {t t' : TypeId} {x : Operand} {A : Option Addr} {m c sz sz' j : Nat} {vs xs : List Value} (i : Nat) (ho : o.op = .load t x) (hg : ∀ w, (isAgg t).run P w = .ok true w) (hz : ∀ w, (sizeOf t).run P w = .ok sz' w) (hx : evO L x = some (.pointer (some (pt A j))))
    (hi : own[i]? = some (row (.slice A m c) t' sz xs)) (hv : (xs.drop j).take sz' = vs) (hl : vs.length = sz') : Yld P o n L I own (.agg vs.toArray) := fun a w hF hS => by
  have hc : ∀ k v, vs[k]? = some v → w.cell? ((pt A j).add k) = some v := fun k v hk => by
    rw [pt_add]
    refine row_cell (own_holds hS hi) ?_
    rw [← hv, List.getElem?_take] at hk
    split at hk
    · rw [List.getElem?_drop] at hk; exact hk
    · cases hk
  simp only [execOp, ho, hF.ev hx, Instr.loadAt, Instr.sureAddr, Sem.run_bind, Sem.run_pure, Result.andThen_ok, loadVar_agg hg hz hl hc]
theorem row_set {w : World} {A : Option Addr} {m c sz j : Nat} {xs vs : List Value} {t : TypeId} (h : (row (.slice A m c) t sz xs).holds w) (hj : j + vs.length ≤ xs.length) (hv : 0 < vs.length) (h1 : ∀ v ∈ vs, v.oneCell' = true) :
    ∃ w', (storeCells (pt A j) vs).run P w = .ok () w' ∧ (row (.slice A m c) t sz (xs.take j ++ vs ++ xs.drop (j + vs.length))).holds w' ∧ (∀ k, k ∉ (row (.slice A m c) t sz xs).keys → w'.heap[k]? = w.heap[k]?) ∧ w'.heap.size = w.heap.size ∧ w'.os = w.os ∧ w'.tape = w.tape ∧ w'.output = w.output := by
  have hm : 0 < m := by
    rcases Nat.eq_zero_or_pos m with h0 | h0
    · subst h0
      have : xs.length = 0 := by
        rcases h with ⟨A', _, rfl⟩ | ⟨g, off, n, cap, cur, he, _, _, _, _, _, hl, _⟩
        · rfl
        · simp only [Value.slice.injEq] at he
          obtain ⟨_, rfl, _⟩ := he
          simpa using hl
      omega
    · exact h0
  obtain ⟨g, off, cur, rfl, hg, hmc, hc, hsz, hl, htk⟩ := row_form h hm
  have hle : m * sz ≤ c * sz := Nat.mul_le_mul_right _ hmc
  have hst := run_storeCells_at P g (off + j) t vs 0 cur w hg (by omega) h1
  rw [pt_some]
  refine ⟨_, hst, .inr ⟨g, off, m, c, _, rfl, by omega, setRow_heap w g _ _ t _ hg, hmc, hc, ?_, ?_, ?_⟩, fun k hk => setRow_other w g k _ (fun hh => hk (by simp [row, rowKeys, hh]; omega)), by simp, rfl, rfl, rfl⟩
  · simp; omega
  · simp; omega
  · subst htk
    simp only [List.length_take, List.length_drop, Array.length_toList] at hj hl
    apply List.ext_getElem?
    intro k
    simp only [Nat.add_zero, List.getElem?_take, List.getElem?_drop, List.getElem?_append, List.length_take, List.length_drop, List.length_append, Array.length_toList]
    have e1 : min (off + j) cur.size = off + j := by omega
    have e2 : min (m * sz) (cur.size - off) = m * sz := by omega
    have e3 : min j (m * sz) = j := by omega
    by_cases k1 : k < j
    · simp [e1, e2, e3, k1, show k < m * sz by omega, show off + k < off + j by omega, show k < j + vs.length by omega, show off + k < off + j + vs.length by omega]
    · by_cases k2 : k < j + vs.length
      · simp [e1, e2, e3, k1, k2, show k < m * sz by omega, show ¬ off + k < off + j by omega, show off + k < off + j + vs.length by omega]
        congr 1; omega
      · by_cases k3 : k < m * sz
        · simp [e1, e2, e3, k1, k2, k3, show ¬ off + k < off + j by omega, show ¬ off + k < off + j + vs.length by omega]
          have : j + vs.length + (k - (j + vs.length)) < m * sz := by omega
          simp [this]
          congr 1; omega
        · simp [e1, e2, e3, k1, k2, k3]
          have : ¬ (j + vs.length + (k - (j + vs.length)) < m * sz) := by omega
          simp [this]
theorem Run.storeR {o : Oper} {rest : List Oper} {t t' : TypeId} {x y : Operand} {A : Option Addr} {m c sz sz' j : Nat} {v : Value} {vs xs xs' : List Value} {own' : List Res} (i : Nat) (ho : o.op = .store t x y) (hx : evO L x = some (.pointer (some (pt A j)))) (hy : evO L y = some v)
    (hz : ∀ w, (sizeOf t).run P w = .ok sz' w) (hv : v.cells = vs.toArray) (hl : vs.length = sz') (hpos : 0 < sz') (h1 : (vs.all (·.oneCell')) = true) (hi : own[i]? = some (row (.slice A m c) t' sz xs)) (he : own.eraseIdx i = own') (hlen : j + vs.length ≤ xs.length)
    (hc : xs.take j ++ vs ++ xs.drop (j + vs.length) = xs') (hg : o.guard = none) (hd : o.dst = none)
    (K : Run P ops Q rest e n L I (row (.slice A m c) t' sz xs' :: own')) : Run P ops Q (o :: rest) e n L I own :=
  Run.effU hg hd fun a w hF hS => by
    obtain ⟨w', hr, hh, hb, hs, h2, h3, h4⟩ := row_set (P := P) (own_holds hS.st hi) hlen (by omega) (fun v hv => by simpa using (List.all_eq_true.1 h1) v hv)
    refine ⟨w', I, _, ?_, hc ▸ hS.turn (perm_at hi he) hh (fun k hk => .inl hk) ?_ (fun k _ hk => hb k hk) (by omega) h2 h3 h4, K⟩
    · simp only [execOp, ho, hF.ev hx, hF.ev hy, Instr.storeAt, Instr.sureAddr, storeVar, hv, hz w, Sem.run_bind, Sem.run_pure, Result.andThen_ok, List.size_toArray, hl, ne_eq, not_true_eq_false, if_false, hr]
    · have := perm_at hi he
      have hk := keys_perm this
      simp only [keysOf_cons] at hk
      exact (List.nodup_append.1 (hk.nodup_iff.2 hS.st.nodup)).1

/-! ### append -/
/-- What is appended: k elements, these cells. -/
def Src (P : Program) (w : World) (sz : Nat) (x : Value) (k : Nat) (ys : List Value) : Prop :=
  (∀ w', (Builtin.lenOf x).run P w' = .ok k w') ∧ ∀ w', w'.heap = w.heap → (Builtin.firstCells sz k x).run P w' = .ok ys.toArray w'
theorem src_raw {w : World} (hS : St w I own) {A : Option Addr} {k c sz : Nat} {ys : List Value} (h : Raw I A k c sz ys) : Src P w sz (.slice A k c) k ys := by
  refine ⟨fun w' => rfl, fun w' hw => ?_⟩
  have hc : ∀ q v, I.cell q = some v → w'.cell? q = some v := fun q v hq => by
    have := imm_cell hS hq
    simpa [World.cell?, hw] using this
  rcases A with _ | p
  · have h0 : k = 0 := by
      rcases Nat.eq_zero_or_pos k with h0 | h0
      · exact h0
      · obtain ⟨p, h', _⟩ := h.2.2.2 h0; cases h'
    subst h0
    have : ys = [] := List.eq_nil_of_length_eq_zero (by simpa using h.1)
    subst this
    exact run_firstCells_none (P := P) w' sz 0 0 c
  · refine run_firstCells_some (P := P) w' sz k p k c ys h.1 (fun j v hv => ?_)
    have hk : 0 < k := by
      rcases Nat.eq_zero_or_pos k with h0 | h0
      · subst h0
        have : ys = [] := List.eq_nil_of_length_eq_zero (by simpa using h.1)
        subst this
        simp at hv
      · exact h0
    obtain ⟨p', h', hp⟩ := h.2.2.2 hk
    injection h' with h'
    subst h'
    exact hc _ _ (hp j v hv)
theorem src_own {w : World} (hS : St w I own) {A : Option Addr} {k c sz : Nat} {ys : List Value} {t : TypeId} {i : Nat} (hi : own[i]? = some (row (.slice A k c) t sz ys)) : Src P w sz (.slice A k c) k ys := by
  have hh := own_holds hS hi
  refine ⟨fun w' => rfl, fun w' hw => ?_⟩
  have hh' : (row (.slice A k c) t sz ys).holds w' := (row (.slice A k c) t sz ys).loc (fun k _ => by rw [hw]) hh
  rcases Nat.eq_zero_or_pos k with h0 | h0
  · subst h0
    have hy : ys = [] := by
      rcases hh with ⟨A', _, rfl⟩ | ⟨g, off, n, cap, cur, he, _, _, _, _, _, hl, _⟩
      · rfl
      · simp only [Value.slice.injEq] at he
        obtain ⟨_, rfl, _⟩ := he
        exact List.eq_nil_of_length_eq_zero (by simpa using hl)
    subst hy
    cases A with
    | none => exact run_firstCells_none (P := P) w' sz 0 0 c
    | some p => exact run_firstCells_some (P := P) w' sz 0 p 0 c [] (by simp) (fun j v hv => by simp at hv)
  · obtain ⟨g, off, cur, rfl, hg, _, _, _, hl, _⟩ := row_form hh h0
    refine run_firstCells_some (P := P) w' sz k _ k c ys hl (fun j v hv => ?_)
    have := row_cell hh' hv
    rwa [pt_some, ← add_lit'] at this
theorem src_str {w : World} {s : ByteArray} : Src P w 1 (.string s) s.size (s.data.toList.map fun b => .int .u8 b.toNat) := by
  refine ⟨fun w' => rfl, fun w' hw => ?_⟩
  simp only [Builtin.firstCells]
  have h1 : (s.extract 0 s.size) = s := by
    apply ByteArray.ext
    simp [ByteArray.data_extract]
  rw [h1]
  simp only [Sem.run_pure]
  congr 1
  apply Array.ext'
  simp
theorem run_append {w : World} {t t2 ty el : TypeId} {e2 : TypeId} {ti : TypeInfo} {z : Value} {sz by_ : Nat} (hu : ∀ w, (underlying t).run P w = .ok (.slice el) w) (hu2 : (∀ w, (underlying t2).run P w = .ok (.slice e2) w) ∨ (∀ w, (underlying t2).run P w = .ok .string w))
    (hz : ∀ w, (sizeOf el).run P w = .ok sz w) (hti : ∀ w, (typeInfo el).run P w = .ok ti w) (hby : ti.bytes = by_) (hzv : ∀ w, (zeroValue el).run P w = .ok z w) (hzs : z.cells.size = sz)
    {A : Option Addr} {m c k : Nat} {x : Value} {xs ys : List Value} (hx : Src P w sz x k ys) (hl : ys.length = k * sz) (h1 : ∀ v ∈ ys, v.oneCell' = true) (hh : (row (.slice A m c) el sz xs).holds w) (hbig : (m + k) * by_ ≤ 140737488355328) (h63 : m + k ≤ maxLen) :
    ∃ A' c' w', (Builtin.append_ #[t, t2] ty #[.slice A m c, x]).run P w = .ok (.slice A' (m + k) c') w' ∧ (row (.slice A' (m + k) c') el sz (xs ++ ys)).holds w' ∧
      (∀ k', k' ∈ (row (.slice A' (m + k) c') el sz (xs ++ ys)).keys → k' ∈ (row (.slice A m c) el sz xs).keys ∨ w.heap.size ≤ k') ∧ (row (.slice A' (m + k) c') el sz (xs ++ ys)).keys.Nodup ∧
      (∀ k', k' < w.heap.size → k' ∉ (row (.slice A m c) el sz xs).keys → w'.heap[k']? = w.heap[k']?) ∧ w.heap.size ≤ w'.heap.size ∧ w'.os = w.os ∧ w'.tape = w.tape ∧ w'.output = w.output := by
  have hnd : ∀ A' m' c' zs, (row (.slice A' m' c') el sz zs).keys.Nodup := fun A' m' c' zs => by
    cases A' <;> simp only [row, rowKeys] <;> (try split) <;> simp
  have hxl : xs.length = m * sz := by
    rcases hh with ⟨A', he, rfl⟩ | ⟨g, off, n, cap, cur, he, _, _, _, _, _, hl, _⟩
    · simp only [Value.slice.injEq] at he; obtain ⟨_, rfl, _⟩ := he; simp
    · simp only [Value.slice.injEq] at he; obtain ⟨_, rfl, _⟩ := he; exact hl
  by_cases hroom : m + k ≤ c
  · -- there is room
    rcases hh with ⟨A', he, rfl⟩ | ⟨g, off, n', cap, cur, he, hcp, hg, hmc, hcm, hsz, hl', htk⟩
    · simp only [Value.slice.injEq] at he
      obtain ⟨rfl, rfl, rfl⟩ := he
      obtain rfl : k = 0 := by omega
      obtain rfl : ys = [] := List.eq_nil_of_length_eq_zero (by simpa using hl)
      refine ⟨A, 0, w, ?_, .inl ⟨A, rfl, rfl⟩, fun k' hk' => .inl hk', hnd _ _ _ _, fun _ _ _ => rfl, Nat.le_refl _, rfl, rfl, rfl⟩
      have hf := hx.2 w rfl
      rcases hu2 with hu2 | hu2 <;> cases A <;> simp [Builtin.append_, hu w, hu2 w, hz w, hx.1 w, hf, storeCells]
    · simp only [Value.slice.injEq] at he
      obtain ⟨rfl, rfl, rfl⟩ := he
      have hle : (m + k) * sz ≤ c * sz := Nat.mul_le_mul_right _ hroom
      rw [Nat.add_mul] at hle
      have hst := run_storeCells_at P g (off + m * sz) el ys 0 cur w hg (by omega) h1
      refine ⟨some ⟨g, off, none⟩, c, w.setRow g (cur.toList.take (off + m * sz + 0) ++ ys ++ cur.toList.drop (off + m * sz + 0 + ys.length)).toArray, ?_, .inr ⟨g, off, m + k, c, _, rfl, hcp, setRow_heap w g _ _ el _ hg, hroom, hcm, ?_, ?_, ?_⟩, fun k' hk' => .inl ?_, hnd _ _ _ _, fun k' _ hk' => setRow_other w g k' _ (fun hh => hk' (by simp [row, rowKeys, hh]; omega)), by simp, rfl, rfl, rfl⟩
      · have hf := hx.2 w rfl
        rcases hu2 with hu2 | hu2 <;> simp [Builtin.append_, hu w, hu2 w, hz w, hx.1 w, hf, hroom, add_lit', hst]
      · simp; omega
      · simp [hxl, hl, Nat.add_mul]
      · subst htk
        apply List.ext_getElem?
        intro j
        simp only [List.length_take, List.length_drop, Array.length_toList] at hl' hxl
        simp only [Nat.add_zero, List.getElem?_take, List.getElem?_drop, List.getElem?_append, List.length_take, List.length_drop, List.length_append, Array.length_toList, Nat.add_mul]
        have e1 : min (off + m * sz) cur.size = off + m * sz := by omega
        have e2 : min (m * sz) (cur.size - off) = m * sz := by omega
        by_cases k1 : j < m * sz
        · simp [e1, e2, k1, show j < m * sz + k * sz by omega, show off + j < off + m * sz by omega, show off + j < off + m * sz + ys.length by omega]
        · by_cases k2 : j < m * sz + k * sz
          · simp [e1, e2, k1, k2, show ¬ off + j < off + m * sz by omega, show off + j < off + m * sz + ys.length by omega]
            congr 1; omega
          · have hy : ys[j - m * sz]? = none := List.getElem?_eq_none (by omega)
            simp [e1, e2, k1, k2, hy]
      · simpa [row, rowKeys] using hk'
  · -- a new row
    have hfit : ¬ (281474976710656 < Builtin.nextslicecap (m + k) c * by_) := by have := growslice_fits (need := m + k) (old := c) (by omega) hbig; omega
    have h63' : ¬ (9223372036854775807 < ((m : Int) + (k : Int))) := by simp only [maxLen] at h63; omega
    have hold : (Builtin.firstCells sz m (.slice A m c)).run P w.drew = .ok xs.toArray w.drew := by
      have : Src P w sz (.slice A m c) m xs := by
        have hS : St w (fun _ => none) [row (.slice A m c) el sz xs] := ⟨fun k o h => (by cases h), fun r hr => (by simp at hr; subst hr; exact hh), fun _ _ => rfl, (by simpa using hnd _ _ _ _)⟩
        exact src_own (P := P) hS (i := 0) rfl
      exact this.2 w.drew rfl
    have hnew := hx.2 w.drew rfl
    have hge := grownCap_ge w (m + k) c el
    have hcm : grownCap w (m + k) c el ≤ maxLen := grownCap_le_maxLen w (m + k) c el h63
    refine ⟨some ⟨w.heap.size, 0, none⟩, grownCap w (m + k) c el, w.drew.alloc (.cells (xs.toArray ++ ys.toArray ++ Builtin.zeroCells z.cells (grownCap w (m + k) c el - (m + k))) el), ?_, .inr ⟨w.heap.size, 0, m + k, _, _, rfl, by omega, heap_alloc_new w.drew _, hge, hcm, ?_, ?_, ?_⟩, fun k' hk' => .inr ?_, hnd _ _ _ _, fun k' h' _ => Below.heap_alloc w.drew _ k' h', by simp, rfl, rfl, rfl⟩
    · subst hby
      rcases hu2 with hu2 | hu2 <;> simp [Builtin.append_, hu w, hu2 w, hz w, hti, hx.1 w, hroom, h63', hfit, Question.forced, hold, hnew, newRow, grownCap, hzv, Array.append_assoc] <;> (congr 2; apply Array.ext'; simp [List.append_assoc])
    · simp only [Array.size_append, List.size_toArray, size_zeroCells, hzs, hxl, hl, ← Nat.add_mul, Nat.zero_add]
      exact Nat.le_of_eq (by congr 1; omega)
    · simp [hxl, hl, Nat.add_mul]
    · simp only [List.drop_zero, Array.toList_append, List.append_assoc]
      rw [← List.append_assoc, Nat.add_mul, ← hxl, ← hl, ← List.length_append]
      exact List.take_left
    · simp only [row, rowKeys] at hk'
      split at hk' <;> simp at hk'
      omega
theorem Run.append {o : Oper} {rest : List Oper} {d : Nat} {s x : Operand} {t t2 el : TypeId} {e2 : TypeId} {ti : TypeInfo} {z v : Value} {sz by_ : Nat} {A : Option Addr} {m c k : Nat} {xs ys : List Value} {own' : List Res} (i : Nat)
    (ho : o.op = .call { callee := .builtin .append, args := #[s, x], argTypes := #[t, t2] }) (hs : evO L s = some (.slice A m c)) (hv : evO L x = some v)
    (hu : ∀ w, (underlying t).run P w = .ok (.slice el) w) (hu2 : (∀ w, (underlying t2).run P w = .ok (.slice e2) w) ∨ (∀ w, (underlying t2).run P w = .ok .string w))
    (hz : ∀ w, (sizeOf el).run P w = .ok sz w) (hti : ∀ w, (typeInfo el).run P w = .ok ti w) (hby : ti.bytes = by_) (hzv : ∀ w, (zeroValue el).run P w = .ok z w) (hzs : z.cells.size = sz)
    (hi : own[i]? = some (row (.slice A m c) el sz xs)) (he : own.eraseIdx i = own') (hx : ∀ w, St w I own → Src P w sz v k ys) (hl : ys.length = k * sz) (h1 : ∀ v ∈ ys, v.oneCell' = true)
    (nn : Nat) (hnn : m + k = nn) (hbig : nn * by_ ≤ 140737488355328) (h63 : nn ≤ maxLen) (hg : o.guard = none) (hd : o.dst = some d) (hn : d < n)
    (K : ∀ A' c', Run P ops Q rest e n ((d, .slice A' nn c') :: L) I (row (.slice A' nn c') el sz (xs ++ ys) :: own')) : Run P ops Q (o :: rest) e n L I own :=
  Run.eff hg hd hn fun a w hF hS => by
    subst hnn
    obtain ⟨A', c', w', hr, hh, hk, hnd, hb, hsz, h2, h3, h4⟩ := run_append (ty := o.type) hu hu2 hz hti hby hzv hzs (hx w hS.st) hl h1 (own_holds hS.st hi) hbig h63
    refine ⟨_, w', I, _, ?_, hS.turn (perm_at hi he) hh hk hnd hb hsz h2 h3 h4, K A' c'⟩
    simp only [execOp, ho, resolve, invoke, builtin, Sem.run_bind, Sem.run_pure, Result.andThen_ok, List.map_toArray, List.map_cons, List.map_nil, hF.ev hs, hF.ev hv, hr]
end
end Go.Proofs.YtmelbclhkkbmiaaGreat.K
