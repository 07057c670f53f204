/- Rows of rows that the call owns: each row may be taken out, turned and put back; at the end all are read alone. No condition beyond those that each theorem names. -/
import Derived.Test.YtmelbclhkkbmiaaGreatK9
set_option linter.unusedVariables false
set_option linter.unusedSimpArgs false
namespace Go.Proofs.YtmelbclhkkbmiaaGreat.K
open Go Go.RowKit

/-- Many resources as one. -/
def allR (l : List Res) : Res where
  keys := keysOf l
  holds w := ∀ r ∈ l, r.holds w
  loc h hh := fun r hr => r.loc (fun k hk => h k (List.mem_flatMap.2 ⟨r, hr, hk⟩)) (hh r hr)
  lt hh k hk := by
    obtain ⟨r, hr, hk⟩ := List.mem_flatMap.1 hk
    exact r.lt (hh r hr) k hk
structure NR (α : Type) where
  A : Option Addr
  c : Nat
  cl : List Value
  x : List α
def NR.v {α : Type} (e : NR α) : Value := .slice e.A e.x.length e.c
def nCells {α : Type} (L : List (NR α)) : List Value := L.map NR.v
def NR.res {α : Type} (t : TypeId) (sz : Nat) (e : NR α) : Res := row (.slice e.A e.x.length e.c) t sz e.cl
def nRes {α : Type} (t : TypeId) (sz : Nat) (L : List (NR α)) : List Res := L.map (NR.res t sz)
section
variable {P : Program} {ops : Array Oper} {Q : Exit → Act → World → Prop} {e : Ent} {n : Nat} {L : List (Nat × Value)} {I : Imm} {own : List Res}
theorem keys_allR (l : List Res) : (allR l).keys = keysOf l := rfl
theorem S.outAll {w : World} {l : List Res} (h : S e w I (allR l :: own)) : S e w I (l ++ own) := by
  have hk : keysOf (allR l :: own) = keysOf (l ++ own) := by simp [keys_allR]
  refine ⟨⟨h.st.ok, fun r hr => ?_, fun k hk' => h.st.apart k (hk ▸ hk'), hk ▸ h.st.nodup⟩, ⟨h.up.os, h.up.tape, h.up.output, h.up.size, h.up.frame, h.up.le, h.up.ext, fun k hk' => h.up.new k (hk ▸ hk')⟩⟩
  rcases List.mem_append.1 hr with hr | hr
  · exact h.st.holds (allR l) (by simp) r hr
  · exact h.st.holds r (by simp [hr])
theorem S.inAll {w : World} {l : List Res} (h : S e w I (l ++ own)) : S e w I (allR l :: own) := by
  have hk : keysOf (allR l :: own) = keysOf (l ++ own) := by simp [keys_allR]
  refine ⟨⟨h.st.ok, fun r hr => ?_, fun k hk' => h.st.apart k (hk ▸ hk'), hk ▸ h.st.nodup⟩, ⟨h.up.os, h.up.tape, h.up.output, h.up.size, h.up.frame, h.up.le, h.up.ext, fun k hk' => h.up.new k (hk ▸ hk')⟩⟩
  rcases List.mem_cons.1 hr with rfl | hr
  · exact fun r hr => h.st.holds r (List.mem_append.2 (.inl hr))
  · exact h.st.holds r (List.mem_append.2 (.inr hr))
theorem S.perm' {w : World} {own' : List Res} (h : S e w I own) (hp : own'.Perm own) : S e w I own' := h.sub ⟨[], by simpa using hp⟩
theorem perm_ix {β : Type} : ∀ {l : List β} {q : Nat} {a : β}, l[q]? = some a → (a :: l.eraseIdx q).Perm l
  | [], _, _, h => by simp at h
  | b :: l, 0, a, h => by
    have : b = a := by simpa using h
    subst this
    exact List.Perm.refl _
  | b :: l, q + 1, a, h => by
    have ih := perm_ix (l := l) (q := q) (a := a) (by simpa using h)
    exact (List.Perm.swap _ _ _).trans (List.Perm.cons _ ih)
theorem erase_set {β : Type} : ∀ (l : List β) (q : Nat) (a : β), (l.set q a).eraseIdx q = l.eraseIdx q
  | [], _, _ => by simp
  | b :: l, 0, a => rfl
  | b :: l, q + 1, a => by simp [erase_set l q a]
theorem nRes_out {α : Type} {t : TypeId} {sz q : Nat} {M : List (NR α)} {en : NR α} (hq : M[q]? = some en) : (en.res t sz :: nRes t sz (M.eraseIdx q)).Perm (nRes t sz M) :=
  (perm_ix hq).map (NR.res t sz)
theorem nRes_in {α : Type} {t : TypeId} {sz q : Nat} {M : List (NR α)} (en : NR α) (hq : q < M.length) : (nRes t sz (M.set q en)).Perm (en.res t sz :: nRes t sz (M.eraseIdx q)) := by
  have h := perm_ix (l := M.set q en) (q := q) (a := en) (by rw [List.getElem?_set_self hq])
  rw [erase_set] at h
  exact h.symm.map (NR.res t sz)
/-- One row is taken out. -/
theorem S.outN {α : Type} {w : World} {t : TypeId} {sz q : Nat} {M : List (NR α)} {en : NR α} (hq : M[q]? = some en) (h : S e w I (allR (nRes t sz M) :: own)) : S e w I (row (.slice en.A en.x.length en.c) t sz en.cl :: allR (nRes t sz (M.eraseIdx q)) :: own) := by
  have h2 : S e w I (en.res t sz :: (nRes t sz (M.eraseIdx q) ++ own)) := h.outAll.perm' ((nRes_out hq).append_right own)
  have h3 : S e w I (nRes t sz (M.eraseIdx q) ++ (own ++ [en.res t sz])) := h2.perm' (by rw [← List.append_assoc]; exact List.perm_append_comm.trans (List.Perm.refl _))
  exact (h3.inAll).perm' ((List.Perm.swap _ _ _).trans (List.Perm.cons _ (List.perm_append_comm (l₁ := [en.res t sz]) (l₂ := own))))
/-- And put back, turned. -/
theorem S.inN {α : Type} {w : World} {t : TypeId} {sz q : Nat} {M : List (NR α)} (en : NR α) (hq : q < M.length) (h : S e w I (row (.slice en.A en.x.length en.c) t sz en.cl :: allR (nRes t sz (M.eraseIdx q)) :: own)) : S e w I (allR (nRes t sz (M.set q en)) :: own) := by
  have h2 : S e w I (allR (nRes t sz (M.eraseIdx q)) :: (en.res t sz :: own)) := h.perm' (List.Perm.swap _ _ _)
  have h3 : S e w I (nRes t sz (M.eraseIdx q) ++ (en.res t sz :: own)) := h2.outAll
  have h4 : S e w I (nRes t sz (M.set q en) ++ own) := h3.perm' (((nRes_in en hq).append_right own).trans (List.perm_middle.symm))
  exact h4.inAll
theorem Run.outN {α : Type} {rest : List Oper} {t : TypeId} {sz q : Nat} {M : List (NR α)} {en : NR α} {own' : List Res} (i : Nat) (hi : own[i]? = some (allR (nRes t sz M))) (he : own.eraseIdx i = own') (hq : M[q]? = some en)
    (K : Run P ops Q rest e n L I (row (.slice en.A en.x.length en.c) t sz en.cl :: allR (nRes t sz (M.eraseIdx q)) :: own')) : Run P ops Q rest e n L I own := fun a w hF hS => K a w hF ((hS.perm' (perm_at hi he)).outN hq)
theorem Run.inN {α : Type} {rest : List Oper} {t : TypeId} {sz q m c : Nat} {M : List (NR α)} {A : Option Addr} {cl : List Value} {own' : List Res} (x : List α) (hm : x.length = m) (hq : q < M.length)
    (hp : (row (.slice A m c) t sz cl :: allR (nRes t sz (M.eraseIdx q)) :: own').Perm own) (K : Run P ops Q rest e n L I (allR (nRes t sz (M.set q ⟨A, c, cl, x⟩)) :: own')) : Run P ops Q rest e n L I own := fun a w hF hS => by
  subst hm
  exact K a w hF ((hS.perm' hp).inN ⟨A, c, cl, x⟩ hq)
/-- At first each is nil. -/
def nNil (α : Type) : NR α := ⟨none, 0, [], []⟩
theorem S.nilN {α : Type} {w : World} (h : S e w I own) (t : TypeId) (sz m : Nat) : S e w I (allR (nRes t sz (List.replicate m (nNil α))) :: own) := by
  refine S.inAll ?_
  induction m with
  | zero => exact h
  | succ m ih => rw [List.replicate_succ]; exact ih.nilrow none t sz
theorem Run.nilN {rest : List Oper} (α : Type) (t : TypeId) (sz m : Nat) (K : Run P ops Q rest e n L I (allR (nRes t sz (List.replicate m (nNil α))) :: own)) : Run P ops Q rest e n L I own := fun a w hF hS => K a w hF (hS.nilN t sz m)
theorem nCells_nil (α : Type) (m : Nat) : nCells (List.replicate m (nNil α)) = List.replicate m (.slice none 0 0) := by simp [nCells, nNil, NR.v]
theorem S.freezeL {w : World} : ∀ {l : List Res} {I : Imm}, S e w I (l ++ own) → ∃ J, I.le J ∧ S e w J own ∧ ∀ r ∈ l, r.holds w ∧ ∀ k ∈ r.keys, J k = w.heap[k]?
  | [], I, h => ⟨I, Imm.le.refl _, h, fun r hr => by cases hr⟩
  | r :: l, I, h => by
    have hh := h.st.holds r (by simp)
    obtain ⟨J, hle, hk, h2⟩ := S.freeze h (List.Perm.refl _)
    obtain ⟨J2, hle2, h3, hk2⟩ := S.freezeL h2
    refine ⟨J2, hle.trans hle2, h3, fun r' hr => ?_⟩
    rcases List.mem_cons.1 hr with rfl | hr
    · refine ⟨hh, fun k hk' => ?_⟩
      have e1 := hk k hk'
      cases hw : w.heap[k]? with
      | none => exact absurd (r'.lt hh k hk') (by have := Array.getElem?_eq_none_iff.1 hw; omega)
      | some o => exact hle2 k o (e1.trans hw)
    · exact hk2 r' hr
theorem all_map {α β : Type} {T : Ty α} {J : Imm} {f : β → Value} {g : β → α} {M : List β} (hz : T.sz = 1) (h : ∀ e ∈ M, T.rd J [f e] (g e)) : T.all J (M.map f) (M.map g) := by
  refine ⟨by simp [hz], fun j x hx => ?_⟩
  rw [List.getElem?_map] at hx
  cases he : M[j]? with
  | none => rw [he] at hx; cases hx
  | some b =>
    rw [he] at hx
    injection hx with hx
    subst hx
    have hlt := (List.getElem?_eq_some_iff.1 he).1
    rw [hz, Nat.mul_one, List.drop_eq_getElem_cons (by simpa using hlt)]
    simp only [List.getElem_map, List.take_succ_cons, List.take_zero]
    rw [(List.getElem?_eq_some_iff.1 he).2]
    exact h b (List.mem_of_getElem? he)
/-- All is read alone from now on. -/
theorem S.freezeN {α : Type} {T : Ty α} {w : World} {A : Option Addr} {m c : Nat} {tO t : TypeId} {M : List (NR α)} (hm : M.length = m) (hT : ∀ e ∈ M, T.all I e.cl e.x) (h : S e w I (row (.slice A m c) tO 1 (nCells M) :: allR (nRes t T.sz M) :: own)) :
    ∃ J, I.le J ∧ S e w J own ∧ Sl (tSl T) J A c (M.map NR.x) := by
  have h1 : S e w I (allR (nRes t T.sz M) :: (row (.slice A m c) tO 1 (nCells M) :: own)) := h.perm' (List.Perm.swap _ _ _)
  have h2 : S e w I ((nRes t T.sz M ++ [row (.slice A m c) tO 1 (nCells M)]) ++ own) := by simpa using h1.outAll
  obtain ⟨J, hle, hS, hk⟩ := h2.freezeL
  refine ⟨J, hle, hS, ?_⟩
  have ho := hk (row (.slice A m c) tO 1 (nCells M)) (by simp)
  have hraw := row_Raw ho.1 ho.2
  refine Sl.of_rowN hraw (by simpa using hm) rfl (all_map rfl fun en hen => ?_)
  have hr := hk (en.res t T.sz) (by simp only [nRes, List.mem_append, List.mem_map]; exact .inl ⟨en, hen, rfl⟩)
  exact ⟨en.A, en.c, rfl, Sl.of_row (row_Raw hr.1 hr.2) ((hT en hen).mono hle)⟩
theorem nCells_at {α : Type} {M : List (NR α)} {q : Nat} {en : NR α} (h : M[q]? = some en) : (nCells M)[q * 1]? = some (.slice en.A en.x.length en.c) := by
  rw [Nat.mul_one, nCells, List.getElem?_map, h]; rfl
theorem nCells_set {α : Type} {M : List (NR α)} {q : Nat} (en : NR α) (hq : q < M.length) : (nCells M).take (q * 1) ++ [.slice en.A en.x.length en.c] ++ (nCells M).drop (q * 1 + 1) = nCells (M.set q en) := by
  rw [Nat.mul_one, nCells, nCells, List.map_set, List.set_eq_take_append_cons_drop, if_pos (by simpa using hq)]
  simp [NR.v]
theorem nCells_room {α : Type} {M : List (NR α)} {q : Nat} {v : Value} (hq : q < M.length) : q * 1 + [v].length ≤ (nCells M).length := by
  simp [nCells]; omega
theorem nest_set {α : Type} {T : Ty α} {M : List (NR α)} {q : Nat} {en : NR α} {J : Imm} (hM : ∀ e ∈ M, T.all I e.cl e.x) (hle : I.le J) (h : T.all J en.cl en.x) : ∀ e ∈ M.set q en, T.all J e.cl e.x := fun e' he => by
  rcases List.mem_or_eq_of_mem_set he with h1 | h1
  · exact (hM e' h1).mono hle
  · subst h1; exact h
theorem nest_mono {α : Type} {T : Ty α} {M : List (NR α)} {J : Imm} (hM : ∀ e ∈ M, T.all I e.cl e.x) (hle : I.le J) : ∀ e ∈ M, T.all J e.cl e.x := fun e' he => (hM e' he).mono hle
theorem nest_nil {α : Type} {T : Ty α} {m : Nat} : ∀ e ∈ List.replicate m (nNil α), T.all I e.cl e.x := fun e' he => by
  obtain ⟨_, rfl⟩ := List.mem_replicate.1 he; exact all_nil
theorem Run.rowEq {rest : List Oper} {v : Value} {t : TypeId} {sz : Nat} {xs xs' : List Value} (h : xs = xs') (K : Run P ops Q rest e n L I (row v t sz xs' :: own)) : Run P ops Q rest e n L I (row v t sz xs :: own) := h ▸ K
theorem Run.freezeN {α : Type} {T : Ty α} {rest : List Oper} {A : Option Addr} {m c sz : Nat} {tO t : TypeId} {M : List (NR α)} {own' : List Res} (hz : T.sz = sz) (hm : M.length = m) (hT : ∀ e ∈ M, T.all I e.cl e.x) (hp : (row (.slice A m c) tO 1 (nCells M) :: allR (nRes t sz M) :: own').Perm own)
    (K : ∀ J, I.le J → Sl (tSl T) J A c (M.map NR.x) → Run P ops Q rest e n L J own') : Run P ops Q rest e n L I own := fun a w hF hS => by
  subst hz
  obtain ⟨J, hle, h2, hs⟩ := S.freezeN hm hT (hS.perm' hp)
  exact K J hle hs a w hF h2
theorem RunQ.freezeN {α : Type} {T : Ty α} {x : Exit} {A : Option Addr} {m c sz : Nat} {tO t : TypeId} {M : List (NR α)} {own' : List Res} (hz : T.sz = sz) (hm : M.length = m) (hT : ∀ e ∈ M, T.all I e.cl e.x) (hp : (row (.slice A m c) tO 1 (nCells M) :: allR (nRes t sz M) :: own').Perm own)
    (K : ∀ J, I.le J → Sl (tSl T) J A c (M.map NR.x) → RunQ Q x e n L J own') : RunQ Q x e n L I own := fun a w hF hS => by
  subst hz
  obtain ⟨J, hle, h2, hs⟩ := S.freezeN hm hT (hS.perm' hp)
  exact K J hle hs a w hF h2
end
end Go.Proofs.YtmelbclhkkbmiaaGreat.K
