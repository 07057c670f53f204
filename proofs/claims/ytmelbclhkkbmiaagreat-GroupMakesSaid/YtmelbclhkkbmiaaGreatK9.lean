/- Regions whose order is drawn and that touch memory: operations that read alone are taken first, the others in each order that may be. No condition beyond those that each theorem names. -/
import Derived.Test.YtmelbclhkkbmiaaGreatK7
import Derived.OrdersHeld
set_option linter.unusedVariables false
set_option linter.unusedSimpArgs false
namespace Go.Proofs.YtmelbclhkkbmiaaGreat.K
open Go Go.RowKit

section
variable {P : Program} {ops : Array Oper} {md : Region.Mode} {S : World → Prop} {D : Act → World → Prop} {sk : List Nat}

/-- No exit at all: an operation that may panic has no place here. -/
def QN : Exit → Act → World → Prop := fun _ _ _ => False
theorem letsOut_QN : ¬ LetsOut QN := fun ⟨_, _, h⟩ => h
theorem wp_QN {o : Oper} {a : Act} {w : World} {K : Act → World → Prop} {Q : Exit → Act → World → Prop} (h : o.wp P a w K QN) : o.wp P a w K Q := by
  unfold Oper.wp at *
  generalize (execOp a.eval o).run P w = r at *
  cases r with
  | ok n w' =>
    cases n <;> simp only [Oper.upon] at h ⊢ <;> first | exact h | skip
    exact Calls.mono h (fun e w'' he => by cases e <;> first | exact he | exact absurd he letsOut_QN | exact absurd he (by simp [QN]))
  | halt x w' => cases x <;> simp only [Oper.upon] at h ⊢ <;> first | exact h | exact absurd h (by simp [QN])
theorem wpOp_QN {i : Nat} {a : Act} {w : World} {K : Act → World → Prop} {Q : Exit → Act → World → Prop} (h : wpOp P ops QN i K a w) : wpOp P ops Q i K a w := by
  unfold wpOp at *
  split
  · simpa [*] using h
  · rename_i o ho
    simp only [ho] at h
    split
    · rename_i hw
      simp only [hw, if_true] at h
      exact .inl (wp_QN (h.resolve_right fun hh => letsOut_QN hh.2))
    · rename_i hw; rw [if_neg hw] at h; exact h
/-- One operation, walked by the rules of a list. -/
theorem wpOp_of_list {i : Nat} {o : Oper} {a : Act} {w : World} {K : Act → World → Prop} {Q : Exit → Act → World → Prop} (hi : ops[i]? = some o) (h : wpList P ops (fun x a w => x = .normal ∧ K a w) [o] a w) : wpOp P ops Q i K a w := by
  have hlo : ¬ LetsOut (fun x a w => x = Exit.normal ∧ K a w) := fun ⟨_, _, h, _⟩ => by cases h
  unfold wpOp
  simp only [hi]
  unfold wpList at h
  split
  · rename_i hw
    rw [if_pos hw] at h
    have h := h.resolve_right fun hh => hlo hh.2
    refine .inl ?_
    unfold Oper.wp at *
    generalize (execOp a.eval o).run P w = r at *
    cases r with
    | ok n w' =>
      cases n <;> simp only [Oper.upon, wpList] at h ⊢
      case value u => exact h.2
      case skip => exact h.2
      case defer d => exact h.2
      case enter f args => exact Calls.mono h (fun e w'' he => by cases e <;> first | exact he.2 | exact absurd he hlo | exact absurd he.1 (by simp))
      case row r args => exact Rows.mono h (fun _ _ he => he.2)
    | halt x w' => cases x <;> simp only [Oper.upon] at h ⊢ <;> exact absurd h.1 (by simp)
  · rename_i hw
    rw [if_neg hw] at h
    exact h.2

/-- What is known of memory while none of the last ones has come up. -/
def Tk (sk : List Nat) (S : World → Prop) (listed : Array Bool) (w : World) : Prop := (∀ k ∈ sk, listed.getD k false = false) → S w
def wpT (P : Program) (md : Region.Mode) (ops : Array Oper) (sk : List Nat) (S : World → Prop) (D : Act → World → Prop) : Nat → Array Bool → Act → World → Prop
  | 0, listed, a, w => Region.ready md ops listed = [] ∧ D a w
  | fuel + 1, listed, a, w => (Region.ready md ops listed = [] → D a w) ∧
    ∀ i ∈ Region.ready md ops listed, wpOp P ops QN i (fun a' w' => Tk sk S (listed.setIfInBounds i true) w' ∧ wpT P md ops sk S D fuel (listed.setIfInBounds i true) a' w') a w
theorem wpAny_of_T {Q : Exit → Act → World → Prop} (hD : ∀ a w, D a w → Q .normal a w) : ∀ (fuel : Nat) (listed : Array Bool) (a : Act) (w : World), wpT P md ops sk S D fuel listed a w → wpAny P md ops Q fuel listed a w
  | 0, _, _, _, h => ⟨h.1, hD _ _ h.2⟩
  | fuel + 1, _, _, _, h => ⟨fun h0 => hD _ _ (h.1 h0), fun i hi => wpOp_mono (fun a' w' h' => wpAny_of_T hD fuel _ a' w' h'.2) (wpOp_QN (h.2 i hi))⟩
theorem tk_swap {i j : Nat} {listed : Array Bool} {w : World} (hi : i ∉ sk) (h : Tk sk S ((listed.setIfInBounds i true).setIfInBounds j true) w) : Tk sk S (listed.setIfInBounds j true) w := fun hk => h fun k hks => by
  have hne : i ≠ k := fun e => hi (e ▸ hks)
  have := hk k hks
  by_cases hji : j = i
  · subst hji
    have e : (listed.setIfInBounds j true).setIfInBounds j true = listed.setIfInBounds j true := by simp
    rw [e]; exact this
  · rw [Array.setIfInBounds_comm _ _ (fun e => hji e.symm), getD_set_ne false hne]; exact this
/-- An operation that reads alone may be taken first. -/
theorem wpT_first {i : Nat} {oi : Oper} {v : Value} {S0 : World → Prop} {GG : Array Bool → Prop} (hi : ops[i]? = some oi) (hsel : ∀ (j : Nat) (o : Oper) cs b, ops[j]? = some o → o.op ≠ .select cs b) (hik : i ∉ sk)
    (hT : ∀ listed w, GG listed → Tk sk S listed w → S0 w) (hG : ∀ listed j, GG listed → j ∈ Region.ready md ops listed → j ≠ i → listed.getD i true = false → GG (listed.setIfInBounds j true)) :
    ∀ (fuel : Nat) (listed : Array Bool) (a : Act) (w : World), GG listed →
      (∀ j oj, ops[j]? = some oj → j ≠ i → listed.getD j true = false → (∀ e ∈ oj.after, Region.binds md e = true → e.on ≠ i) → oi.apart ops oj = true) →
      i ∈ Region.ready md ops listed → YieldsIf P ops S0 oi v a → S0 w → Tk sk S (listed.setIfInBounds i true) w →
      wpT P md ops sk S D fuel (listed.setIfInBounds i true) (a.put oi.dst v) w → wpT P md ops sk S D (fuel + 1) listed a w := by
  intro fuel
  induction fuel with
  | zero =>
    intro listed a w _ _ hr hy hS hTi H
    refine ⟨fun h => (by rw [h] at hr; cases hr), fun j hj => ?_⟩
    by_cases hji : j = i
    · subst hji; exact hy.wpOp hi hS ⟨hTi, H⟩
    · have := ready_mono hj hji
      rw [H.1] at this
      cases this
  | succ fuel ih =>
    intro listed a w hg hfree hr hy hS hTi H
    refine ⟨fun h => (by rw [h] at hr; cases hr), fun j hj => ?_⟩
    by_cases hji : j = i
    · subst hji; exact hy.wpOp hi hS ⟨hTi, H⟩
    · have h1 := H.2 j (ready_mono hj hji)
      obtain ⟨hjun, oj, hoj, hall⟩ := mem_ready.1 hj
      have hiun := (mem_ready.1 hr).1
      have hnot : ∀ e ∈ oj.after, Region.binds md e = true → e.on ≠ i := fun e he hb heq => by
        have h1 := hall e he hb
        rw [heq] at h1
        rcases Nat.lt_or_ge i listed.size with h' | h'
        · simp [h'] at hiun h1; rw [hiun] at h1; cases h1
        · simp [Array.getElem?_eq_none h'] at h1
      have h2 := wpOp_putIf hoj (hfree j oj hoj hji hjun hnot) (fun cs b => hsel i oi cs b hi) (fun cs b => hsel j oj cs b hoj) (fun _ _ _ h => h) hy h1
      have hfree' : ∀ k ok, ops[k]? = some ok → k ≠ i → (listed.setIfInBounds j true).getD k true = false →
          (∀ e ∈ ok.after, Region.binds md e = true → e.on ≠ i) → oi.apart ops ok = true := fun k ok hk hki hun hno => by
        refine hfree k ok hk hki ?_ hno
        by_cases hjk : j = k
        · subst hjk; exact hjun
        · rw [getD_set_ne true hjk] at hun; exact hun
      have hg' := hG listed j hg hj hji hiun
      refine wpOp_mono (fun a' w' h3 => ?_) h2
      have hTj := tk_swap hik h3.2.1
      refine ⟨hTj, ih (listed.setIfInBounds j true) a' w' hg' hfree' (ready_mono hr (Ne.symm hji)) h3.1 (hT _ _ hg' hTj) ?_ ?_⟩
      · rw [Array.setIfInBounds_comm _ _ hji]; exact h3.2.1
      · rw [Array.setIfInBounds_comm _ _ hji]; exact h3.2.2
/-- The last ones wait for this one. -/
def lastB (md : Region.Mode) (ops : Array Oper) (sk : List Nat) (i : Nat) : Bool := sk.all fun k => k != i && match ops[k]? with | some o => o.after.any fun e => Region.binds md e && e.on == i | none => true
def noneB (sk : List Nat) (listed : Array Bool) : Bool := sk.all fun k => !listed.getD k false
theorem noneB_spec {listed : Array Bool} (h : noneB sk listed = true) : ∀ k ∈ sk, listed.getD k false = false := fun k hk => by
  have := List.all_eq_true.1 h k hk
  simpa using this
/-- It reads what stays as it is till the last ones come up. -/
theorem wpT_takeS {i : Nat} {oi : Oper} {v : Value} {fuel : Nat} {listed : Array Bool} {a : Act} {w : World} (hi : ops[i]? = some oi) (hs : Region.noSelect ops = true) (hf : Region.free md ops listed i = true) (hr : (Region.ready md ops listed).contains i = true)
    (hl : lastB md ops sk i = true) (hn : noneB sk listed = true) (hy : YieldsIf P ops S oi v a) (hS : S w) (h : wpT P md ops sk S D fuel (listed.setIfInBounds i true) (a.put oi.dst v) w) : wpT P md ops sk S D (fuel + 1) listed a w := by
  have hik : i ∉ sk := fun hm => by
    have := List.all_eq_true.1 hl i hm
    simp at this
  refine wpT_first (S0 := S) (GG := fun l => ∀ k ∈ sk, l.getD k false = false) hi (Region.noSelect_spec hs) hik (fun l w hg ht => ht hg) (fun l j hg hj hji hiun k hk => ?_) fuel listed a w (noneB_spec hn) (Region.free_spec hi hf) (by simpa using hr) hy hS (fun _ => hS) h
  by_cases hjk : j = k
  · subst hjk
    exfalso
    have h1 := List.all_eq_true.1 hl j hk
    obtain ⟨_, oj, hoj, hall⟩ := mem_ready.1 hj
    simp only [hoj, Bool.and_eq_true] at h1
    obtain ⟨e, he, hb⟩ := Array.any_eq_true'.1 h1.2
    simp only [Bool.and_eq_true, beq_iff_eq] at hb
    have h2 := hall e he hb.1
    rw [hb.2] at h2
    rcases Nat.lt_or_ge i l.size with h' | h'
    · simp [h'] at hiun h2; rw [hiun] at h2; cases h2
    · simp [Array.getElem?_eq_none h'] at h2
  · rw [getD_set_ne false hjk]; exact hg k hk
/-- It reads no memory at all. -/
theorem wpT_takeP {i : Nat} {oi : Oper} {v : Value} {fuel : Nat} {listed : Array Bool} {a : Act} {w : World} (hi : ops[i]? = some oi) (hs : Region.noSelect ops = true) (hf : Region.free md ops listed i = true) (hr : (Region.ready md ops listed).contains i = true)
    (hik : sk.contains i = false) (hy : YieldsIf P ops (fun _ => True) oi v a) (hS : Tk sk S listed w) (h : wpT P md ops sk S D fuel (listed.setIfInBounds i true) (a.put oi.dst v) w) : wpT P md ops sk S D (fuel + 1) listed a w := by
  have hik' : i ∉ sk := by simpa using hik
  refine wpT_first (S0 := fun _ => True) (GG := fun _ => True) hi (Region.noSelect_spec hs) hik' (fun _ _ _ _ => trivial) (fun _ _ _ _ _ _ => trivial) fuel listed a w trivial (Region.free_spec hi hf) (by simpa using hr) hy trivial (fun hk => hS fun k hks => ?_) h
  have := hk k hks
  have hne : i ≠ k := fun q => hik' (by subst q; exact hks)
  rwa [getD_set_ne false hne] at this
end

section
variable {P : Program} {ops : Array Oper} {Q : Exit → Act → World → Prop} {e : Ent} {n : Nat} {L : List (Nat × Value)} {I : Imm} {own : List Res} {sk : List Nat} {I0 : Imm} {kept : List Res} {listed : Array Bool} {fuel : Nat}
/-- What stays as it is. -/
def SC (e : Ent) (I0 : Imm) (kept : List Res) (w : World) : Prop := ∃ J o, I0.le J ∧ S e w J (kept ++ o)
theorem SC.st {w : World} (h : SC e I0 kept w) : St w I0 kept := by
  obtain ⟨J, o, hle, hS⟩ := h
  have h2 := hS.st.sub (own' := kept) ⟨o, List.Perm.refl _⟩
  refine ⟨fun k x hk => h2.ok k x (hle k x hk), h2.holds, fun k hk => ?_, h2.nodup⟩
  have := h2.apart k hk
  cases h0 : I0 k with
  | none => rfl
  | some x => rw [hle k x h0] at this; cases this
theorem st_none (w : World) : St w (fun _ => none) [] := ⟨(fun _ _ h => by cases h), (fun _ h => absurd h (by simp)), (fun _ h => absurd h (by simp)), (by simp)⟩
def RunT (P : Program) (ops : Array Oper) (Q : Exit → Act → World → Prop) (sk : List Nat) (I0 : Imm) (kept : List Res) (fuel : Nat) (listed : Array Bool) (e : Ent) (n : Nat) (L : List (Nat × Value)) (I : Imm) (own : List Res) : Prop :=
  ∀ a w, Frm a n L → S e w I own → wpT P .any ops sk (SC e I0 kept) (fun a w => Q .normal a w) fuel listed a w
theorem RunC.regionT {id : Nat} {l : List Oper} (sk : List Nat) (kept : List Res) (hm : P.follows .mixedOrders = true) {fuel : Nat} (hfu : l.length = fuel) (h : RunT P l.toArray Q sk I kept fuel (List.replicate fuel false).toArray e n L I own) : RunC P Q (.region id l.toArray true) e n L I own := fun a w hF hS => by
  subst hfu
  refine wp_region_any hm (wpAny_of_T (sk := sk) (S := SC e I kept) (D := fun a w => Q .normal a w) (Q := Q) (fun _ _ h => h) _ _ _ _ ?_)
  have := h a _ hF hS.drew
  simpa using this
theorem RunT.done (hr : Region.ready .any ops listed = []) (h : RunQ Q .normal e n L I own) : RunT P ops Q sk I0 kept fuel listed e n L I own := fun a w hF hS => by
  cases fuel with
  | zero => exact ⟨hr, h a w hF hS⟩
  | succ f => exact ⟨fun _ => h a w hF hS, by rw [hr]; simp⟩
theorem sc_of {w : World} (hS : S e w I own) (hI : I0.le I) (hk : ∃ l, (kept ++ l).Perm own) : SC e I0 kept w := by
  obtain ⟨o, hk⟩ := hk
  exact ⟨I, o, hI, hS.sub ⟨[], by simpa using hk⟩⟩
/-- Whether an operation is carried out. -/
def Wtd (ops : Array Oper) (n : Nat) (L : List (Nat × Value)) (o : Oper) : Prop := ∀ a, Frm a n L → Region.wanted o (yielded ops a.tmps) = true
def NWtd (ops : Array Oper) (n : Nat) (L : List (Nat × Value)) (o : Oper) : Prop := ∀ a, Frm a n L → Region.wanted o (yielded ops a.tmps) = false
theorem Wtd.plain {o : Oper} (hg : o.guard = none) : Wtd ops n L o := fun a _ => by simp [Region.wanted, hg]
theorem Wtd.yes {o o' : Oper} {j dj : Nat} {b b' : Bool} (hg : o.guard = some (j, b)) (ho : ops[j]? = some o') (hdj : o'.dst = some dj) (hb : get L dj = some (.bool b')) (hbb : b' = b) : Wtd ops n L o := fun a hF => by
  subst hbb
  simp [Region.wanted, hg, yielded_of hF ho hdj hb]
theorem NWtd.no {o o' : Oper} {j dj : Nat} {b b' : Bool} (hg : o.guard = some (j, b)) (ho : ops[j]? = some o') (hdj : o'.dst = some dj) (hb : get L dj = some (.bool b')) (hne : b' = !b) : NWtd ops n L o := fun a hF => by
  simp [Region.wanted, hg, yielded_of hF ho hdj hb, hne]
theorem NWtd.undef {o o' : Oper} {j dj : Nat} {b : Bool} (hg : o.guard = some (j, b)) (ho : ops[j]? = some o') (hdj : o'.dst = some dj) (hb : get L dj = some undef) : NWtd ops n L o := fun a hF => by
  simp [Region.wanted, hg, yielded_none hF ho hdj hb]
/-- One that reads what stays. -/
theorem RunT.y {o : Oper} {d : Nat} {v : Value} (i : Nat) (hi : ops[i]? = some o) (hs : Region.noSelect ops = true) (hf : Region.free .any ops listed i = true) (hr : (Region.ready .any ops listed).contains i = true) (hl : lastB .any ops sk i = true) (hn : noneB sk listed = true)
    (hI : I0.le I) (hk : ∃ l, (kept ++ l).Perm own) (hy : Yld P o n L I0 kept v) (hg : Wtd ops n L o) (hd : o.dst = some d) (hdn : d < n) {listed' : Array Bool} (hL : listed.setIfInBounds i true = listed')
    (K : RunT P ops Q sk I0 kept fuel listed' e n ((d, v) :: L) I own) : RunT P ops Q sk I0 kept (fuel + 1) listed e n L I own := fun a w hF hS => by
  subst hL
  refine wpT_takeS (v := v) hi hs hf hr hl hn (.inl ⟨hg a hF, fun w' hw' => hy a w' hF hw'.st⟩) (sc_of hS hI hk) ?_
  rw [hd]; exact K _ w (hF.put hdn v) hS
/-- One that reads nothing. -/
theorem RunT.p {o : Oper} {d : Nat} {v : Value} (i : Nat) (hi : ops[i]? = some o) (hs : Region.noSelect ops = true) (hf : Region.free .any ops listed i = true) (hr : (Region.ready .any ops listed).contains i = true) (hl : sk.contains i = false)
    (hT : noneB sk listed = true → I0.le I ∧ ∃ l, (kept ++ l).Perm own) (hy : Yld P o n L (fun _ => none) [] v) (hg : Wtd ops n L o) (hd : o.dst = some d) (hdn : d < n) {listed' : Array Bool} (hL : listed.setIfInBounds i true = listed')
    (K : RunT P ops Q sk I0 kept fuel listed' e n ((d, v) :: L) I own) : RunT P ops Q sk I0 kept (fuel + 1) listed e n L I own := fun a w hF hS => by
  subst hL
  refine wpT_takeP (v := v) hi hs hf hr hl (.inl ⟨hg a hF, fun w' _ => hy a w' hF (st_none w')⟩) (fun hk => ?_) ?_
  · have h2 := hT (List.all_eq_true.2 fun k hks => by simp [hk k hks])
    exact sc_of hS h2.1 h2.2
  · rw [hd]; exact K _ w (hF.put hdn v) hS
/-- One that is passed by. -/
theorem RunT.no {o : Oper} {d : Nat} (i : Nat) (hi : ops[i]? = some o) (hs : Region.noSelect ops = true) (hf : Region.free .any ops listed i = true) (hr : (Region.ready .any ops listed).contains i = true) (hl : sk.contains i = false)
    (hT : noneB sk listed = true → I0.le I ∧ ∃ l, (kept ++ l).Perm own) (hg : NWtd ops n L o) (hd : o.dst = some d) (hdn : d < n) {listed' : Array Bool} (hL : listed.setIfInBounds i true = listed')
    (K : RunT P ops Q sk I0 kept fuel listed' e n ((d, undef) :: L) I own) : RunT P ops Q sk I0 kept (fuel + 1) listed e n L I own := fun a w hF hS => by
  subst hL
  refine wpT_takeP (v := undef) hi hs hf hr hl (.inr ⟨hg a hF, rfl⟩) (fun hk => ?_) ?_
  · have h2 := hT (List.all_eq_true.2 fun k hks => by simp [hk k hks])
    exact sc_of hS h2.1 h2.2
  · rw [hd]; exact K _ w (hF.put hdn undef) hS
/-- The one that comes up. -/
def QT (P : Program) (ops : Array Oper) (Q : Exit → Act → World → Prop) (sk : List Nat) (e : Ent) (I0 : Imm) (kept : List Res) (fuel : Nat) (listed : Array Bool) : Exit → Act → World → Prop :=
  fun x a w => x = .normal ∧ Tk sk (SC e I0 kept) listed w ∧ wpT P .any ops sk (SC e I0 kept) (fun a w => Q .normal a w) fuel listed a w
theorem RunT.step {o : Oper} (i : Nat) (hi : ops[i]? = some o) (hr : Region.ready .any ops listed = [i]) {listed' : Array Bool} (hL : listed.setIfInBounds i true = listed')
    (K : Run P ops (QT P ops Q sk e I0 kept fuel listed') [o] e n L I own) : RunT P ops Q sk I0 kept (fuel + 1) listed e n L I own := fun a w hF hS => by
  subst hL
  refine ⟨(fun h => by rw [hr] at h; cases h), fun j hj => ?_⟩
  rw [hr] at hj
  obtain rfl : j = i := by simpa using hj
  exact wpOp_of_list hi (K a w hF hS)
theorem RunQ.stepEnd (hT : noneB sk listed = true → I0.le I ∧ ∃ l, (kept ++ l).Perm own) (K : RunT P ops Q sk I0 kept fuel listed e n L I own) : RunQ (QT P ops Q sk e I0 kept fuel listed) .normal e n L I own := fun a w hF hS =>
  ⟨rfl, (fun hk => by
    have h2 := hT (List.all_eq_true.2 fun k hks => by simp [hk k hks])
    exact sc_of hS h2.1 h2.2), K a w hF hS⟩
end
end Go.Proofs.YtmelbclhkkbmiaaGreat.K
