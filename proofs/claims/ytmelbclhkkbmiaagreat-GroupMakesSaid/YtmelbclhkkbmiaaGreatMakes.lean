/-
  It is proved that GroupMakes answers true for every input, and that its arguments read behind the call as they read before.
  Conditions: those of the given row alone.
-/
import Derived.Test.YtmelbclhkkbmiaaGreatF19
import Derived.Test.YtmelbclhkkbmiaaGreatK14
import Derived.Test.YtmelbclhkkbmiaaGreatRows
import Derived.ProofKit
import Derived.Carry
namespace Go.Proofs.YtmelbclhkkbmiaaGreat
open Go Go.ChangeShapes Go.WideShapes Go.ChangeAt Go.RowKit

theorem own : ownKnob Tryz.prog.godebug = none := by kernel_rfl
theorem laidOut : laidOutB Tryz.prog = true := by kernel_rfl
theorem arg_ATape (W : World) : K.Arg Tryz.prog W 45 K.tTape := fun enc base spare held fuel cs x h => by
  obtain ⟨xs, n, _, _, hl, hn, hf⟩ := DataW.trod_struct Tryz.underlying45 h
  have hl4 : cs.length = 4 := hl.trans (by kernel_rfl)
  have hx4 : xs.length = 4 := hn
  obtain ⟨y0, e0, k0⟩ := (K.arg_int (W := W) Tryz.underlying3) enc base spare held n _ _ ((hf 0 _ rfl).trans (List.getElem?_eq_getElem (by omega)))
  have f0 : (cs.drop 0).take 1 = [.int .i64 y0] := by have u : List.take (Tryz.prog.cellsOf 3) (List.drop 0 cs) = [.int .i64 y0] := e0; rwa [show Tryz.prog.cellsOf 3 = 1 from by kernel_rfl] at u
  obtain ⟨y1, e1, k1⟩ := (K.arg_int (W := W) Tryz.underlying3) enc base spare held n _ _ ((hf 1 _ rfl).trans (List.getElem?_eq_getElem (by omega)))
  have f1 : (cs.drop 1).take 1 = [.int .i64 y1] := by have u : List.take (Tryz.prog.cellsOf 3) (List.drop 1 cs) = [.int .i64 y1] := e1; rwa [show Tryz.prog.cellsOf 3 = 1 from by kernel_rfl] at u
  obtain ⟨y2, A2, c2, e2, k2⟩ := (K.arg_sl (W := W) Tryz.underlying43 (by kernel_rfl) (K.arg_sl (W := W) Tryz.underlying42 (by kernel_rfl) (K.arg_u8 (W := W) Tryz.underlying5))) enc base spare held n _ _ ((hf 2 _ rfl).trans (List.getElem?_eq_getElem (by omega)))
  have f2 : (cs.drop 2).take 1 = [.slice A2 y2.length c2] := by have u : List.take (Tryz.prog.cellsOf 43) (List.drop 2 cs) = [.slice A2 y2.length c2] := e2; rwa [show Tryz.prog.cellsOf 43 = 1 from by kernel_rfl] at u
  obtain ⟨y3, e3⟩ := (K.arg_bool (W := W) Tryz.underlying4) enc base spare held n _ _ ((hf 3 _ rfl).trans (List.getElem?_eq_getElem (by omega)))
  have f3 : (cs.drop 3).take 1 = [.bool y3] := by have u : List.take (Tryz.prog.cellsOf 4) (List.drop 3 cs) = [.bool y3] := e3; rwa [show Tryz.prog.cellsOf 4 = 1 from by kernel_rfl] at u
  have hcs : cs = [.int .i64 y0, .int .i64 y1, .slice A2 y2.length c2, .bool y3] := K.dzero (by rw [K.dcons f0, K.dcons f1, K.dcons f2, K.dcons f3, K.dnil hl4])
  exact ⟨⟨y0, y1, y2, y3⟩, A2, c2, hcs, k0, k1, k2⟩
set_option maxRecDepth 100000 in
theorem makes_lifted (os : Os) (started : os.Started) (H : Type) (enc : TypeId × Value → H) :
    ReturnsInHanded {} Tryz.checked os 3 .any (Rows.groupMakesSpec.pre6 enc Tryz.prog Tryz.f3 Rows.groupMakesRow.domain false) (Rows.groupMakesSpec.post enc Tryz.prog Tryz.f3 false true false false) := by
  refine returnsInHanded_of_change (C := Tryz.checked) own started (by kernel_rfl) Tryz.func3
    (ChangeSpec.witness6 (enc := enc) (C := Tryz.checked) false ⟨#[], #[.slice none 0 0, .slice none 0 0, .int .i64 0], []⟩ 8 (by kernel_rfl) (by kernel_rfl) (by kernel_rfl) (by kernel_rfl)) ?_
  intro W base args ds gs before hval0 hW _ _
  have hval : ∀ (j : Nat) t v, Tryz.f3.params[j]? = some t → args[j]? = some v → Value.okWide Tryz.prog W .any base t v := hval0
  have hW' := hW
  obtain ⟨p, q, hA0, hV, rfl, _, _⟩ := hW
  have hA : DataW.TrodAll enc Tryz.prog W 0 (fun _ => true) true Tryz.f3.params.toList args.toList ds p := hA0
  rw [Tryz.params3] at hA hval
  obtain ⟨v0, v1, v2, d0, d1, d2, p0, p1, p2, rfl, rfl, rfl, h0, h1, h2⟩ := trodAll_three hA
  obtain ⟨rfl, rfl⟩ := trodVars_none hV
  obtain ⟨a0, n, c, rfl⟩ := okWide_slice Tryz.underlying22 (hval 0 22 v0 rfl rfl)
  obtain ⟨a1, n1, c1, rfl⟩ := okWide_slice Tryz.underlying22 (hval 1 22 v1 rfl rfl)
  obtain ⟨y, rfl, rfl, rfl, wy⟩ := open_int Tryz.underlying3 (hval 2 3 v2 rfl rfl) h2
  simp only [List.append_nil] at hW'
  have hlt : ∀ x ∈ p0, x.block < W.heap.size := fun x hx => by simpa using hW'.lt x (by simp [hx])
  have hlt1 : ∀ x ∈ p1, x.block < W.heap.size := fun x hx => by simpa using hW'.lt x (by simp [hx])
  have hy : -9223372036854775808 ≤ y ∧ y ≤ 9223372036854775807 := by simpa [Lit.wf, IntKind.min, IntKind.max, IntKind.signed, IntKind.bits] using wy
  obtain ⟨xs, A, c', e, hxs⟩ := K.arg_of (K.arg_sl (W := W) Tryz.underlying22 (by kernel_rfl) (arg_ATape W)) h0
  simp only [Value.cells, List.cons.injEq, and_true, Value.slice.injEq] at e
  obtain ⟨rfl, rfl, rfl⟩ := e
  obtain ⟨xs1, A1, c1', e1, hxs1⟩ := K.arg_of (K.arg_sl (W := W) Tryz.underlying22 (by kernel_rfl) (arg_ATape W)) h1
  simp only [Value.cells, List.cons.injEq, and_true, Value.slice.injEq] at e1
  obtain ⟨rfl, rfl, rfl⟩ := e1
  refine (K.law_of_con (K.c_cartridgelaw14_GroupMakes _ xs hxs xs1 hxs1 y hy)).mono fun e W' ⟨he, hb⟩ => ?_
  subst he
  exact ⟨_, rfl, _, _, _, [], _, [], hW', trodAll_mk1 (shut_bool Tryz.underlying4 _), trodAll_mk3 (Below.trod laidOut (by kernel_rfl) (of_decide_eq_true (by kernel_rfl)) h0 hb hlt) (Below.trod laidOut (by kernel_rfl) (of_decide_eq_true (by kernel_rfl)) h1 hb hlt1) (shut_int Tryz.underlying3 wy), rfl, hb.frame _, fun h => by cases h⟩

theorem makes_holds : Rows.GroupMakesSaid :=
  OpenClaim.holds_of_wide 3 Tryz.f3 rfl rfl rfl rfl rfl rfl rfl ⟨rfl, rfl, rfl, rfl, rfl⟩ rfl rfl rfl rfl rfl (by kernel_rfl) Tryz.func3 (by kernel_rfl)
    (of_decide_eq_true (by kernel_rfl)) (by unfold Func.isWrapper; first | (rw [if_pos (by decide +kernel)]; kernel_rfl) | (rw [if_neg (by decide +kernel)]; exact ⟨rfl, rfl⟩))
    (fun os started H enc _ => makes_lifted os started H enc)
#print axioms makes_holds
end Go.Proofs.YtmelbclhkkbmiaaGreat
