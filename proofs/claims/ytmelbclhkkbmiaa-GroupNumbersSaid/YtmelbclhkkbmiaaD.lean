/- The kinds of data of the program, read off its types. Printed by a program of mine. No condition. -/
import Derived.Test.YtmelbclhkkbmiaaK7
set_option linter.unusedVariables false
set_option linter.unusedSimpArgs false
set_option maxRecDepth 100000
namespace Go.Proofs.Ytmelbclhkkbmiaa.K
open Go Go.RowKit

structure AUnit where
  kind : Int
  label : Int
  number : Int
  load : (List UInt8)
def tUnit : Ty AUnit where
  sz := 4
  rd I cs x := ∃ A3 c3, cs = [.int .i64 x.kind, .int .i64 x.label, .int .i64 x.number, .slice A3 x.load.length c3] ∧ I64 x.kind ∧ I64 x.label ∧ I64 x.number ∧ Sl tU8 I A3 c3 x.load
  len h := by
    obtain ⟨A3, c3, rfl, h0, h1, h2, h3⟩ := h
    rfl
  mono hm h := by
    obtain ⟨A3, c3, rfl, h0, h1, h2, h3⟩ := h
    exact ⟨A3, c3, rfl, h0, h1, h2, h3.mono hm⟩
  one h v hv := by
    obtain ⟨A3, c3, rfl, h0, h1, h2, h3⟩ := h
    simp at hv
    rcases hv with rfl | rfl | rfl | rfl <;> rfl
structure ATape where
  label : Int
  cap : Int
  blocks : (List (List UInt8))
  lost : Bool
def tTape : Ty ATape where
  sz := 4
  rd I cs x := ∃ A2 c2, cs = [.int .i64 x.label, .int .i64 x.cap, .slice A2 x.blocks.length c2, .bool x.lost] ∧ I64 x.label ∧ I64 x.cap ∧ Sl (tSl tU8) I A2 c2 x.blocks
  len h := by
    obtain ⟨A2, c2, rfl, h0, h1, h2⟩ := h
    rfl
  mono hm h := by
    obtain ⟨A2, c2, rfl, h0, h1, h2⟩ := h
    exact ⟨A2, c2, rfl, h0, h1, h2.mono hm⟩
  one h v hv := by
    obtain ⟨A2, c2, rfl, h0, h1, h2⟩ := h
    simp at hv
    rcases hv with rfl | rfl | rfl | rfl <;> rfl
structure ASeal where
  number : Int
  index : Int
  data : Int
  parity : Int
  labels : (List Int)
def tSeal : Ty ASeal where
  sz := 5
  rd I cs x := ∃ A4 c4, cs = [.int .i64 x.number, .int .i64 x.index, .int .i64 x.data, .int .i64 x.parity, .slice A4 x.labels.length c4] ∧ I64 x.number ∧ I64 x.index ∧ I64 x.data ∧ I64 x.parity ∧ Sl tInt I A4 c4 x.labels
  len h := by
    obtain ⟨A4, c4, rfl, h0, h1, h2, h3, h4⟩ := h
    rfl
  mono hm h := by
    obtain ⟨A4, c4, rfl, h0, h1, h2, h3, h4⟩ := h
    exact ⟨A4, c4, rfl, h0, h1, h2, h3, h4.mono hm⟩
  one h v hv := by
    obtain ⟨A4, c4, rfl, h0, h1, h2, h3, h4⟩ := h
    simp at hv
    rcases hv with rfl | rfl | rfl | rfl | rfl <;> rfl
end Go.Proofs.Ytmelbclhkkbmiaa.K
