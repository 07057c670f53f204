/- Regions whose order is drawn: calls that borrow, and more than one operation that may come up; numbers of 64 bits without sign. No condition beyond those that each theorem names. -/
import Derived.Test.YtmelbclhkkbmiaaGreatK12
set_option linter.unusedVariables false
set_option linter.unusedSimpArgs false
namespace Go.Proofs.YtmelbclhkkbmiaaGreat.K
open Go Go.RowKit

section
variable {P : Program} {ops : Array Oper} {Q : Exit → Act → World → Prop} {e : Ent} {n : Nat} {L : List (Nat × Value)} {I : Imm} {own : List Res}
theorem Bor.blk {f : FuncId} {args : Array Value} {Φ : Imm → List Res → Value → Prop} {g : Nat} {cs : List Value} {t : TypeId} {own' : List Res} (i : Nat) (hi : own[i]? = some (blk g cs t)) (he : own.eraseIdx i = own')
    (h : ∀ J, I.le J → RCells J ⟨g, 0, none⟩ cs → Bor P e J own' f args Φ) : Bor P e I own f args Φ := fun w hS => by
  obtain ⟨J, hle, hJ, hS'⟩ := hS.freeze (perm_at hi he)
  exact h J hle (blk_RCells (own_holds hS.st hi) hJ) w hS'
theorem quiet_callB {o : Oper} {f : FuncId} {vs : List Value} {v : Value} (hen : Enters P o n L f vs) (hc : Bor P e I own f vs.toArray fun _ o' v' => o' = [] ∧ v' = v) {a : Act} (hF : Frm a n L) {w : World} (hS : S e w I own) : o.quietAt P a (fun w => S e w I own) w v := by
  unfold Oper.quietAt
  rw [hen a w hF]
  obtain ⟨J, hJ, hC⟩ := hc w hS
  refine ⟨rfl, (hC w hJ).mono ?_⟩
  rintro x w' ⟨J', own1', u, rfl, hs, hu, rfl, rfl⟩
  have hu' : Upd w I (keysOf []) w' I [] := ⟨hu.os, hu.tape, hu.output, hu.size, hu.frame, Imm.le.refl _, fun _ _ _ => rfl, by simp⟩
  have hs' : St w' I [] := ⟨fun k o h => (hu.frame k (lt_of_some (hS.st.ok k o h)) (by simp)).trans (hS.st.ok k o h), (fun _ h => absurd h (by simp)), (fun _ h => absurd h (by simp)), by simp⟩
  exact ⟨rfl, by simpa using hS.after (own2 := own) (by simp) hs' hu'⟩
theorem RunZ.callB {o : Oper} {rest : List Oper} {d : Nat} {f : FuncId} {vs : List Value} {v : Value} (hen : Enters P o n L f vs) (hc : Bor P e I own f vs.toArray fun _ o' v' => o' = [] ∧ v' = v) (hg : o.guard = none) (hd : o.dst = some d) (hn : d < n)
    (h : RunZ P ops Q rest e n ((d, v) :: L) I own) : RunZ P ops Q (o :: rest) e n L I own := fun a hF => by
  refine wpQuiet_step fun K hK => ?_
  simp only [Region.wanted, hg, if_true]
  refine ⟨v, fun w hS => quiet_callB hen hc hF hS, ?_⟩
  rw [hd]; exact hK _ (h _ (hF.put hn v))
theorem RunZ.callBYes {o : Oper} {rest : List Oper} {d dj j : Nat} {b b' : Bool} {o' : Oper} {f : FuncId} {vs : List Value} {v : Value} (hen : Enters P o n L f vs) (hc : Bor P e I own f vs.toArray fun _ o' v' => o' = [] ∧ v' = v)
    (hg : o.guard = some (j, b)) (ho : ops[j]? = some o') (hdj : o'.dst = some dj) (hb : get L dj = some (.bool b')) (hbb : b' = b) (hd : o.dst = some d) (hn : d < n)
    (h : RunZ P ops Q rest e n ((d, v) :: L) I own) : RunZ P ops Q (o :: rest) e n L I own := fun a hF => by
  subst hbb
  refine wpQuiet_step fun K hK => ?_
  have hw : Region.wanted o (yielded ops a.tmps) = true := by simp [Region.wanted, hg, yielded_of hF ho hdj hb]
  rw [if_pos hw]
  refine ⟨v, fun w hS => quiet_callB hen hc hF hS, ?_⟩
  rw [hd]; exact hK _ (h _ (hF.put hn v))
theorem Bor.int {f : FuncId} {args : Array Value} {x : Int} (h : Bor P e I own f args (Ret1 tInt.o x)) : Bor P e I own f args fun _ o v => o = [] ∧ v = .int .i64 x := fun w hS => by
  obtain ⟨J, h1, h2⟩ := h w hS; exact ⟨J, h1, con_int h2⟩
theorem Bor.bool {f : FuncId} {args : Array Value} {x : Bool} (h : Bor P e I own f args (Ret1 tBool.o x)) : Bor P e I own f args fun _ o v => o = [] ∧ v = .bool x := fun w hS => by
  obtain ⟨J, h1, h2⟩ := h w hS; exact ⟨J, h1, con_bool h2⟩
theorem RunT.step2 {sk : List Nat} {I0 : Imm} {kept : List Res} {listed : Array Bool} {fuel : Nat} {o o' : Oper} (i j : Nat) (hi : ops[i]? = some o) (hj : ops[j]? = some o') (hr : Region.ready .any ops listed = [i, j]) {li lj : Array Bool} (hLi : listed.setIfInBounds i true = li) (hLj : listed.setIfInBounds j true = lj)
    (Ki : Run P ops (QT P ops Q sk e I0 kept fuel li) [o] e n L I own) (Kj : Run P ops (QT P ops Q sk e I0 kept fuel lj) [o'] e n L I own) : RunT P ops Q sk I0 kept (fuel + 1) listed e n L I own := fun a w hF hS => by
  subst hLi; subst hLj
  refine ⟨(fun h => by rw [hr] at h; cases h), fun q hq => ?_⟩
  rw [hr] at hq
  rcases List.mem_cons.1 hq with rfl | hq
  · exact wpOp_of_list hi (Ki a w hF hS)
  · obtain rfl : q = j := by simpa using hq
    exact wpOp_of_list hj (Kj a w hF hS)
end
/-! Numbers of 64 bits without sign. -/
theorem bits_maskU (a : Int) : bits .and .u64 a 255 = a % 256 := by
  show IntKind.u64.wrap ((BitVec.ofInt 64 a &&& BitVec.ofInt 64 ((2 ^ 8 - 1 : Nat) : Int)).toNat : Int) = _
  rw [BitVec.toNat_and, BitVec.ofInt_natCast, BitVec.toNat_ofNat, Nat.mod_eq_of_lt (show 2 ^ 8 - 1 < 2 ^ 64 by omega), Nat.and_two_pow_sub_one_eq_mod, BitVec.toNat_ofInt]
  have h1 : (((a % ((2 ^ 64 : Nat) : Int)).toNat % 2 ^ 8 : Nat) : Int) = a % 256 := by omega
  rw [h1]
  have h2 : (0 : Int) ≤ a % 256 := Int.emod_nonneg _ (by omega)
  have h3 : a % 256 < 256 := Int.emod_lt_of_pos _ (by omega)
  rw [IntKind.wrap_u64]
  omega
section
variable {P : Program}
theorem bn_maskU {t : TypeId} {x y : Operand} {a : Int} : BR P .and t x y (.int .u64 a) (.int .u64 255) (.int .u64 (a % 256)) := bn_bits (bits_maskU a) (.inl rfl)
end
theorem u64_byte (x : Int) (c : Nat) (k : UInt32) (hk : k.toNat = c) (hc : c = 0 ∨ c = 8 ∨ c = 16 ∨ c = 24) : b8 (IntKind.u64.wrap x / 2 ^ c % 256) = (b32 x >>> k).toUInt8 := by
  apply UInt8.toNat_inj.1
  have h1 := b8_toNat (IntKind.u64.wrap x / 2 ^ c % 256)
  have h2 := b32_toNat x
  have e : ((b32 x >>> k).toUInt8).toNat = (b32 x).toNat / 2 ^ c % 256 := by
    rw [UInt32.toNat_toUInt8, UInt32.toNat_shiftRight, hk, Nat.mod_eq_of_lt (show c < 32 by omega), Nat.shiftRight_eq_div_pow]
  rw [e]
  rw [IntKind.wrap_u64] at h1
  rcases hc with rfl | rfl | rfl | rfl <;> simp only [Int.reducePow, Nat.reducePow] at h1 ⊢ <;> (rw [IntKind.wrap_u64]; omega)
theorem u64_byte0 (x : Int) : b8 (IntKind.u64.wrap x % 256) = (b32 x).toUInt8 := by
  apply UInt8.toNat_inj.1
  have h1 := b8_toNat (IntKind.u64.wrap x % 256)
  have h2 := b32_toNat x
  rw [UInt32.toNat_toUInt8]
  rw [IntKind.wrap_u64] at h1 ⊢
  omega
/-! '[]byte("..")': a literal row that is read alone from now on. -/
section
variable {P : Program} {ops : Array Oper} {Q : Exit → Act → World → Prop} {e : Ent} {n : Nat} {L : List (Nat × Value)} {I : Imm} {own : List Res}
theorem raw_obj {J : Imm} {g off m c sz : Nat} {cur : Array Value} {t : TypeId} {fr : Nat × Nat} {xs : List Value} (hJ : J g = some (.cells cur t fr)) (hl : xs.length = m * sz) (hm : m ≤ c) (hc : c ≤ maxLen) (htk : (cur.toList.drop off).take (m * sz) = xs) : Raw J (some ⟨g, off, none⟩) m c sz xs := by
  refine ⟨hl, hm, hc, fun _ => ⟨_, rfl, fun j v hv => ?_⟩⟩
  rw [add_lit']
  simp only [Imm.cell, hJ, Option.isSome_none, Bool.false_eq_true, if_false]
  rw [← htk, List.getElem?_take] at hv
  split at hv
  · rw [List.getElem?_drop] at hv; simpa using hv
  · cases hv
theorem Run.convS {o : Oper} {rest : List Oper} {d : Nat} {x : Operand} {st el t' : TypeId} {A : Option Addr} {m c : Nat} {xs : List Value} {own' : List Res} (i : Nat) (ho : o.op = .convert st st x) (hx : evO L x = some (.slice A m c)) (hs : P.underlying st = some (.slice el)) (he : P.underlying el = some (.int .u8))
    (hi : own[i]? = some (row (.slice A m c) t' 1 xs)) (hee : own.eraseIdx i = own') (hm : 0 < m) (hg : o.guard = none) (hd : o.dst = some d) (hn : d < n)
    (K : ∀ J, I.le J → Raw J A m c 1 xs → Run P ops Q rest e n ((d, .slice A m c) :: L) J own') : Run P ops Q (o :: rest) e n L I own :=
  Run.eff hg hd hn fun a w hF hS => by
    obtain ⟨g, off, cur, rfl, hgw, hmc, hcm, hfit, hl, htk⟩ := row_form (own_holds hS.st hi) hm
    have hx' := hF.ev hx
    have hsh : w.shape? g = some (t', cur.size) := by simp [World.shape?, hgw]
    have hgt : (w.freeze ⟨g, cur.size, none⟩ 1).heap[g]? = some (.cells cur t' (cur.size, cur.size + 1)) := by
      simp [World.freeze, Array.getElem?_modify, hgw]
    have hot : ∀ k, k ≠ g → (w.freeze ⟨g, cur.size, none⟩ 1).heap[k]? = w.heap[k]? := fun k hk => by
      simp [World.freeze, Array.getElem?_modify, Ne.symm hk]
    have hsz : (w.freeze ⟨g, cur.size, none⟩ 1).heap.size = w.heap.size := by simp [World.freeze]
    have hkk : ∀ k, k ∈ (row (.slice (some ⟨g, off, none⟩) m c) t' 1 xs).keys ↔ k = g := fun k => by
      simp only [row, rowKeys]; split
      · omega
      · simp
    have hS2 : S e (w.freeze ⟨g, cur.size, none⟩ 1) I (obj g (.cells cur t' (cur.size, cur.size + 1)) :: own') := by
      refine hS.turn (perm_at hi hee) hgt (fun k hk => ?_) (by simp [obj]) (fun k _ hk => hot k (fun e => hk ((hkk k).2 e))) (Nat.le_of_eq hsz.symm) rfl rfl rfl
      exact .inl ((hkk k).2 (by simpa [obj] using hk))
    obtain ⟨J, hle, hJ, hS3⟩ := hS2.freeze (List.Perm.refl _)
    refine ⟨.slice (some ⟨g, off, none⟩) m c, w.freeze ⟨g, cur.size, none⟩ 1, J, own', ?_, hS3, K J hle (raw_obj ((hJ g (by simp [obj])).trans hgt) hl hmc hcm htk)⟩
    simp only [execOp, ho, hx', Sem.run_bind]
    simp [convert, run_underlying hs, run_underlying he, markStringish, hsh]
end
end Go.Proofs.YtmelbclhkkbmiaaGreat.K
