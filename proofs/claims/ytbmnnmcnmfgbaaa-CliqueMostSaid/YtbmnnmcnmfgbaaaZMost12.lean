/-
  Put together by slim.py of this session out of the session's own texts (YtbmnnmcnmfgbaaaLawCliqueMost and what it reaches): declarations that nothing kept names are left out. Conditions: none beyond those of the law's row.
-/
import Derived.Deep.SlicePairs
import Derived.Laws.IdiomArrays
import Derived.Laws.StructEq
import Derived.Test.YtbmnnmcnmfgbaaaZMost9
import Derived.Test.YtbmnnmcnmfgbaaaZMost2
import Derived.Test.YtbmnnmcnmfgbaaaZMost4
import Derived.Test.YtbmnnmcnmfgbaaaZMost0
import Derived.Test.YtbmnnmcnmfgbaaaZMost3
import Derived.Test.YtbmnnmcnmfgbaaaZMost11
import Derived.Test.YtbmnnmcnmfgbaaaZMost6
import Derived.Test.YtbmnnmcnmfgbaaaZMost10
import Derived.Test.YtbmnnmcnmfgbaaaZMost1
import Derived.Test.YtbmnnmcnmfgbaaaZMost7
import Derived.Test.YtbmnnmcnmfgbaaaZMost8
section
/-
  The joins of a statement's argument: a row of pairs, opened.
-/
namespace Go.Proofs.Ytbmnnmcnmfgbaaa.PG
open Go.ChangeShapes Go.WideShapes Go.RowKit
set_option linter.unusedVariables false
theorem trod_array2 {H : Type} {enc : TypeId × Value → H} {P : Program} {w : World} {base : Nat} {spare : Nat → Bool} {held : Bool} {t e : TypeId} {fuel : Nat} {c0 c1 : Value} {x : DataW H × List MemPlace} (ht : P.underlying t = some (.array 2 e)) (hce : P.cellsOf e = 1)
    (h : DataW.trod enc P w base spare held fuel t [c0, c1] = some x) : ∃ y0 y1 n, DataW.trod enc P w base spare held n e [c0] = some y0 ∧ DataW.trod enc P w base spare held n e [c1] = some y1 := by
  cases fuel with
  | zero => simp [DataW.trod] at h
  | succ n =>
    unfold DataW.trod at h
    rw [ht] at h
    have r2 : List.range 2 = [0, 1] := rfl
    simp [r2, hce] at h
    obtain ⟨_, h⟩ := h
    cases h0 : DataW.trod enc P w base spare held n e [c0] with
    | none => simp [h0] at h
    | some y0 =>
      cases h1 : DataW.trod enc P w base spare held n e [c1] with
      | none => simp [h0, h1] at h
      | some y1 => exact ⟨y0, y1, n, h0, h1⟩
theorem open_joins {H : Type} {enc : TypeId × Value → H} {w : World} {base : Nat} {spare : Nat → Bool} {held : Bool} {fuel : Nat} {A : Option Addr} {len cap : Nat} {x : DataW H × List MemPlace}
    (h : DataW.trod enc Try.prog w base spare held fuel 39 [.slice A len cap] = some x) : ∃ js : List (Int × Int), js.length = len ∧ JoinsIn w A js := by
  rcases Go.Deep.open_slice Try.underlying39 h with ⟨hcs, _⟩ | ⟨a, l, c, m, n, D, Pl, hcs, hb, hl, hm, hmm, rfl, hx⟩
  · simp at hcs
    obtain ⟨rfl, rfl, rfl⟩ := hcs
    exact ⟨[], rfl, fun i hi => by simp at hi⟩
  · simp at hcs
    obtain ⟨rfl, rfl, rfl⟩ := hcs
    have hlm : len ≤ m := by rw [hmm]; split <;> omega
    have each : ∀ i, i < m → ∃ q : Int × Int, w.cell? (a.add (i * 2)) = some (.int .i64 q.1) ∧ w.cell? ⟨(a.add (i * 2)).block, (a.add (i * 2)).off + 1, none⟩ = some (.int .i64 q.2) ∧ q.2 < 9223372036854775808 := fun i hi => by
      obtain ⟨cs', h1, h2⟩ := hx i hi
      have ce : Try.prog.cellsOf 78 = 2 := by kernel_rfl
      rw [ce] at h1
      obtain ⟨_, hlen, hcell⟩ := World.cells?_some h1
      match cs', hlen with
      | [v0, v1], _ =>
        obtain ⟨y0, y1, n', t0, t1⟩ := trod_array2 Try.underlying78 (by kernel_rfl) h2
        obtain ⟨z0, e0, _, b0⟩ := DataW.trod_int Try.underlying3 t0
        obtain ⟨z1, e1, _, b1⟩ := DataW.trod_int Try.underlying3 t1
        simp only [List.cons.injEq, and_true] at e0 e1
        subst e0 e1
        have g0 := hcell 0 (by omega)
        have g1 := hcell 1 (by omega)
        refine ⟨(z0, z1), by simpa [Addr.add] using g0, ?_, ?_⟩
        · have e : (a.add (i * 2)).add 1 = ⟨(a.add (i * 2)).block, (a.add (i * 2)).off + 1, none⟩ := by simp [Addr.add]
          rw [← e]; simpa using g1
        · simp [Lit.wf, IntKind.min, IntKind.max, IntKind.signed, IntKind.bits] at b1; omega
    obtain ⟨q, hq⟩ := Go.Deep.choose_lt each
    refine ⟨(List.range len).map q, by simp, fun i hi => ⟨a, rfl, ?_⟩⟩
    have hi' : i < len := by simpa using hi
    have e : ((List.range len).map q).getD i (0, 0) = q i := by simp [hi']
    rw [e]
    exact hq i (by omega)
end Go.Proofs.Ytbmnnmcnmfgbaaa.PG
end
