/-
  Put together by slim.py of this session out of the session's own texts (YtffghdbhjjfnlaaLawFlowMore and what it reaches): declarations that nothing kept names are left out. Conditions: none beyond those of the law's row.
-/
import Derived.Deep.SlicePairs
import Derived.Deep.Strs
import Derived.Laws.IdiomArrays
import Derived.Test.YtffghdbhjjfnlaaJM3
import Derived.Test.YtffghdbhjjfnlaaJM4
import Derived.Test.YtffghdbhjjfnlaaJM0
import Derived.Test.YtffghdbhjjfnlaaJM5
import Derived.Test.YtffghdbhjjfnlaaJM1
import Derived.Test.YtffghdbhjjfnlaaJM2
section
/-
  The edges of a statement's argument, opened.
-/
namespace Go.Proofs.Ytffghdbhjjfnlaa.F
open Go.ChangeShapes Go.WideShapes Go.RowKit
set_option linter.unusedVariables false
theorem trod_array2 {H : Type} {enc : TypeId × Value → H} {P : Program} {w : World} {base : Nat} {spare : Nat → Bool} {held : Bool} {t e : TypeId} {fuel : Nat} {c0 c1 : Value} {x : DataW H × List MemPlace} (ht : P.underlying t = some (.array 2 e)) (hce : P.cellsOf e = 1)
    (h : DataW.trod enc P w base spare held fuel t [c0, c1] = some x) : ∃ y0 y1 n, DataW.trod enc P w base spare held n e [c0] = some y0 ∧ DataW.trod enc P w base spare held n e [c1] = some y1 := by
  cases fuel with
  | zero => simp [DataW.trod] at h
  | succ n =>
    unfold DataW.trod at h
    rw [ht] at h
    have r2 : List.range 2 = [0, 1] := rfl
    simp [r2, hce] at h
    obtain ⟨_, h⟩ := h
    cases h0 : DataW.trod enc P w base spare held n e [c0] with
    | none => simp [h0] at h
    | some y0 =>
      cases h1 : DataW.trod enc P w base spare held n e [c1] with
      | none => simp [h0, h1] at h
      | some y1 => exact ⟨y0, y1, n, h0, h1⟩
theorem open3 {H : Type} {enc : TypeId × Value → H} {w : World} {base : Nat} {spare : Nat → Bool} {held : Bool} {fuel : Nat} {cs : List Value} {x : DataW H × List MemPlace} (hl : cs.length = 3)
    (h : DataW.trod enc Try.prog w base spare held fuel 35 cs = some x) : ∃ a b c : Int, cs = [.int .i64 a, .int .i64 b, .int .i64 c] := by
  obtain ⟨y0, y1, y2, n, _, _, h0, h1, h2⟩ := Go.Deep.trod_struct3 Try.underlying35 h
  have ce : Try.prog.cellsOf 3 = 1 := by kernel_rfl
  match cs, hl with
  | [v0, v1, v2], _ =>
    simp [ce] at h0 h1 h2
    obtain ⟨z0, e0, _, _⟩ := DataW.trod_int Try.underlying3 h0
    obtain ⟨z1, e1, _, _⟩ := DataW.trod_int Try.underlying3 h1
    obtain ⟨z2, e2, _, _⟩ := DataW.trod_int Try.underlying3 h2
    simp only [List.cons.injEq, and_true] at e0 e1 e2
    subst e0 e1 e2
    exact ⟨z0, z1, z2, rfl⟩
theorem open_edges {H : Type} {enc : TypeId × Value → H} {w : World} {base : Nat} {spare : Nat → Bool} {held : Bool} {fuel : Nat} {A : Option Addr} {len cap : Nat} {x : DataW H × List MemPlace}
    (h : DataW.trod enc Try.prog w base spare held fuel 22 [.slice A len cap] = some x) : ∃ l : List E3, l.length = len ∧ len ≤ 9223372036854775807 ∧ EdgesIn w A l := by
  rcases Go.Deep.open_slice Try.underlying22 h with ⟨hcs, _⟩ | ⟨a, l, c, m, n, D, Pl, hcs, hb, hl, hm, hmm, rfl, hx⟩
  · simp at hcs
    obtain ⟨rfl, rfl, rfl⟩ := hcs
    exact ⟨[], rfl, by omega, fun i hi => by simp at hi⟩
  · simp at hcs
    obtain ⟨rfl, rfl, rfl⟩ := hcs
    have hlm : len ≤ m := by rw [hmm]; split <;> omega
    have each : ∀ i, i < m → ∃ q : E3, w.cell? (a.add (i * 3)) = some (.int .i64 q.1) ∧ w.cell? ⟨(a.add (i * 3)).block, (a.add (i * 3)).off + 1, none⟩ = some (.int .i64 q.2.1) ∧ w.cell? ⟨(a.add (i * 3)).block, (a.add (i * 3)).off + 2, none⟩ = some (.int .i64 q.2.2) := fun i hi => by
      obtain ⟨cs', h1, h2⟩ := hx i hi
      have ce : Try.prog.cellsOf 35 = 3 := by kernel_rfl
      rw [ce] at h1
      obtain ⟨_, hlen, hcell⟩ := World.cells?_some h1
      obtain ⟨z0, z1, z2, rfl⟩ := open3 hlen h2
      have g0 := hcell 0 (by omega)
      have g1 := hcell 1 (by omega)
      have g2 := hcell 2 (by omega)
      have e : ∀ q, q ≠ 0 → (a.add (i * 3)).add q = ⟨(a.add (i * 3)).block, (a.add (i * 3)).off + q, none⟩ := fun q hq => by simp [Addr.add, hq]
      refine ⟨(z0, z1, z2), by simpa [Addr.add] using g0, ?_, ?_⟩
      · rw [← e 1 (by decide)]; simpa using g1
      · rw [← e 2 (by decide)]; simpa using g2
    obtain ⟨q, hq⟩ := Go.Deep.choose_lt each
    refine ⟨(List.range len).map q, by simp, by simp only [maxLen] at hm; omega, fun i hi => ⟨a, rfl, ?_⟩⟩
    have hi' : i < len := by simpa using hi
    have e : eAt ((List.range len).map q) i = q i := by simp [eAt, hi']
    rw [e]
    exact hq i (by omega)
theorem open_edge {H : Type} {enc : TypeId × Value → H} {P' : World} {r : Reach} {b0 : Nat} {w : World} {base : Nat} {spare : Nat → Bool} {held : Bool} {v : Value} {x : DataW H × List MemPlace} (hv : Value.okWide Try.prog P' r b0 35 v)
    (h : ∃ fuel, DataW.trod enc Try.prog w base spare held fuel 35 v.cells.toList = some x) : ∃ a b c : Int, v = .agg #[.int .i64 a, .int .i64 b, .int .i64 c] := by
  obtain ⟨cs, rfl, hs⟩ := okWide_struct Try.underlying35 hv
  obtain ⟨fuel, h⟩ := h
  have ce : Try.prog.cellsOf 35 = 3 := by kernel_rfl
  rw [ce] at hs
  obtain ⟨a, b, c, e⟩ := open3 (cs := cs.toList) (by simpa using hs) (by simpa [Value.cells] using h)
  exact ⟨a, b, c, by rw [← e]⟩
theorem open_pair {H : Type} {enc : TypeId × Value → H} {P' : World} {r : Reach} {b0 : Nat} {w : World} {base : Nat} {spare : Nat → Bool} {held : Bool} {v : Value} {x : DataW H × List MemPlace} (hv : Value.okWide Try.prog P' r b0 44 v)
    (h : ∃ fuel, DataW.trod enc Try.prog w base spare held fuel 44 v.cells.toList = some x) : ∃ a b : Int, v = .agg #[.int .i64 a, .int .i64 b] := by
  have h0 := hv
  unfold Value.okWide at h0
  rw [Try.underlying44] at h0
  obtain ⟨cs, rfl, hs, _⟩ := h0
  obtain ⟨fuel, h⟩ := h
  have ce : Try.prog.cellsOf 44 = 2 := by kernel_rfl
  rw [ce] at hs
  obtain ⟨l⟩ := cs
  match l, hs with
  | [v0, v1], _ =>
    obtain ⟨y0, y1, n', t0, t1⟩ := trod_array2 Try.underlying44 (by kernel_rfl) (by simpa [Value.cells] using h)
    obtain ⟨z0, e0, _, b0⟩ := DataW.trod_int Try.underlying3 t0
    obtain ⟨z1, e1, _, b1⟩ := DataW.trod_int Try.underlying3 t1
    simp only [List.cons.injEq, and_true] at e0 e1
    subst e0 e1
    exact ⟨z0, z1, rfl⟩
end Go.Proofs.Ytffghdbhjjfnlaa.F
end
