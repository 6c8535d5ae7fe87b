/-
  Put together by slim.py of this session out of the session's own texts (YtbmnnmcnmfgbaaaLawCliqueNobody and what it reaches): declarations that nothing kept names are left out. Conditions: none beyond those of the law's row.
-/
import Derived.Laws.ResultCell
import Derived.Laws.StructEq
import Derived.Test.YtbmnnmcnmfgbaaaZNobody9
import Derived.Test.YtbmnnmcnmfgbaaaZNobody6
import Derived.Test.YtbmnnmcnmfgbaaaZNobody10
import Derived.Test.YtbmnnmcnmfgbaaaZNobody0
import Derived.Test.YtbmnnmcnmfgbaaaZNobody4
import Derived.Test.YtbmnnmcnmfgbaaaZNobody2
import Derived.Test.YtbmnnmcnmfgbaaaZNobody5
import Derived.Test.YtbmnnmcnmfgbaaaZNobody7
import Derived.Test.YtbmnnmcnmfgbaaaZNobody8
import Derived.Test.YtbmnnmcnmfgbaaaZNobody3
section
/-
  ref23.Join.
-/
namespace Go.Proofs.Ytbmnnmcnmfgbaaa.PG
open Go.RowKit Go.Shelf Go.Proofs.YtbmnnmcnmfgbaaaW.PrintWords Go.Proofs.YtbmnnmcnmfgbaaaW.PrintLast Go.Proofs.YtbmnnmcnmfgbaaaW.PrintMore
open Go.Proofs.Ytbmnnmcnmfgbaaa.PB Go.Proofs.Ytbmnnmcnmfgbaaa.PC
set_option linter.unusedVariables false
set_option linter.unusedSimpArgs false

theorem results_row_tmp {P : Program} {fn : Func} {p u : Tmp} {ty : TypeId} (h : fn.results = #[.cell p ty, .tmp u]) (tmps : Array Value) (w : World) (g : Nat) (t : TypeId) (cs : Array Value) (fr : Nat × Nat) (d : TypeDesc)
    (hp : tmps.getD p undef = .pointer (some ⟨g, 0, none⟩)) (hg : w.heap[g]? = some (.cells cs t fr))
    (hu : P.underlying ty = some d) (hd : (match d with | .struct _ | .array _ _ => true | _ => false) = true) (hi : (P.info? ty).map (·.size) = some cs.size) :
    (results fn tmps).run P w = .ok (.tuple #[.agg cs, tmps.getD u undef]) w := by
  have hp' : tmps[p]?.getD undef = .pointer (some ⟨g, 0, none⟩) := by simpa using hp
  simp [results, h, hp', asAddr, run_loadVar_row w g t ty cs fr d hg hu hd hi]
theorem info44 : (Try.prog.info? 44).map (·.size) = some 2 := by kernel_rfl
set_option maxRecDepth 100000 in
set_option maxHeartbeats 1000000 in
theorem rjoin_eq (N : Int) (A : Option Addr) (c : Nat) (l : List Bool) (a : Int) (w : World) :
    Calls Try.prog 65 #[.agg #[.int .i64 N, .slice A l.length c], .int .i64 a, .int .i64 a] w fun e w' => e = .returned (.tuple #[.agg #[.int .i64 N, .slice A l.length c], .bool false]) ∧ Below w.heap.size w w' := by
  have hu44 := Try.underlying44
  have h1 : (a == a) = true := by simp
  have HB := Aside0.mk (below_alloc (below_alloc (Below.refl w.heap.size w) (Obj.cells #[Value.int IntKind.i64 N, Value.slice A l.length c] 44)) (Obj.cells #[Value.int IntKind.i64 N, Value.slice A l.length c] 44))
  go_enter Try.func65, Try.ntmps65
  go_wp2
  have hh := World.alloc_heap_new (w.alloc (Obj.cells #[Value.int IntKind.i64 N, Value.slice A l.length c] 44)) (Obj.cells #[Value.int IntKind.i64 N, Value.slice A l.length c] 44)
  rw [World.size_alloc] at hh
  (try simp only [Exit.inBlock, Exit.then])
  refine bodyPost_ret (results_row_tmp (ty := 44) rfl _ _ (w.heap.size + 1) 44 #[Value.int IntKind.i64 N, Value.slice A l.length c] (0, 0) _ rfl hh Try.underlying44 rfl info44) rfl ?_
  exact ⟨rfl, HB.out⟩
/-- The two boxes of Join, while nothing is joined yet. -/
structure JB (w : World) (N : Int) (A : Option Addr) (n c : Nat) (w' : World) : Prop where
  b0 : w'.heap[w.heap.size]? = some (.cells #[.int .i64 N, .slice A n c] 44 (0, 0))
  b1 : w'.heap[w.heap.size + 1]? = some (.cells #[.int .i64 0, .slice none 0 0] 44 (0, 0))
  below : Below w.heap.size w w'
theorem JB.start (w : World) (N : Int) (A : Option Addr) (n c : Nat) : JB w N A n c ((w.alloc (Obj.cells #[Value.int IntKind.i64 N, Value.slice A n c] 44)).alloc (Obj.cells #[.int .i64 0, .slice none 0 0] 44)) := by
  have e1 : (w.alloc (Obj.cells #[Value.int IntKind.i64 N, Value.slice A n c] 44)).heap.size = w.heap.size + 1 := World.size_alloc _ _
  refine ⟨?_, ?_, below_alloc (below_alloc (Below.refl _ _) _) _⟩
  · rw [Below.heap_alloc _ _ _ (by omega)]; exact World.alloc_heap_new _ _
  · have := World.alloc_heap_new (w.alloc (Obj.cells #[Value.int IntKind.i64 N, Value.slice A n c] 44)) (Obj.cells #[.int .i64 0, .slice none 0 0] 44)
    rwa [e1] at this
theorem JB.step {w w1 w2 : World} {N : Int} {A : Option Addr} {n c : Nat} (h : JB w N A n c w1) (hb : Below w1.heap.size w1 w2) : JB w N A n c w2 :=
  ⟨(hb.block _ (lt_of_block h.b0)).trans h.b0, (hb.block _ (lt_of_block h.b1)).trans h.b1, below_then h.below h.below.size hb⟩
theorem JB.stored {w w1 : World} {N : Int} {A : Option Addr} {n c : Nat} (h : JB w N A n c w1) (x y : Value) :
    ((w1.setCell ⟨w.heap.size + 1, 0, none⟩ x).setCell ⟨w.heap.size + 1, 1, none⟩ y).heap[w.heap.size + 1]? = some (.cells #[x, y] 44 (0, 0)) ∧ Below w.heap.size w ((w1.setCell ⟨w.heap.size + 1, 0, none⟩ x).setCell ⟨w.heap.size + 1, 1, none⟩ y) :=
  ⟨by rw [heap_set (heap_set h.b1 0 x) 1 y]; rfl, below_store (below_store h.below (by omega) 0 x) (by omega) 1 y⟩
set_option maxRecDepth 100000 in
set_option maxHeartbeats 1000000 in
/-- Nothing is joined: equal, no nodes, or joined before. -/
theorem rjoin_no (N : Int) (A : Option Addr) (c : Nat) (l : List Bool) (a b : Int) (w : World) (hr : Kd.C Kd.bool w A l.length l) (hc : l.length ≤ c) (ta tb th : Bool) (hne : ¬ a = b)
    (ha : horariumref23_Node.f N l a = some ta) (hb : horariumref23_Node.f N l b = some tb) (hh : ta = true → tb = true → horariumref23_Has.f N l a b = some th) (hno : ta = false ∨ tb = false ∨ th = true) :
    Calls Try.prog 65 #[.agg #[.int .i64 N, .slice A l.length c], .int .i64 a, .int .i64 b] w fun e w' => e = .returned (.tuple #[.agg #[.int .i64 N, .slice A l.length c], .bool false]) ∧ Below w.heap.size w w' := by
  have hu44 := Try.underlying44
  have h1 : (a == b) = false := by simp [hne]
  have HR := Aside0.mk hr
  have HC := Aside0.mk hc
  have HA := Aside0.mk ha
  have HBn := Aside0.mk hb
  have HH := Aside0.mk hh
  have HNO := Aside0.mk hno
  have HJ0 := Aside0.mk (JB.start w N A l.length c)
  clear hr hc ha hb hh hno hne
  cases ta
  · go_enter Try.func65, Try.ntmps65
    go_wp2_with fail
    refine (horariumref23_Node.calls N A c l a false _ (Kd.C_below HR.out HJ0.out.below) HC.out HA.out).mono ?_
    rintro e w1 ⟨rfl, hb1⟩
    have HJ1 := Aside0.mk (HJ0.out.step hb1)
    clear hb1
    have c0 : w1.cell? ⟨w.heap.size, 0, none⟩ = some (.int .i64 N) := (blk_cell HJ1.out.b0 0).trans rfl
    have c1 : w1.cell? ⟨w.heap.size, 1, none⟩ = some (.slice A l.length c) := (blk_cell HJ1.out.b0 1).trans rfl
    have d0 : w1.cell? ⟨w.heap.size + 1, 0, none⟩ = some (.int .i64 0) := (blk_cell HJ1.out.b1 0).trans rfl
    have d1 : w1.cell? ⟨w.heap.size + 1, 1, none⟩ = some (.slice none 0 0) := (blk_cell HJ1.out.b1 1).trans rfl
    have f0 := blk_frozen HJ1.out.b1 0
    have f1 := blk_frozen HJ1.out.b1 1
    go_wp2
    (try simp only [Exit.inBlock, Exit.then])
    refine bodyPost_ret (results_row_tmp (ty := 44) rfl _ _ (w.heap.size + 1) 44 #[Value.int IntKind.i64 N, Value.slice A l.length c] (0, 0) _ rfl (HJ1.out.stored _ _).1 Try.underlying44 rfl info44) rfl ?_
    exact ⟨rfl, (HJ1.out.stored _ _).2⟩
  cases tb
  · go_enter Try.func65, Try.ntmps65
    go_wp2_with fail
    refine (horariumref23_Node.calls N A c l a true _ (Kd.C_below HR.out HJ0.out.below) HC.out HA.out).mono ?_
    rintro e w1 ⟨rfl, hb1⟩
    have HJ1 := Aside0.mk (HJ0.out.step hb1)
    clear hb1
    have c0 : w1.cell? ⟨w.heap.size, 0, none⟩ = some (.int .i64 N) := (blk_cell HJ1.out.b0 0).trans rfl
    have c1 : w1.cell? ⟨w.heap.size, 1, none⟩ = some (.slice A l.length c) := (blk_cell HJ1.out.b0 1).trans rfl
    have d0 : w1.cell? ⟨w.heap.size + 1, 0, none⟩ = some (.int .i64 0) := (blk_cell HJ1.out.b1 0).trans rfl
    have d1 : w1.cell? ⟨w.heap.size + 1, 1, none⟩ = some (.slice none 0 0) := (blk_cell HJ1.out.b1 1).trans rfl
    have f0 := blk_frozen HJ1.out.b1 0
    have f1 := blk_frozen HJ1.out.b1 1
    go_wp2_with fail
    refine (horariumref23_Node.calls N A c l b false _ (Kd.C_below HR.out HJ1.out.below) HC.out HBn.out).mono ?_
    rintro e w2 ⟨rfl, hb2⟩
    have HJ2 := Aside0.mk (HJ1.out.step hb2)
    clear hb2
    clear c0 c1 d0 d1 f0 f1
    have c0 : w2.cell? ⟨w.heap.size, 0, none⟩ = some (.int .i64 N) := (blk_cell HJ2.out.b0 0).trans rfl
    have c1 : w2.cell? ⟨w.heap.size, 1, none⟩ = some (.slice A l.length c) := (blk_cell HJ2.out.b0 1).trans rfl
    have d0 : w2.cell? ⟨w.heap.size + 1, 0, none⟩ = some (.int .i64 0) := (blk_cell HJ2.out.b1 0).trans rfl
    have d1 : w2.cell? ⟨w.heap.size + 1, 1, none⟩ = some (.slice none 0 0) := (blk_cell HJ2.out.b1 1).trans rfl
    have f0 := blk_frozen HJ2.out.b1 0
    have f1 := blk_frozen HJ2.out.b1 1
    go_wp2
    (try simp only [Exit.inBlock, Exit.then])
    refine bodyPost_ret (results_row_tmp (ty := 44) rfl _ _ (w.heap.size + 1) 44 #[Value.int IntKind.i64 N, Value.slice A l.length c] (0, 0) _ rfl (HJ2.out.stored _ _).1 Try.underlying44 rfl info44) rfl ?_
    exact ⟨rfl, (HJ2.out.stored _ _).2⟩
  cases th
  · exact absurd HNO.out (by simp)
  · go_enter Try.func65, Try.ntmps65
    go_wp2_with fail
    refine (horariumref23_Node.calls N A c l a true _ (Kd.C_below HR.out HJ0.out.below) HC.out HA.out).mono ?_
    rintro e w1 ⟨rfl, hb1⟩
    have HJ1 := Aside0.mk (HJ0.out.step hb1)
    clear hb1
    have c0 : w1.cell? ⟨w.heap.size, 0, none⟩ = some (.int .i64 N) := (blk_cell HJ1.out.b0 0).trans rfl
    have c1 : w1.cell? ⟨w.heap.size, 1, none⟩ = some (.slice A l.length c) := (blk_cell HJ1.out.b0 1).trans rfl
    have d0 : w1.cell? ⟨w.heap.size + 1, 0, none⟩ = some (.int .i64 0) := (blk_cell HJ1.out.b1 0).trans rfl
    have d1 : w1.cell? ⟨w.heap.size + 1, 1, none⟩ = some (.slice none 0 0) := (blk_cell HJ1.out.b1 1).trans rfl
    have f0 := blk_frozen HJ1.out.b1 0
    have f1 := blk_frozen HJ1.out.b1 1
    go_wp2_with fail
    refine (horariumref23_Node.calls N A c l b true _ (Kd.C_below HR.out HJ1.out.below) HC.out HBn.out).mono ?_
    rintro e w2 ⟨rfl, hb2⟩
    have HJ2 := Aside0.mk (HJ1.out.step hb2)
    clear hb2
    clear c0 c1 d0 d1 f0 f1
    have c0 : w2.cell? ⟨w.heap.size, 0, none⟩ = some (.int .i64 N) := (blk_cell HJ2.out.b0 0).trans rfl
    have c1 : w2.cell? ⟨w.heap.size, 1, none⟩ = some (.slice A l.length c) := (blk_cell HJ2.out.b0 1).trans rfl
    have d0 : w2.cell? ⟨w.heap.size + 1, 0, none⟩ = some (.int .i64 0) := (blk_cell HJ2.out.b1 0).trans rfl
    have d1 : w2.cell? ⟨w.heap.size + 1, 1, none⟩ = some (.slice none 0 0) := (blk_cell HJ2.out.b1 1).trans rfl
    have f0 := blk_frozen HJ2.out.b1 0
    have f1 := blk_frozen HJ2.out.b1 1
    go_wp2_with fail
    refine (horariumref23_Has.calls N A c l a b true _ (Kd.C_below HR.out HJ2.out.below) HC.out (by have := HH.out; simpa using this)).mono ?_
    rintro e w3 ⟨rfl, hb3⟩
    have HJ3 := Aside0.mk (HJ2.out.step hb3)
    clear hb3
    clear c0 c1 d0 d1 f0 f1
    have c0 : w3.cell? ⟨w.heap.size, 0, none⟩ = some (.int .i64 N) := (blk_cell HJ3.out.b0 0).trans rfl
    have c1 : w3.cell? ⟨w.heap.size, 1, none⟩ = some (.slice A l.length c) := (blk_cell HJ3.out.b0 1).trans rfl
    have d0 : w3.cell? ⟨w.heap.size + 1, 0, none⟩ = some (.int .i64 0) := (blk_cell HJ3.out.b1 0).trans rfl
    have d1 : w3.cell? ⟨w.heap.size + 1, 1, none⟩ = some (.slice none 0 0) := (blk_cell HJ3.out.b1 1).trans rfl
    have f0 := blk_frozen HJ3.out.b1 0
    have f1 := blk_frozen HJ3.out.b1 1
    go_wp2
    (try simp only [Exit.inBlock, Exit.then])
    refine bodyPost_ret (results_row_tmp (ty := 44) rfl _ _ (w.heap.size + 1) 44 #[Value.int IntKind.i64 N, Value.slice A l.length c] (0, 0) _ rfl (HJ3.out.stored _ _).1 Try.underlying44 rfl info44) rfl ?_
    exact ⟨rfl, (HJ3.out.stored _ _).2⟩
theorem JB.far {w w1 : World} {N : Int} {A : Option Addr} {n c g : Nat} (h : JB w N A n c w1) (hg : w.heap.size + 1 < g) (i : Nat) (v : Value) : JB w N A n c (w1.setCell ⟨g, i, none⟩ v) :=
  ⟨(Go.Deep.blk_setCell_other _ _ _ _ (by show w.heap.size ≠ g; omega)).trans h.b0, (Go.Deep.blk_setCell_other _ _ _ _ (by show w.heap.size + 1 ≠ g; omega)).trans h.b1, below_store h.below (by omega) i v⟩
theorem pw_set_far {w : World} {b g : Nat} {u : Value} (h : w.cell? ⟨b, 0, none⟩ = some u) (hne : b ≠ g) (i : Nat) (v : Value) : (w.setCell ⟨g, i, none⟩ v).cell? ⟨b, 0, none⟩ = some u := by
  rw [World.cell?_setCell_other _ _ _ _ (by intro e; injection e with e _; exact hne e.symm)]; exact h
theorem own_of_app {w : World} {base : Nat} {v : Value} {l : List Bool} (h : w.ownsRow base 4 1 v ([] ++ l).length (encs Value.bool ([] ++ l))) : w.ownsRow base 4 1 v l.length (encs Value.bool l) := by simpa using h
set_option maxRecDepth 100000 in
set_option maxHeartbeats 1000000 in
/-- Two nodes are joined. -/
theorem rjoin_yes (N : Int) (A : Option Addr) (c : Nat) (l : List Bool) (a b : Int) (w : World) (hr : Kd.C Kd.bool w A l.length l) (hc : l.length ≤ c) (hne : ¬ a = b)
    (ha : horariumref23_Node.f N l a = some true) (hb : horariumref23_Node.f N l b = some true) (hh : horariumref23_Has.f N l a b = some false)
    (p1 p2 q1 q2 : Int) (e1 : wrap64 (a * N) = p1) (e2 : wrap64 (p1 + b) = p2) (e3 : wrap64 (b * N) = q1) (e4 : wrap64 (q1 + a) = q2) (hp : 0 ≤ p2 ∧ p2 < (l.length : Int)) (hq : 0 ≤ q2 ∧ q2 < (l.length : Int)) (hl : l.length ≤ 1000000) :
    Calls Try.prog 65 #[.agg #[.int .i64 N, .slice A l.length c], .int .i64 a, .int .i64 b] w fun e w' => ∃ v, e = .returned (.tuple #[.agg #[.int .i64 N, v], .bool true]) ∧ w'.ownsRow w.heap.size 4 1 v l.length (encs Value.bool ((l.set p2.toNat true).set q2.toNat true)) ∧ Below w.heap.size w w' := by
  have hu44 := Try.underlying44
  have h1 : (a == b) = false := by simp [hne]
  have HR := Aside0.mk hr
  have HC := Aside0.mk hc
  have HA := Aside0.mk ha
  have HBn := Aside0.mk hb
  have HH := Aside0.mk hh
  have HPQ := Aside0.mk (And.intro hp (And.intro hq hl))
  have HJ0 := Aside0.mk (JB.start w N A l.length c)
  clear hr hc ha hb hh hne hp hq hl
  go_enter Try.func65, Try.ntmps65
  go_wp2_with fail
  refine (horariumref23_Node.calls N A c l a true _ (Kd.C_below HR.out HJ0.out.below) HC.out HA.out).mono ?_
  rintro e w1 ⟨rfl, hb1⟩
  have HJ1 := Aside0.mk (HJ0.out.step hb1)
  clear hb1
  have c0 : w1.cell? ⟨w.heap.size, 0, none⟩ = some (.int .i64 N) := (blk_cell HJ1.out.b0 0).trans rfl
  have c1 : w1.cell? ⟨w.heap.size, 1, none⟩ = some (.slice A l.length c) := (blk_cell HJ1.out.b0 1).trans rfl
  go_wp2_with fail
  refine (horariumref23_Node.calls N A c l b true _ (Kd.C_below HR.out HJ1.out.below) HC.out HBn.out).mono ?_
  rintro e w2 ⟨rfl, hb2⟩
  have HJ2 := Aside0.mk (HJ1.out.step hb2)
  clear hb2
  clear c0 c1
  have c0 : w2.cell? ⟨w.heap.size, 0, none⟩ = some (.int .i64 N) := (blk_cell HJ2.out.b0 0).trans rfl
  have c1 : w2.cell? ⟨w.heap.size, 1, none⟩ = some (.slice A l.length c) := (blk_cell HJ2.out.b0 1).trans rfl
  go_wp2_with fail
  refine (horariumref23_Has.calls N A c l a b false _ (Kd.C_below HR.out HJ2.out.below) HC.out HH.out).mono ?_
  rintro e w3 ⟨rfl, hb3⟩
  have HJ3 := Aside0.mk (HJ2.out.step hb3)
  clear hb3
  clear c0 c1
  have c0 : w3.cell? ⟨w.heap.size, 0, none⟩ = some (.int .i64 N) := (blk_cell HJ3.out.b0 0).trans rfl
  have c1 : w3.cell? ⟨w.heap.size, 1, none⟩ = some (.slice A l.length c) := (blk_cell HJ3.out.b0 1).trans rfl
  have HE : Aside0 ((w3.alloc (.cells #[] 4)).ownsRow w.heap.size 4 1 (.slice (some ⟨w3.heap.size, 0, none⟩) 0 0) ([] : List Bool).length (encs Value.bool [])) := ⟨by
    have h := World.ownsRow_lit (base := w.heap.size) (e := 4) (size := 1) w3 #[] 0 HJ3.out.below.size (by decide) (by simp)
    simpa [encs] using h⟩
  have HBe := Aside0.mk (below_then HJ3.out.below HJ3.out.below.size (below_alloc (Below.refl w3.heap.size w3) (.cells #[] 4)))
  have c1a : (w3.alloc (Obj.cells #[] 4)).cell? ⟨w.heap.size, 1, none⟩ = some (.slice A l.length c) := pw_cell_below (below_alloc (Below.refl _ _) _) c1
  go_wp2_with (at_builtin; go_loud (refine print_append_row_of (w0 := w) Value.bool false w.heap.size rfl _ _ 42 4 (.bool false) 1 rfl Try.underlying42 PB.info4 rfl (by decide) (fun _ => rfl) (.slice (some ⟨w3.heap.size, 0, none⟩) 0 0) [] l A l.length c rfl rfl HE.out (Kd.reads_of_C (d := false) (Kd.C_below HR.out HBe.out)) HBe.out HBe.out.size (by have := HPQ.out.2.2; simp; omega) ?_); intro v1 w4 ho4 hb4 hg4 hat4)
  have HB4 := Aside0.mk hb4
  have hja := HJ3.out.step (below_alloc (Below.refl w3.heap.size w3) (.cells #[] 4))
  have hs3 := lt_of_block HJ3.out.b1
  have hj4 : JB w N A l.length c w4 := ⟨(hg4.block _ (lt_of_block hja.b0) (fun e => by simp [Value.ownBlock] at e; omega)).trans hja.b0, (hg4.block _ (lt_of_block hja.b1) (fun e => by simp [Value.ownBlock] at e; omega)).trans hja.b1, hb4⟩
  have HJ4 := Aside0.mk hj4
  have c0n : w4.drew.cell? ⟨w.heap.size, 0, none⟩ = some (.int .i64 N) := (blk_cell HJ4.out.b0 0).trans rfl
  obtain ⟨g, cap, rfl, hgb, hgl⟩ := ho4.form (by have := HPQ.out; simp; omega)
  have hgs : w.heap.size + 1 < g := by
    simp [Value.ownBlock] at hat4
    omega
  have HGS := Aside0.mk hgs
  clear hja hs3 hj4 hgs
  have ho4' := own_of_app ho4
  have HP1 := Aside0.mk (own_at_of (d := false) ho4' p2 HPQ.out.1.1 HPQ.out.1.2)
  have HP2 := Aside0.mk (own_store_of ho4' p2 true)
  have HQ1 := Aside0.mk (own_at_of (d := false) HP2.out.1 q2 HPQ.out.2.1.1 HPQ.out.2.1.2)
  have HP1G : Aside0 (w.heap.size ≠ g) := ⟨by have := HGS.out; omega⟩
  clear hb4 hg4 hat4 ho4
  have hp0 := HPQ.out.1.1
  have hp1 := HPQ.out.1.2
  have hq0 := HPQ.out.2.1.1
  have hq1 := HPQ.out.2.1.2
  refine start_ (n := 18) (S := (fun w' => w'.cell? ⟨w.heap.size, 0, none⟩ = some (.int .i64 N))) (ds := [17]) #[false, false, false, false, false, false, false, false, false, false, false, false, false, false, false, false, false, false] (by kernel_rfl) rfl rfl (c0n) (fun hHeld => ?_)
  refine pure_ (i := 0) (N := some 35) (v := ?_) (a' := ?_) #[true, false, false, false, false, false, false, false, false, false, false, false, false, false, false, false, false, false] rfl rfl (by kernel_rfl) (fun _ _ _ h => h) (Or.inl ⟨by rfl, ?_⟩) ?_ ?_
  rotate_left
  · intro w'
    go_simp
    with_reducible rfl
  rotate_left
  · simp only [Act.put, List.setIfInBounds_toArray, List.set_cons_zero, List.set_cons_succ, i64_w, i32_w]
    rfl
  refine pure_ (i := 1) (N := some 36) (v := ?_) (a' := ?_) #[true, true, false, false, false, false, false, false, false, false, false, false, false, false, false, false, false, false] rfl rfl (by kernel_rfl) (fun _ _ _ h => h) (Or.inl ⟨by rfl, ?_⟩) ?_ ?_
  rotate_left
  · intro w'
    go_simp
    with_reducible rfl
  rotate_left
  · simp only [Act.put, List.setIfInBounds_toArray, List.set_cons_zero, List.set_cons_succ, i64_w, i32_w]
    rfl
  refine pure_ (i := 2) (N := some 37) (v := ?_) (a' := ?_) #[true, true, true, false, false, false, false, false, false, false, false, false, false, false, false, false, false, false] rfl rfl (by kernel_rfl) (fun _ _ _ h => h) (Or.inl ⟨by rfl, ?_⟩) ?_ ?_
  rotate_left
  · intro w'
    go_simp
    with_reducible rfl
  rotate_left
  · simp only [Act.put, List.setIfInBounds_toArray, List.set_cons_zero, List.set_cons_succ, i64_w, i32_w]
    rfl
  refine take_ (i := 3) (N := some 38) (v := ?_) (a' := ?_) #[true, true, true, true, false, false, false, false, false, false, false, false, false, false, false, false, false, false] rfl rfl (by kernel_rfl) (fun _ _ _ h => h) (Or.inl ⟨by rfl, ?_⟩) hHeld ?_ ?_
  rotate_left
  · intro w' s0
    go_simp
    with_reducible rfl
  rotate_left
  · simp only [Act.put, List.setIfInBounds_toArray, List.set_cons_zero, List.set_cons_succ, i64_w, i32_w]
    rfl
  refine pure_ (i := 4) (N := some 39) (v := ?_) (a' := ?_) #[true, true, true, true, true, false, false, false, false, false, false, false, false, false, false, false, false, false] rfl rfl (by kernel_rfl) (fun _ _ _ h => h) (Or.inl ⟨by rfl, ?_⟩) ?_ ?_
  rotate_left
  · intro w'
    go_simp
    with_reducible rfl
  rotate_left
  · simp only [Act.put, List.setIfInBounds_toArray, List.set_cons_zero, List.set_cons_succ, i64_w, i32_w]
    rfl
  refine pure_ (i := 5) (N := some 40) (v := ?_) (a' := ?_) #[true, true, true, true, true, true, false, false, false, false, false, false, false, false, false, false, false, false] rfl rfl (by kernel_rfl) (fun _ _ _ h => h) (Or.inl ⟨by rfl, ?_⟩) ?_ ?_
  rotate_left
  · intro w'
    go_simp
    with_reducible rfl
  rotate_left
  · simp only [Act.put, List.setIfInBounds_toArray, List.set_cons_zero, List.set_cons_succ, i64_w, i32_w]
    rfl
  refine pure_ (i := 6) (N := some 41) (v := ?_) (a' := ?_) #[true, true, true, true, true, true, true, false, false, false, false, false, false, false, false, false, false, false] rfl rfl (by kernel_rfl) (fun _ _ _ h => h) (Or.inl ⟨by rfl, ?_⟩) ?_ ?_
  rotate_left
  · intro w'
    go_simp
    with_reducible rfl
  rotate_left
  · simp only [Act.put, List.setIfInBounds_toArray, List.set_cons_zero, List.set_cons_succ, i64_w, i32_w]
    rfl
  refine pure_ (i := 7) (N := some 42) (v := ?_) (a' := ?_) #[true, true, true, true, true, true, true, true, false, false, false, false, false, false, false, false, false, false] rfl rfl (by kernel_rfl) (fun _ _ _ h => h) (Or.inl ⟨by rfl, ?_⟩) ?_ ?_
  rotate_left
  · intro w'
    go_simp
    with_reducible rfl
  rotate_left
  · simp only [Act.put, List.setIfInBounds_toArray, List.set_cons_zero, List.set_cons_succ, i64_w, i32_w]
    rfl
  refine pure_ (i := 8) (N := some 43) (v := ?_) (a' := ?_) #[true, true, true, true, true, true, true, true, true, false, false, false, false, false, false, false, false, false] rfl rfl (by kernel_rfl) (fun _ _ _ h => h) (Or.inl ⟨by rfl, ?_⟩) ?_ ?_
  rotate_left
  · intro w'
    go_simp
    with_reducible rfl
  rotate_left
  · simp only [Act.put, List.setIfInBounds_toArray, List.set_cons_zero, List.set_cons_succ, i64_w, i32_w]
    rfl
  refine pure_ (i := 9) (N := some 44) (v := ?_) (a' := ?_) #[true, true, true, true, true, true, true, true, true, true, false, false, false, false, false, false, false, false] rfl rfl (by kernel_rfl) (fun _ _ _ h => h) (Or.inl ⟨by rfl, ?_⟩) ?_ ?_
  rotate_left
  · intro w'
    go_simp
    with_reducible rfl
  rotate_left
  · simp only [Act.put, List.setIfInBounds_toArray, List.set_cons_zero, List.set_cons_succ, i64_w, i32_w]
    rfl
  refine take_ (i := 10) (N := some 45) (v := ?_) (a' := ?_) #[true, true, true, true, true, true, true, true, true, true, true, false, false, false, false, false, false, false] rfl rfl (by kernel_rfl) (fun _ _ _ h => h) (Or.inl ⟨by rfl, ?_⟩) hHeld ?_ ?_
  rotate_left
  · intro w' s0
    go_simp
    with_reducible rfl
  rotate_left
  · simp only [Act.put, List.setIfInBounds_toArray, List.set_cons_zero, List.set_cons_succ, i64_w, i32_w]
    rfl
  refine pure_ (i := 11) (N := some 46) (v := ?_) (a' := ?_) #[true, true, true, true, true, true, true, true, true, true, true, true, false, false, false, false, false, false] rfl rfl (by kernel_rfl) (fun _ _ _ h => h) (Or.inl ⟨by rfl, ?_⟩) ?_ ?_
  rotate_left
  · intro w'
    go_simp
    with_reducible rfl
  rotate_left
  · simp only [Act.put, List.setIfInBounds_toArray, List.set_cons_zero, List.set_cons_succ, i64_w, i32_w]
    rfl
  refine pure_ (i := 12) (N := some 47) (v := ?_) (a' := ?_) #[true, true, true, true, true, true, true, true, true, true, true, true, true, false, false, false, false, false] rfl rfl (by kernel_rfl) (fun _ _ _ h => h) (Or.inl ⟨by rfl, ?_⟩) ?_ ?_
  rotate_left
  · intro w'
    go_simp
    with_reducible rfl
  rotate_left
  · simp only [Act.put, List.setIfInBounds_toArray, List.set_cons_zero, List.set_cons_succ, i64_w, i32_w]
    rfl
  refine pure_ (i := 13) (N := some 48) (v := ?_) (a' := ?_) #[true, true, true, true, true, true, true, true, true, true, true, true, true, true, false, false, false, false] rfl rfl (by kernel_rfl) (fun _ _ _ h => h) (Or.inl ⟨by rfl, ?_⟩) ?_ ?_
  rotate_left
  · intro w'
    go_simp
    with_reducible rfl
  rotate_left
  · simp only [Act.put, List.setIfInBounds_toArray, List.set_cons_zero, List.set_cons_succ, i64_w, i32_w]
    rfl
  refine pure_ (i := 14) (N := some 49) (v := ?_) (a' := ?_) #[true, true, true, true, true, true, true, true, true, true, true, true, true, true, true, false, false, false] rfl rfl (by kernel_rfl) (fun _ _ _ h => h) (Or.inl ⟨by rfl, ?_⟩) ?_ ?_
  rotate_left
  · intro w'
    go_simp
    with_reducible rfl
  rotate_left
  · simp only [Act.put, List.setIfInBounds_toArray, List.set_cons_zero, List.set_cons_succ, i64_w, i32_w]
    rfl
  refine one_ (i := 15) (N := none) #[true, true, true, true, true, true, true, true, true, true, true, true, true, true, true, true, false, false] rfl rfl (by kernel_rfl) (by decide) (fun K hK => ?_)
  have cp := HP1.out.1
  have fp := HP1.out.2
  go_simp
  refine hK.out _ _ (pw_set_far hHeld HP1G.out _ _) (fun hHeld => ?_)
  clear hK K
  refine pure_ (i := 16) (N := some 50) (v := ?_) (a' := ?_) #[true, true, true, true, true, true, true, true, true, true, true, true, true, true, true, true, true, false] rfl rfl (by kernel_rfl) (fun _ _ _ h => h) (Or.inl ⟨by rfl, ?_⟩) ?_ ?_
  rotate_left
  · intro w'
    go_simp
    with_reducible rfl
  rotate_left
  · simp only [Act.put, List.setIfInBounds_toArray, List.set_cons_zero, List.set_cons_succ, i64_w, i32_w]
    rfl
  refine last_ (i := 17) (N := none) #[true, true, true, true, true, true, true, true, true, true, true, true, true, true, true, true, true, true] rfl rfl (by kernel_rfl) (by decide) (fun K hK => ?_)
  have cq := HQ1.out.1
  have fq := HQ1.out.2
  go_simp
  refine hK.out _ _ ?_
  clear hK K
  refine done_ (by kernel_rfl) ?_
  have HJ5 := Aside0.mk ((HJ4.out.far HGS.out p2.toNat (.bool true)).far HGS.out q2.toNat (.bool true))
  have k0 := (blk_cell HJ5.out.b0 0).trans rfl
  have d0 := (blk_cell HJ5.out.b1 0).trans rfl
  have d1 := (blk_cell HJ5.out.b1 1).trans rfl
  have f0 := blk_frozen HJ5.out.b1 0
  have f1 := blk_frozen HJ5.out.b1 1
  go_wp2
  (try simp only [Exit.inBlock, Exit.then])
  refine bodyPost_ret (results_row_tmp (ty := 44) rfl _ _ (w.heap.size + 1) 44 #[Value.int IntKind.i64 N, Value.slice (some ⟨g, 0, none⟩) l.length cap] (0, 0) _ rfl (HJ5.out.stored _ _).1 Try.underlying44 rfl info44) rfl ?_
  refine ⟨_, rfl, ?_, below_drew (HJ5.out.stored _ _).2⟩
  refine own_move (own_store_of HP2.out.1 q2 true).1 (fun k hk => ?_)
  obtain rfl : g = k := by simpa [Value.ownBlock] using hk
  have hne : g ≠ w.heap.size + 1 := by have := HGS.out; omega
  exact (Go.Deep.blk_setCell_other _ _ _ _ hne).trans (Go.Deep.blk_setCell_other _ _ _ _ hne)
end Go.Proofs.Ytbmnnmcnmfgbaaa.PG
end
section
/-
  The statements' graph: L23.Made; the joins as a function of two nodes.
-/
namespace Go.Proofs.Ytbmnnmcnmfgbaaa.PG
open Go.RowKit Go.Shelf Go.Proofs.YtbmnnmcnmfgbaaaW.PrintWords Go.Proofs.YtbmnnmcnmfgbaaaW.PrintLast Go.Proofs.YtbmnnmcnmfgbaaaW.PrintMore
open Go.Proofs.Ytbmnnmcnmfgbaaa.PB Go.Proofs.Ytbmnnmcnmfgbaaa.PC
set_option linter.unusedVariables false
set_option linter.unusedSimpArgs false

/-- Are two numbers joined by a list of joins? -/
def adjOf (n : Nat) (js : List (Int × Int)) (a b : Nat) : Bool := (decide (a < n) && decide (b < n)) && (!decide (a = b) && js.any fun p => (p.1 == (a : Int) && p.2 == (b : Int)) || (p.1 == (b : Int) && p.2 == (a : Int)))
theorem adjOf_symm (n : Nat) (js : List (Int × Int)) (a b : Nat) : adjOf n js a b = adjOf n js b a := by
  unfold adjOf
  congr 1
  · exact Bool.and_comm _ _
  · congr 1
    · by_cases e : a = b
      · subst e; rfl
      · have e2 : ¬ b = a := fun h => e h.symm
        simp [e, e2]
    · congr 1; funext p; exact Bool.or_comm _ _
theorem adjOf_lt {n : Nat} {js : List (Int × Int)} {a b : Nat} (h : adjOf n js a b = true) : a < n ∧ b < n ∧ a ≠ b := by
  unfold adjOf at h
  simp only [Bool.and_eq_true, decide_eq_true_eq, Bool.not_eq_true', decide_eq_false_iff_not] at h
  exact ⟨h.1.1, h.1.2, h.2.1⟩
theorem adjOf_snoc (n : Nat) (js : List (Int × Int)) (p : Int × Int) (a b : Nat) : adjOf n (js ++ [p]) a b = (adjOf n js a b || ((decide (a < n) && decide (b < n)) && (!decide (a = b) && ((p.1 == (a : Int) && p.2 == (b : Int)) || (p.1 == (b : Int) && p.2 == (a : Int)))))) := by
  unfold adjOf
  rw [List.any_append]
  simp only [List.any_cons, List.any_nil, Bool.or_false]
  cases decide (a < n) <;> cases decide (b < n) <;> cases decide (a = b) <;> simp
/-- The graph's rows say just who is joined. -/
structure GrIs (nbs : List (List Int)) (n : Nat) (adj : Nat → Nat → Bool) : Prop where
  len : nbs.length = n
  row : ∀ a, a < n → Nrm (nbs.getD a []) (fun i => adj a i)
  short : ∀ a, a < n → (nbs.getD a []).length ≤ 64
/-- The reference's row says just who is joined. -/
structure RefIs (on : List Bool) (n : Nat) (adj : Nat → Nat → Bool) : Prop where
  len : on.length = n * n
  at_ : ∀ a b, a < n → b < n → on.getD (a * n + b) false = adj a b
theorem adjOf_nil (n a b : Nat) : adjOf n [] a b = false := by unfold adjOf; simp
theorem GrIs.gok {nbs : List (List Int)} {n : Nat} {adj : Nat → Nat → Bool} (h : GrIs nbs n adj) (hn : n ≤ 400) (hlt : ∀ a b, adj a b = true → a < n ∧ b < n) : Gok nbs := by
  refine ⟨by rw [h.len]; exact hn, fun a b hb => ?_, fun l hl => ?_⟩
  · by_cases ha : a < n
    · rw [(h.row a ha).tb] at hb
      rw [h.len]; exact (hlt a b hb).2
    · rw [List.getD_eq_getElem?_getD, List.getElem?_eq_none (by rw [h.len]; omega)] at hb
      simp [tb, rd] at hb
  · obtain ⟨a, ha, rfl⟩ := List.mem_iff_getElem.1 hl
    have := h.short a (by rw [← h.len]; exact ha)
    rw [List.getD_eq_getElem?_getD, List.getElem?_eq_getElem ha] at this
    simp at this
    omega
theorem GrIs.gsym {nbs : List (List Int)} {n : Nat} {adj : Nat → Nat → Bool} (h : GrIs nbs n adj) (hs : ∀ a b, adj a b = adj b a) : Gsym nbs := fun a b ha hb => by
  rw [h.len] at ha hb
  rw [(h.row a ha).tb, (h.row b hb).tb, hs]
theorem GrIs.okw {nbs : List (List Int)} {n : Nat} {adj : Nat → Nat → Bool} (h : GrIs nbs n adj) : ∀ l ∈ nbs, okW l ∧ l.length ≤ 1000000 := fun l hl => by
  obtain ⟨a, ha, rfl⟩ := List.mem_iff_getElem.1 hl
  have h1 := h.short a (by rw [← h.len]; exact ha)
  have h2 := (h.row a (by rw [← h.len]; exact ha)).ok
  rw [List.getD_eq_getElem?_getD, List.getElem?_eq_getElem ha] at h1 h2
  simp at h1 h2
  exact ⟨h2, by omega⟩
theorem GrIs.has {nbs : List (List Int)} {n : Nat} {adj : Nat → Nat → Bool} (h : GrIs nbs n adj) (hlt : ∀ a b, adj a b = true → a < n ∧ b < n) (a b : Nat) : hasB nbs (a : Int) (b : Int) = adj a b := by
  unfold hasB
  by_cases ha : a < n
  · have h1 : isB nbs (a : Int) = true := by simp [isB, h.len]; omega
    rw [h1, Int.toNat_natCast, Int.toNat_natCast, (h.row a ha).tb]
    simp
  · have h1 : isB nbs (a : Int) = false := by simp [isB, h.len]; omega
    rw [h1, Bool.false_and]
    cases e : adj a b
    · rfl
    · exact absurd (hlt a b e).1 ha
theorem GrIs.start (n : Nat) : GrIs (List.replicate n []) n (adjOf n []) := by
  refine ⟨by simp, fun a ha => ?_, fun a ha => by simp [ha]⟩
  have e : (List.replicate n ([] : List Int)).getD a [] = [] := by simp [ha]
  rw [e]
  exact ⟨okW.nil, rfl, fun i => by rw [adjOf_nil]; simp [tb, rd]⟩
theorem GrIs.join {nbs : List (List Int)} {n : Nat} {adj adj' : Nat → Nat → Bool} (h : GrIs nbs n adj) (hn : n ≤ 400) {a b : Nat} (ha : a < n) (hb : b < n) (hab : a ≠ b) {ra rb : List Int}
    (hra : Nrm ra (fun i => tb (nbs.getD a []) i || (decide (i < 4096) && decide ((b : Int) = (i : Int))))) (hrb : Nrm rb (fun i => tb (nbs.getD b []) i || (decide (i < 4096) && decide ((a : Int) = (i : Int)))))
    (hla : ra.length ≤ 64) (hlb : rb.length ≤ 64) (hadj : ∀ x y, adj' x y = (adj x y || ((decide (x = a) && decide (y = b)) || (decide (x = b) && decide (y = a))))) : GrIs ((nbs.set a ra).set b rb) n adj' := by
  have ea : ((nbs.set a ra).set b rb).getD a [] = ra := by
    rw [List.getD_eq_getElem?_getD, List.getElem?_set_ne (Ne.symm hab), List.getElem?_set_self (by rw [h.len]; exact ha)]; rfl
  have eb : ((nbs.set a ra).set b rb).getD b [] = rb := by
    rw [List.getD_eq_getElem?_getD, List.getElem?_set_self (by rw [List.length_set, h.len]; exact hb)]; rfl
  have ex : ∀ x, x ≠ a → x ≠ b → ((nbs.set a ra).set b rb).getD x [] = nbs.getD x [] := fun x h1 h2 => by
    rw [List.getD_eq_getElem?_getD, List.getElem?_set_ne (Ne.symm h2), List.getElem?_set_ne (Ne.symm h1), List.getD_eq_getElem?_getD]
  refine ⟨by simp [h.len], fun x hx => ?_, fun x hx => ?_⟩
  · by_cases e1 : x = a
    · subst e1
      rw [ea]
      refine hra.congr (fun i => ?_)
      rw [(h.row x ha).tb, hadj]
      have : decide (x = b) = false := decide_eq_false hab
      rw [this]
      by_cases e2 : i = b
      · subst e2; simp; right; omega
      · have : ¬ (b : Int) = (i : Int) := by omega
        simp [e2, this]
    · by_cases e2 : x = b
      · subst e2
        rw [eb]
        refine hrb.congr (fun i => ?_)
        rw [(h.row x hb).tb, hadj]
        by_cases e3 : i = a
        · subst e3
          simp [e1]; right; omega
        · have : ¬ (a : Int) = (i : Int) := by omega
          simp [e1, e3, this]
      · rw [ex x e1 e2]
        refine (h.row x hx).congr (fun i => ?_)
        rw [hadj]; simp [e1, e2]
  · by_cases e1 : x = a
    · subst e1; rw [ea]; exact hla
    · by_cases e2 : x = b
      · subst e2; rw [eb]; exact hlb
      · rw [ex x e1 e2]; exact h.short x hx
theorem idx_lt {n a b : Nat} (ha : a < n) (hb : b < n) : a * n + b < n * n := by
  have : (a + 1) * n ≤ n * n := Nat.mul_le_mul_right n ha
  rw [Nat.add_mul, Nat.one_mul] at this
  omega
theorem idx_inj {n a b x y : Nat} (hb : b < n) (hy : y < n) (h : a * n + b = x * n + y) : a = x ∧ b = y := by
  have h1 : (a * n + b) / n = a := by rw [Nat.mul_comm, Nat.mul_add_div (by omega), Nat.div_eq_of_lt hb]; omega
  have h2 : (x * n + y) / n = x := by rw [Nat.mul_comm, Nat.mul_add_div (by omega), Nat.div_eq_of_lt hy]; omega
  rw [h, h2] at h1
  subst h1
  exact ⟨rfl, by omega⟩
theorem RefIs.start (n : Nat) : RefIs (List.replicate (n * n) false) n (adjOf n []) :=
  ⟨by simp, fun a b ha hb => by rw [adjOf_nil]; simp [idx_lt ha hb]⟩
theorem getD_set (l : List Bool) (i j : Nat) (x : Bool) (hi : i < l.length) : (l.set i x).getD j false = if j = i then x else l.getD j false := by
  by_cases e : j = i
  · subst e; simp [hi]
  · rw [if_neg e, List.getD_eq_getElem?_getD, List.getElem?_set_ne (Ne.symm e), List.getD_eq_getElem?_getD]
theorem RefIs.join {on : List Bool} {n : Nat} {adj adj' : Nat → Nat → Bool} (h : RefIs on n adj) {a b : Nat} (ha : a < n) (hb : b < n)
    (hadj : ∀ x y, adj' x y = (adj x y || ((decide (x = a) && decide (y = b)) || (decide (x = b) && decide (y = a))))) : RefIs ((on.set (a * n + b) true).set (b * n + a) true) n adj' := by
  have h1 : a * n + b < on.length := by rw [h.len]; exact idx_lt ha hb
  have h2 : b * n + a < (on.set (a * n + b) true).length := by rw [List.length_set, h.len]; exact idx_lt hb ha
  refine ⟨by simp [h.len], fun x y hx hy => ?_⟩
  rw [getD_set _ _ _ _ h2, getD_set _ _ _ _ h1, h.at_ x y hx hy, hadj]
  by_cases e1 : x * n + y = b * n + a
  · obtain ⟨rfl, rfl⟩ := idx_inj hy ha e1
    simp
  · rw [if_neg e1]
    by_cases e2 : x * n + y = a * n + b
    · obtain ⟨rfl, rfl⟩ := idx_inj hy hb e2
      simp
    · rw [if_neg e2]
      have n1 : ¬ (x = b ∧ y = a) := fun ⟨u, v⟩ => e1 (by rw [u, v])
      have n2 : ¬ (x = a ∧ y = b) := fun ⟨u, v⟩ => e2 (by rw [u, v])
      rw [← Bool.decide_and, ← Bool.decide_and, decide_eq_false n1, decide_eq_false n2]
      simp

/-! ### the walk -/
theorem results_tmp_row {P : Program} {fn : Func} {p u : Tmp} {ty : TypeId} (h : fn.results = #[.tmp u, .cell p ty]) (tmps : Array Value) (w : World) (g : Nat) (t : TypeId) (cs : Array Value) (fr : Nat × Nat) (d : TypeDesc)
    (hp : tmps.getD p undef = .pointer (some ⟨g, 0, none⟩)) (hg : w.heap[g]? = some (.cells cs t fr))
    (hu : P.underlying ty = some d) (hd : (match d with | .struct _ | .array _ _ => true | _ => false) = true) (hi : (P.info? ty).map (·.size) = some cs.size) :
    (results fn tmps).run P w = .ok (.tuple #[tmps.getD u undef, .agg cs]) w := by
  have hp' : tmps[p]?.getD undef = .pointer (some ⟨g, 0, none⟩) := by simpa using hp
  simp [results, h, hp', asAddr, run_loadVar_row w g t ty cs fr d hg hu hd hi]
end Go.Proofs.Ytbmnnmcnmfgbaaa.PG
end
section
/-
  One round of L23.Made: a join in the graph, and the same one in the document's graph.
-/
namespace Go.Proofs.Ytbmnnmcnmfgbaaa.PG
open Go.RowKit Go.Shelf Go.Proofs.YtbmnnmcnmfgbaaaW.PrintWords Go.Proofs.YtbmnnmcnmfgbaaaW.PrintLast Go.Proofs.YtbmnnmcnmfgbaaaW.PrintMore
open Go.Proofs.Ytbmnnmcnmfgbaaa.PB Go.Proofs.Ytbmnnmcnmfgbaaa.PC
set_option linter.unusedVariables false
set_option linter.unusedSimpArgs false

/-- Does a join add something? -/
def newJ (n : Nat) (adj : Nat → Nat → Bool) (a b : Int) : Bool := (decide (0 ≤ a) && decide (a < (n : Int))) && ((decide (0 ≤ b) && decide (b < (n : Int))) && (!decide (a = b) && !adj a.toNat b.toNat))
theorem adjOf_old {n : Nat} {js : List (Int × Int)} {a b : Int} (h : newJ n (adjOf n js) a b = false) (x y : Nat) : adjOf n (js ++ [(a, b)]) x y = adjOf n js x y := by
  rw [adjOf_snoc]
  cases e : adjOf n js x y with
  | true => rfl
  | false =>
    rw [Bool.false_or]
    by_cases hx : x < n
    · by_cases hy : y < n
      · by_cases hxy : x = y
        · simp [hxy]
        · by_cases h1 : a = (x : Int) ∧ b = (y : Int)
          · obtain ⟨rfl, rfl⟩ := h1
            unfold newJ at h
            simp [e, hx, hy, hxy] at h
            omega
          · by_cases h2 : a = (y : Int) ∧ b = (x : Int)
            · obtain ⟨rfl, rfl⟩ := h2
              unfold newJ at h
              rw [Int.toNat_natCast, Int.toNat_natCast, adjOf_symm n js y x, e] at h
              simp [hx, hy, hxy] at h
              omega
            · have e1 : ((a == (x : Int)) && (b == (y : Int))) = false := by
                rw [Bool.and_eq_false_iff]; by_cases u : a = (x : Int)
                · exact .inr (by simp; exact fun v => h1 ⟨u, v⟩)
                · exact .inl (by simpa using u)
              have e2 : ((a == (y : Int)) && (b == (x : Int))) = false := by
                rw [Bool.and_eq_false_iff]; by_cases u : a = (y : Int)
                · exact .inr (by simp; exact fun v => h2 ⟨u, v⟩)
                · exact .inl (by simpa using u)
              simp only [e1, e2, Bool.or_false, Bool.and_false]
      · simp [hy]
    · simp [hx]
theorem adjOf_new {n : Nat} {js : List (Int × Int)} {a b : Nat} (ha : a < n) (hb : b < n) (hab : a ≠ b) (x y : Nat) : adjOf n (js ++ [((a : Int), (b : Int))]) x y = (adjOf n js x y || ((decide (x = a) && decide (y = b)) || (decide (x = b) && decide (y = a)))) := by
  rw [adjOf_snoc]
  congr 1
  by_cases e1 : x = a
  · subst e1
    by_cases e2 : y = b
    · subst e2; simp [ha, hb, hab]
    · have e3 : ¬ (b : Int) = (y : Int) := by omega
      have e4 : ¬ b = y := by omega
      by_cases e5 : x = b
      · omega
      · have e6 : ¬ (b : Int) = (x : Int) := by omega
        simp [e2, e3, e5, e6, e4]
  · have e3 : ¬ (a : Int) = (x : Int) := by omega
    by_cases e2 : x = b
    · subst e2
      by_cases e5 : y = a
      · subst e5; simp [ha, hb, hab]; try omega
      · have e6 : ¬ (a : Int) = (y : Int) := by omega
        simp [e1, e3, e5, e6]; try (intro _ _ _ h; omega)
    · have e4 : ¬ (b : Int) = (x : Int) := by omega
      simp [e1, e2, e3, e4]
theorem newJ_true {n : Nat} {adj : Nat → Nat → Bool} {a b : Int} (h : newJ n adj a b = true) : ∃ x y : Nat, a = (x : Int) ∧ b = (y : Int) ∧ x < n ∧ y < n ∧ x ≠ y ∧ adj x y = false := by
  unfold newJ at h
  simp only [Bool.and_eq_true, decide_eq_true_eq, Bool.not_eq_true', decide_eq_false_iff_not] at h
  obtain ⟨⟨h1, h2⟩, ⟨h3, h4⟩, h5, h6⟩ := h
  exact ⟨a.toNat, b.toNat, by omega, by omega, by omega, by omega, by omega, h6⟩
theorem below_low {B C : Nat} {w w' : World} (h : Below B w w') (hB : C ≤ B) : Below C w w' := ⟨h.os, h.tape, h.output, h.size, fun k hk => h.block k (Nat.lt_of_lt_of_le hk hB)⟩
theorem own_low {w : World} {base b2 : Nat} {e : TypeId} {size n : Nat} {v : Value} {xs : List Value} (h : w.ownsRow base e size v n xs) (hb : b2 ≤ base) : w.ownsRow b2 e size v n xs :=
  ⟨h.1, h.2.imp id fun ⟨g, cap, cur, h1, h2, h3⟩ => ⟨g, cap, cur, h1, Nat.le_trans hb h2, h3⟩⟩
theorem joinB_new {nbs : List (List Int)} {n : Nat} {js : List (Int × Int)} (h : GrIs nbs n (adjOf n js)) (a b : Int) : joinB nbs a b = newJ n (adjOf n js) a b := by
  unfold joinB newJ
  have e : ∀ x : Int, isB nbs x = (decide (0 ≤ x) && decide (x < (n : Int))) := fun x => by unfold isB; rw [h.len]
  rw [e, e]
  by_cases h1 : 0 ≤ a ∧ a < (n : Int)
  · by_cases h2 : 0 ≤ b ∧ b < (n : Int)
    · obtain ⟨x, rfl⟩ := Int.eq_ofNat_of_zero_le h1.1
      obtain ⟨y, rfl⟩ := Int.eq_ofNat_of_zero_le h2.1
      have := h.has (fun a b h => ⟨(adjOf_lt h).1, (adjOf_lt h).2.1⟩) x y
      rw [this, Int.toNat_natCast, Int.toNat_natCast]
    · have : (decide (0 ≤ b) && decide (b < (n : Int))) = false := by
        rw [Bool.and_eq_false_iff, decide_eq_false_iff_not, decide_eq_false_iff_not]; omega
      rw [this, Bool.false_and, Bool.false_and]
  · have : (decide (0 ≤ a) && decide (a < (n : Int))) = false := by
      rw [Bool.and_eq_false_iff, decide_eq_false_iff_not, decide_eq_false_iff_not]; omega
    rw [this, Bool.false_and, Bool.false_and]
theorem gjoin_calls (base g gr : Nat) (vs : List Value) (nbs : List (List Int)) (n : Nat) (js : List (Int × Int)) (a b : Int) (w : World) (hG : GraphAt w base g gr vs nbs) (hI : GrIs nbs n (adjOf n js)) (hbase : base ≤ w.heap.size) (hn : n ≤ 400) (hb : b < 9223372036854775808) :
    Calls Try.prog 64 #[.pointer (some ⟨g, 0, none⟩), .int .i64 a, .int .i64 b] w fun e w' => ∃ ok vs' nbs', e = .returned (.bool ok) ∧ GraphAt w' base g gr vs' nbs' ∧ GrIs nbs' n (adjOf n (js ++ [(a, b)])) ∧ Below base w w' ∧ w.grownBy w' (some gr) := by
  rcases hj : newJ n (adjOf n js) a b
  · refine (join_no _ base nbs a b w (.inr (.inr ⟨g, gr, vs, rfl, hG⟩)) (fun l hl => (hI.okw l hl).1) hb (by rw [joinB_new hI, hj])).mono ?_
    rintro e w' ⟨rfl, hd⟩
    have hb1 := hd.below
    have e1 : adjOf n (js ++ [(a, b)]) = adjOf n js := funext fun x => funext fun y => adjOf_old hj x y
    refine ⟨false, vs, nbs, rfl, hG.below hb1, by rw [e1]; exact hI, below_low hb1 hbase, grown_of_below hb1 (some gr)⟩
  · obtain ⟨x, y, rfl, rfl, hx, hy, hxy, hadj⟩ := newJ_true hj
    have hh : hasB nbs (x : Int) (y : Int) = false := by rw [hI.has (fun a b h => ⟨(adjOf_lt h).1, (adjOf_lt h).2.1⟩), hadj]
    refine (join_yes base g gr vs nbs x y w hG hbase hI.okw (by rw [hI.len]; exact hx) (by rw [hI.len]; exact hy) hxy hh (by rw [hI.len]; omega)).mono ?_
    rintro e w' ⟨rfl, vs', ra, rb, hG', hra, hla, hrb, hlb, hbl, hgr⟩
    refine ⟨true, vs', _, rfl, hG', ?_, hbl, hgr⟩
    have hsa := hI.short x hx
    have hsb := hI.short y hy
    exact hI.join hn hx hy hxy hra hrb (by omega) (by omega) (adjOf_new hx hy hxy)
theorem node_f (n : Nat) (on : List Bool) (a : Int) : horariumref23_Node.f (n : Int) on a = some (decide (0 ≤ a) && decide (a < (n : Int))) := by
  unfold horariumref23_Node.f
  by_cases h : 0 ≤ a
  · rw [if_pos h, decide_eq_true h, Bool.true_and]
  · rw [if_neg h, decide_eq_false h, Bool.false_and]
theorem wrap_idx (a n b : Nat) (h : a * n + b < 1000000) : wrap64 (wrap64 ((a : Int) * (n : Int)) + (b : Int)) = ((a * n + b : Nat) : Int) := by
  rw [← Int.natCast_mul]
  generalize a * n = z at h
  unfold wrap64; omega
theorem has_f {n : Nat} {on : List Bool} {adj : Nat → Nat → Bool} (h : RefIs on n adj) (hn : n ≤ 400) {a b : Nat} (ha : a < n) (hb : b < n) : horariumref23_Has.f (n : Int) on (a : Int) (b : Int) = some (adj a b) := by
  have h2 := idx_lt ha hb
  have h3 : n * n ≤ 400 * 400 := Nat.mul_le_mul hn hn
  have e := wrap_idx a n b (by omega)
  have e1 : (decide (0 ≤ (a : Int)) && decide ((a : Int) < (n : Int))) = true := by
    rw [decide_eq_true (Int.natCast_nonneg a), decide_eq_true (Int.ofNat_lt.2 ha)]; rfl
  have e2 : (decide (0 ≤ (b : Int)) && decide ((b : Int) < (n : Int))) = true := by
    rw [decide_eq_true (Int.natCast_nonneg b), decide_eq_true (Int.ofNat_lt.2 hb)]; rfl
  have h4 := h.at_ a b ha hb
  have h5 := h.len
  unfold horariumref23_Has.f
  rw [node_f, node_f, e1, e2, e, Option.bind_some, if_pos rfl, Option.bind_some, if_pos rfl, if_pos (Int.natCast_nonneg _), if_pos (Int.ofNat_lt.2 (by rw [h5]; exact h2))]
  unfold rdOf
  rw [Int.toNat_natCast, h4]
theorem rjoin_calls (base : Nat) (n : Nat) (js : List (Int × Int)) (A : Option Addr) (c : Nat) (on : List Bool) (a b : Int) (w : World) (hr : w.ownsRow base 4 1 (.slice A on.length c) on.length (encs Value.bool on)) (hI : RefIs on n (adjOf n js)) (hbase : base ≤ w.heap.size) (hn : n ≤ 400) :
    Calls Try.prog 65 #[.agg #[.int .i64 n, .slice A on.length c], .int .i64 a, .int .i64 b] w fun e w' => ∃ ok v' on', e = .returned (.tuple #[.agg #[.int .i64 n, v'], .bool ok]) ∧ w'.ownsRow base 4 1 v' on'.length (encs Value.bool on') ∧ RefIs on' n (adjOf n (js ++ [(a, b)])) ∧ Below w.heap.size w w' := by
  have hC : Kd.C Kd.bool w A on.length on ∧ on.length ≤ c := by
    have h1 : Kd.bool.R 4 w base (fun _ => True) (.slice A on.length c) on := Kd.R_of_own hr (fun _ _ => trivial)
    obtain ⟨_, h2, h3⟩ := Kd.R_reads' h1
    exact ⟨h3, h2⟩
  rcases hj : newJ n (adjOf n js) a b
  · have e1 : adjOf n (js ++ [(a, b)]) = adjOf n js := funext fun x => funext fun y => adjOf_old hj x y
    by_cases hab : a = b
    · subst hab
      refine (rjoin_eq n A c on a w).mono ?_
      rintro e w' ⟨rfl, hb⟩
      exact ⟨false, _, on, rfl, own_move hr (fun k hk => hb.block k (own_lt hr k hk)), by rw [e1]; exact hI, hb⟩
    · have hno : ∃ th, ((decide (0 ≤ a) && decide (a < (n : Int))) = true → (decide (0 ≤ b) && decide (b < (n : Int))) = true → horariumref23_Has.f n on a b = some th) ∧ ((decide (0 ≤ a) && decide (a < (n : Int))) = false ∨ (decide (0 ≤ b) && decide (b < (n : Int))) = false ∨ th = true) := by
        rcases h1 : (decide (0 ≤ a) && decide (a < (n : Int)))
        · exact ⟨true, fun h => by simp at h, .inl rfl⟩
        · rcases h2 : (decide (0 ≤ b) && decide (b < (n : Int)))
          · exact ⟨true, fun _ h => by simp at h, .inr (.inl rfl)⟩
          · refine ⟨true, fun _ _ => ?_, .inr (.inr rfl)⟩
            simp only [Bool.and_eq_true, decide_eq_true_eq] at h1 h2
            obtain ⟨x, rfl⟩ := Int.eq_ofNat_of_zero_le h1.1
            obtain ⟨y, rfl⟩ := Int.eq_ofNat_of_zero_le h2.1
            rw [has_f hI hn (by omega) (by omega)]
            unfold newJ at hj
            simp [hab] at hj
            rw [hj (by omega) (by omega)]
      obtain ⟨th, hh, hno⟩ := hno
      refine (rjoin_no n A c on a b w hC.1 hC.2 _ _ th hab (node_f n on a) (node_f n on b) hh hno).mono ?_
      rintro e w' ⟨rfl, hb⟩
      exact ⟨false, _, on, rfl, own_move hr (fun k hk => hb.block k (own_lt hr k hk)), by rw [e1]; exact hI, hb⟩
  · obtain ⟨x, y, rfl, rfl, hx, hy, hxy, hadj⟩ := newJ_true hj
    have i1 := idx_lt hx hy
    have i2 := idx_lt hy hx
    have i3 : n * n ≤ 400 * 400 := Nat.mul_le_mul hn hn
    have hl := hI.len
    have m1 : x * n ≤ x * n + y := by omega
    have m2 : y * n ≤ y * n + x := by omega
    refine (rjoin_yes n A c on x y w hC.1 hC.2 (by omega) (by rw [node_f]; simp; omega) (by rw [node_f]; simp; omega) (by rw [has_f hI hn hx hy, hadj])
      ((x * n : Nat) : Int) ((x * n + y : Nat) : Int) ((y * n : Nat) : Int) ((y * n + x : Nat) : Int) ?_ ?_ ?_ ?_ ?_ ?_ (by omega)).mono ?_
    · rw [← Int.natCast_mul]; generalize x * n = z at *; unfold wrap64; omega
    · generalize x * n = z at *; unfold wrap64; omega
    · rw [← Int.natCast_mul]; generalize y * n = z at *; unfold wrap64; omega
    · generalize y * n = z at *; unfold wrap64; omega
    · omega
    · omega
    · rintro e w' ⟨v, rfl, ho, hb⟩
      rw [Int.toNat_natCast, Int.toNat_natCast] at ho
      refine ⟨true, v, _, rfl, ?_, hI.join hx hy (adjOf_new hx hy hxy), hb⟩
      have e : ((on.set (x * n + y) true).set (y * n + x) true).length = on.length := by simp
      rw [e]
      exact own_low ho hbase
end Go.Proofs.Ytbmnnmcnmfgbaaa.PG
end
section
/-
  The statements' graph: L23.Made (two graphs of the same joins).
-/
namespace Go.Proofs.Ytbmnnmcnmfgbaaa.PG
open Go.RowKit Go.Shelf Go.Proofs.YtbmnnmcnmfgbaaaW.PrintWords Go.Proofs.YtbmnnmcnmfgbaaaW.PrintLast Go.Proofs.YtbmnnmcnmfgbaaaW.PrintMore
open Go.Proofs.Ytbmnnmcnmfgbaaa.PB Go.Proofs.Ytbmnnmcnmfgbaaa.PC
set_option linter.unusedVariables false
set_option linter.unusedSimpArgs false

/-- What stands while the joins are put in: the graph's and the reference's. -/
structure MadeAt (w : World) (b1 b7 g gr n : Nat) (js1 js2 : List (Int × Int)) (vs : List Value) (nbs : List (List Int)) (v : Value) (on : List Bool) (wr : World) : Prop where
  graph : GraphAt wr (w.heap.size + 1) g gr vs nbs
  is : GrIs nbs n (adjOf n js1)
  box : wr.heap[b7]? = some (.cells #[.int .i64 n, v] 44 (0, 0))
  own : wr.ownsRow b1 4 1 v on.length (encs Value.bool on)
  ref : RefIs on n (adjOf n js2)
  res : wr.heap[w.heap.size]? = some (.cells #[.int .i64 0, .slice none 0 0] 44 (0, 0))
  below : Below w.heap.size w wr
  grlt : gr < b1
  blt : b1 ≤ b7
section
variable {w wr w2 : World} {b1 b7 g gr n : Nat} {js1 js2 js : List (Int × Int)} {vs vs' : List Value} {nbs nbs' : List (List Int)} {v : Value} {on : List Bool}
theorem MadeAt.step (h : MadeAt w b1 b7 g gr n js1 js2 vs nbs v on wr) (hb : Below wr.heap.size wr w2) : MadeAt w b1 b7 g gr n js1 js2 vs nbs v on w2 :=
  ⟨h.graph.below hb, h.is, (hb.block _ (lt_of_block h.box)).trans h.box, own_move h.own (fun k hk => hb.block k (own_lt h.own k hk)), h.ref, (hb.block _ (lt_of_block h.res)).trans h.res, below_then h.below h.below.size hb, h.grlt, h.blt⟩
theorem MadeAt.drew (h : MadeAt w b1 b7 g gr n js1 js2 vs nbs v on wr) : MadeAt w b1 b7 g gr n js1 js2 vs nbs v on wr.drew := h.step (below_drew (Below.refl _ _))
theorem MadeAt.size (h : MadeAt w b1 b7 g gr n js1 js2 vs nbs v on wr) : w.heap.size + 1 ≤ wr.heap.size := lt_of_block h.res
theorem MadeAt.joined (h : MadeAt w b1 b7 g gr n js1 js2 vs nbs v on wr) (hG : GraphAt w2 (w.heap.size + 1) g gr vs' nbs') (hI : GrIs nbs' n (adjOf n js)) (hb : Below (w.heap.size + 1) wr w2) (hg : wr.grownBy w2 (some gr)) : MadeAt w b1 b7 g gr n js js2 vs' nbs' v on w2 := by
  have h1 := h.graph.gr_base
  have h2 := h.grlt
  have h3 := h.blt
  refine ⟨hG, hI, (hg.block _ (lt_of_block h.box) (by simp; omega)).trans h.box, own_move h.own (fun k hk => hg.block k (own_lt h.own k hk) ?_), h.ref, (hb.block _ (by omega)).trans h.res, h.below.trans (below_low hb (by omega)), h2, h3⟩
  have := own_base h.own k hk
  simp; omega
theorem own_apart {w : World} {base : Nat} {e : TypeId} {size n : Nat} {u : Value} {xs : List Value} (h : w.ownsRow base e size u n xs) {b : Nat} {cs : Array Value} {t : TypeId} (hb : w.heap[b]? = some (.cells cs t (0, 0))) (hne : e ≠ t) (k : Nat) (hk : u.ownBlock = some k) : k ≠ b := fun hkb => by
  obtain ⟨cells, hc⟩ := own_typed h k hk
  rw [hkb, hb] at hc
  injection hc with hc
  injection hc with _ hc _
  exact hne hc.symm
theorem MadeAt.stored (h : MadeAt w b1 b7 g gr n js1 js2 vs nbs v on wr) {v' : Value} {on' : List Bool} (ho : w2.ownsRow b1 4 1 v' on'.length (encs Value.bool on')) (hr : RefIs on' n (adjOf n js)) (hb : Below wr.heap.size wr w2) :
    MadeAt w b1 b7 g gr n js1 js vs nbs v' on' ((w2.setCell ⟨b7, 0, none⟩ (.int .i64 n)).setCell ⟨b7, 1, none⟩ v') := by
  have h2 := h.step hb
  have hbox := h2.box
  have h1 := h2.graph.gr_base
  have h3 := h2.grlt
  have h4 := h2.blt
  have far : ∀ k, k ≠ b7 → ((w2.setCell ⟨b7, 0, none⟩ (.int .i64 n)).setCell ⟨b7, 1, none⟩ v').heap[k]? = w2.heap[k]? := fun k hk =>
    (Below.heap_setCell _ ⟨b7, 1, none⟩ _ k hk).trans (Below.heap_setCell _ ⟨b7, 0, none⟩ _ k hk)
  have hgne : g ≠ b7 := fun e => by have := h2.graph.head; rw [e, hbox] at this; injection this with this; injection this with _ this _; cases this
  have hrne : gr ≠ b7 := by omega
  refine ⟨⟨h2.graph.g_base, h2.graph.gr_base, h2.graph.len, (far g hgne).trans h2.graph.head, (far gr hrne).trans h2.graph.row, fun i hi => ?_⟩, h2.is, ?_, ?_, hr, (far _ (by omega)).trans h2.res, ?_, h3, h4⟩
  · exact own_move (h2.graph.own i hi) (fun k hk => far k (own_apart (h2.graph.own i hi) hbox (by decide) k hk))
  · rw [heap_set (heap_set hbox 0 _) 1 _]; rfl
  · exact own_move ho (fun k hk => far k (own_apart ho hbox (by decide) k hk))
  · exact below_store (below_store h2.below (by omega) 0 _) (by omega) 1 _
end
theorem take_snoc2 (js : List (Int × Int)) {k : Nat} (hk : k < js.length) {x y : Int} (hx : (js.getD k (0, 0)).1 = x) (hy : (js.getD k (0, 0)).2 = y) : js.take (k + 1) = js.take k ++ [(x, y)] := by
  rw [List.take_succ_eq_append_getElem hk]
  rw [List.getD_eq_getElem?_getD, List.getElem?_eq_getElem hk] at hx hy
  simp only [Option.getD_some] at hx hy
  rw [← hx, ← hy]
/-- The joins that come in. -/
def JoinsIn (w : World) (A : Option Addr) (js : List (Int × Int)) : Prop := ∀ i, i < js.length → ∃ ad, A = some ad ∧ w.cell? (ad.add (i * 2)) = some (.int .i64 (js.getD i (0, 0)).1) ∧ w.cell? ⟨(ad.add (i * 2)).block, (ad.add (i * 2)).off + 1, none⟩ = some (.int .i64 (js.getD i (0, 0)).2) ∧ (js.getD i (0, 0)).2 < 9223372036854775808
theorem rnew_f (n : Nat) (hn : n ≤ 40) : horariumref23_New.f (n : Int) = some ((n : Int), List.replicate (n * n) false) := by
  have h1 : n * n ≤ 40 * 40 := Nat.mul_le_mul hn hn
  have e : wrap64 ((n : Int) * (n : Int)) = ((n * n : Nat) : Int) := by
    rw [← Int.natCast_mul]; unfold wrap64; omega
  unfold horariumref23_New.f
  rw [e, if_pos (by omega), if_pos (by omega), Int.toNat_natCast]
set_option maxRecDepth 100000 in
set_option maxHeartbeats 1000000 in
theorem made_yes (n : Nat) (A : Option Addr) (cap : Nat) (js : List (Int × Int)) (w : World) (hn : n ≤ 40) (hk : js.length ≤ 800) (hj : JoinsIn w A js) :
    Calls Try.prog 33 #[.int .i64 n, .slice A js.length cap] w fun e w' => ∃ q v nbs on, e = .returned (.tuple #[.pointer (some ⟨q, 0, none⟩), .agg #[.int .i64 n, v]]) ∧ IsG w' w.heap.size (some ⟨q, 0, none⟩) nbs ∧ GrIs nbs n (adjOf n js) ∧ RefIs on n (adjOf n js) ∧ w'.ownsRow w.heap.size 4 1 v on.length (encs Value.bool on) ∧ Below w.heap.size w w' := by
  have hu44 := Try.underlying44
  have d0 : decide ((n : Int) < 0) = false := decide_eq_false (by omega)
  have d1 : decide ((n : Int) > 40) = false := decide_eq_false (by omega)
  have d2 : decide ((js.length : Int) > 800) = false := decide_eq_false (by omega)
  have HN := Aside0.mk (And.intro hn hk)
  have HJ := Aside0.mk hj
  clear hn hk hj
  go_enter Try.func33, Try.ntmps33
  go_wp2_with fail
  refine (new_yes n (by have := HN.out; omega) _).mono ?_
  rintro e w1 ⟨g, gr, rfl, hG, hb1⟩
  have HG := Aside0.mk hG
  have HB1 := Aside0.mk hb1
  clear hG hb1
  go_wp2_with fail
  refine (horariumref23_New.calls (n : Int) (n : Int) (List.replicate (n * n) false) _ (rnew_f n HN.out.1)).mono ?_
  rintro e w2 ⟨v2, rfl, hR2, hb2⟩
  obtain ⟨A2, c2, rfl⟩ := own_slice (Kd.own_of_R hR2)
  have HR2 := Aside0.mk hR2
  have HB2 := Aside0.mk hb2
  clear hR2 hb2
  have hlt1 : w.heap.size + 1 ≤ w1.heap.size := by have := HB1.out.size; rw [World.size_alloc] at this; exact this
  have HZ := Aside0.mk (World.alloc_heap_new w (Obj.cells #[Value.int .i64 0, Value.slice none 0 0] 44))
  have HM0 := Aside0.mk (below_alloc (w := w) (Below.refl w.heap.size w) (Obj.cells #[Value.int .i64 0, Value.slice none 0 0] 44))
  have HL2 := Aside0.mk HB2.out.size
  go_wp2
  go_loopg [8] js.length (fun m i wr => ∃ k, Aside0 (k + m = js.length) ∧ i = .int .i64 k ∧ Aside0 (∃ vs nbs v on, MadeAt w w1.heap.size w2.heap.size g gr n (js.take k) (js.take k) vs nbs v on wr))
  case atStart =>
    refine ⟨0, ⟨by omega⟩, rfl, ⟨List.replicate n (.slice none 0 0), List.replicate n [], .slice A2 (n * n) c2, List.replicate (n * n) false, ?_⟩⟩
    have hb3 : Below w2.heap.size w2 (w2.alloc (Obj.cells #[Value.int .i64 n, Value.slice A2 (n * n) c2] 44)) := below_alloc (Below.refl _ _) _
    have hb2 : Below w1.heap.size w1 (w2.alloc (Obj.cells #[Value.int .i64 n, Value.slice A2 (n * n) c2] 44)) := below_then HB2.out HL2.out hb3
    have e1 : (w.alloc (Obj.cells #[Value.int .i64 0, Value.slice none 0 0] 44)).heap.size = w.heap.size + 1 := World.size_alloc _ _
    have hG := HG.out
    have hB1 := HB1.out
    rw [e1] at hG hB1
    have ho := Kd.own_of_R HR2.out
    rw [List.length_replicate] at ho
    have hz1 : w1.heap[w.heap.size]? = some (.cells #[.int .i64 0, .slice none 0 0] 44 (0, 0)) := (hB1.block _ (by omega)).trans HZ.out
    rw [List.take_zero]
    refine ⟨hG.below hb2, GrIs.start n, World.alloc_heap_new _ _, ?_, RefIs.start n, (hb2.block _ (lt_of_block hz1)).trans hz1, below_then ((HM0.out).trans (below_low hB1 (by omega))) (by omega) hb2, lt_of_block hG.row, HL2.out⟩
    rw [List.length_replicate]
    exact own_move ho (fun q hq => hb3.block q (own_lt ho q hq))
  case round =>
    obtain ⟨k, HK, rfl, HC⟩ := hrel
    obtain ⟨vs, nbs, v, on, hM⟩ := HC.out
    have HM := Aside0.mk hM
    clear hM HC
    by_cases hlt : k < js.length
    · obtain ⟨ad, rfl, hc1, hc2, hj2⟩ := HJ.out k hlt
      have HJ2 := Aside0.mk hj2
      clear hj2
      obtain ⟨x1, hx1⟩ : ∃ x, (js.getD k (0, 0)).1 = x := ⟨_, rfl⟩
      obtain ⟨x2, hx2⟩ : ∃ x, (js.getD k (0, 0)).2 = x := ⟨_, rfl⟩
      rw [hx1] at hc1
      rw [hx2] at hc2 HJ2

      have HX := Aside0.mk (take_snoc2 js hlt hx1 hx2)
      have HQ1 := Aside0.mk hc1
      have HQ2 := Aside0.mk hc2
      clear hx1 hx2
      replace hc1 := pw_cell_below HM.out.below hc1
      replace hc2 := pw_cell_below HM.out.below hc2
      have hw1 := wrap_succ (n := js.length) (by have := HN.out; omega) hlt
      go_wp2
      refine start_ (n := 12) (S := (fun w' => w'.cell? (ad.add (k * 2)) = some (.int .i64 x1) ∧ w'.cell? ⟨(ad.add (k * 2)).block, (ad.add (k * 2)).off + 1, none⟩ = some (.int .i64 x2) ∧ Aside0 (MadeAt w w1.heap.size w2.heap.size g gr n (js.take k) (js.take k) vs nbs v on w'))) (ds := [11]) #[false, false, false, false, false, false, false, false, false, false, false, false] (by kernel_rfl) rfl rfl (⟨hc1, hc2, ⟨HM.out.drew⟩⟩) (fun hHeld => ?_)
      refine pure_ (i := 0) (N := some 31) (v := ?_) (a' := ?_) #[true, false, false, false, false, false, false, false, false, false, false, false] rfl rfl (by kernel_rfl) (fun _ _ _ h => h) (Or.inl ⟨by rfl, ?_⟩) ?_ ?_
      rotate_left
      · intro w'
        go_simp
        with_reducible rfl
      rotate_left
      · simp only [Act.put, List.setIfInBounds_toArray, List.set_cons_zero, List.set_cons_succ, i64_w, i32_w]
        rfl
      refine pure_ (i := 1) (N := some 32) (v := ?_) (a' := ?_) #[true, true, false, false, false, false, false, false, false, false, false, false] rfl rfl (by kernel_rfl) (fun _ _ _ h => h) (Or.inl ⟨by rfl, ?_⟩) ?_ ?_
      rotate_left
      · intro w'
        go_simp
        with_reducible rfl
      rotate_left
      · simp only [Act.put, List.setIfInBounds_toArray, List.set_cons_zero, List.set_cons_succ, i64_w, i32_w]
        rfl
      refine pure_ (i := 2) (N := some 33) (v := ?_) (a' := ?_) #[true, true, true, false, false, false, false, false, false, false, false, false] rfl rfl (by kernel_rfl) (fun _ _ _ h => h) (Or.inl ⟨by rfl, ?_⟩) ?_ ?_
      rotate_left
      · intro w'
        go_simp
        with_reducible rfl
      rotate_left
      · simp only [Act.put, List.setIfInBounds_toArray, List.set_cons_zero, List.set_cons_succ, i64_w, i32_w]
        rfl
      refine pure_ (i := 3) (N := some 34) (v := ?_) (a' := ?_) #[true, true, true, true, false, false, false, false, false, false, false, false] rfl rfl (by kernel_rfl) (fun _ _ _ h => h) (Or.inl ⟨by rfl, ?_⟩) ?_ ?_
      rotate_left
      · intro w'
        go_simp
        with_reducible rfl
      rotate_left
      · simp only [Act.put, List.setIfInBounds_toArray, List.set_cons_zero, List.set_cons_succ, i64_w, i32_w]
        rfl
      refine pure_ (i := 4) (N := some 35) (v := ?_) (a' := ?_) #[true, true, true, true, true, false, false, false, false, false, false, false] rfl rfl (by kernel_rfl) (fun _ _ _ h => h) (Or.inl ⟨by rfl, ?_⟩) ?_ ?_
      rotate_left
      · intro w'
        go_simp
        with_reducible rfl
      rotate_left
      · simp only [Act.put, List.setIfInBounds_toArray, List.set_cons_zero, List.set_cons_succ, i64_w, i32_w]
        rfl
      refine take_ (i := 5) (N := some 36) (v := ?_) (a' := ?_) #[true, true, true, true, true, true, false, false, false, false, false, false] rfl rfl (by kernel_rfl) (fun _ _ _ h => h) (Or.inl ⟨by rfl, ?_⟩) hHeld ?_ ?_
      rotate_left
      · rintro w' ⟨s0, s1, s2⟩
        go_simp
        with_reducible rfl
      rotate_left
      · simp only [Act.put, List.setIfInBounds_toArray, List.set_cons_zero, List.set_cons_succ, i64_w, i32_w]
        rfl
      refine pure_ (i := 6) (N := some 37) (v := ?_) (a' := ?_) #[true, true, true, true, true, true, true, false, false, false, false, false] rfl rfl (by kernel_rfl) (fun _ _ _ h => h) (Or.inl ⟨by rfl, ?_⟩) ?_ ?_
      rotate_left
      · intro w'
        go_simp
        with_reducible rfl
      rotate_left
      · simp only [Act.put, List.setIfInBounds_toArray, List.set_cons_zero, List.set_cons_succ, i64_w, i32_w]
        rfl
      refine pure_ (i := 7) (N := some 38) (v := ?_) (a' := ?_) #[true, true, true, true, true, true, true, true, false, false, false, false] rfl rfl (by kernel_rfl) (fun _ _ _ h => h) (Or.inl ⟨by rfl, ?_⟩) ?_ ?_
      rotate_left
      · intro w'
        go_simp
        with_reducible rfl
      rotate_left
      · simp only [Act.put, List.setIfInBounds_toArray, List.set_cons_zero, List.set_cons_succ, i64_w, i32_w]
        rfl
      refine pure_ (i := 8) (N := some 39) (v := ?_) (a' := ?_) #[true, true, true, true, true, true, true, true, true, false, false, false] rfl rfl (by kernel_rfl) (fun _ _ _ h => h) (Or.inl ⟨by rfl, ?_⟩) ?_ ?_
      rotate_left
      · intro w'
        go_simp
        with_reducible rfl
      rotate_left
      · simp only [Act.put, List.setIfInBounds_toArray, List.set_cons_zero, List.set_cons_succ, i64_w, i32_w]
        rfl
      refine pure_ (i := 9) (N := some 40) (v := ?_) (a' := ?_) #[true, true, true, true, true, true, true, true, true, true, false, false] rfl rfl (by kernel_rfl) (fun _ _ _ h => h) (Or.inl ⟨by rfl, ?_⟩) ?_ ?_
      rotate_left
      · intro w'
        go_simp
        with_reducible rfl
      rotate_left
      · simp only [Act.put, List.setIfInBounds_toArray, List.set_cons_zero, List.set_cons_succ, i64_w, i32_w]
        rfl
      refine take_ (i := 10) (N := some 41) (v := ?_) (a' := ?_) #[true, true, true, true, true, true, true, true, true, true, true, false] rfl rfl (by kernel_rfl) (fun _ _ _ h => h) (Or.inl ⟨by rfl, ?_⟩) hHeld ?_ ?_
      rotate_left
      · rintro w' ⟨s0, s1, s2⟩
        go_simp
        with_reducible rfl
      rotate_left
      · simp only [Act.put, List.setIfInBounds_toArray, List.set_cons_zero, List.set_cons_succ, i64_w, i32_w]
        rfl
      refine last_ (i := 11) (N := some 42) #[true, true, true, true, true, true, true, true, true, true, true, true] rfl rfl (by kernel_rfl) (by decide) (fun K hK => ?_)
      have HH := Aside0.mk hHeld
      refine goes_ Try.func64 (by kernel_rfl) rfl #[.pointer (some ⟨g, 0, none⟩), .int .i64 x1, .int .i64 x2] (by rfl) rfl rfl (by simp only [List.map_toArray, List.map_cons, List.map_nil]; rfl) ?_
      refine (gjoin_calls (w.heap.size + 1) g gr vs nbs n (js.take k) x1 x2 _ HH.out.2.2.out.graph HH.out.2.2.out.is HH.out.2.2.out.size (by have := HN.out; omega) HJ2.out).mono ?_
      rintro e w3 ⟨ok, vs', nbs', rfl, hG', hI', hb', hg'⟩
      refine ⟨_, rfl, ?_⟩
      refine hK.out _ _ ?_
      clear hK K
      refine done_ (by kernel_rfl) ?_
      have HM3 := Aside0.mk (HH.out.2.2.out.joined hG' hI' hb' hg')
      obtain ⟨A3, c3, rfl⟩ := own_slice HM3.out.own
      have d0 : w3.cell? ⟨w2.heap.size, 0, none⟩ = some (.int .i64 n) := (blk_cell HM3.out.box 0).trans rfl
      have d1 : w3.cell? ⟨w2.heap.size, 1, none⟩ = some (.slice A3 on.length c3) := (blk_cell HM3.out.box 1).trans rfl
      have HB1S : Aside0 (w1.heap.size ≤ w3.drew.heap.size) := ⟨by have := lt_of_block HM3.out.box; have := HM3.out.blt; show _ ≤ w3.heap.size; omega⟩
      clear hc1 hc2 hHeld
      have hc1 := pw_cell_below HM3.out.below HQ1.out
      have hc2 := pw_cell_below HM3.out.below HQ2.out
      go_wp2_with fail
      refine start_ (n := 16) (S := (fun w' => w'.cell? (ad.add (k * 2)) = some (.int .i64 x1) ∧ w'.cell? ⟨(ad.add (k * 2)).block, (ad.add (k * 2)).off + 1, none⟩ = some (.int .i64 x2) ∧ w'.cell? ⟨w2.heap.size, 0, none⟩ = some (.int .i64 n) ∧ w'.cell? ⟨w2.heap.size, 1, none⟩ = some (.slice A3 on.length c3) ∧ Aside0 (MadeAt w w1.heap.size w2.heap.size g gr n (js.take k ++ [(x1, x2)]) (js.take k) vs' nbs' (.slice A3 on.length c3) on w'))) (ds := [11, 15]) #[false, false, false, false, false, false, false, false, false, false, false, false, false, false, false, false] (by kernel_rfl) rfl rfl (⟨hc1, hc2, d0, d1, ⟨HM3.out.drew⟩⟩) (fun hHeld => ?_)
      refine take_ (i := 0) (N := some 44) (v := ?_) (a' := ?_) #[true, false, false, false, false, false, false, false, false, false, false, false, false, false, false, false] rfl rfl (by kernel_rfl) (fun _ _ _ h => h) (Or.inl ⟨by rfl, ?_⟩) hHeld ?_ ?_
      rotate_left
      · rintro w' ⟨s0, s1, s2, s3, s4⟩
        go_simp
        with_reducible rfl
      rotate_left
      · simp only [Act.put, List.setIfInBounds_toArray, List.set_cons_zero, List.set_cons_succ, i64_w, i32_w]
        rfl
      refine pure_ (i := 1) (N := some 45) (v := ?_) (a' := ?_) #[true, true, false, false, false, false, false, false, false, false, false, false, false, false, false, false] rfl rfl (by kernel_rfl) (fun _ _ _ h => h) (Or.inl ⟨by rfl, ?_⟩) ?_ ?_
      rotate_left
      · intro w'
        go_simp
        with_reducible rfl
      rotate_left
      · simp only [Act.put, List.setIfInBounds_toArray, List.set_cons_zero, List.set_cons_succ, i64_w, i32_w]
        rfl
      refine pure_ (i := 2) (N := some 46) (v := ?_) (a' := ?_) #[true, true, true, false, false, false, false, false, false, false, false, false, false, false, false, false] rfl rfl (by kernel_rfl) (fun _ _ _ h => h) (Or.inl ⟨by rfl, ?_⟩) ?_ ?_
      rotate_left
      · intro w'
        go_simp
        with_reducible rfl
      rotate_left
      · simp only [Act.put, List.setIfInBounds_toArray, List.set_cons_zero, List.set_cons_succ, i64_w, i32_w]
        rfl
      refine pure_ (i := 3) (N := some 47) (v := ?_) (a' := ?_) #[true, true, true, true, false, false, false, false, false, false, false, false, false, false, false, false] rfl rfl (by kernel_rfl) (fun _ _ _ h => h) (Or.inl ⟨by rfl, ?_⟩) ?_ ?_
      rotate_left
      · intro w'
        go_simp
        with_reducible rfl
      rotate_left
      · simp only [Act.put, List.setIfInBounds_toArray, List.set_cons_zero, List.set_cons_succ, i64_w, i32_w]
        rfl
      refine pure_ (i := 4) (N := some 48) (v := ?_) (a' := ?_) #[true, true, true, true, true, false, false, false, false, false, false, false, false, false, false, false] rfl rfl (by kernel_rfl) (fun _ _ _ h => h) (Or.inl ⟨by rfl, ?_⟩) ?_ ?_
      rotate_left
      · intro w'
        go_simp
        with_reducible rfl
      rotate_left
      · simp only [Act.put, List.setIfInBounds_toArray, List.set_cons_zero, List.set_cons_succ, i64_w, i32_w]
        rfl
      refine take_ (i := 5) (N := some 49) (v := ?_) (a' := ?_) #[true, true, true, true, true, true, false, false, false, false, false, false, false, false, false, false] rfl rfl (by kernel_rfl) (fun _ _ _ h => h) (Or.inl ⟨by rfl, ?_⟩) hHeld ?_ ?_
      rotate_left
      · rintro w' ⟨s0, s1, s2, s3, s4⟩
        go_simp
        with_reducible rfl
      rotate_left
      · simp only [Act.put, List.setIfInBounds_toArray, List.set_cons_zero, List.set_cons_succ, i64_w, i32_w]
        rfl
      refine pure_ (i := 6) (N := some 50) (v := ?_) (a' := ?_) #[true, true, true, true, true, true, true, false, false, false, false, false, false, false, false, false] rfl rfl (by kernel_rfl) (fun _ _ _ h => h) (Or.inl ⟨by rfl, ?_⟩) ?_ ?_
      rotate_left
      · intro w'
        go_simp
        with_reducible rfl
      rotate_left
      · simp only [Act.put, List.setIfInBounds_toArray, List.set_cons_zero, List.set_cons_succ, i64_w, i32_w]
        rfl
      refine pure_ (i := 7) (N := some 51) (v := ?_) (a' := ?_) #[true, true, true, true, true, true, true, true, false, false, false, false, false, false, false, false] rfl rfl (by kernel_rfl) (fun _ _ _ h => h) (Or.inl ⟨by rfl, ?_⟩) ?_ ?_
      rotate_left
      · intro w'
        go_simp
        with_reducible rfl
      rotate_left
      · simp only [Act.put, List.setIfInBounds_toArray, List.set_cons_zero, List.set_cons_succ, i64_w, i32_w]
        rfl
      refine pure_ (i := 8) (N := some 52) (v := ?_) (a' := ?_) #[true, true, true, true, true, true, true, true, true, false, false, false, false, false, false, false] rfl rfl (by kernel_rfl) (fun _ _ _ h => h) (Or.inl ⟨by rfl, ?_⟩) ?_ ?_
      rotate_left
      · intro w'
        go_simp
        with_reducible rfl
      rotate_left
      · simp only [Act.put, List.setIfInBounds_toArray, List.set_cons_zero, List.set_cons_succ, i64_w, i32_w]
        rfl
      refine pure_ (i := 9) (N := some 53) (v := ?_) (a' := ?_) #[true, true, true, true, true, true, true, true, true, true, false, false, false, false, false, false] rfl rfl (by kernel_rfl) (fun _ _ _ h => h) (Or.inl ⟨by rfl, ?_⟩) ?_ ?_
      rotate_left
      · intro w'
        go_simp
        with_reducible rfl
      rotate_left
      · simp only [Act.put, List.setIfInBounds_toArray, List.set_cons_zero, List.set_cons_succ, i64_w, i32_w]
        rfl
      refine take_ (i := 10) (N := some 54) (v := ?_) (a' := ?_) #[true, true, true, true, true, true, true, true, true, true, true, false, false, false, false, false] rfl rfl (by kernel_rfl) (fun _ _ _ h => h) (Or.inl ⟨by rfl, ?_⟩) hHeld ?_ ?_
      rotate_left
      · rintro w' ⟨s0, s1, s2, s3, s4⟩
        go_simp
        with_reducible rfl
      rotate_left
      · simp only [Act.put, List.setIfInBounds_toArray, List.set_cons_zero, List.set_cons_succ, i64_w, i32_w]
        rfl
      refine last_ (i := 11) (N := some 55) #[true, true, true, true, true, true, true, true, true, true, true, true, false, false, false, false] rfl rfl (by kernel_rfl) (by decide) (fun K hK => ?_)
      have HH := Aside0.mk hHeld
      refine goes_ Try.func65 (by kernel_rfl) rfl #[.agg #[.int .i64 n, .slice A3 on.length c3], .int .i64 x1, .int .i64 x2] (by rfl) rfl rfl (by simp only [List.map_toArray, List.map_cons, List.map_nil]; rfl) ?_
      refine (rjoin_calls w1.heap.size n (js.take k) A3 c3 on x1 x2 _ HH.out.2.2.2.2.out.own HH.out.2.2.2.2.out.ref HB1S.out (by have := HN.out; omega)).mono ?_
      rintro e w4 ⟨ok2, v', on', rfl, ho', hr', hb''⟩
      obtain ⟨A4, c4, rfl⟩ := own_slice ho'
      refine ⟨_, rfl, ?_⟩
      refine hK.out _ _ ?_
      clear hK K
      refine pure_ (i := 12) (N := some 43) (v := ?_) (a' := ?_) #[true, true, true, true, true, true, true, true, true, true, true, true, true, false, false, false] rfl rfl (by kernel_rfl) (fun _ _ _ h => h) (Or.inl ⟨by rfl, ?_⟩) ?_ ?_
      rotate_left
      · intro w'
        go_simp
        with_reducible rfl
      rotate_left
      · simp only [Act.put, List.setIfInBounds_toArray, List.set_cons_zero, List.set_cons_succ, i64_w, i32_w]
        rfl
      refine pure_ (i := 13) (N := some 56) (v := ?_) (a' := ?_) #[true, true, true, true, true, true, true, true, true, true, true, true, true, true, false, false] rfl rfl (by kernel_rfl) (fun _ _ _ h => h) (Or.inl ⟨by rfl, ?_⟩) ?_ ?_
      rotate_left
      · intro w'
        go_simp
        with_reducible rfl
      rotate_left
      · simp only [Act.put, List.setIfInBounds_toArray, List.set_cons_zero, List.set_cons_succ, i64_w, i32_w]
        rfl
      refine pure_ (i := 14) (N := some 57) (v := ?_) (a' := ?_) #[true, true, true, true, true, true, true, true, true, true, true, true, true, true, true, false] rfl rfl (by kernel_rfl) (fun _ _ _ h => h) (Or.inl ⟨by rfl, ?_⟩) ?_ ?_
      rotate_left
      · intro w'
        go_simp
        with_reducible rfl
      rotate_left
      · simp only [Act.put, List.setIfInBounds_toArray, List.set_cons_zero, List.set_cons_succ, i64_w, i32_w]
        rfl
      refine last_ (i := 15) (N := none) #[true, true, true, true, true, true, true, true, true, true, true, true, true, true, true, true] rfl rfl (by kernel_rfl) (by decide) (fun K hK => ?_)
      have hbx := (HH.out.2.2.2.2.out.step hb'').box
      have e0 := (blk_cell hbx 0).trans rfl
      have e1 := (blk_cell hbx 1).trans rfl
      have f0 := blk_frozen hbx 0
      have f1 := blk_frozen hbx 1
      go_simp
      refine hK.out _ _ ?_
      clear hK K
      refine done_ (by kernel_rfl) ?_
      have HM4 := Aside0.mk (HH.out.2.2.2.2.out.stored ho' hr' hb'')
      go_wp2
      go_roundg (gk - 1)
      case measure => exact pred_lt HK hlt
      case rel => exact ⟨k + 1, next_eq HK hlt, by first | rfl | go_num, ⟨vs', nbs', _, on', by rw [HX.out]; exact HM4.out⟩⟩
    · obtain rfl : k = js.length := by have := HK.out; omega
      rw [List.take_length] at HM
      clear HK hlt HJ
      obtain ⟨A3, c3, rfl⟩ := own_slice HM.out.own
      have d0 : wr.cell? ⟨w2.heap.size, 0, none⟩ = some (.int .i64 n) := (blk_cell HM.out.box 0).trans rfl
      have d1 : wr.cell? ⟨w2.heap.size, 1, none⟩ = some (.slice A3 on.length c3) := (blk_cell HM.out.box 1).trans rfl
      go_wp2_with fail
      refine start_ (n := 4) (S := (fun w' => w'.cell? ⟨w2.heap.size, 0, none⟩ = some (.int .i64 n) ∧ w'.cell? ⟨w2.heap.size, 1, none⟩ = some (.slice A3 on.length c3))) (ds := [3]) #[false, false, false, false] (by kernel_rfl) rfl rfl (⟨d0, d1⟩) (fun hHeld => ?_)
      refine pure_ (i := 0) (N := some 58) (v := ?_) (a' := ?_) #[true, false, false, false] rfl rfl (by kernel_rfl) (fun _ _ _ h => h) (Or.inl ⟨by rfl, ?_⟩) ?_ ?_
      rotate_left
      · intro w'
        go_simp
        with_reducible rfl
      rotate_left
      · simp only [Act.put, List.setIfInBounds_toArray, List.set_cons_zero, List.set_cons_succ, i64_w, i32_w]
        rfl
      refine take_ (i := 1) (N := some 59) (v := ?_) (a' := ?_) #[true, true, false, false] rfl rfl (by kernel_rfl) (fun _ _ _ h => h) (Or.inl ⟨by rfl, ?_⟩) hHeld ?_ ?_
      rotate_left
      · rintro w' ⟨s0, s1⟩
        go_simp
        with_reducible rfl
      rotate_left
      · simp only [Act.put, List.setIfInBounds_toArray, List.set_cons_zero, List.set_cons_succ, i64_w, i32_w]
        rfl
      refine pure_ (i := 2) (N := some 4) (v := ?_) (a' := ?_) #[true, true, true, false] rfl rfl (by kernel_rfl) (fun _ _ _ h => h) (Or.inl ⟨by rfl, ?_⟩) ?_ ?_
      rotate_left
      · intro w'
        go_simp
        with_reducible rfl
      rotate_left
      · simp only [Act.put, List.setIfInBounds_toArray, List.set_cons_zero, List.set_cons_succ, i64_w, i32_w]
        rfl
      refine last_ (i := 3) (N := none) #[true, true, true, true] rfl rfl (by kernel_rfl) (by decide) (fun K hK => ?_)
      have hrs := HM.out.res
      have e0 := (blk_cell hrs 0).trans rfl
      have e1 := (blk_cell hrs 1).trans rfl
      have f0 := blk_frozen hrs 0
      have f1 := blk_frozen hrs 1
      go_simp
      refine hK.out _ _ ?_
      clear hK K
      refine done_ (by kernel_rfl) ?_
      skip
      have HH := Aside0.mk HM.out.drew
      have hres := HH.out.res
      have far : ∀ q, q ≠ w.heap.size → ((wr.drew.setCell ⟨w.heap.size, 0, none⟩ (.int .i64 n)).setCell ⟨w.heap.size, 1, none⟩ (.slice A3 on.length c3)).heap[q]? = wr.drew.heap[q]? := fun q hq =>
        (Below.heap_setCell _ ⟨w.heap.size, 1, none⟩ _ q hq).trans (Below.heap_setCell _ ⟨w.heap.size, 0, none⟩ _ q hq)
      have FAR := Aside0.mk far
      have HRS : Aside0 (((wr.drew.setCell ⟨w.heap.size, 0, none⟩ (.int .i64 n)).setCell ⟨w.heap.size, 1, none⟩ (.slice A3 on.length c3)).heap[w.heap.size]? = some (.cells #[.int .i64 n, .slice A3 on.length c3] 44 (0, 0))) := ⟨by rw [heap_set (heap_set hres 0 _) 1 _]; rfl⟩
      clear far hres
      go_wp2
      (try simp only [Exit.inBlock, Exit.then])
      refine bodyPost_ret (results_tmp_row (ty := 44) rfl _ _ w.heap.size 44 #[Value.int .i64 n, .slice A3 on.length c3] (0, 0) _ rfl HRS.out Try.underlying44 rfl info44) rfl ?_
      have hG := HH.out.graph.move (fun q h1 _ => FAR.out q (by omega))
      refine ⟨_, _, nbs, on, rfl, .inr (.inr ⟨g, gr, vs, rfl, Nat.le_trans (Nat.le_succ _) hG.g_base, Nat.le_trans (Nat.le_succ _) hG.gr_base, hG.len, hG.head, hG.row, fun i hi => own_low (hG.own i hi) (Nat.le_succ _)⟩), HH.out.is, HH.out.ref, ?_, ?_⟩
      · have h1 := HH.out.grlt
        have h2 := HH.out.graph.gr_base
        refine own_low (own_move HH.out.own (fun q hq => FAR.out q ?_)) (by omega)
        have := own_base HH.out.own q hq
        omega
      · exact below_store (below_store HH.out.below (Nat.le_refl _) 0 _) (Nat.le_refl _) 1 _
end Go.Proofs.Ytbmnnmcnmfgbaaa.PG
end
section
/-
  The example of layer 26, plain.
-/
namespace Go.Proofs.Ytbmnnmcnmfgbaaa.PG
open Go.RowKit Go.Shelf Go.Proofs.YtbmnnmcnmfgbaaaW.PrintWords Go.Proofs.YtbmnnmcnmfgbaaaW.PrintLast Go.Proofs.YtbmnnmcnmfgbaaaW.PrintMore
open Go.Proofs.Ytbmnnmcnmfgbaaa.PB Go.Proofs.Ytbmnnmcnmfgbaaa.PC Go.Proofs.Ytbmnnmcnmfgbaaa.PK
set_option linter.unusedVariables false
set_option linter.unusedSimpArgs false
open Elems (sh)
def hjs : List (Int × Int) := [(0, 1), (1, 2), (0, 2), (2, 3)]
def hnbs : List (List Int) := [[6], [5], [11], [4]]
theorem tb_one (x : Int) (i : Nat) : tb [x] i = if i < 64 then x.toNat.testBit i else false := by
  unfold tb
  by_cases h : i < 64
  · rw [if_pos h, Nat.div_eq_of_lt h, Nat.mod_eq_of_lt h]; rfl
  · rw [if_neg h, rd_out _ _ (by simp; omega)]; simp
theorem hrow (x : Int) (hx : 0 ≤ x ∧ x < 16) (hnz : sh [x] = [x]) (a : Nat) (ha : a < 4) (h : ∀ i, i < 4 → x.toNat.testBit i = adjOf 4 hjs a i) : Nrm [x] (fun i => adjOf 4 hjs a i) := by
  refine ⟨fun y hy => by simp at hy; subst hy; omega, hnz, fun i => ?_⟩
  rw [tb_one]
  by_cases hi : i < 4
  · rw [if_pos (by omega)]; exact h i hi
  · have e : adjOf 4 hjs a i = false := by
      cases e : adjOf 4 hjs a i
      · rfl
      · exact absurd (adjOf_lt e).2.1 hi
    rw [e]
    split
    · refine Nat.testBit_lt_two_pow (Nat.lt_of_lt_of_le (m := 2 ^ 4) (by omega) (Nat.pow_le_pow_right (by decide) (by omega)))
    · rfl
theorem hnbs_is : GrIs hnbs 4 (adjOf 4 hjs) := by
  refine ⟨rfl, fun a ha => ?_, fun a ha => ?_⟩
  · match a, ha with
    | 0, _ => exact hrow 6 (by decide) (by decide) 0 (by decide) (by decide)
    | 1, _ => exact hrow 5 (by decide) (by decide) 1 (by decide) (by decide)
    | 2, _ => exact hrow 11 (by decide) (by decide) 2 (by decide) (by decide)
    | 3, _ => exact hrow 4 (by decide) (by decide) 3 (by decide) (by decide)
  · match a, ha with
    | 0, _ => decide
    | 1, _ => decide
    | 2, _ => decide
    | 3, _ => decide
theorem GrIs.unique {nbs nbs' : List (List Int)} {n : Nat} {adj : Nat → Nat → Bool} (h : GrIs nbs n adj) (h' : GrIs nbs' n adj) : nbs = nbs' := by
  refine List.ext_getElem (by rw [h.len, h'.len]) (fun i h1 h2 => ?_)
  have e := (h.row i (by rw [← h.len]; exact h1)).unique (h'.row i (by rw [← h.len]; exact h1)) (fun _ => rfl)
  rw [List.getD_eq_getElem?_getD, List.getD_eq_getElem?_getD, List.getElem?_eq_getElem h1, List.getElem?_eq_getElem h2] at e
  exact e
theorem hGok : Gok hnbs := hnbs_is.gok (by decide) (fun a b h => ⟨(adjOf_lt h).1, (adjOf_lt h).2.1⟩)
theorem hGsym : Gsym hnbs := hnbs_is.gsym (adjOf_symm 4 hjs)
theorem h_is1 : clique_Is.f 20 hnbs [3, 2] = some true := by decide +kernel
theorem h_is2 : clique_Is.f 20 hnbs [3, 0] = some false := by decide +kernel
theorem h_col : clique_Colours.f [4, -1, 4] = some 1 := by decide +kernel
theorem h_great : clique_Greatest.f hnbs = some [0, 1, 2] := by decide +kernel
theorem h_shell : graph_Graph_Shell.f hnbs = some [3, 0, 1, 2] := by
  unfold graph_Graph_Shell.f
  rw [if_pos ⟨hGok, hGsym⟩]
  decide +kernel
theorem h_bounds : clique_Bounds.f 20 hnbs = some (3, 3) := by
  unfold clique_Bounds.f
  rw [h_shell]
  have e1 : slices_Reverse_int_int.f 20 [3, 0, 1, 2] = some [2, 1, 0, 3] := by decide +kernel
  have e2 : clique_Grow.f hnbs [2, 1, 0, 3] = some [2, 1, 0] := by decide +kernel
  have e3 : clique_Colour.f hnbs [2, 1, 0, 3] = some [2, 1, 0, 1] := by
    unfold clique_Colour.f
    rw [if_pos ⟨hGok, by decide⟩]
    decide +kernel
  have e4 : clique_Colours.f [2, 1, 0, 1] = some 3 := by decide +kernel
  simp only [Option.bind_some, e1, e2, e3, e4]
  rfl
end Go.Proofs.Ytbmnnmcnmfgbaaa.PG
end
section
/-
  The example of layer 26: heads.
-/
namespace Go.Proofs.Ytbmnnmcnmfgbaaa.PG
open Go.RowKit Go.Shelf Go.Proofs.YtbmnnmcnmfgbaaaW.PrintWords Go.Proofs.YtbmnnmcnmfgbaaaW.PrintLast Go.Proofs.YtbmnnmcnmfgbaaaW.PrintMore
open Go.Proofs.Ytbmnnmcnmfgbaaa.PB Go.Proofs.Ytbmnnmcnmfgbaaa.PC Go.Proofs.Ytbmnnmcnmfgbaaa.PK
set_option linter.unusedVariables false
set_option linter.unusedSimpArgs false
theorem own_lit (w : World) (xs : List Int) (h : xs.length ≤ 1000) : (w.alloc (.cells (nums .i64 xs).toArray 3)).ownsRow w.heap.size 3 1 (.slice (some ⟨w.heap.size, 0, none⟩) xs.length xs.length) xs.length (nums .i64 xs) :=
  ⟨by simp [nums], .inr ⟨w.heap.size, xs.length, _, rfl, Nat.le_refl _, World.alloc_heap_new _ _, Nat.le_refl _, by unfold maxLen; omega, by simp [nums], by rw [Nat.mul_one]; exact List.take_of_length_le (by simp [nums])⟩⟩
theorem C_own {w : World} {base : Nat} {A : Option Addr} {c : Nat} {xs : List Int} (h : w.ownsRow base 3 1 (.slice A xs.length c) xs.length (nums .i64 xs)) : Kd.C (Kd.int .i64) w A xs.length xs ∧ xs.length ≤ c := by
  have h1 : Kd.R (Kd.int .i64) 3 w base (fun _ => True) (.slice A xs.length c) xs := Kd.R_of_own h (fun _ _ => trivial)
  obtain ⟨_, h2, h3⟩ := Kd.R_reads' h1
  exact ⟨h3, h2⟩
theorem C_lit (w : World) (xs : List Int) (h : xs.length ≤ 1000) : Kd.C (Kd.int .i64) (w.alloc (.cells (nums .i64 xs).toArray 3)) (some ⟨w.heap.size, 0, none⟩) xs.length xs := (C_own (own_lit w xs h)).1
theorem hjoins (w : World) : JoinsIn (w.alloc (Obj.cells #[Value.int IntKind.i64 0, Value.int IntKind.i64 1, Value.int IntKind.i64 1, Value.int IntKind.i64 2, Value.int IntKind.i64 0, Value.int IntKind.i64 2, Value.int IntKind.i64 2, Value.int IntKind.i64 3] 78)) (some ⟨w.heap.size, 0, none⟩) hjs := fun i hi => by
  have hh := World.alloc_heap_new w (Obj.cells #[Value.int IntKind.i64 0, Value.int IntKind.i64 1, Value.int IntKind.i64 1, Value.int IntKind.i64 2, Value.int IntKind.i64 0, Value.int IntKind.i64 2, Value.int IntKind.i64 2, Value.int IntKind.i64 3] 78)
  refine ⟨_, rfl, ?_⟩
  match i, hi with
  | 0, _ => exact ⟨(blk_cell hh 0).trans rfl, (blk_cell hh 1).trans rfl, by decide⟩
  | 1, _ => exact ⟨(blk_cell hh 2).trans rfl, (blk_cell hh 3).trans rfl, by decide⟩
  | 2, _ => exact ⟨(blk_cell hh 4).trans rfl, (blk_cell hh 5).trans rfl, by decide⟩
  | 3, _ => exact ⟨(blk_cell hh 6).trans rfl, (blk_cell hh 7).trans rfl, by decide⟩
theorem h_ints : horariumref03_Ints.f 5 [0, 1, 2] [0, 1, 2] = some true := by decide +kernel
set_option maxRecDepth 100000 in
set_option maxHeartbeats 1000000 in
theorem heads_calls (w : World) : Calls Try.prog 34 #[] w fun e w' => e = .returned (.bool true) ∧ Below w.heap.size w w' := by
  have hu44 := Try.underlying44
  have HJ := Aside0.mk (hjoins w)
  have HW0 := Aside0.mk (below_alloc (w := w) (Below.refl w.heap.size w) (Obj.cells #[Value.int IntKind.i64 0, Value.int IntKind.i64 1, Value.int IntKind.i64 1, Value.int IntKind.i64 2, Value.int IntKind.i64 0, Value.int IntKind.i64 2, Value.int IntKind.i64 2, Value.int IntKind.i64 3] 78))
  go_enter Try.func34, Try.ntmps34
  go_wp2_with fail
  refine (made_yes 4 (some ⟨w.heap.size, 0, none⟩) 4 hjs _ (by decide) (by decide) HJ.out).mono ?_
  rintro e w1 ⟨p, v, nbs, on, rfl, hG, hI, hRf, ho, hb⟩
  obtain ⟨A1, c1, rfl⟩ := own_slice ho
  have HI : Aside0 (nbs = hnbs) := ⟨hI.unique hnbs_is⟩
  have HW1 := Aside0.mk (below_then HW0.out HW0.out.size hb)
  have HG : Aside0 (IsGr w1 (some ⟨p, 0, none⟩) hnbs) := ⟨⟨_, by rw [← HI.out]; exact hG, hnbs_is.okw⟩⟩
  clear hG hI hRf ho hb HW0 HJ
  go_wp2_with fail
  refine (clique_Bounds.calls 20 _ hnbs.length hnbs 3 3 _ (HG.out.alloc _) (Nat.le_refl _) h_bounds).mono ?_
  rintro e w2 ⟨rfl, hb⟩
  have HW2 := Aside0.mk (below_then (below_alloc HW1.out _) (below_alloc HW1.out _).size hb)
  have HG2 := Aside0.mk ((HG.out.alloc _).below hb)
  clear hb
  go_wp2_with fail
  refine (clique_Greatest.calls _ hnbs.length hnbs _ _ HG2.out (Nat.le_refl _) h_great).mono ?_
  rintro e w3 ⟨v3, rfl, hR, hb⟩
  obtain ⟨A3, c3, rfl⟩ := own_slice (Kd.own_of_R hR)
  have HR := Aside0.mk (Kd.R_reads' hR)
  have HW3 := Aside0.mk (below_then HW2.out HW2.out.size hb)
  have HG3 := Aside0.mk (HG2.out.below hb)
  clear hb hR
  go_wp2_with fail
  refine (horariumref03_Ints.calls 5 A3 c3 [0, 1, 2] _ _ [0, 1, 2] true _ (Kd.C_below HR.out.2.2 (below_alloc (Below.refl _ _) _)) HR.out.2.1 (C_lit w3 [0, 1, 2] (by decide)) (Nat.le_refl _) h_ints).mono ?_
  rintro e w4 ⟨rfl, hd⟩
  have HW4 := Aside0.mk (below_then (below_alloc HW3.out _) (below_alloc HW3.out _).size hd.below)
  have HG4 := Aside0.mk ((HG3.out.alloc _).below hd.below)
  clear hd
  go_wp2_with fail
  refine (clique_Is.calls 20 _ hnbs.length hnbs _ _ [3, 2] true _ (HG4.out.alloc _) (Nat.le_refl _) (C_lit w4 [3, 2] (by decide)) (Nat.le_refl _) h_is1).mono ?_
  rintro e w5 ⟨rfl, hd⟩
  have HW5 := Aside0.mk (below_then (below_alloc HW4.out _) (below_alloc HW4.out _).size hd.below)
  have HG5 := Aside0.mk ((HG4.out.alloc _).below hd.below)
  clear hd
  go_wp2_with fail
  refine (clique_Is.calls 20 _ hnbs.length hnbs _ _ [3, 0] false _ (HG5.out.alloc _) (Nat.le_refl _) (C_lit w5 [3, 0] (by decide)) (Nat.le_refl _) h_is2).mono ?_
  rintro e w6 ⟨rfl, hd⟩
  have HW6 := Aside0.mk (below_then (below_alloc HW5.out _) (below_alloc HW5.out _).size hd.below)
  clear hd
  go_wp2_with fail
  refine (clique_Colours.calls _ _ [4, -1, 4] 1 _ (C_lit w6 [4, -1, 4] (by decide)) (Nat.le_refl _) h_col).mono ?_
  rintro e w7 ⟨rfl, hb⟩
  have HW7 := Aside0.mk (below_then (below_alloc HW6.out _) (below_alloc HW6.out _).size hb)
  clear hb
  go_wp2
  go_ret
  exact ⟨rfl, HW7.out⟩
end Go.Proofs.Ytbmnnmcnmfgbaaa.PG
end
section
/-
  What growing and colouring along an order give: a maximal clique, right colours; no fewer colours than a clique has nodes.
-/
namespace Go.Proofs.Ytbmnnmcnmfgbaaa.PG
open Go.RowKit Go.Shelf Go.Proofs.YtbmnnmcnmfgbaaaW.PrintWords Go.Proofs.YtbmnnmcnmfgbaaaW.PrintLast Go.Proofs.YtbmnnmcnmfgbaaaW.PrintMore
open Go.Proofs.Ytbmnnmcnmfgbaaa.PB Go.Proofs.Ytbmnnmcnmfgbaaa.PC Go.Proofs.Ytbmnnmcnmfgbaaa.PK
set_option linter.unusedVariables false
set_option linter.unusedSimpArgs false
/-- The rows are a plain graph's. -/
structure Grf (nbs : List (List Int)) (n : Nat) (adj : Nat → Nat → Bool) : Prop where
  is : GrIs nbs n adj
  le : n ≤ 400
  sym : ∀ a b, adj a b = adj b a
  lt : ∀ a b, adj a b = true → a < n ∧ b < n ∧ a ≠ b
theorem Grf.of {nbs : List (List Int)} {n : Nat} {js : List (Int × Int)} (h : GrIs nbs n (adjOf n js)) (hn : n ≤ 40) : Grf nbs n (adjOf n js) := ⟨h, by omega, adjOf_symm n js, fun _ _ h => adjOf_lt h⟩
section
variable {nbs : List (List Int)} {n : Nat} {adj : Nat → Nat → Bool}
theorem Grf.gok (h : Grf nbs n adj) : Gok nbs := h.is.gok h.le (fun a b e => ⟨(h.lt a b e).1, (h.lt a b e).2.1⟩)
theorem Grf.gsym (h : Grf nbs n adj) : Gsym nbs := h.is.gsym h.sym
theorem Grf.has_nat (h : Grf nbs n adj) (a b : Nat) : hasB nbs (a : Int) (b : Int) = adj a b := h.is.has (fun a b e => ⟨(h.lt a b e).1, (h.lt a b e).2.1⟩) a b
theorem Grf.has (h : Grf nbs n adj) {x y : Int} (e : hasB nbs x y = true) : ∃ a b : Nat, x = a ∧ y = b ∧ adj a b = true := by
  have e' := e
  unfold hasB at e
  rw [Bool.and_eq_true, Bool.and_eq_true, decide_eq_true_eq] at e
  obtain ⟨a, rfl, ha⟩ := isB_cases e.1
  obtain ⟨b, rfl⟩ := Int.eq_ofNat_of_zero_le e.2.1
  exact ⟨a, b, rfl, rfl, by rw [← h.has_nat]; exact e'⟩
end
/-! ### cliques -/
theorem isL_iff {nbs : List (List Int)} {l : List Int} : isL nbs l = true ↔ ∀ i, i < l.length → isB nbs (rd l (i : Int)) = true ∧ ∀ j, j < i → hasB nbs (rd l (i : Int)) (rd l (j : Int)) = true := by
  unfold isL
  simp [List.all_eq_true, List.mem_range'_1]
/-! ### colours -/
theorem colourStep_len (nbs : List (List Int)) (c : List Int) (x : Int) : (colourStep nbs c x).length = c.length := by
  unfold colourStep; split <;> simp
theorem colour_len (nbs : List (List Int)) : ∀ (o c : List Int), (o.foldl (colourStep nbs) c).length = c.length
  | [], c => rfl
  | x :: o, c => (colour_len nbs o _).trans (colourStep_len nbs c x)
/-! ### a clique needs as many colours as it has nodes -/
end Go.Proofs.Ytbmnnmcnmfgbaaa.PG
end
section
/-
  The law CliqueNobody: its walk.
-/
namespace Go.Proofs.Ytbmnnmcnmfgbaaa.PG
open Go.RowKit Go.Shelf Go.Proofs.YtbmnnmcnmfgbaaaW.PrintWords Go.Proofs.YtbmnnmcnmfgbaaaW.PrintLast Go.Proofs.YtbmnnmcnmfgbaaaW.PrintMore
open Go.Proofs.Ytbmnnmcnmfgbaaa.PB Go.Proofs.Ytbmnnmcnmfgbaaa.PC Go.Proofs.Ytbmnnmcnmfgbaaa.PK
set_option linter.unusedVariables false
set_option linter.unusedSimpArgs false
theorem nobody_gok : Gok [] := ⟨by simp, fun a b h => by simp [tb, rd] at h, fun l hl => by simp at hl⟩
theorem nobody_isB (x : Int) : isB [] x = false := by simp [isB]
theorem nobody_is (l : List Int) : isL [] l = decide (l.length = 0) := by
  cases l with
  | nil => rfl
  | cons a r =>
    cases h : isL [] (a :: r)
    · rfl
    · have := (isL_iff.1 h 0 (by simp)).1
      rw [nobody_isB] at this; cases this
theorem nobody_right (l : List Int) : rightL [] l = decide (l.length = 0) := by
  cases l with
  | nil => rfl
  | cons a r => rfl
theorem nobody_grow : ∀ o : List Int, growL [] o = [] := fun o => by
  have : ∀ o : List Int, o.foldl (growStep []) [] = [] := fun o => by
    induction o with
    | nil => rfl
    | cons a r ih =>
      rw [List.foldl_cons]
      have : growStep [] [] a = [] := by unfold growStep; rw [nobody_isB, if_neg (by simp)]
      rw [this]; exact ih
  exact this o
theorem nobody_colour (o : List Int) : colourL [] o = [] := by
  have := colour_len [] o (List.replicate ([] : List (List Int)).length (-1))
  exact List.eq_nil_of_length_eq_zero this
theorem nobody_facts (l o : List Int) (hl : l.length ≤ 17592186043904) (hb : ∀ x ∈ l, x < 9223372036854775808) (ho : o.length ≤ 17592186043904) : ∃ k1 k2, clique_Is.f k1 [] l = some ((l.length : Int) == 0) ∧ clique_Right.f k2 [] l = some ((l.length : Int) == 0) ∧ clique_Grow.f [] o = some [] ∧ clique_Colour.f [] o = some [] ∧ clique_Greatest.f [] = some [] ∧ clique_Bounds.f 5 [] = some (0, 0) := by
  obtain ⟨k1, h1⟩ := is_f [] l hb (by omega)
  obtain ⟨k2, h2⟩ := right_f [] nobody_gok l
  have e : decide (l.length = 0) = ((l.length : Int) == 0) := by rw [Bool.eq_iff_iff]; simp
  refine ⟨k1, k2, by rw [h1, nobody_is, e], by rw [h2, nobody_right, e], ?_, ?_, rfl, ?_⟩
  · unfold clique_Grow.f; rw [if_pos ⟨by simp, ho⟩, nobody_grow]
  · unfold clique_Colour.f; rw [if_pos ⟨nobody_gok, by omega⟩, nobody_colour]
  · unfold clique_Bounds.f graph_Graph_Shell.f
    rw [if_pos ⟨nobody_gok, fun a b ha hb => by simp at ha⟩]
    have e1 : slices_Reverse_int_int.f 5 [] = some [] := by decide +kernel
    have e2 : clique_Grow.f [] [] = some [] := by decide +kernel
    have e3 : clique_Colour.f [] [] = some [] := by unfold clique_Colour.f; rw [if_pos ⟨nobody_gok, by simp⟩]; rfl
    have e4 : clique_Colours.f [] = some 0 := by decide +kernel
    show (some (shellN [] 0)).bind _ = _
    simp only [shellN, Option.bind_some, e1, e2, e3, e4]
    rfl
set_option maxRecDepth 100000 in
set_option maxHeartbeats 1000000 in
theorem nobody_calls (A1 : Option Addr) (c1 : Nat) (l : List Int) (A2 : Option Addr) (c2 : Nat) (o : List Int) (w : World) (hr1 : Kd.C (Kd.int .i64) w A1 l.length l) (hc1 : l.length ≤ c1) (hr2 : Kd.C (Kd.int .i64) w A2 o.length o) (hc2 : o.length ≤ c2)
    (hl : l.length ≤ 17592186043904) (hb : ∀ x ∈ l, x < 9223372036854775808) (ho : o.length ≤ 17592186043904) :
    Calls Try.prog 9 #[.slice A1 l.length c1, .slice A2 o.length c2] w fun e w' => e = .returned (.bool true) ∧ Below w.heap.size w w' := by
  obtain ⟨k1, k2, h1, h2, h3, h4, h5, h6⟩ := nobody_facts l o hl hb ho
  have H1 := Aside0.mk h1
  have H2 := Aside0.mk h2
  have H3 := Aside0.mk h3
  have H4 := Aside0.mk h4
  have H5 := Aside0.mk h5
  have H6 := Aside0.mk h6
  have HR1 := Aside0.mk hr1
  have HR2 := Aside0.mk hr2
  have HC1 := Aside0.mk hc1
  have HC2 := Aside0.mk hc2
  clear h1 h2 h3 h4 h5 h6 hr1 hr2 hc1 hc2 hl hb ho
  obtain ⟨W0, hW0⟩ : ∃ W0, (w.alloc (Obj.cells #[Value.slice none 0 0] 55)).alloc (Obj.cells #[Value.pointer none, Value.pointer (some ⟨w.heap.size, 0, none⟩)] 41) = W0 := ⟨_, rfl⟩
  have HB0 : Aside0 (Below w.heap.size w W0) := ⟨by rw [← hW0]; exact below_alloc (below_alloc (Below.refl _ _) _) _⟩
  have e1 : (w.alloc (Obj.cells #[Value.slice none 0 0] 55)).heap.size = w.heap.size + 1 := World.size_alloc _ _
  have HA0 : Aside0 (W0.heap[w.heap.size]? = some (.cells #[Value.slice none 0 0] 55 (0, 0))) := ⟨by
    rw [← hW0, Below.heap_alloc _ _ _ (by omega)]; exact World.alloc_heap_new _ _⟩
  have HA1 : Aside0 (W0.heap[w.heap.size + 1]? = some (.cells #[Value.pointer none, Value.pointer (some ⟨w.heap.size, 0, none⟩)] 41 (0, 0))) := ⟨by
    rw [← hW0, ← e1]; exact World.alloc_heap_new _ _⟩
  have HP : Aside0 (∀ k : Nat, k < 2 → ∃ p, W0.cell? ⟨w.heap.size + 1, k, none⟩ = some (.pointer p) ∧ IsGr W0 p []) := ⟨fun k hk => by
    match k, hk with
    | 0, _ => exact ⟨none, (blk_cell HA1.out 0).trans rfl, 0, .inl ⟨rfl, rfl⟩, fun x hx => by simp at hx⟩
    | 1, _ => exact ⟨some ⟨w.heap.size, 0, none⟩, (blk_cell HA1.out 1).trans rfl, 0, .inr (.inl ⟨_, rfl, HA0.out, rfl⟩), fun x hx => by simp at hx⟩⟩
  clear e1 HA0 HA1
  go_enter Try.func9, Try.ntmps9
  go_wp2
  go_loopg [7] 2 (fun q i wr => ∃ k : Nat, Aside0 (k + q = 2) ∧ i = .int .i64 k ∧ Aside0 (Below W0.heap.size W0 wr))
  case atStart => exact ⟨0, ⟨by omega⟩, rfl, ⟨Below.refl _ _⟩⟩
  case round =>
    obtain ⟨k, HK, rfl, HB⟩ := hrel
    by_cases hlt : k < 2
    · obtain ⟨p, hcell0, hg⟩ := HP.out k hlt
      have hcell := pw_cell_below HB.out hcell0
      have HG := Aside0.mk (hg.below HB.out)
      clear hcell0 hg
      have hw1 := wrap_succ (n := 2) (by omega) hlt
      go_wp2_with fail
      refine (clique_Bounds.calls 5 p 0 [] 0 0 _ HG.out (Nat.le_refl _) H6.out).mono ?_
      rintro e w2 ⟨rfl, hb2⟩
      have HB2 := Aside0.mk (below_then HB.out HB.out.size hb2)
      have HG2 := Aside0.mk (HG.out.below hb2)
      have HRa := Aside0.mk (Kd.C_below HR1.out (below_then HB0.out HB0.out.size HB2.out))
      clear hb2
      go_wp2_with fail
      refine (clique_Is.calls k1 p 0 [] A1 c1 l _ _ HG2.out (Nat.le_refl _) HRa.out HC1.out H1.out).mono ?_
      rintro e w3 ⟨rfl, hd⟩
      have HB3 := Aside0.mk (below_then HB2.out HB2.out.size hd.below)
      have HG3 := Aside0.mk (HG2.out.below hd.below)
      have HRb := Aside0.mk (Kd.C_below HRa.out hd.below)
      clear hd
      go_wp2_with fail
      refine (clique_Right.calls k2 p 0 [] A1 c1 l _ _ HG3.out (Nat.le_refl _) HRb.out HC1.out H2.out).mono ?_
      rintro e w4 ⟨rfl, hb4⟩
      have HB4 := Aside0.mk (below_then HB3.out HB3.out.size hb4)
      have HG4 := Aside0.mk (HG3.out.below hb4)
      have HRo := Aside0.mk (Kd.C_below HR2.out (below_then HB0.out HB0.out.size HB4.out))
      clear hb4
      go_wp2_with fail
      refine (clique_Grow.calls p 0 [] A2 c2 o [] _ HG4.out (Nat.le_refl _) HRo.out HC2.out H3.out).mono ?_
      rintro e w5 ⟨v5, rfl, hR, hb5⟩
      obtain ⟨A5, c5, rfl⟩ := own_slice (Kd.own_of_R hR)
      have HB5 := Aside0.mk (below_then HB4.out HB4.out.size hb5)
      have HG5 := Aside0.mk (HG4.out.below hb5)
      have HRp := Aside0.mk (Kd.C_below HRo.out hb5)
      clear hb5 hR
      go_wp2_with fail
      refine (clique_Colour.calls p 0 [] A2 c2 o [] _ HG5.out (Nat.le_refl _) HRp.out HC2.out H4.out).mono ?_
      rintro e w6 ⟨v6, rfl, hR, hb6⟩
      obtain ⟨A6, c6, rfl⟩ := own_slice (Kd.own_of_R hR)
      have HB6 := Aside0.mk (below_then HB5.out HB5.out.size hb6)
      have HG6 := Aside0.mk (HG5.out.below hb6)
      clear hb6 hR
      go_wp2_with fail
      refine (clique_Greatest.calls p 0 [] [] _ HG6.out (Nat.le_refl _) H5.out).mono ?_
      rintro e w7 ⟨v7, rfl, hR, hb7⟩
      obtain ⟨A7, c7, rfl⟩ := own_slice (Kd.own_of_R hR)
      have HB7 := Aside0.mk (below_then HB6.out HB6.out.size hb7)
      clear hb7 hR
      go_wp2
      go_roundg (gk - 1)
      case measure => have := HK.out; omega
      case rel => exact ⟨k + 1, ⟨by have := HK.out; omega⟩, by first | rfl | go_num, HB7⟩
    · obtain rfl : k = 2 := by have := HK.out; omega
      clear hlt
      go_wp2_with fail
      refine (heads_calls _).mono ?_
      rintro e w2 ⟨rfl, hb2⟩
      have HB2 := Aside0.mk (below_then HB0.out HB0.out.size (below_then HB.out HB.out.size hb2))
      clear hb2
      go_wp2
      go_ret
      exact ⟨rfl, HB2.out⟩
/-- The walk for every input. -/
theorem nobody_walk (a0 : Option Addr) (len0 cap0 : Nat) (z0 : List Int) (a1 : Option Addr) (len1 cap1 : Nat) (z1 : List Int) (w : World)
    (w0 : (a0 = none ∧ len0 = 0 ∧ cap0 = 0 ∧ z0 = []) ∨ ∃ x, a0 = some x ∧ len0 ≤ cap0 ∧ cap0 ≤ maxLen ∧ z0.length = cap0 ∧ (∀ i, i < z0.length → w.cell? (x.add i) = some (.int .i64 (z0.getD i 0))) ∧ ∀ n ∈ z0, (Lit.int .i64 n).wf = true) (y0 : len0 * 8 ≤ 140737488351232)
    (w1 : (a1 = none ∧ len1 = 0 ∧ cap1 = 0 ∧ z1 = []) ∨ ∃ x, a1 = some x ∧ len1 ≤ cap1 ∧ cap1 ≤ maxLen ∧ z1.length = cap1 ∧ (∀ i, i < z1.length → w.cell? (x.add i) = some (.int .i64 (z1.getD i 0))) ∧ ∀ n ∈ z1, (Lit.int .i64 n).wf = true) (y1 : len1 * 8 ≤ 140737488351232) :
    Calls Try.prog 9 #[.slice a0 len0 cap0, .slice a1 len1 cap1] w fun e w' => e = .returned (.bool true) ∧ Below w.heap.size w w' := by
  obtain ⟨l0, rfl, hr0, hm0, hw0, hc0⟩ := ReadsInt.ofRowC w0
  obtain ⟨l1, rfl, hr1, hm1, hw1, hc1⟩ := ReadsInt.ofRowC w1
  have C0 := Kd.C_of_reads (d := (0 : Int)) (h1 := fun _ => rfl) hr0
  have C1 := Kd.C_of_reads (d := (0 : Int)) (h1 := fun _ => rfl) hr1
  refine nobody_calls a0 cap0 l0 a1 cap1 l1 w C0 hc0 C1 hc1 (by omega) (fun x hx => ?_) (by omega)
  have h := hw0 x hx
  simp [Lit.wf, IntKind.min, IntKind.max, IntKind.signed, IntKind.bits] at h; omega
end Go.Proofs.Ytbmnnmcnmfgbaaa.PG
end
