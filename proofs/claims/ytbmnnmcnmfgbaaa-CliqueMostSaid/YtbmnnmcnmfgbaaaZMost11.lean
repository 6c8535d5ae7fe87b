/-
  Put together by slim.py of this session out of the session's own texts (YtbmnnmcnmfgbaaaLawCliqueMost and what it reaches): declarations that nothing kept names are left out. Conditions: none beyond those of the law's row.
-/
import Derived.Laws.ResultCell
import Derived.Laws.StructEq
import Derived.Test.YtbmnnmcnmfgbaaaZMost9
import Derived.Test.YtbmnnmcnmfgbaaaZMost2
import Derived.Test.YtbmnnmcnmfgbaaaZMost4
import Derived.Test.YtbmnnmcnmfgbaaaZMost0
import Derived.Test.YtbmnnmcnmfgbaaaZMost3
import Derived.Test.YtbmnnmcnmfgbaaaZMost6
import Derived.Test.YtbmnnmcnmfgbaaaZMost10
import Derived.Test.YtbmnnmcnmfgbaaaZMost1
import Derived.Test.YtbmnnmcnmfgbaaaZMost7
import Derived.Test.YtbmnnmcnmfgbaaaZMost8
import Derived.Test.YtbmnnmcnmfgbaaaZMost5
section
/-
  ref23.Join.
-/
namespace Go.Proofs.Ytbmnnmcnmfgbaaa.PG
open Go.RowKit Go.Shelf Go.Proofs.YtbmnnmcnmfgbaaaW.PrintWords Go.Proofs.YtbmnnmcnmfgbaaaW.PrintLast Go.Proofs.YtbmnnmcnmfgbaaaW.PrintMore
open Go.Proofs.Ytbmnnmcnmfgbaaa.PB Go.Proofs.Ytbmnnmcnmfgbaaa.PC
set_option linter.unusedVariables false
set_option linter.unusedSimpArgs false

theorem results_row_tmp {P : Program} {fn : Func} {p u : Tmp} {ty : TypeId} (h : fn.results = #[.cell p ty, .tmp u]) (tmps : Array Value) (w : World) (g : Nat) (t : TypeId) (cs : Array Value) (fr : Nat × Nat) (d : TypeDesc)
    (hp : tmps.getD p undef = .pointer (some ⟨g, 0, none⟩)) (hg : w.heap[g]? = some (.cells cs t fr))
    (hu : P.underlying ty = some d) (hd : (match d with | .struct _ | .array _ _ => true | _ => false) = true) (hi : (P.info? ty).map (·.size) = some cs.size) :
    (results fn tmps).run P w = .ok (.tuple #[.agg cs, tmps.getD u undef]) w := by
  have hp' : tmps[p]?.getD undef = .pointer (some ⟨g, 0, none⟩) := by simpa using hp
  simp [results, h, hp', asAddr, run_loadVar_row w g t ty cs fr d hg hu hd hi]
theorem info44 : (Try.prog.info? 44).map (·.size) = some 2 := by kernel_rfl
set_option maxRecDepth 100000 in
set_option maxHeartbeats 1000000 in
theorem rjoin_eq (N : Int) (A : Option Addr) (c : Nat) (l : List Bool) (a : Int) (w : World) :
    Calls Try.prog 65 #[.agg #[.int .i64 N, .slice A l.length c], .int .i64 a, .int .i64 a] w fun e w' => e = .returned (.tuple #[.agg #[.int .i64 N, .slice A l.length c], .bool false]) ∧ Below w.heap.size w w' := by
  have hu44 := Try.underlying44
  have h1 : (a == a) = true := by simp
  have HB := Aside0.mk (below_alloc (below_alloc (Below.refl w.heap.size w) (Obj.cells #[Value.int IntKind.i64 N, Value.slice A l.length c] 44)) (Obj.cells #[Value.int IntKind.i64 N, Value.slice A l.length c] 44))
  go_enter Try.func65, Try.ntmps65
  go_wp2
  have hh := World.alloc_heap_new (w.alloc (Obj.cells #[Value.int IntKind.i64 N, Value.slice A l.length c] 44)) (Obj.cells #[Value.int IntKind.i64 N, Value.slice A l.length c] 44)
  rw [World.size_alloc] at hh
  (try simp only [Exit.inBlock, Exit.then])
  refine bodyPost_ret (results_row_tmp (ty := 44) rfl _ _ (w.heap.size + 1) 44 #[Value.int IntKind.i64 N, Value.slice A l.length c] (0, 0) _ rfl hh Try.underlying44 rfl info44) rfl ?_
  exact ⟨rfl, HB.out⟩
/-- The two boxes of Join, while nothing is joined yet. -/
structure JB (w : World) (N : Int) (A : Option Addr) (n c : Nat) (w' : World) : Prop where
  b0 : w'.heap[w.heap.size]? = some (.cells #[.int .i64 N, .slice A n c] 44 (0, 0))
  b1 : w'.heap[w.heap.size + 1]? = some (.cells #[.int .i64 0, .slice none 0 0] 44 (0, 0))
  below : Below w.heap.size w w'
theorem JB.start (w : World) (N : Int) (A : Option Addr) (n c : Nat) : JB w N A n c ((w.alloc (Obj.cells #[Value.int IntKind.i64 N, Value.slice A n c] 44)).alloc (Obj.cells #[.int .i64 0, .slice none 0 0] 44)) := by
  have e1 : (w.alloc (Obj.cells #[Value.int IntKind.i64 N, Value.slice A n c] 44)).heap.size = w.heap.size + 1 := World.size_alloc _ _
  refine ⟨?_, ?_, below_alloc (below_alloc (Below.refl _ _) _) _⟩
  · rw [Below.heap_alloc _ _ _ (by omega)]; exact World.alloc_heap_new _ _
  · have := World.alloc_heap_new (w.alloc (Obj.cells #[Value.int IntKind.i64 N, Value.slice A n c] 44)) (Obj.cells #[.int .i64 0, .slice none 0 0] 44)
    rwa [e1] at this
theorem JB.step {w w1 w2 : World} {N : Int} {A : Option Addr} {n c : Nat} (h : JB w N A n c w1) (hb : Below w1.heap.size w1 w2) : JB w N A n c w2 :=
  ⟨(hb.block _ (lt_of_block h.b0)).trans h.b0, (hb.block _ (lt_of_block h.b1)).trans h.b1, below_then h.below h.below.size hb⟩
theorem JB.stored {w w1 : World} {N : Int} {A : Option Addr} {n c : Nat} (h : JB w N A n c w1) (x y : Value) :
    ((w1.setCell ⟨w.heap.size + 1, 0, none⟩ x).setCell ⟨w.heap.size + 1, 1, none⟩ y).heap[w.heap.size + 1]? = some (.cells #[x, y] 44 (0, 0)) ∧ Below w.heap.size w ((w1.setCell ⟨w.heap.size + 1, 0, none⟩ x).setCell ⟨w.heap.size + 1, 1, none⟩ y) :=
  ⟨by rw [heap_set (heap_set h.b1 0 x) 1 y]; rfl, below_store (below_store h.below (by omega) 0 x) (by omega) 1 y⟩
set_option maxRecDepth 100000 in
set_option maxHeartbeats 1000000 in
/-- Nothing is joined: equal, no nodes, or joined before. -/
theorem rjoin_no (N : Int) (A : Option Addr) (c : Nat) (l : List Bool) (a b : Int) (w : World) (hr : Kd.C Kd.bool w A l.length l) (hc : l.length ≤ c) (ta tb th : Bool) (hne : ¬ a = b)
    (ha : horariumref23_Node.f N l a = some ta) (hb : horariumref23_Node.f N l b = some tb) (hh : ta = true → tb = true → horariumref23_Has.f N l a b = some th) (hno : ta = false ∨ tb = false ∨ th = true) :
    Calls Try.prog 65 #[.agg #[.int .i64 N, .slice A l.length c], .int .i64 a, .int .i64 b] w fun e w' => e = .returned (.tuple #[.agg #[.int .i64 N, .slice A l.length c], .bool false]) ∧ Below w.heap.size w w' := by
  have hu44 := Try.underlying44
  have h1 : (a == b) = false := by simp [hne]
  have HR := Aside0.mk hr
  have HC := Aside0.mk hc
  have HA := Aside0.mk ha
  have HBn := Aside0.mk hb
  have HH := Aside0.mk hh
  have HNO := Aside0.mk hno
  have HJ0 := Aside0.mk (JB.start w N A l.length c)
  clear hr hc ha hb hh hno hne
  cases ta
  · go_enter Try.func65, Try.ntmps65
    go_wp2_with fail
    refine (horariumref23_Node.calls N A c l a false _ (Kd.C_below HR.out HJ0.out.below) HC.out HA.out).mono ?_
    rintro e w1 ⟨rfl, hb1⟩
    have HJ1 := Aside0.mk (HJ0.out.step hb1)
    clear hb1
    have c0 : w1.cell? ⟨w.heap.size, 0, none⟩ = some (.int .i64 N) := (blk_cell HJ1.out.b0 0).trans rfl
    have c1 : w1.cell? ⟨w.heap.size, 1, none⟩ = some (.slice A l.length c) := (blk_cell HJ1.out.b0 1).trans rfl
    have d0 : w1.cell? ⟨w.heap.size + 1, 0, none⟩ = some (.int .i64 0) := (blk_cell HJ1.out.b1 0).trans rfl
    have d1 : w1.cell? ⟨w.heap.size + 1, 1, none⟩ = some (.slice none 0 0) := (blk_cell HJ1.out.b1 1).trans rfl
    have f0 := blk_frozen HJ1.out.b1 0
    have f1 := blk_frozen HJ1.out.b1 1
    go_wp2
    (try simp only [Exit.inBlock, Exit.then])
    refine bodyPost_ret (results_row_tmp (ty := 44) rfl _ _ (w.heap.size + 1) 44 #[Value.int IntKind.i64 N, Value.slice A l.length c] (0, 0) _ rfl (HJ1.out.stored _ _).1 Try.underlying44 rfl info44) rfl ?_
    exact ⟨rfl, (HJ1.out.stored _ _).2⟩
  cases tb
  · go_enter Try.func65, Try.ntmps65
    go_wp2_with fail
    refine (horariumref23_Node.calls N A c l a true _ (Kd.C_below HR.out HJ0.out.below) HC.out HA.out).mono ?_
    rintro e w1 ⟨rfl, hb1⟩
    have HJ1 := Aside0.mk (HJ0.out.step hb1)
    clear hb1
    have c0 : w1.cell? ⟨w.heap.size, 0, none⟩ = some (.int .i64 N) := (blk_cell HJ1.out.b0 0).trans rfl
    have c1 : w1.cell? ⟨w.heap.size, 1, none⟩ = some (.slice A l.length c) := (blk_cell HJ1.out.b0 1).trans rfl
    have d0 : w1.cell? ⟨w.heap.size + 1, 0, none⟩ = some (.int .i64 0) := (blk_cell HJ1.out.b1 0).trans rfl
    have d1 : w1.cell? ⟨w.heap.size + 1, 1, none⟩ = some (.slice none 0 0) := (blk_cell HJ1.out.b1 1).trans rfl
    have f0 := blk_frozen HJ1.out.b1 0
    have f1 := blk_frozen HJ1.out.b1 1
    go_wp2_with fail
    refine (horariumref23_Node.calls N A c l b false _ (Kd.C_below HR.out HJ1.out.below) HC.out HBn.out).mono ?_
    rintro e w2 ⟨rfl, hb2⟩
    have HJ2 := Aside0.mk (HJ1.out.step hb2)
    clear hb2
    clear c0 c1 d0 d1 f0 f1
    have c0 : w2.cell? ⟨w.heap.size, 0, none⟩ = some (.int .i64 N) := (blk_cell HJ2.out.b0 0).trans rfl
    have c1 : w2.cell? ⟨w.heap.size, 1, none⟩ = some (.slice A l.length c) := (blk_cell HJ2.out.b0 1).trans rfl
    have d0 : w2.cell? ⟨w.heap.size + 1, 0, none⟩ = some (.int .i64 0) := (blk_cell HJ2.out.b1 0).trans rfl
    have d1 : w2.cell? ⟨w.heap.size + 1, 1, none⟩ = some (.slice none 0 0) := (blk_cell HJ2.out.b1 1).trans rfl
    have f0 := blk_frozen HJ2.out.b1 0
    have f1 := blk_frozen HJ2.out.b1 1
    go_wp2
    (try simp only [Exit.inBlock, Exit.then])
    refine bodyPost_ret (results_row_tmp (ty := 44) rfl _ _ (w.heap.size + 1) 44 #[Value.int IntKind.i64 N, Value.slice A l.length c] (0, 0) _ rfl (HJ2.out.stored _ _).1 Try.underlying44 rfl info44) rfl ?_
    exact ⟨rfl, (HJ2.out.stored _ _).2⟩
  cases th
  · exact absurd HNO.out (by simp)
  · go_enter Try.func65, Try.ntmps65
    go_wp2_with fail
    refine (horariumref23_Node.calls N A c l a true _ (Kd.C_below HR.out HJ0.out.below) HC.out HA.out).mono ?_
    rintro e w1 ⟨rfl, hb1⟩
    have HJ1 := Aside0.mk (HJ0.out.step hb1)
    clear hb1
    have c0 : w1.cell? ⟨w.heap.size, 0, none⟩ = some (.int .i64 N) := (blk_cell HJ1.out.b0 0).trans rfl
    have c1 : w1.cell? ⟨w.heap.size, 1, none⟩ = some (.slice A l.length c) := (blk_cell HJ1.out.b0 1).trans rfl
    have d0 : w1.cell? ⟨w.heap.size + 1, 0, none⟩ = some (.int .i64 0) := (blk_cell HJ1.out.b1 0).trans rfl
    have d1 : w1.cell? ⟨w.heap.size + 1, 1, none⟩ = some (.slice none 0 0) := (blk_cell HJ1.out.b1 1).trans rfl
    have f0 := blk_frozen HJ1.out.b1 0
    have f1 := blk_frozen HJ1.out.b1 1
    go_wp2_with fail
    refine (horariumref23_Node.calls N A c l b true _ (Kd.C_below HR.out HJ1.out.below) HC.out HBn.out).mono ?_
    rintro e w2 ⟨rfl, hb2⟩
    have HJ2 := Aside0.mk (HJ1.out.step hb2)
    clear hb2
    clear c0 c1 d0 d1 f0 f1
    have c0 : w2.cell? ⟨w.heap.size, 0, none⟩ = some (.int .i64 N) := (blk_cell HJ2.out.b0 0).trans rfl
    have c1 : w2.cell? ⟨w.heap.size, 1, none⟩ = some (.slice A l.length c) := (blk_cell HJ2.out.b0 1).trans rfl
    have d0 : w2.cell? ⟨w.heap.size + 1, 0, none⟩ = some (.int .i64 0) := (blk_cell HJ2.out.b1 0).trans rfl
    have d1 : w2.cell? ⟨w.heap.size + 1, 1, none⟩ = some (.slice none 0 0) := (blk_cell HJ2.out.b1 1).trans rfl
    have f0 := blk_frozen HJ2.out.b1 0
    have f1 := blk_frozen HJ2.out.b1 1
    go_wp2_with fail
    refine (horariumref23_Has.calls N A c l a b true _ (Kd.C_below HR.out HJ2.out.below) HC.out (by have := HH.out; simpa using this)).mono ?_
    rintro e w3 ⟨rfl, hb3⟩
    have HJ3 := Aside0.mk (HJ2.out.step hb3)
    clear hb3
    clear c0 c1 d0 d1 f0 f1
    have c0 : w3.cell? ⟨w.heap.size, 0, none⟩ = some (.int .i64 N) := (blk_cell HJ3.out.b0 0).trans rfl
    have c1 : w3.cell? ⟨w.heap.size, 1, none⟩ = some (.slice A l.length c) := (blk_cell HJ3.out.b0 1).trans rfl
    have d0 : w3.cell? ⟨w.heap.size + 1, 0, none⟩ = some (.int .i64 0) := (blk_cell HJ3.out.b1 0).trans rfl
    have d1 : w3.cell? ⟨w.heap.size + 1, 1, none⟩ = some (.slice none 0 0) := (blk_cell HJ3.out.b1 1).trans rfl
    have f0 := blk_frozen HJ3.out.b1 0
    have f1 := blk_frozen HJ3.out.b1 1
    go_wp2
    (try simp only [Exit.inBlock, Exit.then])
    refine bodyPost_ret (results_row_tmp (ty := 44) rfl _ _ (w.heap.size + 1) 44 #[Value.int IntKind.i64 N, Value.slice A l.length c] (0, 0) _ rfl (HJ3.out.stored _ _).1 Try.underlying44 rfl info44) rfl ?_
    exact ⟨rfl, (HJ3.out.stored _ _).2⟩
theorem JB.far {w w1 : World} {N : Int} {A : Option Addr} {n c g : Nat} (h : JB w N A n c w1) (hg : w.heap.size + 1 < g) (i : Nat) (v : Value) : JB w N A n c (w1.setCell ⟨g, i, none⟩ v) :=
  ⟨(Go.Deep.blk_setCell_other _ _ _ _ (by show w.heap.size ≠ g; omega)).trans h.b0, (Go.Deep.blk_setCell_other _ _ _ _ (by show w.heap.size + 1 ≠ g; omega)).trans h.b1, below_store h.below (by omega) i v⟩
theorem pw_set_far {w : World} {b g : Nat} {u : Value} (h : w.cell? ⟨b, 0, none⟩ = some u) (hne : b ≠ g) (i : Nat) (v : Value) : (w.setCell ⟨g, i, none⟩ v).cell? ⟨b, 0, none⟩ = some u := by
  rw [World.cell?_setCell_other _ _ _ _ (by intro e; injection e with e _; exact hne e.symm)]; exact h
theorem own_of_app {w : World} {base : Nat} {v : Value} {l : List Bool} (h : w.ownsRow base 4 1 v ([] ++ l).length (encs Value.bool ([] ++ l))) : w.ownsRow base 4 1 v l.length (encs Value.bool l) := by simpa using h
set_option maxRecDepth 100000 in
set_option maxHeartbeats 1000000 in
/-- Two nodes are joined. -/
theorem rjoin_yes (N : Int) (A : Option Addr) (c : Nat) (l : List Bool) (a b : Int) (w : World) (hr : Kd.C Kd.bool w A l.length l) (hc : l.length ≤ c) (hne : ¬ a = b)
    (ha : horariumref23_Node.f N l a = some true) (hb : horariumref23_Node.f N l b = some true) (hh : horariumref23_Has.f N l a b = some false)
    (p1 p2 q1 q2 : Int) (e1 : wrap64 (a * N) = p1) (e2 : wrap64 (p1 + b) = p2) (e3 : wrap64 (b * N) = q1) (e4 : wrap64 (q1 + a) = q2) (hp : 0 ≤ p2 ∧ p2 < (l.length : Int)) (hq : 0 ≤ q2 ∧ q2 < (l.length : Int)) (hl : l.length ≤ 1000000) :
    Calls Try.prog 65 #[.agg #[.int .i64 N, .slice A l.length c], .int .i64 a, .int .i64 b] w fun e w' => ∃ v, e = .returned (.tuple #[.agg #[.int .i64 N, v], .bool true]) ∧ w'.ownsRow w.heap.size 4 1 v l.length (encs Value.bool ((l.set p2.toNat true).set q2.toNat true)) ∧ Below w.heap.size w w' := by
  have hu44 := Try.underlying44
  have h1 : (a == b) = false := by simp [hne]
  have HR := Aside0.mk hr
  have HC := Aside0.mk hc
  have HA := Aside0.mk ha
  have HBn := Aside0.mk hb
  have HH := Aside0.mk hh
  have HPQ := Aside0.mk (And.intro hp (And.intro hq hl))
  have HJ0 := Aside0.mk (JB.start w N A l.length c)
  clear hr hc ha hb hh hne hp hq hl
  go_enter Try.func65, Try.ntmps65
  go_wp2_with fail
  refine (horariumref23_Node.calls N A c l a true _ (Kd.C_below HR.out HJ0.out.below) HC.out HA.out).mono ?_
  rintro e w1 ⟨rfl, hb1⟩
  have HJ1 := Aside0.mk (HJ0.out.step hb1)
  clear hb1
  have c0 : w1.cell? ⟨w.heap.size, 0, none⟩ = some (.int .i64 N) := (blk_cell HJ1.out.b0 0).trans rfl
  have c1 : w1.cell? ⟨w.heap.size, 1, none⟩ = some (.slice A l.length c) := (blk_cell HJ1.out.b0 1).trans rfl
  go_wp2_with fail
  refine (horariumref23_Node.calls N A c l b true _ (Kd.C_below HR.out HJ1.out.below) HC.out HBn.out).mono ?_
  rintro e w2 ⟨rfl, hb2⟩
  have HJ2 := Aside0.mk (HJ1.out.step hb2)
  clear hb2
  clear c0 c1
  have c0 : w2.cell? ⟨w.heap.size, 0, none⟩ = some (.int .i64 N) := (blk_cell HJ2.out.b0 0).trans rfl
  have c1 : w2.cell? ⟨w.heap.size, 1, none⟩ = some (.slice A l.length c) := (blk_cell HJ2.out.b0 1).trans rfl
  go_wp2_with fail
  refine (horariumref23_Has.calls N A c l a b false _ (Kd.C_below HR.out HJ2.out.below) HC.out HH.out).mono ?_
  rintro e w3 ⟨rfl, hb3⟩
  have HJ3 := Aside0.mk (HJ2.out.step hb3)
  clear hb3
  clear c0 c1
  have c0 : w3.cell? ⟨w.heap.size, 0, none⟩ = some (.int .i64 N) := (blk_cell HJ3.out.b0 0).trans rfl
  have c1 : w3.cell? ⟨w.heap.size, 1, none⟩ = some (.slice A l.length c) := (blk_cell HJ3.out.b0 1).trans rfl
  have HE : Aside0 ((w3.alloc (.cells #[] 4)).ownsRow w.heap.size 4 1 (.slice (some ⟨w3.heap.size, 0, none⟩) 0 0) ([] : List Bool).length (encs Value.bool [])) := ⟨by
    have h := World.ownsRow_lit (base := w.heap.size) (e := 4) (size := 1) w3 #[] 0 HJ3.out.below.size (by decide) (by simp)
    simpa [encs] using h⟩
  have HBe := Aside0.mk (below_then HJ3.out.below HJ3.out.below.size (below_alloc (Below.refl w3.heap.size w3) (.cells #[] 4)))
  have c1a : (w3.alloc (Obj.cells #[] 4)).cell? ⟨w.heap.size, 1, none⟩ = some (.slice A l.length c) := pw_cell_below (below_alloc (Below.refl _ _) _) c1
  go_wp2_with (at_builtin; go_loud (refine print_append_row_of (w0 := w) Value.bool false w.heap.size rfl _ _ 42 4 (.bool false) 1 rfl Try.underlying42 PB.info4 rfl (by decide) (fun _ => rfl) (.slice (some ⟨w3.heap.size, 0, none⟩) 0 0) [] l A l.length c rfl rfl HE.out (Kd.reads_of_C (d := false) (Kd.C_below HR.out HBe.out)) HBe.out HBe.out.size (by have := HPQ.out.2.2; simp; omega) ?_); intro v1 w4 ho4 hb4 hg4 hat4)
  have HB4 := Aside0.mk hb4
  have hja := HJ3.out.step (below_alloc (Below.refl w3.heap.size w3) (.cells #[] 4))
  have hs3 := lt_of_block HJ3.out.b1
  have hj4 : JB w N A l.length c w4 := ⟨(hg4.block _ (lt_of_block hja.b0) (fun e => by simp [Value.ownBlock] at e; omega)).trans hja.b0, (hg4.block _ (lt_of_block hja.b1) (fun e => by simp [Value.ownBlock] at e; omega)).trans hja.b1, hb4⟩
  have HJ4 := Aside0.mk hj4
  have c0n : w4.drew.cell? ⟨w.heap.size, 0, none⟩ = some (.int .i64 N) := (blk_cell HJ4.out.b0 0).trans rfl
  obtain ⟨g, cap, rfl, hgb, hgl⟩ := ho4.form (by have := HPQ.out; simp; omega)
  have hgs : w.heap.size + 1 < g := by
    simp [Value.ownBlock] at hat4
    omega
  have HGS := Aside0.mk hgs
  clear hja hs3 hj4 hgs
  have ho4' := own_of_app ho4
  have HP1 := Aside0.mk (own_at_of (d := false) ho4' p2 HPQ.out.1.1 HPQ.out.1.2)
  have HP2 := Aside0.mk (own_store_of ho4' p2 true)
  have HQ1 := Aside0.mk (own_at_of (d := false) HP2.out.1 q2 HPQ.out.2.1.1 HPQ.out.2.1.2)
  have HP1G : Aside0 (w.heap.size ≠ g) := ⟨by have := HGS.out; omega⟩
  clear hb4 hg4 hat4 ho4
  have hp0 := HPQ.out.1.1
  have hp1 := HPQ.out.1.2
  have hq0 := HPQ.out.2.1.1
  have hq1 := HPQ.out.2.1.2
  refine start_ (n := 18) (S := (fun w' => w'.cell? ⟨w.heap.size, 0, none⟩ = some (.int .i64 N))) (ds := [17]) #[false, false, false, false, false, false, false, false, false, false, false, false, false, false, false, false, false, false] (by kernel_rfl) rfl rfl (c0n) (fun hHeld => ?_)
  refine pure_ (i := 0) (N := some 35) (v := ?_) (a' := ?_) #[true, false, false, false, false, false, false, false, false, false, false, false, false, false, false, false, false, false] rfl rfl (by kernel_rfl) (fun _ _ _ h => h) (Or.inl ⟨by rfl, ?_⟩) ?_ ?_
  rotate_left
  · intro w'
    go_simp
    with_reducible rfl
  rotate_left
  · simp only [Act.put, List.setIfInBounds_toArray, List.set_cons_zero, List.set_cons_succ, i64_w, i32_w]
    rfl
  refine pure_ (i := 1) (N := some 36) (v := ?_) (a' := ?_) #[true, true, false, false, false, false, false, false, false, false, false, false, false, false, false, false, false, false] rfl rfl (by kernel_rfl) (fun _ _ _ h => h) (Or.inl ⟨by rfl, ?_⟩) ?_ ?_
  rotate_left
  · intro w'
    go_simp
    with_reducible rfl
  rotate_left
  · simp only [Act.put, List.setIfInBounds_toArray, List.set_cons_zero, List.set_cons_succ, i64_w, i32_w]
    rfl
  refine pure_ (i := 2) (N := some 37) (v := ?_) (a' := ?_) #[true, true, true, false, false, false, false, false, false, false, false, false, false, false, false, false, false, false] rfl rfl (by kernel_rfl) (fun _ _ _ h => h) (Or.inl ⟨by rfl, ?_⟩) ?_ ?_
  rotate_left
  · intro w'
    go_simp
    with_reducible rfl
  rotate_left
  · simp only [Act.put, List.setIfInBounds_toArray, List.set_cons_zero, List.set_cons_succ, i64_w, i32_w]
    rfl
  refine take_ (i := 3) (N := some 38) (v := ?_) (a' := ?_) #[true, true, true, true, false, false, false, false, false, false, false, false, false, false, false, false, false, false] rfl rfl (by kernel_rfl) (fun _ _ _ h => h) (Or.inl ⟨by rfl, ?_⟩) hHeld ?_ ?_
  rotate_left
  · intro w' s0
    go_simp
    with_reducible rfl
  rotate_left
  · simp only [Act.put, List.setIfInBounds_toArray, List.set_cons_zero, List.set_cons_succ, i64_w, i32_w]
    rfl
  refine pure_ (i := 4) (N := some 39) (v := ?_) (a' := ?_) #[true, true, true, true, true, false, false, false, false, false, false, false, false, false, false, false, false, false] rfl rfl (by kernel_rfl) (fun _ _ _ h => h) (Or.inl ⟨by rfl, ?_⟩) ?_ ?_
  rotate_left
  · intro w'
    go_simp
    with_reducible rfl
  rotate_left
  · simp only [Act.put, List.setIfInBounds_toArray, List.set_cons_zero, List.set_cons_succ, i64_w, i32_w]
    rfl
  refine pure_ (i := 5) (N := some 40) (v := ?_) (a' := ?_) #[true, true, true, true, true, true, false, false, false, false, false, false, false, false, false, false, false, false] rfl rfl (by kernel_rfl) (fun _ _ _ h => h) (Or.inl ⟨by rfl, ?_⟩) ?_ ?_
  rotate_left
  · intro w'
    go_simp
    with_reducible rfl
  rotate_left
  · simp only [Act.put, List.setIfInBounds_toArray, List.set_cons_zero, List.set_cons_succ, i64_w, i32_w]
    rfl
  refine pure_ (i := 6) (N := some 41) (v := ?_) (a' := ?_) #[true, true, true, true, true, true, true, false, false, false, false, false, false, false, false, false, false, false] rfl rfl (by kernel_rfl) (fun _ _ _ h => h) (Or.inl ⟨by rfl, ?_⟩) ?_ ?_
  rotate_left
  · intro w'
    go_simp
    with_reducible rfl
  rotate_left
  · simp only [Act.put, List.setIfInBounds_toArray, List.set_cons_zero, List.set_cons_succ, i64_w, i32_w]
    rfl
  refine pure_ (i := 7) (N := some 42) (v := ?_) (a' := ?_) #[true, true, true, true, true, true, true, true, false, false, false, false, false, false, false, false, false, false] rfl rfl (by kernel_rfl) (fun _ _ _ h => h) (Or.inl ⟨by rfl, ?_⟩) ?_ ?_
  rotate_left
  · intro w'
    go_simp
    with_reducible rfl
  rotate_left
  · simp only [Act.put, List.setIfInBounds_toArray, List.set_cons_zero, List.set_cons_succ, i64_w, i32_w]
    rfl
  refine pure_ (i := 8) (N := some 43) (v := ?_) (a' := ?_) #[true, true, true, true, true, true, true, true, true, false, false, false, false, false, false, false, false, false] rfl rfl (by kernel_rfl) (fun _ _ _ h => h) (Or.inl ⟨by rfl, ?_⟩) ?_ ?_
  rotate_left
  · intro w'
    go_simp
    with_reducible rfl
  rotate_left
  · simp only [Act.put, List.setIfInBounds_toArray, List.set_cons_zero, List.set_cons_succ, i64_w, i32_w]
    rfl
  refine pure_ (i := 9) (N := some 44) (v := ?_) (a' := ?_) #[true, true, true, true, true, true, true, true, true, true, false, false, false, false, false, false, false, false] rfl rfl (by kernel_rfl) (fun _ _ _ h => h) (Or.inl ⟨by rfl, ?_⟩) ?_ ?_
  rotate_left
  · intro w'
    go_simp
    with_reducible rfl
  rotate_left
  · simp only [Act.put, List.setIfInBounds_toArray, List.set_cons_zero, List.set_cons_succ, i64_w, i32_w]
    rfl
  refine take_ (i := 10) (N := some 45) (v := ?_) (a' := ?_) #[true, true, true, true, true, true, true, true, true, true, true, false, false, false, false, false, false, false] rfl rfl (by kernel_rfl) (fun _ _ _ h => h) (Or.inl ⟨by rfl, ?_⟩) hHeld ?_ ?_
  rotate_left
  · intro w' s0
    go_simp
    with_reducible rfl
  rotate_left
  · simp only [Act.put, List.setIfInBounds_toArray, List.set_cons_zero, List.set_cons_succ, i64_w, i32_w]
    rfl
  refine pure_ (i := 11) (N := some 46) (v := ?_) (a' := ?_) #[true, true, true, true, true, true, true, true, true, true, true, true, false, false, false, false, false, false] rfl rfl (by kernel_rfl) (fun _ _ _ h => h) (Or.inl ⟨by rfl, ?_⟩) ?_ ?_
  rotate_left
  · intro w'
    go_simp
    with_reducible rfl
  rotate_left
  · simp only [Act.put, List.setIfInBounds_toArray, List.set_cons_zero, List.set_cons_succ, i64_w, i32_w]
    rfl
  refine pure_ (i := 12) (N := some 47) (v := ?_) (a' := ?_) #[true, true, true, true, true, true, true, true, true, true, true, true, true, false, false, false, false, false] rfl rfl (by kernel_rfl) (fun _ _ _ h => h) (Or.inl ⟨by rfl, ?_⟩) ?_ ?_
  rotate_left
  · intro w'
    go_simp
    with_reducible rfl
  rotate_left
  · simp only [Act.put, List.setIfInBounds_toArray, List.set_cons_zero, List.set_cons_succ, i64_w, i32_w]
    rfl
  refine pure_ (i := 13) (N := some 48) (v := ?_) (a' := ?_) #[true, true, true, true, true, true, true, true, true, true, true, true, true, true, false, false, false, false] rfl rfl (by kernel_rfl) (fun _ _ _ h => h) (Or.inl ⟨by rfl, ?_⟩) ?_ ?_
  rotate_left
  · intro w'
    go_simp
    with_reducible rfl
  rotate_left
  · simp only [Act.put, List.setIfInBounds_toArray, List.set_cons_zero, List.set_cons_succ, i64_w, i32_w]
    rfl
  refine pure_ (i := 14) (N := some 49) (v := ?_) (a' := ?_) #[true, true, true, true, true, true, true, true, true, true, true, true, true, true, true, false, false, false] rfl rfl (by kernel_rfl) (fun _ _ _ h => h) (Or.inl ⟨by rfl, ?_⟩) ?_ ?_
  rotate_left
  · intro w'
    go_simp
    with_reducible rfl
  rotate_left
  · simp only [Act.put, List.setIfInBounds_toArray, List.set_cons_zero, List.set_cons_succ, i64_w, i32_w]
    rfl
  refine one_ (i := 15) (N := none) #[true, true, true, true, true, true, true, true, true, true, true, true, true, true, true, true, false, false] rfl rfl (by kernel_rfl) (by decide) (fun K hK => ?_)
  have cp := HP1.out.1
  have fp := HP1.out.2
  go_simp
  refine hK.out _ _ (pw_set_far hHeld HP1G.out _ _) (fun hHeld => ?_)
  clear hK K
  refine pure_ (i := 16) (N := some 50) (v := ?_) (a' := ?_) #[true, true, true, true, true, true, true, true, true, true, true, true, true, true, true, true, true, false] rfl rfl (by kernel_rfl) (fun _ _ _ h => h) (Or.inl ⟨by rfl, ?_⟩) ?_ ?_
  rotate_left
  · intro w'
    go_simp
    with_reducible rfl
  rotate_left
  · simp only [Act.put, List.setIfInBounds_toArray, List.set_cons_zero, List.set_cons_succ, i64_w, i32_w]
    rfl
  refine last_ (i := 17) (N := none) #[true, true, true, true, true, true, true, true, true, true, true, true, true, true, true, true, true, true] rfl rfl (by kernel_rfl) (by decide) (fun K hK => ?_)
  have cq := HQ1.out.1
  have fq := HQ1.out.2
  go_simp
  refine hK.out _ _ ?_
  clear hK K
  refine done_ (by kernel_rfl) ?_
  have HJ5 := Aside0.mk ((HJ4.out.far HGS.out p2.toNat (.bool true)).far HGS.out q2.toNat (.bool true))
  have k0 := (blk_cell HJ5.out.b0 0).trans rfl
  have d0 := (blk_cell HJ5.out.b1 0).trans rfl
  have d1 := (blk_cell HJ5.out.b1 1).trans rfl
  have f0 := blk_frozen HJ5.out.b1 0
  have f1 := blk_frozen HJ5.out.b1 1
  go_wp2
  (try simp only [Exit.inBlock, Exit.then])
  refine bodyPost_ret (results_row_tmp (ty := 44) rfl _ _ (w.heap.size + 1) 44 #[Value.int IntKind.i64 N, Value.slice (some ⟨g, 0, none⟩) l.length cap] (0, 0) _ rfl (HJ5.out.stored _ _).1 Try.underlying44 rfl info44) rfl ?_
  refine ⟨_, rfl, ?_, below_drew (HJ5.out.stored _ _).2⟩
  refine own_move (own_store_of HP2.out.1 q2 true).1 (fun k hk => ?_)
  obtain rfl : g = k := by simpa [Value.ownBlock] using hk
  have hne : g ≠ w.heap.size + 1 := by have := HGS.out; omega
  exact (Go.Deep.blk_setCell_other _ _ _ _ hne).trans (Go.Deep.blk_setCell_other _ _ _ _ hne)
end Go.Proofs.Ytbmnnmcnmfgbaaa.PG
end
section
/-
  The statements' graph: L23.Made; the joins as a function of two nodes.
-/
namespace Go.Proofs.Ytbmnnmcnmfgbaaa.PG
open Go.RowKit Go.Shelf Go.Proofs.YtbmnnmcnmfgbaaaW.PrintWords Go.Proofs.YtbmnnmcnmfgbaaaW.PrintLast Go.Proofs.YtbmnnmcnmfgbaaaW.PrintMore
open Go.Proofs.Ytbmnnmcnmfgbaaa.PB Go.Proofs.Ytbmnnmcnmfgbaaa.PC
set_option linter.unusedVariables false
set_option linter.unusedSimpArgs false

/-- Are two numbers joined by a list of joins? -/
def adjOf (n : Nat) (js : List (Int × Int)) (a b : Nat) : Bool := (decide (a < n) && decide (b < n)) && (!decide (a = b) && js.any fun p => (p.1 == (a : Int) && p.2 == (b : Int)) || (p.1 == (b : Int) && p.2 == (a : Int)))
theorem adjOf_symm (n : Nat) (js : List (Int × Int)) (a b : Nat) : adjOf n js a b = adjOf n js b a := by
  unfold adjOf
  congr 1
  · exact Bool.and_comm _ _
  · congr 1
    · by_cases e : a = b
      · subst e; rfl
      · have e2 : ¬ b = a := fun h => e h.symm
        simp [e, e2]
    · congr 1; funext p; exact Bool.or_comm _ _
theorem adjOf_lt {n : Nat} {js : List (Int × Int)} {a b : Nat} (h : adjOf n js a b = true) : a < n ∧ b < n ∧ a ≠ b := by
  unfold adjOf at h
  simp only [Bool.and_eq_true, decide_eq_true_eq, Bool.not_eq_true', decide_eq_false_iff_not] at h
  exact ⟨h.1.1, h.1.2, h.2.1⟩
theorem adjOf_snoc (n : Nat) (js : List (Int × Int)) (p : Int × Int) (a b : Nat) : adjOf n (js ++ [p]) a b = (adjOf n js a b || ((decide (a < n) && decide (b < n)) && (!decide (a = b) && ((p.1 == (a : Int) && p.2 == (b : Int)) || (p.1 == (b : Int) && p.2 == (a : Int)))))) := by
  unfold adjOf
  rw [List.any_append]
  simp only [List.any_cons, List.any_nil, Bool.or_false]
  cases decide (a < n) <;> cases decide (b < n) <;> cases decide (a = b) <;> simp
/-- The graph's rows say just who is joined. -/
structure GrIs (nbs : List (List Int)) (n : Nat) (adj : Nat → Nat → Bool) : Prop where
  len : nbs.length = n
  row : ∀ a, a < n → Nrm (nbs.getD a []) (fun i => adj a i)
  short : ∀ a, a < n → (nbs.getD a []).length ≤ 64
/-- The reference's row says just who is joined. -/
structure RefIs (on : List Bool) (n : Nat) (adj : Nat → Nat → Bool) : Prop where
  len : on.length = n * n
  at_ : ∀ a b, a < n → b < n → on.getD (a * n + b) false = adj a b
theorem adjOf_nil (n a b : Nat) : adjOf n [] a b = false := by unfold adjOf; simp
theorem GrIs.gok {nbs : List (List Int)} {n : Nat} {adj : Nat → Nat → Bool} (h : GrIs nbs n adj) (hn : n ≤ 400) (hlt : ∀ a b, adj a b = true → a < n ∧ b < n) : Gok nbs := by
  refine ⟨by rw [h.len]; exact hn, fun a b hb => ?_, fun l hl => ?_⟩
  · by_cases ha : a < n
    · rw [(h.row a ha).tb] at hb
      rw [h.len]; exact (hlt a b hb).2
    · rw [List.getD_eq_getElem?_getD, List.getElem?_eq_none (by rw [h.len]; omega)] at hb
      simp [tb, rd] at hb
  · obtain ⟨a, ha, rfl⟩ := List.mem_iff_getElem.1 hl
    have := h.short a (by rw [← h.len]; exact ha)
    rw [List.getD_eq_getElem?_getD, List.getElem?_eq_getElem ha] at this
    simp at this
    omega
theorem GrIs.gsym {nbs : List (List Int)} {n : Nat} {adj : Nat → Nat → Bool} (h : GrIs nbs n adj) (hs : ∀ a b, adj a b = adj b a) : Gsym nbs := fun a b ha hb => by
  rw [h.len] at ha hb
  rw [(h.row a ha).tb, (h.row b hb).tb, hs]
theorem GrIs.okw {nbs : List (List Int)} {n : Nat} {adj : Nat → Nat → Bool} (h : GrIs nbs n adj) : ∀ l ∈ nbs, okW l ∧ l.length ≤ 1000000 := fun l hl => by
  obtain ⟨a, ha, rfl⟩ := List.mem_iff_getElem.1 hl
  have h1 := h.short a (by rw [← h.len]; exact ha)
  have h2 := (h.row a (by rw [← h.len]; exact ha)).ok
  rw [List.getD_eq_getElem?_getD, List.getElem?_eq_getElem ha] at h1 h2
  simp at h1 h2
  exact ⟨h2, by omega⟩
theorem GrIs.has {nbs : List (List Int)} {n : Nat} {adj : Nat → Nat → Bool} (h : GrIs nbs n adj) (hlt : ∀ a b, adj a b = true → a < n ∧ b < n) (a b : Nat) : hasB nbs (a : Int) (b : Int) = adj a b := by
  unfold hasB
  by_cases ha : a < n
  · have h1 : isB nbs (a : Int) = true := by simp [isB, h.len]; omega
    rw [h1, Int.toNat_natCast, Int.toNat_natCast, (h.row a ha).tb]
    simp
  · have h1 : isB nbs (a : Int) = false := by simp [isB, h.len]; omega
    rw [h1, Bool.false_and]
    cases e : adj a b
    · rfl
    · exact absurd (hlt a b e).1 ha
theorem GrIs.start (n : Nat) : GrIs (List.replicate n []) n (adjOf n []) := by
  refine ⟨by simp, fun a ha => ?_, fun a ha => by simp [ha]⟩
  have e : (List.replicate n ([] : List Int)).getD a [] = [] := by simp [ha]
  rw [e]
  exact ⟨okW.nil, rfl, fun i => by rw [adjOf_nil]; simp [tb, rd]⟩
theorem GrIs.join {nbs : List (List Int)} {n : Nat} {adj adj' : Nat → Nat → Bool} (h : GrIs nbs n adj) (hn : n ≤ 400) {a b : Nat} (ha : a < n) (hb : b < n) (hab : a ≠ b) {ra rb : List Int}
    (hra : Nrm ra (fun i => tb (nbs.getD a []) i || (decide (i < 4096) && decide ((b : Int) = (i : Int))))) (hrb : Nrm rb (fun i => tb (nbs.getD b []) i || (decide (i < 4096) && decide ((a : Int) = (i : Int)))))
    (hla : ra.length ≤ 64) (hlb : rb.length ≤ 64) (hadj : ∀ x y, adj' x y = (adj x y || ((decide (x = a) && decide (y = b)) || (decide (x = b) && decide (y = a))))) : GrIs ((nbs.set a ra).set b rb) n adj' := by
  have ea : ((nbs.set a ra).set b rb).getD a [] = ra := by
    rw [List.getD_eq_getElem?_getD, List.getElem?_set_ne (Ne.symm hab), List.getElem?_set_self (by rw [h.len]; exact ha)]; rfl
  have eb : ((nbs.set a ra).set b rb).getD b [] = rb := by
    rw [List.getD_eq_getElem?_getD, List.getElem?_set_self (by rw [List.length_set, h.len]; exact hb)]; rfl
  have ex : ∀ x, x ≠ a → x ≠ b → ((nbs.set a ra).set b rb).getD x [] = nbs.getD x [] := fun x h1 h2 => by
    rw [List.getD_eq_getElem?_getD, List.getElem?_set_ne (Ne.symm h2), List.getElem?_set_ne (Ne.symm h1), List.getD_eq_getElem?_getD]
  refine ⟨by simp [h.len], fun x hx => ?_, fun x hx => ?_⟩
  · by_cases e1 : x = a
    · subst e1
      rw [ea]
      refine hra.congr (fun i => ?_)
      rw [(h.row x ha).tb, hadj]
      have : decide (x = b) = false := decide_eq_false hab
      rw [this]
      by_cases e2 : i = b
      · subst e2; simp; right; omega
      · have : ¬ (b : Int) = (i : Int) := by omega
        simp [e2, this]
    · by_cases e2 : x = b
      · subst e2
        rw [eb]
        refine hrb.congr (fun i => ?_)
        rw [(h.row x hb).tb, hadj]
        by_cases e3 : i = a
        · subst e3
          simp [e1]; right; omega
        · have : ¬ (a : Int) = (i : Int) := by omega
          simp [e1, e3, this]
      · rw [ex x e1 e2]
        refine (h.row x hx).congr (fun i => ?_)
        rw [hadj]; simp [e1, e2]
  · by_cases e1 : x = a
    · subst e1; rw [ea]; exact hla
    · by_cases e2 : x = b
      · subst e2; rw [eb]; exact hlb
      · rw [ex x e1 e2]; exact h.short x hx
theorem idx_lt {n a b : Nat} (ha : a < n) (hb : b < n) : a * n + b < n * n := by
  have : (a + 1) * n ≤ n * n := Nat.mul_le_mul_right n ha
  rw [Nat.add_mul, Nat.one_mul] at this
  omega
theorem idx_inj {n a b x y : Nat} (hb : b < n) (hy : y < n) (h : a * n + b = x * n + y) : a = x ∧ b = y := by
  have h1 : (a * n + b) / n = a := by rw [Nat.mul_comm, Nat.mul_add_div (by omega), Nat.div_eq_of_lt hb]; omega
  have h2 : (x * n + y) / n = x := by rw [Nat.mul_comm, Nat.mul_add_div (by omega), Nat.div_eq_of_lt hy]; omega
  rw [h, h2] at h1
  subst h1
  exact ⟨rfl, by omega⟩
theorem RefIs.start (n : Nat) : RefIs (List.replicate (n * n) false) n (adjOf n []) :=
  ⟨by simp, fun a b ha hb => by rw [adjOf_nil]; simp [idx_lt ha hb]⟩
theorem getD_set (l : List Bool) (i j : Nat) (x : Bool) (hi : i < l.length) : (l.set i x).getD j false = if j = i then x else l.getD j false := by
  by_cases e : j = i
  · subst e; simp [hi]
  · rw [if_neg e, List.getD_eq_getElem?_getD, List.getElem?_set_ne (Ne.symm e), List.getD_eq_getElem?_getD]
theorem RefIs.join {on : List Bool} {n : Nat} {adj adj' : Nat → Nat → Bool} (h : RefIs on n adj) {a b : Nat} (ha : a < n) (hb : b < n)
    (hadj : ∀ x y, adj' x y = (adj x y || ((decide (x = a) && decide (y = b)) || (decide (x = b) && decide (y = a))))) : RefIs ((on.set (a * n + b) true).set (b * n + a) true) n adj' := by
  have h1 : a * n + b < on.length := by rw [h.len]; exact idx_lt ha hb
  have h2 : b * n + a < (on.set (a * n + b) true).length := by rw [List.length_set, h.len]; exact idx_lt hb ha
  refine ⟨by simp [h.len], fun x y hx hy => ?_⟩
  rw [getD_set _ _ _ _ h2, getD_set _ _ _ _ h1, h.at_ x y hx hy, hadj]
  by_cases e1 : x * n + y = b * n + a
  · obtain ⟨rfl, rfl⟩ := idx_inj hy ha e1
    simp
  · rw [if_neg e1]
    by_cases e2 : x * n + y = a * n + b
    · obtain ⟨rfl, rfl⟩ := idx_inj hy hb e2
      simp
    · rw [if_neg e2]
      have n1 : ¬ (x = b ∧ y = a) := fun ⟨u, v⟩ => e1 (by rw [u, v])
      have n2 : ¬ (x = a ∧ y = b) := fun ⟨u, v⟩ => e2 (by rw [u, v])
      rw [← Bool.decide_and, ← Bool.decide_and, decide_eq_false n1, decide_eq_false n2]
      simp

/-! ### the walk -/
theorem results_tmp_row {P : Program} {fn : Func} {p u : Tmp} {ty : TypeId} (h : fn.results = #[.tmp u, .cell p ty]) (tmps : Array Value) (w : World) (g : Nat) (t : TypeId) (cs : Array Value) (fr : Nat × Nat) (d : TypeDesc)
    (hp : tmps.getD p undef = .pointer (some ⟨g, 0, none⟩)) (hg : w.heap[g]? = some (.cells cs t fr))
    (hu : P.underlying ty = some d) (hd : (match d with | .struct _ | .array _ _ => true | _ => false) = true) (hi : (P.info? ty).map (·.size) = some cs.size) :
    (results fn tmps).run P w = .ok (.tuple #[tmps.getD u undef, .agg cs]) w := by
  have hp' : tmps[p]?.getD undef = .pointer (some ⟨g, 0, none⟩) := by simpa using hp
  simp [results, h, hp', asAddr, run_loadVar_row w g t ty cs fr d hg hu hd hi]
/-- The guard lets in what has so many nodes and joins. -/
def okMade (n : Int) (k : Nat) : Bool := (decide (0 ≤ n) && decide (n ≤ 40)) && decide (k ≤ 800)
set_option maxRecDepth 100000 in
set_option maxHeartbeats 1000000 in
theorem made_no (n : Int) (A : Option Addr) (len cap : Nat) (w : World) (h : okMade n len = false) :
    Calls Try.prog 33 #[.int .i64 n, .slice A len cap] w fun e w' => e = .returned (.tuple #[.pointer none, .agg #[.int .i64 0, .slice none 0 0]]) ∧ Below w.heap.size w w' := by
  have hu44 := Try.underlying44
  have HB := Aside0.mk (below_alloc (Below.refl w.heap.size w) (Obj.cells #[Value.int .i64 0, Value.slice none 0 0] 44))
  have hh := World.alloc_heap_new w (Obj.cells #[Value.int .i64 0, Value.slice none 0 0] 44)
  have HH := Aside0.mk hh
  clear hh
  by_cases h0 : n < 0
  · have d0 : decide (n < 0) = true := decide_eq_true h0
    clear h h0
    go_enter Try.func33, Try.ntmps33
    go_wp2
    (try simp only [Exit.inBlock, Exit.then])
    refine bodyPost_ret (results_tmp_row (ty := 44) rfl _ _ w.heap.size 44 #[Value.int .i64 0, Value.slice none 0 0] (0, 0) _ rfl HH.out Try.underlying44 rfl info44) rfl ?_
    exact ⟨rfl, HB.out⟩
  by_cases h1 : n > 40
  · have d0 : decide (n < 0) = false := decide_eq_false h0
    have d1 : decide (n > 40) = true := decide_eq_true h1
    clear h h0 h1
    go_enter Try.func33, Try.ntmps33
    go_wp2
    (try simp only [Exit.inBlock, Exit.then])
    refine bodyPost_ret (results_tmp_row (ty := 44) rfl _ _ w.heap.size 44 #[Value.int .i64 0, Value.slice none 0 0] (0, 0) _ rfl HH.out Try.underlying44 rfl info44) rfl ?_
    exact ⟨rfl, HB.out⟩
  · have hl : 800 < len := by
      unfold okMade at h
      simp at h
      exact h (by omega) (by omega)
    have d0 : decide (n < 0) = false := decide_eq_false h0
    have d1 : decide (n > 40) = false := decide_eq_false h1
    have d2 : decide ((len : Int) > 800) = true := decide_eq_true (by omega)
    clear h h0 h1
    go_enter Try.func33, Try.ntmps33
    go_wp2
    (try simp only [Exit.inBlock, Exit.then])
    refine bodyPost_ret (results_tmp_row (ty := 44) rfl _ _ w.heap.size 44 #[Value.int .i64 0, Value.slice none 0 0] (0, 0) _ rfl HH.out Try.underlying44 rfl info44) rfl ?_
    exact ⟨rfl, HB.out⟩
end Go.Proofs.Ytbmnnmcnmfgbaaa.PG
end
section
/-
  One round of L23.Made: a join in the graph, and the same one in the document's graph.
-/
namespace Go.Proofs.Ytbmnnmcnmfgbaaa.PG
open Go.RowKit Go.Shelf Go.Proofs.YtbmnnmcnmfgbaaaW.PrintWords Go.Proofs.YtbmnnmcnmfgbaaaW.PrintLast Go.Proofs.YtbmnnmcnmfgbaaaW.PrintMore
open Go.Proofs.Ytbmnnmcnmfgbaaa.PB Go.Proofs.Ytbmnnmcnmfgbaaa.PC
set_option linter.unusedVariables false
set_option linter.unusedSimpArgs false

/-- Does a join add something? -/
def newJ (n : Nat) (adj : Nat → Nat → Bool) (a b : Int) : Bool := (decide (0 ≤ a) && decide (a < (n : Int))) && ((decide (0 ≤ b) && decide (b < (n : Int))) && (!decide (a = b) && !adj a.toNat b.toNat))
theorem adjOf_old {n : Nat} {js : List (Int × Int)} {a b : Int} (h : newJ n (adjOf n js) a b = false) (x y : Nat) : adjOf n (js ++ [(a, b)]) x y = adjOf n js x y := by
  rw [adjOf_snoc]
  cases e : adjOf n js x y with
  | true => rfl
  | false =>
    rw [Bool.false_or]
    by_cases hx : x < n
    · by_cases hy : y < n
      · by_cases hxy : x = y
        · simp [hxy]
        · by_cases h1 : a = (x : Int) ∧ b = (y : Int)
          · obtain ⟨rfl, rfl⟩ := h1
            unfold newJ at h
            simp [e, hx, hy, hxy] at h
            omega
          · by_cases h2 : a = (y : Int) ∧ b = (x : Int)
            · obtain ⟨rfl, rfl⟩ := h2
              unfold newJ at h
              rw [Int.toNat_natCast, Int.toNat_natCast, adjOf_symm n js y x, e] at h
              simp [hx, hy, hxy] at h
              omega
            · have e1 : ((a == (x : Int)) && (b == (y : Int))) = false := by
                rw [Bool.and_eq_false_iff]; by_cases u : a = (x : Int)
                · exact .inr (by simp; exact fun v => h1 ⟨u, v⟩)
                · exact .inl (by simpa using u)
              have e2 : ((a == (y : Int)) && (b == (x : Int))) = false := by
                rw [Bool.and_eq_false_iff]; by_cases u : a = (y : Int)
                · exact .inr (by simp; exact fun v => h2 ⟨u, v⟩)
                · exact .inl (by simpa using u)
              simp only [e1, e2, Bool.or_false, Bool.and_false]
      · simp [hy]
    · simp [hx]
theorem adjOf_new {n : Nat} {js : List (Int × Int)} {a b : Nat} (ha : a < n) (hb : b < n) (hab : a ≠ b) (x y : Nat) : adjOf n (js ++ [((a : Int), (b : Int))]) x y = (adjOf n js x y || ((decide (x = a) && decide (y = b)) || (decide (x = b) && decide (y = a)))) := by
  rw [adjOf_snoc]
  congr 1
  by_cases e1 : x = a
  · subst e1
    by_cases e2 : y = b
    · subst e2; simp [ha, hb, hab]
    · have e3 : ¬ (b : Int) = (y : Int) := by omega
      have e4 : ¬ b = y := by omega
      by_cases e5 : x = b
      · omega
      · have e6 : ¬ (b : Int) = (x : Int) := by omega
        simp [e2, e3, e5, e6, e4]
  · have e3 : ¬ (a : Int) = (x : Int) := by omega
    by_cases e2 : x = b
    · subst e2
      by_cases e5 : y = a
      · subst e5; simp [ha, hb, hab]; try omega
      · have e6 : ¬ (a : Int) = (y : Int) := by omega
        simp [e1, e3, e5, e6]; try (intro _ _ _ h; omega)
    · have e4 : ¬ (b : Int) = (x : Int) := by omega
      simp [e1, e2, e3, e4]
theorem newJ_true {n : Nat} {adj : Nat → Nat → Bool} {a b : Int} (h : newJ n adj a b = true) : ∃ x y : Nat, a = (x : Int) ∧ b = (y : Int) ∧ x < n ∧ y < n ∧ x ≠ y ∧ adj x y = false := by
  unfold newJ at h
  simp only [Bool.and_eq_true, decide_eq_true_eq, Bool.not_eq_true', decide_eq_false_iff_not] at h
  obtain ⟨⟨h1, h2⟩, ⟨h3, h4⟩, h5, h6⟩ := h
  exact ⟨a.toNat, b.toNat, by omega, by omega, by omega, by omega, by omega, h6⟩
theorem below_low {B C : Nat} {w w' : World} (h : Below B w w') (hB : C ≤ B) : Below C w w' := ⟨h.os, h.tape, h.output, h.size, fun k hk => h.block k (Nat.lt_of_lt_of_le hk hB)⟩
theorem own_low {w : World} {base b2 : Nat} {e : TypeId} {size n : Nat} {v : Value} {xs : List Value} (h : w.ownsRow base e size v n xs) (hb : b2 ≤ base) : w.ownsRow b2 e size v n xs :=
  ⟨h.1, h.2.imp id fun ⟨g, cap, cur, h1, h2, h3⟩ => ⟨g, cap, cur, h1, Nat.le_trans hb h2, h3⟩⟩
theorem joinB_new {nbs : List (List Int)} {n : Nat} {js : List (Int × Int)} (h : GrIs nbs n (adjOf n js)) (a b : Int) : joinB nbs a b = newJ n (adjOf n js) a b := by
  unfold joinB newJ
  have e : ∀ x : Int, isB nbs x = (decide (0 ≤ x) && decide (x < (n : Int))) := fun x => by unfold isB; rw [h.len]
  rw [e, e]
  by_cases h1 : 0 ≤ a ∧ a < (n : Int)
  · by_cases h2 : 0 ≤ b ∧ b < (n : Int)
    · obtain ⟨x, rfl⟩ := Int.eq_ofNat_of_zero_le h1.1
      obtain ⟨y, rfl⟩ := Int.eq_ofNat_of_zero_le h2.1
      have := h.has (fun a b h => ⟨(adjOf_lt h).1, (adjOf_lt h).2.1⟩) x y
      rw [this, Int.toNat_natCast, Int.toNat_natCast]
    · have : (decide (0 ≤ b) && decide (b < (n : Int))) = false := by
        rw [Bool.and_eq_false_iff, decide_eq_false_iff_not, decide_eq_false_iff_not]; omega
      rw [this, Bool.false_and, Bool.false_and]
  · have : (decide (0 ≤ a) && decide (a < (n : Int))) = false := by
      rw [Bool.and_eq_false_iff, decide_eq_false_iff_not, decide_eq_false_iff_not]; omega
    rw [this, Bool.false_and, Bool.false_and]
theorem gjoin_calls (base g gr : Nat) (vs : List Value) (nbs : List (List Int)) (n : Nat) (js : List (Int × Int)) (a b : Int) (w : World) (hG : GraphAt w base g gr vs nbs) (hI : GrIs nbs n (adjOf n js)) (hbase : base ≤ w.heap.size) (hn : n ≤ 400) (hb : b < 9223372036854775808) :
    Calls Try.prog 64 #[.pointer (some ⟨g, 0, none⟩), .int .i64 a, .int .i64 b] w fun e w' => ∃ ok vs' nbs', e = .returned (.bool ok) ∧ GraphAt w' base g gr vs' nbs' ∧ GrIs nbs' n (adjOf n (js ++ [(a, b)])) ∧ Below base w w' ∧ w.grownBy w' (some gr) := by
  rcases hj : newJ n (adjOf n js) a b
  · refine (join_no _ base nbs a b w (.inr (.inr ⟨g, gr, vs, rfl, hG⟩)) (fun l hl => (hI.okw l hl).1) hb (by rw [joinB_new hI, hj])).mono ?_
    rintro e w' ⟨rfl, hd⟩
    have hb1 := hd.below
    have e1 : adjOf n (js ++ [(a, b)]) = adjOf n js := funext fun x => funext fun y => adjOf_old hj x y
    refine ⟨false, vs, nbs, rfl, hG.below hb1, by rw [e1]; exact hI, below_low hb1 hbase, grown_of_below hb1 (some gr)⟩
  · obtain ⟨x, y, rfl, rfl, hx, hy, hxy, hadj⟩ := newJ_true hj
    have hh : hasB nbs (x : Int) (y : Int) = false := by rw [hI.has (fun a b h => ⟨(adjOf_lt h).1, (adjOf_lt h).2.1⟩), hadj]
    refine (join_yes base g gr vs nbs x y w hG hbase hI.okw (by rw [hI.len]; exact hx) (by rw [hI.len]; exact hy) hxy hh (by rw [hI.len]; omega)).mono ?_
    rintro e w' ⟨rfl, vs', ra, rb, hG', hra, hla, hrb, hlb, hbl, hgr⟩
    refine ⟨true, vs', _, rfl, hG', ?_, hbl, hgr⟩
    have hsa := hI.short x hx
    have hsb := hI.short y hy
    exact hI.join hn hx hy hxy hra hrb (by omega) (by omega) (adjOf_new hx hy hxy)
theorem node_f (n : Nat) (on : List Bool) (a : Int) : horariumref23_Node.f (n : Int) on a = some (decide (0 ≤ a) && decide (a < (n : Int))) := by
  unfold horariumref23_Node.f
  by_cases h : 0 ≤ a
  · rw [if_pos h, decide_eq_true h, Bool.true_and]
  · rw [if_neg h, decide_eq_false h, Bool.false_and]
theorem wrap_idx (a n b : Nat) (h : a * n + b < 1000000) : wrap64 (wrap64 ((a : Int) * (n : Int)) + (b : Int)) = ((a * n + b : Nat) : Int) := by
  rw [← Int.natCast_mul]
  generalize a * n = z at h
  unfold wrap64; omega
theorem has_f {n : Nat} {on : List Bool} {adj : Nat → Nat → Bool} (h : RefIs on n adj) (hn : n ≤ 400) {a b : Nat} (ha : a < n) (hb : b < n) : horariumref23_Has.f (n : Int) on (a : Int) (b : Int) = some (adj a b) := by
  have h2 := idx_lt ha hb
  have h3 : n * n ≤ 400 * 400 := Nat.mul_le_mul hn hn
  have e := wrap_idx a n b (by omega)
  have e1 : (decide (0 ≤ (a : Int)) && decide ((a : Int) < (n : Int))) = true := by
    rw [decide_eq_true (Int.natCast_nonneg a), decide_eq_true (Int.ofNat_lt.2 ha)]; rfl
  have e2 : (decide (0 ≤ (b : Int)) && decide ((b : Int) < (n : Int))) = true := by
    rw [decide_eq_true (Int.natCast_nonneg b), decide_eq_true (Int.ofNat_lt.2 hb)]; rfl
  have h4 := h.at_ a b ha hb
  have h5 := h.len
  unfold horariumref23_Has.f
  rw [node_f, node_f, e1, e2, e, Option.bind_some, if_pos rfl, Option.bind_some, if_pos rfl, if_pos (Int.natCast_nonneg _), if_pos (Int.ofNat_lt.2 (by rw [h5]; exact h2))]
  unfold rdOf
  rw [Int.toNat_natCast, h4]
theorem rjoin_calls (base : Nat) (n : Nat) (js : List (Int × Int)) (A : Option Addr) (c : Nat) (on : List Bool) (a b : Int) (w : World) (hr : w.ownsRow base 4 1 (.slice A on.length c) on.length (encs Value.bool on)) (hI : RefIs on n (adjOf n js)) (hbase : base ≤ w.heap.size) (hn : n ≤ 400) :
    Calls Try.prog 65 #[.agg #[.int .i64 n, .slice A on.length c], .int .i64 a, .int .i64 b] w fun e w' => ∃ ok v' on', e = .returned (.tuple #[.agg #[.int .i64 n, v'], .bool ok]) ∧ w'.ownsRow base 4 1 v' on'.length (encs Value.bool on') ∧ RefIs on' n (adjOf n (js ++ [(a, b)])) ∧ Below w.heap.size w w' := by
  have hC : Kd.C Kd.bool w A on.length on ∧ on.length ≤ c := by
    have h1 : Kd.bool.R 4 w base (fun _ => True) (.slice A on.length c) on := Kd.R_of_own hr (fun _ _ => trivial)
    obtain ⟨_, h2, h3⟩ := Kd.R_reads' h1
    exact ⟨h3, h2⟩
  rcases hj : newJ n (adjOf n js) a b
  · have e1 : adjOf n (js ++ [(a, b)]) = adjOf n js := funext fun x => funext fun y => adjOf_old hj x y
    by_cases hab : a = b
    · subst hab
      refine (rjoin_eq n A c on a w).mono ?_
      rintro e w' ⟨rfl, hb⟩
      exact ⟨false, _, on, rfl, own_move hr (fun k hk => hb.block k (own_lt hr k hk)), by rw [e1]; exact hI, hb⟩
    · have hno : ∃ th, ((decide (0 ≤ a) && decide (a < (n : Int))) = true → (decide (0 ≤ b) && decide (b < (n : Int))) = true → horariumref23_Has.f n on a b = some th) ∧ ((decide (0 ≤ a) && decide (a < (n : Int))) = false ∨ (decide (0 ≤ b) && decide (b < (n : Int))) = false ∨ th = true) := by
        rcases h1 : (decide (0 ≤ a) && decide (a < (n : Int)))
        · exact ⟨true, fun h => by simp at h, .inl rfl⟩
        · rcases h2 : (decide (0 ≤ b) && decide (b < (n : Int)))
          · exact ⟨true, fun _ h => by simp at h, .inr (.inl rfl)⟩
          · refine ⟨true, fun _ _ => ?_, .inr (.inr rfl)⟩
            simp only [Bool.and_eq_true, decide_eq_true_eq] at h1 h2
            obtain ⟨x, rfl⟩ := Int.eq_ofNat_of_zero_le h1.1
            obtain ⟨y, rfl⟩ := Int.eq_ofNat_of_zero_le h2.1
            rw [has_f hI hn (by omega) (by omega)]
            unfold newJ at hj
            simp [hab] at hj
            rw [hj (by omega) (by omega)]
      obtain ⟨th, hh, hno⟩ := hno
      refine (rjoin_no n A c on a b w hC.1 hC.2 _ _ th hab (node_f n on a) (node_f n on b) hh hno).mono ?_
      rintro e w' ⟨rfl, hb⟩
      exact ⟨false, _, on, rfl, own_move hr (fun k hk => hb.block k (own_lt hr k hk)), by rw [e1]; exact hI, hb⟩
  · obtain ⟨x, y, rfl, rfl, hx, hy, hxy, hadj⟩ := newJ_true hj
    have i1 := idx_lt hx hy
    have i2 := idx_lt hy hx
    have i3 : n * n ≤ 400 * 400 := Nat.mul_le_mul hn hn
    have hl := hI.len
    have m1 : x * n ≤ x * n + y := by omega
    have m2 : y * n ≤ y * n + x := by omega
    refine (rjoin_yes n A c on x y w hC.1 hC.2 (by omega) (by rw [node_f]; simp; omega) (by rw [node_f]; simp; omega) (by rw [has_f hI hn hx hy, hadj])
      ((x * n : Nat) : Int) ((x * n + y : Nat) : Int) ((y * n : Nat) : Int) ((y * n + x : Nat) : Int) ?_ ?_ ?_ ?_ ?_ ?_ (by omega)).mono ?_
    · rw [← Int.natCast_mul]; generalize x * n = z at *; unfold wrap64; omega
    · generalize x * n = z at *; unfold wrap64; omega
    · rw [← Int.natCast_mul]; generalize y * n = z at *; unfold wrap64; omega
    · generalize y * n = z at *; unfold wrap64; omega
    · omega
    · omega
    · rintro e w' ⟨v, rfl, ho, hb⟩
      rw [Int.toNat_natCast, Int.toNat_natCast] at ho
      refine ⟨true, v, _, rfl, ?_, hI.join hx hy (adjOf_new hx hy hxy), hb⟩
      have e : ((on.set (x * n + y) true).set (y * n + x) true).length = on.length := by simp
      rw [e]
      exact own_low ho hbase
end Go.Proofs.Ytbmnnmcnmfgbaaa.PG
end
section
/-
  The statements' graph: L23.Made (two graphs of the same joins).
-/
namespace Go.Proofs.Ytbmnnmcnmfgbaaa.PG
open Go.RowKit Go.Shelf Go.Proofs.YtbmnnmcnmfgbaaaW.PrintWords Go.Proofs.YtbmnnmcnmfgbaaaW.PrintLast Go.Proofs.YtbmnnmcnmfgbaaaW.PrintMore
open Go.Proofs.Ytbmnnmcnmfgbaaa.PB Go.Proofs.Ytbmnnmcnmfgbaaa.PC
set_option linter.unusedVariables false
set_option linter.unusedSimpArgs false

/-- What stands while the joins are put in: the graph's and the reference's. -/
structure MadeAt (w : World) (b1 b7 g gr n : Nat) (js1 js2 : List (Int × Int)) (vs : List Value) (nbs : List (List Int)) (v : Value) (on : List Bool) (wr : World) : Prop where
  graph : GraphAt wr (w.heap.size + 1) g gr vs nbs
  is : GrIs nbs n (adjOf n js1)
  box : wr.heap[b7]? = some (.cells #[.int .i64 n, v] 44 (0, 0))
  own : wr.ownsRow b1 4 1 v on.length (encs Value.bool on)
  ref : RefIs on n (adjOf n js2)
  res : wr.heap[w.heap.size]? = some (.cells #[.int .i64 0, .slice none 0 0] 44 (0, 0))
  below : Below w.heap.size w wr
  grlt : gr < b1
  blt : b1 ≤ b7
section
variable {w wr w2 : World} {b1 b7 g gr n : Nat} {js1 js2 js : List (Int × Int)} {vs vs' : List Value} {nbs nbs' : List (List Int)} {v : Value} {on : List Bool}
theorem MadeAt.step (h : MadeAt w b1 b7 g gr n js1 js2 vs nbs v on wr) (hb : Below wr.heap.size wr w2) : MadeAt w b1 b7 g gr n js1 js2 vs nbs v on w2 :=
  ⟨h.graph.below hb, h.is, (hb.block _ (lt_of_block h.box)).trans h.box, own_move h.own (fun k hk => hb.block k (own_lt h.own k hk)), h.ref, (hb.block _ (lt_of_block h.res)).trans h.res, below_then h.below h.below.size hb, h.grlt, h.blt⟩
theorem MadeAt.drew (h : MadeAt w b1 b7 g gr n js1 js2 vs nbs v on wr) : MadeAt w b1 b7 g gr n js1 js2 vs nbs v on wr.drew := h.step (below_drew (Below.refl _ _))
theorem MadeAt.size (h : MadeAt w b1 b7 g gr n js1 js2 vs nbs v on wr) : w.heap.size + 1 ≤ wr.heap.size := lt_of_block h.res
theorem MadeAt.joined (h : MadeAt w b1 b7 g gr n js1 js2 vs nbs v on wr) (hG : GraphAt w2 (w.heap.size + 1) g gr vs' nbs') (hI : GrIs nbs' n (adjOf n js)) (hb : Below (w.heap.size + 1) wr w2) (hg : wr.grownBy w2 (some gr)) : MadeAt w b1 b7 g gr n js js2 vs' nbs' v on w2 := by
  have h1 := h.graph.gr_base
  have h2 := h.grlt
  have h3 := h.blt
  refine ⟨hG, hI, (hg.block _ (lt_of_block h.box) (by simp; omega)).trans h.box, own_move h.own (fun k hk => hg.block k (own_lt h.own k hk) ?_), h.ref, (hb.block _ (by omega)).trans h.res, h.below.trans (below_low hb (by omega)), h2, h3⟩
  have := own_base h.own k hk
  simp; omega
theorem own_apart {w : World} {base : Nat} {e : TypeId} {size n : Nat} {u : Value} {xs : List Value} (h : w.ownsRow base e size u n xs) {b : Nat} {cs : Array Value} {t : TypeId} (hb : w.heap[b]? = some (.cells cs t (0, 0))) (hne : e ≠ t) (k : Nat) (hk : u.ownBlock = some k) : k ≠ b := fun hkb => by
  obtain ⟨cells, hc⟩ := own_typed h k hk
  rw [hkb, hb] at hc
  injection hc with hc
  injection hc with _ hc _
  exact hne hc.symm
theorem MadeAt.stored (h : MadeAt w b1 b7 g gr n js1 js2 vs nbs v on wr) {v' : Value} {on' : List Bool} (ho : w2.ownsRow b1 4 1 v' on'.length (encs Value.bool on')) (hr : RefIs on' n (adjOf n js)) (hb : Below wr.heap.size wr w2) :
    MadeAt w b1 b7 g gr n js1 js vs nbs v' on' ((w2.setCell ⟨b7, 0, none⟩ (.int .i64 n)).setCell ⟨b7, 1, none⟩ v') := by
  have h2 := h.step hb
  have hbox := h2.box
  have h1 := h2.graph.gr_base
  have h3 := h2.grlt
  have h4 := h2.blt
  have far : ∀ k, k ≠ b7 → ((w2.setCell ⟨b7, 0, none⟩ (.int .i64 n)).setCell ⟨b7, 1, none⟩ v').heap[k]? = w2.heap[k]? := fun k hk =>
    (Below.heap_setCell _ ⟨b7, 1, none⟩ _ k hk).trans (Below.heap_setCell _ ⟨b7, 0, none⟩ _ k hk)
  have hgne : g ≠ b7 := fun e => by have := h2.graph.head; rw [e, hbox] at this; injection this with this; injection this with _ this _; cases this
  have hrne : gr ≠ b7 := by omega
  refine ⟨⟨h2.graph.g_base, h2.graph.gr_base, h2.graph.len, (far g hgne).trans h2.graph.head, (far gr hrne).trans h2.graph.row, fun i hi => ?_⟩, h2.is, ?_, ?_, hr, (far _ (by omega)).trans h2.res, ?_, h3, h4⟩
  · exact own_move (h2.graph.own i hi) (fun k hk => far k (own_apart (h2.graph.own i hi) hbox (by decide) k hk))
  · rw [heap_set (heap_set hbox 0 _) 1 _]; rfl
  · exact own_move ho (fun k hk => far k (own_apart ho hbox (by decide) k hk))
  · exact below_store (below_store h2.below (by omega) 0 _) (by omega) 1 _
end
theorem take_snoc2 (js : List (Int × Int)) {k : Nat} (hk : k < js.length) {x y : Int} (hx : (js.getD k (0, 0)).1 = x) (hy : (js.getD k (0, 0)).2 = y) : js.take (k + 1) = js.take k ++ [(x, y)] := by
  rw [List.take_succ_eq_append_getElem hk]
  rw [List.getD_eq_getElem?_getD, List.getElem?_eq_getElem hk] at hx hy
  simp only [Option.getD_some] at hx hy
  rw [← hx, ← hy]
/-- The joins that come in. -/
def JoinsIn (w : World) (A : Option Addr) (js : List (Int × Int)) : Prop := ∀ i, i < js.length → ∃ ad, A = some ad ∧ w.cell? (ad.add (i * 2)) = some (.int .i64 (js.getD i (0, 0)).1) ∧ w.cell? ⟨(ad.add (i * 2)).block, (ad.add (i * 2)).off + 1, none⟩ = some (.int .i64 (js.getD i (0, 0)).2) ∧ (js.getD i (0, 0)).2 < 9223372036854775808
theorem rnew_f (n : Nat) (hn : n ≤ 40) : horariumref23_New.f (n : Int) = some ((n : Int), List.replicate (n * n) false) := by
  have h1 : n * n ≤ 40 * 40 := Nat.mul_le_mul hn hn
  have e : wrap64 ((n : Int) * (n : Int)) = ((n * n : Nat) : Int) := by
    rw [← Int.natCast_mul]; unfold wrap64; omega
  unfold horariumref23_New.f
  rw [e, if_pos (by omega), if_pos (by omega), Int.toNat_natCast]
set_option maxRecDepth 100000 in
set_option maxHeartbeats 1000000 in
theorem made_yes (n : Nat) (A : Option Addr) (cap : Nat) (js : List (Int × Int)) (w : World) (hn : n ≤ 40) (hk : js.length ≤ 800) (hj : JoinsIn w A js) :
    Calls Try.prog 33 #[.int .i64 n, .slice A js.length cap] w fun e w' => ∃ q v nbs on, e = .returned (.tuple #[.pointer (some ⟨q, 0, none⟩), .agg #[.int .i64 n, v]]) ∧ IsG w' w.heap.size (some ⟨q, 0, none⟩) nbs ∧ GrIs nbs n (adjOf n js) ∧ RefIs on n (adjOf n js) ∧ w'.ownsRow w.heap.size 4 1 v on.length (encs Value.bool on) ∧ Below w.heap.size w w' := by
  have hu44 := Try.underlying44
  have d0 : decide ((n : Int) < 0) = false := decide_eq_false (by omega)
  have d1 : decide ((n : Int) > 40) = false := decide_eq_false (by omega)
  have d2 : decide ((js.length : Int) > 800) = false := decide_eq_false (by omega)
  have HN := Aside0.mk (And.intro hn hk)
  have HJ := Aside0.mk hj
  clear hn hk hj
  go_enter Try.func33, Try.ntmps33
  go_wp2_with fail
  refine (new_yes n (by have := HN.out; omega) _).mono ?_
  rintro e w1 ⟨g, gr, rfl, hG, hb1⟩
  have HG := Aside0.mk hG
  have HB1 := Aside0.mk hb1
  clear hG hb1
  go_wp2_with fail
  refine (horariumref23_New.calls (n : Int) (n : Int) (List.replicate (n * n) false) _ (rnew_f n HN.out.1)).mono ?_
  rintro e w2 ⟨v2, rfl, hR2, hb2⟩
  obtain ⟨A2, c2, rfl⟩ := own_slice (Kd.own_of_R hR2)
  have HR2 := Aside0.mk hR2
  have HB2 := Aside0.mk hb2
  clear hR2 hb2
  have hlt1 : w.heap.size + 1 ≤ w1.heap.size := by have := HB1.out.size; rw [World.size_alloc] at this; exact this
  have HZ := Aside0.mk (World.alloc_heap_new w (Obj.cells #[Value.int .i64 0, Value.slice none 0 0] 44))
  have HM0 := Aside0.mk (below_alloc (w := w) (Below.refl w.heap.size w) (Obj.cells #[Value.int .i64 0, Value.slice none 0 0] 44))
  have HL2 := Aside0.mk HB2.out.size
  go_wp2
  go_loopg [8] js.length (fun m i wr => ∃ k, Aside0 (k + m = js.length) ∧ i = .int .i64 k ∧ Aside0 (∃ vs nbs v on, MadeAt w w1.heap.size w2.heap.size g gr n (js.take k) (js.take k) vs nbs v on wr))
  case atStart =>
    refine ⟨0, ⟨by omega⟩, rfl, ⟨List.replicate n (.slice none 0 0), List.replicate n [], .slice A2 (n * n) c2, List.replicate (n * n) false, ?_⟩⟩
    have hb3 : Below w2.heap.size w2 (w2.alloc (Obj.cells #[Value.int .i64 n, Value.slice A2 (n * n) c2] 44)) := below_alloc (Below.refl _ _) _
    have hb2 : Below w1.heap.size w1 (w2.alloc (Obj.cells #[Value.int .i64 n, Value.slice A2 (n * n) c2] 44)) := below_then HB2.out HL2.out hb3
    have e1 : (w.alloc (Obj.cells #[Value.int .i64 0, Value.slice none 0 0] 44)).heap.size = w.heap.size + 1 := World.size_alloc _ _
    have hG := HG.out
    have hB1 := HB1.out
    rw [e1] at hG hB1
    have ho := Kd.own_of_R HR2.out
    rw [List.length_replicate] at ho
    have hz1 : w1.heap[w.heap.size]? = some (.cells #[.int .i64 0, .slice none 0 0] 44 (0, 0)) := (hB1.block _ (by omega)).trans HZ.out
    rw [List.take_zero]
    refine ⟨hG.below hb2, GrIs.start n, World.alloc_heap_new _ _, ?_, RefIs.start n, (hb2.block _ (lt_of_block hz1)).trans hz1, below_then ((HM0.out).trans (below_low hB1 (by omega))) (by omega) hb2, lt_of_block hG.row, HL2.out⟩
    rw [List.length_replicate]
    exact own_move ho (fun q hq => hb3.block q (own_lt ho q hq))
  case round =>
    obtain ⟨k, HK, rfl, HC⟩ := hrel
    obtain ⟨vs, nbs, v, on, hM⟩ := HC.out
    have HM := Aside0.mk hM
    clear hM HC
    by_cases hlt : k < js.length
    · obtain ⟨ad, rfl, hc1, hc2, hj2⟩ := HJ.out k hlt
      have HJ2 := Aside0.mk hj2
      clear hj2
      obtain ⟨x1, hx1⟩ : ∃ x, (js.getD k (0, 0)).1 = x := ⟨_, rfl⟩
      obtain ⟨x2, hx2⟩ : ∃ x, (js.getD k (0, 0)).2 = x := ⟨_, rfl⟩
      rw [hx1] at hc1
      rw [hx2] at hc2 HJ2

      have HX := Aside0.mk (take_snoc2 js hlt hx1 hx2)
      have HQ1 := Aside0.mk hc1
      have HQ2 := Aside0.mk hc2
      clear hx1 hx2
      replace hc1 := pw_cell_below HM.out.below hc1
      replace hc2 := pw_cell_below HM.out.below hc2
      have hw1 := wrap_succ (n := js.length) (by have := HN.out; omega) hlt
      go_wp2
      refine start_ (n := 12) (S := (fun w' => w'.cell? (ad.add (k * 2)) = some (.int .i64 x1) ∧ w'.cell? ⟨(ad.add (k * 2)).block, (ad.add (k * 2)).off + 1, none⟩ = some (.int .i64 x2) ∧ Aside0 (MadeAt w w1.heap.size w2.heap.size g gr n (js.take k) (js.take k) vs nbs v on w'))) (ds := [11]) #[false, false, false, false, false, false, false, false, false, false, false, false] (by kernel_rfl) rfl rfl (⟨hc1, hc2, ⟨HM.out.drew⟩⟩) (fun hHeld => ?_)
      refine pure_ (i := 0) (N := some 31) (v := ?_) (a' := ?_) #[true, false, false, false, false, false, false, false, false, false, false, false] rfl rfl (by kernel_rfl) (fun _ _ _ h => h) (Or.inl ⟨by rfl, ?_⟩) ?_ ?_
      rotate_left
      · intro w'
        go_simp
        with_reducible rfl
      rotate_left
      · simp only [Act.put, List.setIfInBounds_toArray, List.set_cons_zero, List.set_cons_succ, i64_w, i32_w]
        rfl
      refine pure_ (i := 1) (N := some 32) (v := ?_) (a' := ?_) #[true, true, false, false, false, false, false, false, false, false, false, false] rfl rfl (by kernel_rfl) (fun _ _ _ h => h) (Or.inl ⟨by rfl, ?_⟩) ?_ ?_
      rotate_left
      · intro w'
        go_simp
        with_reducible rfl
      rotate_left
      · simp only [Act.put, List.setIfInBounds_toArray, List.set_cons_zero, List.set_cons_succ, i64_w, i32_w]
        rfl
      refine pure_ (i := 2) (N := some 33) (v := ?_) (a' := ?_) #[true, true, true, false, false, false, false, false, false, false, false, false] rfl rfl (by kernel_rfl) (fun _ _ _ h => h) (Or.inl ⟨by rfl, ?_⟩) ?_ ?_
      rotate_left
      · intro w'
        go_simp
        with_reducible rfl
      rotate_left
      · simp only [Act.put, List.setIfInBounds_toArray, List.set_cons_zero, List.set_cons_succ, i64_w, i32_w]
        rfl
      refine pure_ (i := 3) (N := some 34) (v := ?_) (a' := ?_) #[true, true, true, true, false, false, false, false, false, false, false, false] rfl rfl (by kernel_rfl) (fun _ _ _ h => h) (Or.inl ⟨by rfl, ?_⟩) ?_ ?_
      rotate_left
      · intro w'
        go_simp
        with_reducible rfl
      rotate_left
      · simp only [Act.put, List.setIfInBounds_toArray, List.set_cons_zero, List.set_cons_succ, i64_w, i32_w]
        rfl
      refine pure_ (i := 4) (N := some 35) (v := ?_) (a' := ?_) #[true, true, true, true, true, false, false, false, false, false, false, false] rfl rfl (by kernel_rfl) (fun _ _ _ h => h) (Or.inl ⟨by rfl, ?_⟩) ?_ ?_
      rotate_left
      · intro w'
        go_simp
        with_reducible rfl
      rotate_left
      · simp only [Act.put, List.setIfInBounds_toArray, List.set_cons_zero, List.set_cons_succ, i64_w, i32_w]
        rfl
      refine take_ (i := 5) (N := some 36) (v := ?_) (a' := ?_) #[true, true, true, true, true, true, false, false, false, false, false, false] rfl rfl (by kernel_rfl) (fun _ _ _ h => h) (Or.inl ⟨by rfl, ?_⟩) hHeld ?_ ?_
      rotate_left
      · rintro w' ⟨s0, s1, s2⟩
        go_simp
        with_reducible rfl
      rotate_left
      · simp only [Act.put, List.setIfInBounds_toArray, List.set_cons_zero, List.set_cons_succ, i64_w, i32_w]
        rfl
      refine pure_ (i := 6) (N := some 37) (v := ?_) (a' := ?_) #[true, true, true, true, true, true, true, false, false, false, false, false] rfl rfl (by kernel_rfl) (fun _ _ _ h => h) (Or.inl ⟨by rfl, ?_⟩) ?_ ?_
      rotate_left
      · intro w'
        go_simp
        with_reducible rfl
      rotate_left
      · simp only [Act.put, List.setIfInBounds_toArray, List.set_cons_zero, List.set_cons_succ, i64_w, i32_w]
        rfl
      refine pure_ (i := 7) (N := some 38) (v := ?_) (a' := ?_) #[true, true, true, true, true, true, true, true, false, false, false, false] rfl rfl (by kernel_rfl) (fun _ _ _ h => h) (Or.inl ⟨by rfl, ?_⟩) ?_ ?_
      rotate_left
      · intro w'
        go_simp
        with_reducible rfl
      rotate_left
      · simp only [Act.put, List.setIfInBounds_toArray, List.set_cons_zero, List.set_cons_succ, i64_w, i32_w]
        rfl
      refine pure_ (i := 8) (N := some 39) (v := ?_) (a' := ?_) #[true, true, true, true, true, true, true, true, true, false, false, false] rfl rfl (by kernel_rfl) (fun _ _ _ h => h) (Or.inl ⟨by rfl, ?_⟩) ?_ ?_
      rotate_left
      · intro w'
        go_simp
        with_reducible rfl
      rotate_left
      · simp only [Act.put, List.setIfInBounds_toArray, List.set_cons_zero, List.set_cons_succ, i64_w, i32_w]
        rfl
      refine pure_ (i := 9) (N := some 40) (v := ?_) (a' := ?_) #[true, true, true, true, true, true, true, true, true, true, false, false] rfl rfl (by kernel_rfl) (fun _ _ _ h => h) (Or.inl ⟨by rfl, ?_⟩) ?_ ?_
      rotate_left
      · intro w'
        go_simp
        with_reducible rfl
      rotate_left
      · simp only [Act.put, List.setIfInBounds_toArray, List.set_cons_zero, List.set_cons_succ, i64_w, i32_w]
        rfl
      refine take_ (i := 10) (N := some 41) (v := ?_) (a' := ?_) #[true, true, true, true, true, true, true, true, true, true, true, false] rfl rfl (by kernel_rfl) (fun _ _ _ h => h) (Or.inl ⟨by rfl, ?_⟩) hHeld ?_ ?_
      rotate_left
      · rintro w' ⟨s0, s1, s2⟩
        go_simp
        with_reducible rfl
      rotate_left
      · simp only [Act.put, List.setIfInBounds_toArray, List.set_cons_zero, List.set_cons_succ, i64_w, i32_w]
        rfl
      refine last_ (i := 11) (N := some 42) #[true, true, true, true, true, true, true, true, true, true, true, true] rfl rfl (by kernel_rfl) (by decide) (fun K hK => ?_)
      have HH := Aside0.mk hHeld
      refine goes_ Try.func64 (by kernel_rfl) rfl #[.pointer (some ⟨g, 0, none⟩), .int .i64 x1, .int .i64 x2] (by rfl) rfl rfl (by simp only [List.map_toArray, List.map_cons, List.map_nil]; rfl) ?_
      refine (gjoin_calls (w.heap.size + 1) g gr vs nbs n (js.take k) x1 x2 _ HH.out.2.2.out.graph HH.out.2.2.out.is HH.out.2.2.out.size (by have := HN.out; omega) HJ2.out).mono ?_
      rintro e w3 ⟨ok, vs', nbs', rfl, hG', hI', hb', hg'⟩
      refine ⟨_, rfl, ?_⟩
      refine hK.out _ _ ?_
      clear hK K
      refine done_ (by kernel_rfl) ?_
      have HM3 := Aside0.mk (HH.out.2.2.out.joined hG' hI' hb' hg')
      obtain ⟨A3, c3, rfl⟩ := own_slice HM3.out.own
      have d0 : w3.cell? ⟨w2.heap.size, 0, none⟩ = some (.int .i64 n) := (blk_cell HM3.out.box 0).trans rfl
      have d1 : w3.cell? ⟨w2.heap.size, 1, none⟩ = some (.slice A3 on.length c3) := (blk_cell HM3.out.box 1).trans rfl
      have HB1S : Aside0 (w1.heap.size ≤ w3.drew.heap.size) := ⟨by have := lt_of_block HM3.out.box; have := HM3.out.blt; show _ ≤ w3.heap.size; omega⟩
      clear hc1 hc2 hHeld
      have hc1 := pw_cell_below HM3.out.below HQ1.out
      have hc2 := pw_cell_below HM3.out.below HQ2.out
      go_wp2_with fail
      refine start_ (n := 16) (S := (fun w' => w'.cell? (ad.add (k * 2)) = some (.int .i64 x1) ∧ w'.cell? ⟨(ad.add (k * 2)).block, (ad.add (k * 2)).off + 1, none⟩ = some (.int .i64 x2) ∧ w'.cell? ⟨w2.heap.size, 0, none⟩ = some (.int .i64 n) ∧ w'.cell? ⟨w2.heap.size, 1, none⟩ = some (.slice A3 on.length c3) ∧ Aside0 (MadeAt w w1.heap.size w2.heap.size g gr n (js.take k ++ [(x1, x2)]) (js.take k) vs' nbs' (.slice A3 on.length c3) on w'))) (ds := [11, 15]) #[false, false, false, false, false, false, false, false, false, false, false, false, false, false, false, false] (by kernel_rfl) rfl rfl (⟨hc1, hc2, d0, d1, ⟨HM3.out.drew⟩⟩) (fun hHeld => ?_)
      refine take_ (i := 0) (N := some 44) (v := ?_) (a' := ?_) #[true, false, false, false, false, false, false, false, false, false, false, false, false, false, false, false] rfl rfl (by kernel_rfl) (fun _ _ _ h => h) (Or.inl ⟨by rfl, ?_⟩) hHeld ?_ ?_
      rotate_left
      · rintro w' ⟨s0, s1, s2, s3, s4⟩
        go_simp
        with_reducible rfl
      rotate_left
      · simp only [Act.put, List.setIfInBounds_toArray, List.set_cons_zero, List.set_cons_succ, i64_w, i32_w]
        rfl
      refine pure_ (i := 1) (N := some 45) (v := ?_) (a' := ?_) #[true, true, false, false, false, false, false, false, false, false, false, false, false, false, false, false] rfl rfl (by kernel_rfl) (fun _ _ _ h => h) (Or.inl ⟨by rfl, ?_⟩) ?_ ?_
      rotate_left
      · intro w'
        go_simp
        with_reducible rfl
      rotate_left
      · simp only [Act.put, List.setIfInBounds_toArray, List.set_cons_zero, List.set_cons_succ, i64_w, i32_w]
        rfl
      refine pure_ (i := 2) (N := some 46) (v := ?_) (a' := ?_) #[true, true, true, false, false, false, false, false, false, false, false, false, false, false, false, false] rfl rfl (by kernel_rfl) (fun _ _ _ h => h) (Or.inl ⟨by rfl, ?_⟩) ?_ ?_
      rotate_left
      · intro w'
        go_simp
        with_reducible rfl
      rotate_left
      · simp only [Act.put, List.setIfInBounds_toArray, List.set_cons_zero, List.set_cons_succ, i64_w, i32_w]
        rfl
      refine pure_ (i := 3) (N := some 47) (v := ?_) (a' := ?_) #[true, true, true, true, false, false, false, false, false, false, false, false, false, false, false, false] rfl rfl (by kernel_rfl) (fun _ _ _ h => h) (Or.inl ⟨by rfl, ?_⟩) ?_ ?_
      rotate_left
      · intro w'
        go_simp
        with_reducible rfl
      rotate_left
      · simp only [Act.put, List.setIfInBounds_toArray, List.set_cons_zero, List.set_cons_succ, i64_w, i32_w]
        rfl
      refine pure_ (i := 4) (N := some 48) (v := ?_) (a' := ?_) #[true, true, true, true, true, false, false, false, false, false, false, false, false, false, false, false] rfl rfl (by kernel_rfl) (fun _ _ _ h => h) (Or.inl ⟨by rfl, ?_⟩) ?_ ?_
      rotate_left
      · intro w'
        go_simp
        with_reducible rfl
      rotate_left
      · simp only [Act.put, List.setIfInBounds_toArray, List.set_cons_zero, List.set_cons_succ, i64_w, i32_w]
        rfl
      refine take_ (i := 5) (N := some 49) (v := ?_) (a' := ?_) #[true, true, true, true, true, true, false, false, false, false, false, false, false, false, false, false] rfl rfl (by kernel_rfl) (fun _ _ _ h => h) (Or.inl ⟨by rfl, ?_⟩) hHeld ?_ ?_
      rotate_left
      · rintro w' ⟨s0, s1, s2, s3, s4⟩
        go_simp
        with_reducible rfl
      rotate_left
      · simp only [Act.put, List.setIfInBounds_toArray, List.set_cons_zero, List.set_cons_succ, i64_w, i32_w]
        rfl
      refine pure_ (i := 6) (N := some 50) (v := ?_) (a' := ?_) #[true, true, true, true, true, true, true, false, false, false, false, false, false, false, false, false] rfl rfl (by kernel_rfl) (fun _ _ _ h => h) (Or.inl ⟨by rfl, ?_⟩) ?_ ?_
      rotate_left
      · intro w'
        go_simp
        with_reducible rfl
      rotate_left
      · simp only [Act.put, List.setIfInBounds_toArray, List.set_cons_zero, List.set_cons_succ, i64_w, i32_w]
        rfl
      refine pure_ (i := 7) (N := some 51) (v := ?_) (a' := ?_) #[true, true, true, true, true, true, true, true, false, false, false, false, false, false, false, false] rfl rfl (by kernel_rfl) (fun _ _ _ h => h) (Or.inl ⟨by rfl, ?_⟩) ?_ ?_
      rotate_left
      · intro w'
        go_simp
        with_reducible rfl
      rotate_left
      · simp only [Act.put, List.setIfInBounds_toArray, List.set_cons_zero, List.set_cons_succ, i64_w, i32_w]
        rfl
      refine pure_ (i := 8) (N := some 52) (v := ?_) (a' := ?_) #[true, true, true, true, true, true, true, true, true, false, false, false, false, false, false, false] rfl rfl (by kernel_rfl) (fun _ _ _ h => h) (Or.inl ⟨by rfl, ?_⟩) ?_ ?_
      rotate_left
      · intro w'
        go_simp
        with_reducible rfl
      rotate_left
      · simp only [Act.put, List.setIfInBounds_toArray, List.set_cons_zero, List.set_cons_succ, i64_w, i32_w]
        rfl
      refine pure_ (i := 9) (N := some 53) (v := ?_) (a' := ?_) #[true, true, true, true, true, true, true, true, true, true, false, false, false, false, false, false] rfl rfl (by kernel_rfl) (fun _ _ _ h => h) (Or.inl ⟨by rfl, ?_⟩) ?_ ?_
      rotate_left
      · intro w'
        go_simp
        with_reducible rfl
      rotate_left
      · simp only [Act.put, List.setIfInBounds_toArray, List.set_cons_zero, List.set_cons_succ, i64_w, i32_w]
        rfl
      refine take_ (i := 10) (N := some 54) (v := ?_) (a' := ?_) #[true, true, true, true, true, true, true, true, true, true, true, false, false, false, false, false] rfl rfl (by kernel_rfl) (fun _ _ _ h => h) (Or.inl ⟨by rfl, ?_⟩) hHeld ?_ ?_
      rotate_left
      · rintro w' ⟨s0, s1, s2, s3, s4⟩
        go_simp
        with_reducible rfl
      rotate_left
      · simp only [Act.put, List.setIfInBounds_toArray, List.set_cons_zero, List.set_cons_succ, i64_w, i32_w]
        rfl
      refine last_ (i := 11) (N := some 55) #[true, true, true, true, true, true, true, true, true, true, true, true, false, false, false, false] rfl rfl (by kernel_rfl) (by decide) (fun K hK => ?_)
      have HH := Aside0.mk hHeld
      refine goes_ Try.func65 (by kernel_rfl) rfl #[.agg #[.int .i64 n, .slice A3 on.length c3], .int .i64 x1, .int .i64 x2] (by rfl) rfl rfl (by simp only [List.map_toArray, List.map_cons, List.map_nil]; rfl) ?_
      refine (rjoin_calls w1.heap.size n (js.take k) A3 c3 on x1 x2 _ HH.out.2.2.2.2.out.own HH.out.2.2.2.2.out.ref HB1S.out (by have := HN.out; omega)).mono ?_
      rintro e w4 ⟨ok2, v', on', rfl, ho', hr', hb''⟩
      obtain ⟨A4, c4, rfl⟩ := own_slice ho'
      refine ⟨_, rfl, ?_⟩
      refine hK.out _ _ ?_
      clear hK K
      refine pure_ (i := 12) (N := some 43) (v := ?_) (a' := ?_) #[true, true, true, true, true, true, true, true, true, true, true, true, true, false, false, false] rfl rfl (by kernel_rfl) (fun _ _ _ h => h) (Or.inl ⟨by rfl, ?_⟩) ?_ ?_
      rotate_left
      · intro w'
        go_simp
        with_reducible rfl
      rotate_left
      · simp only [Act.put, List.setIfInBounds_toArray, List.set_cons_zero, List.set_cons_succ, i64_w, i32_w]
        rfl
      refine pure_ (i := 13) (N := some 56) (v := ?_) (a' := ?_) #[true, true, true, true, true, true, true, true, true, true, true, true, true, true, false, false] rfl rfl (by kernel_rfl) (fun _ _ _ h => h) (Or.inl ⟨by rfl, ?_⟩) ?_ ?_
      rotate_left
      · intro w'
        go_simp
        with_reducible rfl
      rotate_left
      · simp only [Act.put, List.setIfInBounds_toArray, List.set_cons_zero, List.set_cons_succ, i64_w, i32_w]
        rfl
      refine pure_ (i := 14) (N := some 57) (v := ?_) (a' := ?_) #[true, true, true, true, true, true, true, true, true, true, true, true, true, true, true, false] rfl rfl (by kernel_rfl) (fun _ _ _ h => h) (Or.inl ⟨by rfl, ?_⟩) ?_ ?_
      rotate_left
      · intro w'
        go_simp
        with_reducible rfl
      rotate_left
      · simp only [Act.put, List.setIfInBounds_toArray, List.set_cons_zero, List.set_cons_succ, i64_w, i32_w]
        rfl
      refine last_ (i := 15) (N := none) #[true, true, true, true, true, true, true, true, true, true, true, true, true, true, true, true] rfl rfl (by kernel_rfl) (by decide) (fun K hK => ?_)
      have hbx := (HH.out.2.2.2.2.out.step hb'').box
      have e0 := (blk_cell hbx 0).trans rfl
      have e1 := (blk_cell hbx 1).trans rfl
      have f0 := blk_frozen hbx 0
      have f1 := blk_frozen hbx 1
      go_simp
      refine hK.out _ _ ?_
      clear hK K
      refine done_ (by kernel_rfl) ?_
      have HM4 := Aside0.mk (HH.out.2.2.2.2.out.stored ho' hr' hb'')
      go_wp2
      go_roundg (gk - 1)
      case measure => exact pred_lt HK hlt
      case rel => exact ⟨k + 1, next_eq HK hlt, by first | rfl | go_num, ⟨vs', nbs', _, on', by rw [HX.out]; exact HM4.out⟩⟩
    · obtain rfl : k = js.length := by have := HK.out; omega
      rw [List.take_length] at HM
      clear HK hlt HJ
      obtain ⟨A3, c3, rfl⟩ := own_slice HM.out.own
      have d0 : wr.cell? ⟨w2.heap.size, 0, none⟩ = some (.int .i64 n) := (blk_cell HM.out.box 0).trans rfl
      have d1 : wr.cell? ⟨w2.heap.size, 1, none⟩ = some (.slice A3 on.length c3) := (blk_cell HM.out.box 1).trans rfl
      go_wp2_with fail
      refine start_ (n := 4) (S := (fun w' => w'.cell? ⟨w2.heap.size, 0, none⟩ = some (.int .i64 n) ∧ w'.cell? ⟨w2.heap.size, 1, none⟩ = some (.slice A3 on.length c3))) (ds := [3]) #[false, false, false, false] (by kernel_rfl) rfl rfl (⟨d0, d1⟩) (fun hHeld => ?_)
      refine pure_ (i := 0) (N := some 58) (v := ?_) (a' := ?_) #[true, false, false, false] rfl rfl (by kernel_rfl) (fun _ _ _ h => h) (Or.inl ⟨by rfl, ?_⟩) ?_ ?_
      rotate_left
      · intro w'
        go_simp
        with_reducible rfl
      rotate_left
      · simp only [Act.put, List.setIfInBounds_toArray, List.set_cons_zero, List.set_cons_succ, i64_w, i32_w]
        rfl
      refine take_ (i := 1) (N := some 59) (v := ?_) (a' := ?_) #[true, true, false, false] rfl rfl (by kernel_rfl) (fun _ _ _ h => h) (Or.inl ⟨by rfl, ?_⟩) hHeld ?_ ?_
      rotate_left
      · rintro w' ⟨s0, s1⟩
        go_simp
        with_reducible rfl
      rotate_left
      · simp only [Act.put, List.setIfInBounds_toArray, List.set_cons_zero, List.set_cons_succ, i64_w, i32_w]
        rfl
      refine pure_ (i := 2) (N := some 4) (v := ?_) (a' := ?_) #[true, true, true, false] rfl rfl (by kernel_rfl) (fun _ _ _ h => h) (Or.inl ⟨by rfl, ?_⟩) ?_ ?_
      rotate_left
      · intro w'
        go_simp
        with_reducible rfl
      rotate_left
      · simp only [Act.put, List.setIfInBounds_toArray, List.set_cons_zero, List.set_cons_succ, i64_w, i32_w]
        rfl
      refine last_ (i := 3) (N := none) #[true, true, true, true] rfl rfl (by kernel_rfl) (by decide) (fun K hK => ?_)
      have hrs := HM.out.res
      have e0 := (blk_cell hrs 0).trans rfl
      have e1 := (blk_cell hrs 1).trans rfl
      have f0 := blk_frozen hrs 0
      have f1 := blk_frozen hrs 1
      go_simp
      refine hK.out _ _ ?_
      clear hK K
      refine done_ (by kernel_rfl) ?_
      skip
      have HH := Aside0.mk HM.out.drew
      have hres := HH.out.res
      have far : ∀ q, q ≠ w.heap.size → ((wr.drew.setCell ⟨w.heap.size, 0, none⟩ (.int .i64 n)).setCell ⟨w.heap.size, 1, none⟩ (.slice A3 on.length c3)).heap[q]? = wr.drew.heap[q]? := fun q hq =>
        (Below.heap_setCell _ ⟨w.heap.size, 1, none⟩ _ q hq).trans (Below.heap_setCell _ ⟨w.heap.size, 0, none⟩ _ q hq)
      have FAR := Aside0.mk far
      have HRS : Aside0 (((wr.drew.setCell ⟨w.heap.size, 0, none⟩ (.int .i64 n)).setCell ⟨w.heap.size, 1, none⟩ (.slice A3 on.length c3)).heap[w.heap.size]? = some (.cells #[.int .i64 n, .slice A3 on.length c3] 44 (0, 0))) := ⟨by rw [heap_set (heap_set hres 0 _) 1 _]; rfl⟩
      clear far hres
      go_wp2
      (try simp only [Exit.inBlock, Exit.then])
      refine bodyPost_ret (results_tmp_row (ty := 44) rfl _ _ w.heap.size 44 #[Value.int .i64 n, .slice A3 on.length c3] (0, 0) _ rfl HRS.out Try.underlying44 rfl info44) rfl ?_
      have hG := HH.out.graph.move (fun q h1 _ => FAR.out q (by omega))
      refine ⟨_, _, nbs, on, rfl, .inr (.inr ⟨g, gr, vs, rfl, Nat.le_trans (Nat.le_succ _) hG.g_base, Nat.le_trans (Nat.le_succ _) hG.gr_base, hG.len, hG.head, hG.row, fun i hi => own_low (hG.own i hi) (Nat.le_succ _)⟩), HH.out.is, HH.out.ref, ?_, ?_⟩
      · have h1 := HH.out.grlt
        have h2 := HH.out.graph.gr_base
        refine own_low (own_move HH.out.own (fun q hq => FAR.out q ?_)) (by omega)
        have := own_base HH.out.own q hq
        omega
      · exact below_store (below_store HH.out.below (Nat.le_refl _) 0 _) (Nat.le_refl _) 1 _
end Go.Proofs.Ytbmnnmcnmfgbaaa.PG
end
section
/-
  The example of layer 26, plain.
-/
namespace Go.Proofs.Ytbmnnmcnmfgbaaa.PG
open Go.RowKit Go.Shelf Go.Proofs.YtbmnnmcnmfgbaaaW.PrintWords Go.Proofs.YtbmnnmcnmfgbaaaW.PrintLast Go.Proofs.YtbmnnmcnmfgbaaaW.PrintMore
open Go.Proofs.Ytbmnnmcnmfgbaaa.PB Go.Proofs.Ytbmnnmcnmfgbaaa.PC Go.Proofs.Ytbmnnmcnmfgbaaa.PK
set_option linter.unusedVariables false
set_option linter.unusedSimpArgs false
open Elems (sh)
def hjs : List (Int × Int) := [(0, 1), (1, 2), (0, 2), (2, 3)]
def hnbs : List (List Int) := [[6], [5], [11], [4]]
theorem tb_one (x : Int) (i : Nat) : tb [x] i = if i < 64 then x.toNat.testBit i else false := by
  unfold tb
  by_cases h : i < 64
  · rw [if_pos h, Nat.div_eq_of_lt h, Nat.mod_eq_of_lt h]; rfl
  · rw [if_neg h, rd_out _ _ (by simp; omega)]; simp
theorem hrow (x : Int) (hx : 0 ≤ x ∧ x < 16) (hnz : sh [x] = [x]) (a : Nat) (ha : a < 4) (h : ∀ i, i < 4 → x.toNat.testBit i = adjOf 4 hjs a i) : Nrm [x] (fun i => adjOf 4 hjs a i) := by
  refine ⟨fun y hy => by simp at hy; subst hy; omega, hnz, fun i => ?_⟩
  rw [tb_one]
  by_cases hi : i < 4
  · rw [if_pos (by omega)]; exact h i hi
  · have e : adjOf 4 hjs a i = false := by
      cases e : adjOf 4 hjs a i
      · rfl
      · exact absurd (adjOf_lt e).2.1 hi
    rw [e]
    split
    · refine Nat.testBit_lt_two_pow (Nat.lt_of_lt_of_le (m := 2 ^ 4) (by omega) (Nat.pow_le_pow_right (by decide) (by omega)))
    · rfl
theorem hnbs_is : GrIs hnbs 4 (adjOf 4 hjs) := by
  refine ⟨rfl, fun a ha => ?_, fun a ha => ?_⟩
  · match a, ha with
    | 0, _ => exact hrow 6 (by decide) (by decide) 0 (by decide) (by decide)
    | 1, _ => exact hrow 5 (by decide) (by decide) 1 (by decide) (by decide)
    | 2, _ => exact hrow 11 (by decide) (by decide) 2 (by decide) (by decide)
    | 3, _ => exact hrow 4 (by decide) (by decide) 3 (by decide) (by decide)
  · match a, ha with
    | 0, _ => decide
    | 1, _ => decide
    | 2, _ => decide
    | 3, _ => decide
theorem GrIs.unique {nbs nbs' : List (List Int)} {n : Nat} {adj : Nat → Nat → Bool} (h : GrIs nbs n adj) (h' : GrIs nbs' n adj) : nbs = nbs' := by
  refine List.ext_getElem (by rw [h.len, h'.len]) (fun i h1 h2 => ?_)
  have e := (h.row i (by rw [← h.len]; exact h1)).unique (h'.row i (by rw [← h.len]; exact h1)) (fun _ => rfl)
  rw [List.getD_eq_getElem?_getD, List.getD_eq_getElem?_getD, List.getElem?_eq_getElem h1, List.getElem?_eq_getElem h2] at e
  exact e
theorem hGok : Gok hnbs := hnbs_is.gok (by decide) (fun a b h => ⟨(adjOf_lt h).1, (adjOf_lt h).2.1⟩)
theorem hGsym : Gsym hnbs := hnbs_is.gsym (adjOf_symm 4 hjs)
theorem h_is1 : clique_Is.f 20 hnbs [3, 2] = some true := by decide +kernel
theorem h_is2 : clique_Is.f 20 hnbs [3, 0] = some false := by decide +kernel
theorem h_col : clique_Colours.f [4, -1, 4] = some 1 := by decide +kernel
theorem h_great : clique_Greatest.f hnbs = some [0, 1, 2] := by decide +kernel
theorem h_shell : graph_Graph_Shell.f hnbs = some [3, 0, 1, 2] := by
  unfold graph_Graph_Shell.f
  rw [if_pos ⟨hGok, hGsym⟩]
  decide +kernel
theorem h_bounds : clique_Bounds.f 20 hnbs = some (3, 3) := by
  unfold clique_Bounds.f
  rw [h_shell]
  have e1 : slices_Reverse_int_int.f 20 [3, 0, 1, 2] = some [2, 1, 0, 3] := by decide +kernel
  have e2 : clique_Grow.f hnbs [2, 1, 0, 3] = some [2, 1, 0] := by decide +kernel
  have e3 : clique_Colour.f hnbs [2, 1, 0, 3] = some [2, 1, 0, 1] := by
    unfold clique_Colour.f
    rw [if_pos ⟨hGok, by decide⟩]
    decide +kernel
  have e4 : clique_Colours.f [2, 1, 0, 1] = some 3 := by decide +kernel
  simp only [Option.bind_some, e1, e2, e3, e4]
  rfl
end Go.Proofs.Ytbmnnmcnmfgbaaa.PG
end
section
/-
  The example of layer 26: heads.
-/
namespace Go.Proofs.Ytbmnnmcnmfgbaaa.PG
open Go.RowKit Go.Shelf Go.Proofs.YtbmnnmcnmfgbaaaW.PrintWords Go.Proofs.YtbmnnmcnmfgbaaaW.PrintLast Go.Proofs.YtbmnnmcnmfgbaaaW.PrintMore
open Go.Proofs.Ytbmnnmcnmfgbaaa.PB Go.Proofs.Ytbmnnmcnmfgbaaa.PC Go.Proofs.Ytbmnnmcnmfgbaaa.PK
set_option linter.unusedVariables false
set_option linter.unusedSimpArgs false
theorem own_lit (w : World) (xs : List Int) (h : xs.length ≤ 1000) : (w.alloc (.cells (nums .i64 xs).toArray 3)).ownsRow w.heap.size 3 1 (.slice (some ⟨w.heap.size, 0, none⟩) xs.length xs.length) xs.length (nums .i64 xs) :=
  ⟨by simp [nums], .inr ⟨w.heap.size, xs.length, _, rfl, Nat.le_refl _, World.alloc_heap_new _ _, Nat.le_refl _, by unfold maxLen; omega, by simp [nums], by rw [Nat.mul_one]; exact List.take_of_length_le (by simp [nums])⟩⟩
theorem C_own {w : World} {base : Nat} {A : Option Addr} {c : Nat} {xs : List Int} (h : w.ownsRow base 3 1 (.slice A xs.length c) xs.length (nums .i64 xs)) : Kd.C (Kd.int .i64) w A xs.length xs ∧ xs.length ≤ c := by
  have h1 : Kd.R (Kd.int .i64) 3 w base (fun _ => True) (.slice A xs.length c) xs := Kd.R_of_own h (fun _ _ => trivial)
  obtain ⟨_, h2, h3⟩ := Kd.R_reads' h1
  exact ⟨h3, h2⟩
theorem C_lit (w : World) (xs : List Int) (h : xs.length ≤ 1000) : Kd.C (Kd.int .i64) (w.alloc (.cells (nums .i64 xs).toArray 3)) (some ⟨w.heap.size, 0, none⟩) xs.length xs := (C_own (own_lit w xs h)).1
theorem hjoins (w : World) : JoinsIn (w.alloc (Obj.cells #[Value.int IntKind.i64 0, Value.int IntKind.i64 1, Value.int IntKind.i64 1, Value.int IntKind.i64 2, Value.int IntKind.i64 0, Value.int IntKind.i64 2, Value.int IntKind.i64 2, Value.int IntKind.i64 3] 78)) (some ⟨w.heap.size, 0, none⟩) hjs := fun i hi => by
  have hh := World.alloc_heap_new w (Obj.cells #[Value.int IntKind.i64 0, Value.int IntKind.i64 1, Value.int IntKind.i64 1, Value.int IntKind.i64 2, Value.int IntKind.i64 0, Value.int IntKind.i64 2, Value.int IntKind.i64 2, Value.int IntKind.i64 3] 78)
  refine ⟨_, rfl, ?_⟩
  match i, hi with
  | 0, _ => exact ⟨(blk_cell hh 0).trans rfl, (blk_cell hh 1).trans rfl, by decide⟩
  | 1, _ => exact ⟨(blk_cell hh 2).trans rfl, (blk_cell hh 3).trans rfl, by decide⟩
  | 2, _ => exact ⟨(blk_cell hh 4).trans rfl, (blk_cell hh 5).trans rfl, by decide⟩
  | 3, _ => exact ⟨(blk_cell hh 6).trans rfl, (blk_cell hh 7).trans rfl, by decide⟩
theorem h_ints : horariumref03_Ints.f 5 [0, 1, 2] [0, 1, 2] = some true := by decide +kernel
set_option maxRecDepth 100000 in
set_option maxHeartbeats 1000000 in
theorem heads_calls (w : World) : Calls Try.prog 34 #[] w fun e w' => e = .returned (.bool true) ∧ Below w.heap.size w w' := by
  have hu44 := Try.underlying44
  have HJ := Aside0.mk (hjoins w)
  have HW0 := Aside0.mk (below_alloc (w := w) (Below.refl w.heap.size w) (Obj.cells #[Value.int IntKind.i64 0, Value.int IntKind.i64 1, Value.int IntKind.i64 1, Value.int IntKind.i64 2, Value.int IntKind.i64 0, Value.int IntKind.i64 2, Value.int IntKind.i64 2, Value.int IntKind.i64 3] 78))
  go_enter Try.func34, Try.ntmps34
  go_wp2_with fail
  refine (made_yes 4 (some ⟨w.heap.size, 0, none⟩) 4 hjs _ (by decide) (by decide) HJ.out).mono ?_
  rintro e w1 ⟨p, v, nbs, on, rfl, hG, hI, hRf, ho, hb⟩
  obtain ⟨A1, c1, rfl⟩ := own_slice ho
  have HI : Aside0 (nbs = hnbs) := ⟨hI.unique hnbs_is⟩
  have HW1 := Aside0.mk (below_then HW0.out HW0.out.size hb)
  have HG : Aside0 (IsGr w1 (some ⟨p, 0, none⟩) hnbs) := ⟨⟨_, by rw [← HI.out]; exact hG, hnbs_is.okw⟩⟩
  clear hG hI hRf ho hb HW0 HJ
  go_wp2_with fail
  refine (clique_Bounds.calls 20 _ hnbs.length hnbs 3 3 _ (HG.out.alloc _) (Nat.le_refl _) h_bounds).mono ?_
  rintro e w2 ⟨rfl, hb⟩
  have HW2 := Aside0.mk (below_then (below_alloc HW1.out _) (below_alloc HW1.out _).size hb)
  have HG2 := Aside0.mk ((HG.out.alloc _).below hb)
  clear hb
  go_wp2_with fail
  refine (clique_Greatest.calls _ hnbs.length hnbs _ _ HG2.out (Nat.le_refl _) h_great).mono ?_
  rintro e w3 ⟨v3, rfl, hR, hb⟩
  obtain ⟨A3, c3, rfl⟩ := own_slice (Kd.own_of_R hR)
  have HR := Aside0.mk (Kd.R_reads' hR)
  have HW3 := Aside0.mk (below_then HW2.out HW2.out.size hb)
  have HG3 := Aside0.mk (HG2.out.below hb)
  clear hb hR
  go_wp2_with fail
  refine (horariumref03_Ints.calls 5 A3 c3 [0, 1, 2] _ _ [0, 1, 2] true _ (Kd.C_below HR.out.2.2 (below_alloc (Below.refl _ _) _)) HR.out.2.1 (C_lit w3 [0, 1, 2] (by decide)) (Nat.le_refl _) h_ints).mono ?_
  rintro e w4 ⟨rfl, hd⟩
  have HW4 := Aside0.mk (below_then (below_alloc HW3.out _) (below_alloc HW3.out _).size hd.below)
  have HG4 := Aside0.mk ((HG3.out.alloc _).below hd.below)
  clear hd
  go_wp2_with fail
  refine (clique_Is.calls 20 _ hnbs.length hnbs _ _ [3, 2] true _ (HG4.out.alloc _) (Nat.le_refl _) (C_lit w4 [3, 2] (by decide)) (Nat.le_refl _) h_is1).mono ?_
  rintro e w5 ⟨rfl, hd⟩
  have HW5 := Aside0.mk (below_then (below_alloc HW4.out _) (below_alloc HW4.out _).size hd.below)
  have HG5 := Aside0.mk ((HG4.out.alloc _).below hd.below)
  clear hd
  go_wp2_with fail
  refine (clique_Is.calls 20 _ hnbs.length hnbs _ _ [3, 0] false _ (HG5.out.alloc _) (Nat.le_refl _) (C_lit w5 [3, 0] (by decide)) (Nat.le_refl _) h_is2).mono ?_
  rintro e w6 ⟨rfl, hd⟩
  have HW6 := Aside0.mk (below_then (below_alloc HW5.out _) (below_alloc HW5.out _).size hd.below)
  clear hd
  go_wp2_with fail
  refine (clique_Colours.calls _ _ [4, -1, 4] 1 _ (C_lit w6 [4, -1, 4] (by decide)) (Nat.le_refl _) h_col).mono ?_
  rintro e w7 ⟨rfl, hb⟩
  have HW7 := Aside0.mk (below_then (below_alloc HW6.out _) (below_alloc HW6.out _).size hb)
  clear hb
  go_wp2
  go_ret
  exact ⟨rfl, HW7.out⟩
end Go.Proofs.Ytbmnnmcnmfgbaaa.PG
end
section
/-
  What growing and colouring along an order give: a maximal clique, right colours; no fewer colours than a clique has nodes.
-/
namespace Go.Proofs.Ytbmnnmcnmfgbaaa.PG
open Go.RowKit Go.Shelf Go.Proofs.YtbmnnmcnmfgbaaaW.PrintWords Go.Proofs.YtbmnnmcnmfgbaaaW.PrintLast Go.Proofs.YtbmnnmcnmfgbaaaW.PrintMore
open Go.Proofs.Ytbmnnmcnmfgbaaa.PB Go.Proofs.Ytbmnnmcnmfgbaaa.PC Go.Proofs.Ytbmnnmcnmfgbaaa.PK
set_option linter.unusedVariables false
set_option linter.unusedSimpArgs false
/-- The rows are a plain graph's. -/
structure Grf (nbs : List (List Int)) (n : Nat) (adj : Nat → Nat → Bool) : Prop where
  is : GrIs nbs n adj
  le : n ≤ 400
  sym : ∀ a b, adj a b = adj b a
  lt : ∀ a b, adj a b = true → a < n ∧ b < n ∧ a ≠ b
theorem Grf.of {nbs : List (List Int)} {n : Nat} {js : List (Int × Int)} (h : GrIs nbs n (adjOf n js)) (hn : n ≤ 40) : Grf nbs n (adjOf n js) := ⟨h, by omega, adjOf_symm n js, fun _ _ h => adjOf_lt h⟩
section
variable {nbs : List (List Int)} {n : Nat} {adj : Nat → Nat → Bool}
theorem Grf.gok (h : Grf nbs n adj) : Gok nbs := h.is.gok h.le (fun a b e => ⟨(h.lt a b e).1, (h.lt a b e).2.1⟩)
theorem Grf.gsym (h : Grf nbs n adj) : Gsym nbs := h.is.gsym h.sym
theorem Grf.has_nat (h : Grf nbs n adj) (a b : Nat) : hasB nbs (a : Int) (b : Int) = adj a b := h.is.has (fun a b e => ⟨(h.lt a b e).1, (h.lt a b e).2.1⟩) a b
theorem Grf.has (h : Grf nbs n adj) {x y : Int} (e : hasB nbs x y = true) : ∃ a b : Nat, x = a ∧ y = b ∧ adj a b = true := by
  have e' := e
  unfold hasB at e
  rw [Bool.and_eq_true, Bool.and_eq_true, decide_eq_true_eq] at e
  obtain ⟨a, rfl, ha⟩ := isB_cases e.1
  obtain ⟨b, rfl⟩ := Int.eq_ofNat_of_zero_le e.2.1
  exact ⟨a, b, rfl, rfl, by rw [← h.has_nat]; exact e'⟩
theorem Grf.has_symm (h : Grf nbs n adj) {x y : Int} (e : hasB nbs x y = true) : hasB nbs y x = true := by
  obtain ⟨a, b, rfl, rfl, e2⟩ := h.has e
  rw [h.has_nat, h.sym]; exact e2
theorem Grf.has_ne (h : Grf nbs n adj) {x y : Int} (e : hasB nbs x y = true) : x ≠ y := by
  obtain ⟨a, b, rfl, rfl, e2⟩ := h.has e
  have := (h.lt a b e2).2.2
  omega
theorem isB_iff (h : Grf nbs n adj) (x : Int) : isB nbs x = true ↔ 0 ≤ x ∧ x < (n : Int) := by
  unfold isB; rw [h.is.len]; simp
theorem near_has {a b : Int} : b ∈ nearL nbs a ↔ hasB nbs a b = true := by
  rw [mem_near]; unfold hasB; simp
end
/-! ### cliques -/
theorem isL_iff {nbs : List (List Int)} {l : List Int} : isL nbs l = true ↔ ∀ i, i < l.length → isB nbs (rd l (i : Int)) = true ∧ ∀ j, j < i → hasB nbs (rd l (i : Int)) (rd l (j : Int)) = true := by
  unfold isL
  simp [List.all_eq_true, List.mem_range'_1]
theorem rd_app (l : List Int) (a : Int) (i : Nat) : rd (l ++ [a]) (i : Int) = if i = l.length then a else rd l (i : Int) := by
  rw [rd_nat, rd_nat]
  by_cases h : i < l.length
  · rw [if_neg (by omega), List.getD_eq_getElem?_getD, List.getD_eq_getElem?_getD, List.getElem?_append_left h]
  · by_cases e : i = l.length
    · subst e; rw [if_pos rfl]; simp
    · rw [if_neg e, List.getD_eq_getElem?_getD, List.getD_eq_getElem?_getD, List.getElem?_eq_none (by simp; omega), List.getElem?_eq_none (by omega)]
theorem okC_iff {nbs : List (List Int)} {a : Int} {l : List Int} : okC nbs a l = true ↔ ∀ j, j < l.length → hasB nbs a (rd l (j : Int)) = true := by
  unfold okC
  rw [List.all_eq_true]
  refine ⟨fun h j hj => h _ (rd_mem l j hj), fun h x hx => ?_⟩
  obtain ⟨j, hj, rfl⟩ := List.mem_iff_getElem.1 hx
  have := h j hj
  rwa [rd_nat, List.getD_eq_getElem?_getD, List.getElem?_eq_getElem hj] at this
theorem isL_snoc (nbs : List (List Int)) (l : List Int) (a : Int) : isL nbs (l ++ [a]) = (isL nbs l && (isB nbs a && okC nbs a l)) := by
  rw [Bool.eq_iff_iff, Bool.and_eq_true, Bool.and_eq_true, isL_iff, isL_iff, okC_iff]
  constructor
  · intro h
    refine ⟨fun i hi => ?_, ?_, fun j hj => ?_⟩
    · have h1 := h i (by simp; omega)
      rw [rd_app, if_neg (by omega)] at h1
      refine ⟨h1.1, fun j hj => ?_⟩
      have h2 := h1.2 j hj
      rwa [rd_app, if_neg (by omega)] at h2
    · have h1 := (h l.length (by simp)).1
      rwa [rd_app, if_pos rfl] at h1
    · have h1 := (h l.length (by simp)).2 j hj
      rwa [rd_app, if_pos rfl, rd_app, if_neg (by omega)] at h1
  · rintro ⟨h1, h2, h3⟩ i hi
    simp at hi
    rw [rd_app]
    by_cases e : i = l.length
    · rw [if_pos e]
      refine ⟨h2, fun j hj => ?_⟩
      rw [rd_app, if_neg (by omega)]
      exact h3 j (by omega)
    · rw [if_neg e]
      refine ⟨(h1 i (by omega)).1, fun j hj => ?_⟩
      rw [rd_app, if_neg (by omega)]
      exact (h1 i (by omega)).2 j hj
theorem growStep_is {nbs : List (List Int)} {l : List Int} (h : isL nbs l = true) (a : Int) : isL nbs (growStep nbs l a) = true := by
  unfold growStep
  split
  · rename_i e
    rw [isL_snoc, h, e.1, e.2]; rfl
  · exact h
theorem grow_fold_is {nbs : List (List Int)} : ∀ (o l : List Int), isL nbs l = true → isL nbs (o.foldl (growStep nbs) l) = true
  | [], l, h => h
  | a :: o, l, h => grow_fold_is o _ (growStep_is h a)
theorem grow_is (nbs : List (List Int)) (o : List Int) : isL nbs (growL nbs o) = true := grow_fold_is o [] rfl
theorem isL_nodup {nbs : List (List Int)} {n : Nat} {adj : Nat → Nat → Bool} (hg : Grf nbs n adj) {l : List Int} (h : isL nbs l = true) {i j : Nat} (hi : i < l.length) (hj : j < l.length) (hij : i ≠ j) : hasB nbs (rd l (i : Int)) (rd l (j : Int)) = true := by
  rw [isL_iff] at h
  by_cases c : j < i
  · exact (h i hi).2 j c
  · exact hg.has_symm ((h j hj).2 i (by omega))

/-! ### colours -/
theorem rd_set (c : List Int) (i : Nat) (v : Int) (x : Int) (hx : 0 ≤ x) (hi : i < c.length) : rd (c.set i v) x = if x = (i : Int) then v else rd c x := by
  obtain ⟨k, rfl⟩ := Int.eq_ofNat_of_zero_le hx
  rw [rd_nat, rd_nat]
  by_cases e : k = i
  · subst e; simp [hi]
  · rw [if_neg (by omega), List.getD_eq_getElem?_getD, List.getElem?_set_ne (Ne.symm e), List.getD_eq_getElem?_getD]
/-! ### a clique needs as many colours as it has nodes -/
theorem nodup_sub_len : ∀ (l m : List Int), l.Nodup → (∀ x ∈ l, x ∈ m) → l.length ≤ m.length
  | [], m, _, _ => by simp
  | a :: l, m, hn, hs => by
    rw [List.nodup_cons] at hn
    have ha : a ∈ m := hs a (by simp)
    have := nodup_sub_len l (m.erase a) hn.2 (fun x hx => (List.mem_erase_of_ne (fun e => by subst e; exact hn.1 hx)).2 (hs x (by simp [hx])))
    rw [List.length_erase_of_mem ha] at this
    have := List.length_pos_of_mem ha
    simp; omega
end Go.Proofs.Ytbmnnmcnmfgbaaa.PG
end
section
/-
  What the document's Is, Grow and Colour give: the same as the program's.
-/
namespace Go.Proofs.Ytbmnnmcnmfgbaaa.PG
open Go.RowKit Go.Shelf Go.Proofs.YtbmnnmcnmfgbaaaW.PrintWords Go.Proofs.YtbmnnmcnmfgbaaaW.PrintLast Go.Proofs.YtbmnnmcnmfgbaaaW.PrintMore
open Go.Proofs.Ytbmnnmcnmfgbaaa.PB Go.Proofs.Ytbmnnmcnmfgbaaa.PC Go.Proofs.Ytbmnnmcnmfgbaaa.PK
set_option linter.unusedVariables false
set_option linter.unusedSimpArgs false
section
variable {nbs : List (List Int)} {n : Nat} {adj : Nat → Nat → Bool} {on : List Bool}
theorem node_is (hg : Grf nbs n adj) (on : List Bool) (x : Int) : horariumref23_Node.f (n : Int) on x = some (isB nbs x) := by
  rw [node_f]; unfold isB; rw [hg.is.len]
theorem has_is (hg : Grf nbs n adj) (hr : RefIs on n adj) {x y : Int} (hx : isB nbs x = true) (hy : isB nbs y = true) : horariumref23_Has.f (n : Int) on x y = some (hasB nbs x y) := by
  obtain ⟨a, rfl, ha⟩ := isB_cases hx
  obtain ⟨b, rfl, hb⟩ := isB_cases hy
  have hl := hg.is.len
  rw [has_f hr hg.le (by omega) (by omega), hg.has_nat]
theorem refis_l1 (hg : Grf nbs n adj) (hr : RefIs on n adj) (l : List Int) (hl : l.length < 4611686018427387904) (i : Nat) (hi : i < l.length) (hB : ∀ j, j ≤ i → isB nbs (rd l (j : Int)) = true) (R : Bool)
    (h0 : Ev (fun k => horariumref26_Is.l0 k l ((i + 1 : Nat) : Int) (n : Int) on) R) : ∀ d j, j + d = i → Ev (fun k => horariumref26_Is.l1 k l (i : Int) (j : Int) (n : Int) on) (((List.range' j d).all fun j => hasB nbs (rd l (i : Int)) (rd l (j : Int))) && R)
  | 0, j, hj => by
    have e : ((List.range' j 0).all (fun j => hasB nbs (rd l (i : Int)) (rd l (j : Int))) && R) = R := by simp
    rw [e]
    refine Ev.step (fun k => ?_) h0
    simp only [horariumref26_Is.l1]
    rw [if_neg (by omega), wrap_nat i l.length hi hl]
  | d + 1, j, hj => by
    have ih := refis_l1 hg hr l hl i hi hB R h0 d (j + 1) (by omega)
    rw [List.range'_succ, List.all_cons]
    have hh := has_is hg hr (hB i (Nat.le_refl _)) (hB j (by omega))
    cases c : hasB nbs (rd l (i : Int)) (rd l (j : Int)) with
    | true =>
      rw [Bool.true_and]
      refine Ev.step (fun k => ?_) ih
      simp only [horariumref26_Is.l1]
      rw [if_pos (by omega), if_pos (by omega), if_pos (by omega), if_pos (by omega), if_pos (by omega), hh, c, Option.bind_some, if_pos rfl, wrap_nat j l.length (by omega) hl]
    | false =>
      rw [Bool.false_and, Bool.false_and]
      refine Ev.step (f := fun _ => some false) (fun k => ?_) (Ev.now _)
      simp only [horariumref26_Is.l1]
      rw [if_pos (by omega), if_pos (by omega), if_pos (by omega), if_pos (by omega), if_pos (by omega), hh, c, Option.bind_some, if_neg (by simp)]
theorem refis_l0 (hg : Grf nbs n adj) (hr : RefIs on n adj) (l : List Int) (hl : l.length < 4611686018427387904) : ∀ m i, i + m = l.length → (∀ j, j < i → isB nbs (rd l (j : Int)) = true) →
    Ev (fun k => horariumref26_Is.l0 k l (i : Int) (n : Int) on) ((List.range' i m).all fun i => isB nbs (rd l (i : Int)) && (List.range' 0 i).all fun j => hasB nbs (rd l (i : Int)) (rd l (j : Int)))
  | 0, i, hi, _ => by
    refine Ev.step (f := fun _ => some true) (fun k => ?_) (Ev.now _)
    simp only [horariumref26_Is.l0]
    rw [if_neg (by omega)]
  | m + 1, i, hi, hB => by
    rw [List.range'_succ, List.all_cons]
    cases c : isB nbs (rd l (i : Int)) with
    | false =>
      rw [Bool.false_and, Bool.false_and]
      refine Ev.step (f := fun _ => some false) (fun k => ?_) (Ev.now _)
      simp only [horariumref26_Is.l0]
      rw [if_pos (by omega), if_pos (by omega), node_is hg, c, Option.bind_some, if_neg (by simp)]
    | true =>
      rw [Bool.true_and]
      have hB' : ∀ j, j ≤ i → isB nbs (rd l (j : Int)) = true := fun j hj => by
        by_cases e : j = i
        · subst e; exact c
        · exact hB j (by omega)
      have ih := refis_l0 hg hr l hl m (i + 1) (by omega) (fun j hj => hB' j (by omega))
      refine Ev.step (fun k => ?_) (refis_l1 hg hr l hl i (by omega) hB' _ ih i 0 (by omega))
      simp only [horariumref26_Is.l0]
      rw [if_pos (by omega), if_pos (by omega), node_is hg, c, Option.bind_some, if_pos rfl]
      rfl
theorem refis_ev (hg : Grf nbs n adj) (hr : RefIs on n adj) (l : List Int) (hl : l.length < 4611686018427387904) : Ev (fun k => horariumref26_Is.f k (n : Int) on l) (isL nbs l) :=
  refis_l0 hg hr l hl l.length 0 (by omega) (fun j hj => by omega)
theorem refgrow_l0 (hg : Grf nbs n adj) (hr : RefIs on n adj) (o : List Int) (ho : o.length ≤ 1000) : ∀ m i, i + m = o.length → Ev (fun k => horariumref26_Grow.l0 k o (growK nbs o i) (i : Int) (n : Int) on) (growL nbs o)
  | 0, i, hi => by
    have e : growK nbs o i = growL nbs o := by unfold growK; rw [List.take_of_length_le (by omega)]
    refine Ev.step (f := fun _ => some (growL nbs o)) (fun k => ?_) (Ev.now _)
    simp only [horariumref26_Grow.l0]
    rw [if_neg (by omega), e]
  | m + 1, i, hi => by
    have ih := refgrow_l0 hg hr o ho m (i + 1) (by omega)
    have hlen := growK_len nbs o i
    have his : isL nbs (growK nbs o i) = true := by unfold growK; exact grow_is nbs _
    have hI := refis_ev hg hr (growK nbs o i ++ [rd o (i : Int)]) (by simp; omega)
    rw [isL_snoc, his, Bool.true_and] at hI
    refine Ev.step (f := fun k => (horariumref26_Is.f k (n : Int) on (growK nbs o i ++ [rd o (i : Int)])).bind fun t => if t = true then horariumref26_Grow.l0 k o (growK nbs o i ++ [rd o (i : Int)]) ((i + 1 : Nat) : Int) (n : Int) on else horariumref26_Grow.l0 k o (growK nbs o i) ((i + 1 : Nat) : Int) (n : Int) on) (fun k => ?_) (Ev.bind hI ?_)
    · simp only [horariumref26_Grow.l0]
      rw [if_pos (by omega), Option.bind_some, if_pos (by simp; omega), Option.bind_some, if_pos (by omega), Option.bind_some, if_pos (by simp; omega), List.nil_append, wrap_nat i o.length (by omega) (by omega)]
      congr 1; funext t
      split
      · rw [Option.bind_some, if_pos (by simp; omega)]
      · rfl
    · rw [growK_succ nbs o i (by omega), growStep] at ih
      by_cases c : isB nbs (rd o (i : Int)) = true ∧ okC nbs (rd o (i : Int)) (growK nbs o i) = true
      · rw [if_pos c] at ih
        refine Ev.congr (fun k => ?_) ih
        rw [c.1, c.2]; simp
      · rw [if_neg c] at ih
        refine Ev.congr (fun k => ?_) ih
        rw [if_neg]
        intro h; rw [Bool.and_eq_true] at h; exact c h
theorem refgrow_ev (hg : Grf nbs n adj) (hr : RefIs on n adj) (o : List Int) (ho : o.length ≤ 1000) : Ev (fun k => horariumref26_Grow.f k (n : Int) on o) (growL nbs o) :=
  refgrow_l0 hg hr o ho o.length 0 (by omega)
/-! ### colours -/
theorem mex_unique (l : List Int) (m : Nat) (h1 : ∀ i : Nat, i < m → (i : Int) ∈ l) (h2 : (m : Int) ∉ l) : mex l = m := by
  obtain ⟨_, h3, h4⟩ := mex_spec l
  have h4' : (mex l : Int) ∉ l := fun h => by rw [List.contains_iff_mem.2 h] at h4; cases h4
  by_cases c : mex l < m
  · exact absurd (h1 _ c) h4'
  · by_cases c2 : m < mex l
    · exact absurd (List.contains_iff_mem.1 (h3 m c2)) h2
    · omega
theorem mex_congr {l m : List Int} (h : ∀ x, x ∈ l ↔ x ∈ m) : mex l = mex m := by
  obtain ⟨_, h3, h4⟩ := mex_spec m
  exact mex_unique l (mex m) (fun i hi => (h _).2 (List.contains_iff_mem.1 (h3 i hi))) (fun hh => by rw [List.contains_iff_mem.2 ((h _).1 hh)] at h4; cases h4)
theorem has14_ev (l : List Int) (x : Int) (hl : l.length < 4611686018427387904) : Ev (fun k => horariumref14_Has.f k l x) (decide (x ∈ l)) := by
  obtain ⟨k, hk⟩ := has14_f l x hl
  exact Ev.of (horariumref14_Has.mono l x) hk
/-- The colours of a node's neighbours below b, in order. -/
def nearC (nbs : List (List Int)) (c : List Int) (a : Int) (b : Nat) : List Int := ((ints b).filter fun y => hasB nbs a y).map (rd c)
theorem nearC_succ (nbs : List (List Int)) (c : List Int) (a : Int) (b : Nat) : nearC nbs c a (b + 1) = if hasB nbs a (b : Int) = true then nearC nbs c a b ++ [rd c (b : Int)] else nearC nbs c a b := by
  unfold nearC
  rw [ints_succ, List.filter_append, List.map_append]
  cases h : hasB nbs a (b : Int)
  · simp [h]
  · simp [h]
theorem nearC_len (nbs : List (List Int)) (c : List Int) (a : Int) (b : Nat) : (nearC nbs c a b).length ≤ b := by
  unfold nearC
  rw [List.length_map]
  exact Nat.le_trans (List.length_filter_le _ _) (by rw [ints_len]; exact Nat.le_refl _)
theorem nearC_mex (hg : Grf nbs n adj) (c : List Int) (a : Int) : mex (nearC nbs c a n) = mex ((nearL nbs a).map (rd c)) := by
  refine mex_congr (fun x => ?_)
  unfold nearC
  rw [List.mem_map, List.mem_map]
  constructor
  · rintro ⟨y, hy, rfl⟩
    exact ⟨y, near_has.2 (List.mem_filter.1 hy).2, rfl⟩
  · rintro ⟨y, hy, rfl⟩
    have h := near_has.1 hy
    obtain ⟨p, q, rfl, rfl, hadj⟩ := hg.has h
    have := hg.lt _ _ hadj
    exact ⟨_, List.mem_filter.2 ⟨(by unfold ints; exact List.mem_map.2 ⟨q, List.mem_range.2 (by omega), rfl⟩), h⟩, rfl⟩
theorem refcol_l3 (o : List Int) (c : List Int) (i : Nat) (hi : i < o.length) (ho : o.length ≤ 1000) (a : Nat) (ha : a < c.length) (near : List Int) (hn : near.length ≤ 1000) (R : List Int)
    (h0 : Ev (fun k => horariumref26_Colour.l1 k o (c.set a (mex near : Int)) ((i + 1 : Nat) : Int) (n : Int) on) R) : ∀ d t, t + d = mex near → Ev (fun k => horariumref26_Colour.l3 k o c (i : Int) (a : Int) near (t : Int) (n : Int) on) R
  | 0, t, ht => by
    have hH := has14_ev near (t : Int) (by omega)
    have h4 := (mex_spec near).2.2
    have e : decide ((t : Int) ∈ near) = false := decide_eq_false (fun h => by rw [← show t = mex near by omega, List.contains_iff_mem.2 h] at h4; cases h4)
    rw [e] at hH
    refine Ev.step (f := fun k => (horariumref14_Has.f k near (t : Int)).bind fun b => if b = true then horariumref26_Colour.l3 k o c (i : Int) (a : Int) near (wrap64 ((t : Int) + 1)) (n : Int) on else horariumref26_Colour.l1 k o (c.set a (t : Int)) ((i + 1 : Nat) : Int) (n : Int) on) (fun k => ?_) (Ev.bind hH ?_)
    · simp only [horariumref26_Colour.l3]
      congr 1; funext b
      split
      · rfl
      · rw [if_pos (by omega), if_pos (by omega), Int.toNat_natCast, wrap_nat i o.length hi (by omega)]
    · refine Ev.congr (fun k => ?_) h0
      rw [if_neg (by simp), show t = mex near by omega]
  | d + 1, t, ht => by
    have ih := refcol_l3 o c i hi ho a ha near hn R h0 d (t + 1) (by omega)
    have hH := has14_ev near (t : Int) (by omega)
    have h1 := mex_spec near
    have e : decide ((t : Int) ∈ near) = true := decide_eq_true (List.contains_iff_mem.1 (h1.2.1 t (by omega)))
    rw [e] at hH
    refine Ev.step (f := fun k => (horariumref14_Has.f k near (t : Int)).bind fun b => if b = true then horariumref26_Colour.l3 k o c (i : Int) (a : Int) near ((t + 1 : Nat) : Int) (n : Int) on else horariumref26_Colour.l1 k o (c.set a (t : Int)) ((i + 1 : Nat) : Int) (n : Int) on) (fun k => ?_) (Ev.bind hH ?_)
    · simp only [horariumref26_Colour.l3]
      congr 1; funext b
      split
      · rw [wrap_nat t (t + 1) (by omega) (by omega)]
      · rw [if_pos (by omega), if_pos (by omega), Int.toNat_natCast, wrap_nat i o.length hi (by omega)]
    · refine Ev.congr (fun k => ?_) ih
      rw [if_pos rfl]
theorem refcol_l2 (hg : Grf nbs n adj) (hr : RefIs on n adj) (o : List Int) (c : List Int) (hc : c.length = n) (i : Nat) (hi : i < o.length) (ho : o.length ≤ 1000) (a : Nat) (ha : a < n) (R : List Int)
    (h0 : Ev (fun k => horariumref26_Colour.l1 k o (c.set a (mex ((nearL nbs (a : Int)).map (rd c)) : Int)) ((i + 1 : Nat) : Int) (n : Int) on) R) : ∀ d b, b + d = n → Ev (fun k => horariumref26_Colour.l2 k o c (i : Int) (a : Int) (nearC nbs c (a : Int) b) (b : Int) (n : Int) on) R
  | 0, b, hb => by
    obtain rfl : b = n := by omega
    have hle := hg.le
    have hl := nearC_len nbs c (a : Int) b
    rw [← nearC_mex hg] at h0
    refine Ev.step (fun k => ?_) (refcol_l3 o c i hi ho a (by omega) (nearC nbs c (a : Int) b) (by omega) R h0 (mex (nearC nbs c (a : Int) b)) 0 (by omega))
    simp only [horariumref26_Colour.l2]
    rw [if_neg (by omega)]; rfl
  | d + 1, b, hb => by
    have ih := refcol_l2 hg hr o c hc i hi ho a ha R h0 d (b + 1) (by omega)
    have hle := hg.le
    have hl := nearC_len nbs c (a : Int) b
    have hh := has_is hg hr (x := (a : Int)) (y := (b : Int)) (by rw [isB_iff hg]; omega) (by rw [isB_iff hg]; omega)
    rw [nearC_succ] at ih
    refine Ev.step (fun k => ?_) ih
    simp only [horariumref26_Colour.l2]
    rw [if_pos (by omega), hh, Option.bind_some]
    cases hasB nbs (a : Int) (b : Int)
    · rw [if_neg (by simp), if_neg (by simp), wrap_nat b n (by omega) (by omega)]
    · rw [if_pos rfl, if_pos rfl, if_pos (by omega), if_pos (by omega), if_pos (by omega), wrap_nat b n (by omega) (by omega)]
theorem refcol_l1 (hg : Grf nbs n adj) (hr : RefIs on n adj) (o : List Int) (ho : o.length ≤ 1000) : ∀ m i, i + m = o.length → Ev (fun k => horariumref26_Colour.l1 k o (colourK nbs o i) (i : Int) (n : Int) on) (colourL nbs o)
  | 0, i, hi => by
    have e : colourK nbs o i = colourL nbs o := by unfold colourK; rw [List.take_of_length_le (by omega)]
    refine Ev.step (f := fun _ => some (colourL nbs o)) (fun k => ?_) (Ev.now _)
    simp only [horariumref26_Colour.l1]
    rw [if_neg (by omega), e]
  | m + 1, i, hi => by
    have ih := refcol_l1 hg hr o ho m (i + 1) (by omega)
    have hnl := hg.is.len
    have hcl : (colourK nbs o i).length = n := by unfold colourK; exact (colourL_ok hg.gok _).1.trans hnl
    rw [colourK_succ nbs o i (by omega), colourStep] at ih
    obtain ⟨x, hx⟩ : ∃ x, rd o (i : Int) = x := ⟨_, rfl⟩
    obtain ⟨c, hc⟩ : ∃ c, colourK nbs o i = c := ⟨_, rfl⟩
    rw [hx, hc] at ih
    rw [hc] at hcl ⊢
    have hw := wrap_nat i o.length (by omega) (by omega)
    by_cases hb : 0 ≤ x ∧ x < (n : Int)
    · have hB : isB nbs x = true := by rw [isB_iff hg]; exact hb
      obtain ⟨a, rfl⟩ := Int.eq_ofNat_of_zero_le hb.1
      refine Ev.step (f := fun k => horariumref26_Colour.j2 k o c (i : Int) (a : Int) (decide (rd c (a : Int) ≥ 0)) (n : Int) on) (fun k => ?_) ?_
      · simp only [horariumref26_Colour.l1]
        rw [if_pos (by omega), if_pos (by omega), hx, node_is hg, hB, Option.bind_some, if_pos rfl, if_pos (by omega), if_pos (by omega)]
      · by_cases c0 : rd c (a : Int) ≥ 0
        · rw [if_neg (by omega)] at ih
          refine Ev.step (fun k => ?_) ih
          simp only [horariumref26_Colour.j2]
          rw [if_pos (decide_eq_true c0), hw]
        · rw [if_pos ⟨⟨by omega, by omega⟩, by omega⟩, Int.toNat_natCast] at ih
          refine Ev.step (fun k => ?_) (refcol_l2 hg hr o c hcl i (by omega) ho a (by omega) _ ih n 0 (by omega))
          simp only [horariumref26_Colour.j2]
          rw [if_neg (by simpa using c0)]
          rfl
    · have hB : isB nbs x = false := by
        cases e : isB nbs x
        · rfl
        · rw [isB_iff hg] at e; exact absurd e hb
      rw [if_neg (by rintro ⟨h1, _⟩; exact hb (by omega))] at ih
      refine Ev.step (f := fun k => horariumref26_Colour.j2 k o c (i : Int) x true (n : Int) on) (fun k => ?_) (Ev.step (fun k => ?_) ih)
      · simp only [horariumref26_Colour.l1]
        rw [if_pos (by omega), if_pos (by omega), hx, node_is hg, hB, Option.bind_some, if_neg (by simp)]
      · simp only [horariumref26_Colour.j2]
        rw [if_pos trivial, hw]
theorem refcol_l0 (hg : Grf nbs n adj) (hr : RefIs on n adj) (o : List Int) (ho : o.length ≤ 1000) : ∀ m i, i + m = n → Ev (fun k => horariumref26_Colour.l0 k o (List.replicate i (-1) ++ List.replicate (n - i) 0) (i : Int) (n : Int) on) (colourL nbs o)
  | 0, i, hi => by
    obtain rfl : i = n := by omega
    have h := refcol_l1 hg hr o ho o.length 0 (by omega)
    have e : colourK nbs o 0 = List.replicate i (-1) := by
      unfold colourK colourL; rw [List.take_zero, hg.is.len]; rfl
    rw [e] at h
    refine Ev.step (fun k => ?_) h
    simp only [horariumref26_Colour.l0]
    rw [if_neg (by omega), Nat.sub_self, List.replicate_zero, List.append_nil]
    rfl
  | m + 1, i, hi => by
    have ih := refcol_l0 hg hr o ho m (i + 1) (by omega)
    have hle := hg.le
    refine Ev.step (fun k => ?_) ih
    simp only [horariumref26_Colour.l0]
    rw [if_pos (by omega), if_pos (by omega), if_pos (by simp; omega), Int.toNat_natCast, fill_step n i (by omega), wrap_nat i n (by omega) (by omega)]
theorem refcol_ev (hg : Grf nbs n adj) (hr : RefIs on n adj) (o : List Int) (ho : o.length ≤ 1000) : Ev (fun k => horariumref26_Colour.f k (n : Int) on o) (colourL nbs o) := by
  have hle := hg.le
  refine Ev.congr (fun k => ?_) (refcol_l0 hg hr o ho n 0 (by omega))
  unfold horariumref26_Colour.f
  rw [if_pos (by omega), if_pos (by omega), Int.toNat_natCast]
  rfl
end
end Go.Proofs.Ytbmnnmcnmfgbaaa.PG
end
section
/-
  What Bounds and Greatest give, plain: bounds along the shell; a greatest clique.
-/
namespace Go.Proofs.Ytbmnnmcnmfgbaaa.PG
open Go.RowKit Go.Shelf Go.Proofs.YtbmnnmcnmfgbaaaW.PrintWords Go.Proofs.YtbmnnmcnmfgbaaaW.PrintLast Go.Proofs.YtbmnnmcnmfgbaaaW.PrintMore
open Go.Proofs.Ytbmnnmcnmfgbaaa.PB Go.Proofs.Ytbmnnmcnmfgbaaa.PC Go.Proofs.Ytbmnnmcnmfgbaaa.PK
set_option linter.unusedVariables false
set_option linter.unusedSimpArgs false
/-! ### reversing -/
/-- The row when i pairs are turned. -/
def revK (l : List Int) (i : Nat) : List Int := (List.range l.length).map fun p => if p < i ∨ l.length - i ≤ p then rd l ((l.length - 1 - p : Nat) : Int) else rd l (p : Int)
theorem revK_len (l : List Int) (i : Nat) : (revK l i).length = l.length := by simp [revK]
theorem revK_at (l : List Int) (i p : Nat) (hp : p < l.length) : rd (revK l i) (p : Int) = if p < i ∨ l.length - i ≤ p then rd l ((l.length - 1 - p : Nat) : Int) else rd l (p : Int) := by
  rw [rd_nat]; unfold revK
  simp [hp]
theorem rd_ext {l m : List Int} (hl : l.length = m.length) (h : ∀ p : Nat, p < l.length → rd l (p : Int) = rd m (p : Int)) : l = m := by
  refine List.ext_getElem hl (fun p h1 h2 => ?_)
  have := h p h1
  simpa [rd, h1, h2] using this
theorem revK_zero (l : List Int) : revK l 0 = l := by
  refine rd_ext (revK_len l 0) (fun p hp => ?_)
  rw [revK_len] at hp
  rw [revK_at l 0 p hp, if_neg (by omega)]
theorem rd_set' (l : List Int) (i : Nat) (v : Int) (p : Nat) (hi : i < l.length) : rd (l.set i v) (p : Int) = if p = i then v else rd l (p : Int) := by
  rw [rd_set l i v (p : Int) (Int.natCast_nonneg p) hi]
  by_cases e : p = i
  · rw [if_pos e, if_pos (by omega)]
  · rw [if_neg e, if_neg (by omega)]
theorem revK_step (l : List Int) (i : Nat) (h : i < l.length - 1 - i) : ((revK l i).set i (rd (revK l i) ((l.length - 1 - i : Nat) : Int))).set (l.length - 1 - i) (rd (revK l i) (i : Int)) = revK l (i + 1) := by
  refine rd_ext (by simp [revK_len]) (fun p hp => ?_)
  have hp' : p < l.length := by simpa [revK_len] using hp
  rw [rd_set' _ _ _ _ (by simp [revK_len]; omega), rd_set' _ _ _ _ (by rw [revK_len]; omega), revK_at l (i + 1) p hp', revK_at l i p hp', revK_at l i i (by omega), revK_at l i _ (by omega)]
  by_cases e1 : p = l.length - 1 - i
  · rw [if_pos e1, if_neg (by omega), if_pos (by omega)]
    congr 2; omega
  · rw [if_neg e1]
    by_cases e2 : p = i
    · rw [if_pos e2, if_neg (by omega), if_pos (by omega)]
      congr 2; omega
    · rw [if_neg e2]
      by_cases e3 : p < i ∨ l.length - i ≤ p
      · rw [if_pos e3, if_pos (by omega)]
      · rw [if_neg e3, if_neg (by omega)]
theorem revK_end (l : List Int) (i : Nat) (h : ¬ i < l.length - 1 - i) (hi : i ≤ l.length) : revK l i = l.reverse := by
  refine rd_ext (by simp [revK_len]) (fun p hp => ?_)
  rw [revK_len] at hp
  have e : rd l.reverse (p : Int) = rd l ((l.length - 1 - p : Nat) : Int) := by
    rw [rd_nat, rd_nat, List.getD_eq_getElem?_getD, List.getD_eq_getElem?_getD, List.getElem?_reverse hp]
  rw [revK_at l i p hp, e]
  by_cases c : p < i ∨ l.length - i ≤ p
  · rw [if_pos c]
  · rw [if_neg c]
    congr 2; omega
theorem rev_l0 (l : List Int) (hl : l.length < 4611686018427387904) (h0 : 0 < l.length) : ∀ m i, m + i = l.length → i ≤ l.length - 1 - i + 1 → ∃ k, slices_Reverse_int_int.l0 k (revK l i) (i : Int) ((l.length : Int) - 1 - (i : Int)) = some l.reverse := by
  intro m
  induction m with
  | zero =>
    intro i hi hle
    refine ⟨1, ?_⟩
    simp only [slices_Reverse_int_int.l0]
    rw [if_neg (by omega), revK_end l i (by omega) (by omega)]
  | succ m ih =>
    intro i hi hle
    by_cases h : i < l.length - 1 - i
    · obtain ⟨k, hk⟩ := ih (i + 1) (by omega) (by omega)
      refine ⟨k + 1, ?_⟩
      have e1 : wrap64 ((i : Int) + 1) = ((i + 1 : Nat) : Int) := by unfold wrap64; omega
      have e2 : wrap64 ((l.length : Int) - 1 - (i : Int) - 1) = (l.length : Int) - 1 - ((i + 1 : Nat) : Int) := by unfold wrap64; omega
      have e3 : (l.length : Int) - 1 - (i : Int) = ((l.length - 1 - i : Nat) : Int) := by omega
      simp only [slices_Reverse_int_int.l0]
      rw [if_pos (by omega), if_pos (by omega), if_pos (by rw [revK_len]; omega), if_pos (by omega), if_pos (by rw [revK_len]; omega), e1, e2]
      rw [e3, Int.toNat_natCast, Int.toNat_natCast, revK_step l i h]
      exact hk
    · refine ⟨1, ?_⟩
      simp only [slices_Reverse_int_int.l0]
      rw [if_neg (by omega), revK_end l i h (by omega)]
theorem rev_f (l : List Int) (hl : l.length < 4611686018427387904) : ∃ k, slices_Reverse_int_int.f k l = some l.reverse := by
  by_cases h0 : 0 < l.length
  · obtain ⟨k, hk⟩ := rev_l0 l hl h0 l.length 0 (by omega) (by omega)
    refine ⟨k, ?_⟩
    rw [revK_zero] at hk
    unfold slices_Reverse_int_int.f
    have e : wrap64 ((l.length : Int) - 1) = (l.length : Int) - 1 - ((0 : Nat) : Int) := by unfold wrap64; omega
    rw [e]; exact hk
  · have : l = [] := List.eq_nil_of_length_eq_zero (by omega)
    subst this
    exact ⟨1, by decide +kernel⟩
/-! ### the bounds -/
def backL (nbs : List (List Int)) : List Int := (shellN nbs nbs.length).reverse
theorem back_len (nbs : List (List Int)) : (backL nbs).length = nbs.length := by
  unfold backL; rw [List.length_reverse, (shellN_spec nbs nbs.length (Nat.le_refl _)).1]
theorem i64b_colour {nbs : List (List Int)} (hg : Gok nbs) (o : List Int) : i64b (colourL nbs o) = true := by
  unfold i64b
  rw [List.all_eq_true]
  intro x hx
  have := (colourL_ok hg o).2 x hx
  simp; omega
theorem bounds_f {nbs : List (List Int)} {n : Nat} {adj : Nat → Nat → Bool} (hg : Grf nbs n adj) : ∃ k, clique_Bounds.f k nbs = some (((growL nbs (backL nbs)).length : Int), (nCol (colourL nbs (backL nbs)) : Int)) := by
  have hle := hg.le
  have hnl := hg.is.len
  have hs := (shellN_spec nbs nbs.length (Nat.le_refl _)).1
  have hbl := back_len nbs
  obtain ⟨k, hk⟩ := rev_f (shellN nbs nbs.length) (by omega)
  refine ⟨k, ?_⟩
  unfold clique_Bounds.f graph_Graph_Shell.f
  rw [if_pos ⟨hg.gok, hg.gsym⟩]
  have e2 : clique_Grow.f nbs (backL nbs) = some (growL nbs (backL nbs)) := by unfold clique_Grow.f; rw [if_pos ⟨by omega, by omega⟩]
  have e3 : clique_Colour.f nbs (backL nbs) = some (colourL nbs (backL nbs)) := by unfold clique_Colour.f; rw [if_pos ⟨hg.gok, by omega⟩]
  have e4 : clique_Colours.f (colourL nbs (backL nbs)) = some (nCol (colourL nbs (backL nbs)) : Int) := by unfold clique_Colours.f; rw [if_pos (i64b_colour hg.gok _)]
  have hk' : slices_Reverse_int_int.f k (shellN nbs nbs.length) = some (backL nbs) := hk
  simp only [Option.bind_some, hk', e2, e3, e4]
/-! ### the greatest clique -/
/-- All cliques that go on from one with those that may come, as the search comes to them. -/
def allG (nbs : List (List Int)) (f : List Int → List Int → List (List Int)) (l : List Int) : List Int → List (List Int)
  | [] => []
  | a :: rest => f (l ++ [a]) (rest.filter fun b => hasB nbs a b) ++ allG nbs f l rest
def allF (nbs : List (List Int)) : Nat → List Int → List Int → List (List Int)
  | 0, _, _ => []
  | d + 1, l, may => l :: allG nbs (allF nbs d) l may
def longer (best x : List Int) : List Int := if best.length < x.length then x else best
theorem fold_longer_id (xs : List (List Int)) : ∀ best, (∀ x ∈ xs, x.length ≤ best.length) → xs.foldl longer best = best := by
  induction xs with
  | nil => intro best _; rfl
  | cons x r ih =>
    intro best h
    have h1 := h x (by simp)
    rw [List.foldl_cons, longer, if_neg (by omega)]
    exact ih best (fun y hy => h y (by simp [hy]))
theorem allG_len (nbs : List (List Int)) (f : List Int → List Int → List (List Int)) (hf : ∀ l may x, x ∈ f l may → x.length ≤ l.length + may.length) (l : List Int) : ∀ may x, x ∈ allG nbs f l may → x.length ≤ l.length + may.length
  | [], x, hx => by simp [allG] at hx
  | a :: rest, x, hx => by
    rw [allG, List.mem_append] at hx
    rcases hx with hx | hx
    · have := hf _ _ _ hx
      have h2 := List.length_filter_le (fun b => hasB nbs a b) rest
      simp at this ⊢; omega
    · have := allG_len nbs f hf l rest x hx
      simp; omega
theorem allF_len (nbs : List (List Int)) : ∀ d l may x, x ∈ allF nbs d l may → x.length ≤ l.length + may.length
  | 0, l, may, x, hx => by simp [allF] at hx
  | d + 1, l, may, x, hx => by
    rw [allF, List.mem_cons] at hx
    rcases hx with rfl | hx
    · omega
    · exact allG_len nbs _ (allF_len nbs d) l may x hx
theorem goL_fold (nbs : List (List Int)) (F : List Int → List Int → List Int → List Int) (f : List Int → List Int → List (List Int)) (hF : ∀ best l may, F best l may = (f l may).foldl longer best) (hf : ∀ l may x, x ∈ f l may → x.length ≤ l.length + may.length) (l : List Int) :
    ∀ may best, goL nbs F l may best = (allG nbs f l may).foldl longer best
  | [], best => rfl
  | a :: rest, best => by
    rw [goL]
    by_cases c : l.length + (rest.length + 1) ≤ best.length
    · rw [if_pos c, fold_longer_id]
      intro x hx
      have := allG_len nbs f hf l (a :: rest) x hx
      simp at this; omega
    · rw [if_neg c, goL_fold nbs F f hF hf l rest, hF, allG, List.foldl_append]
theorem fromL_fold (nbs : List (List Int)) : ∀ d best l may, fromL nbs d best l may = (allF nbs d l may).foldl longer best
  | 0, best, l, may => rfl
  | d + 1, best, l, may => by
    rw [fromL, allF, List.foldl_cons, goL_fold nbs (fromL nbs d) (allF nbs d) (fun b l m => fromL_fold nbs d b l m) (allF_len nbs d)]
    rfl
/-- The first of the longest. -/
theorem fold_longer (xs : List (List Int)) : ∀ best, (∀ x ∈ xs, x.length ≤ (xs.foldl longer best).length) ∧ best.length ≤ (xs.foldl longer best).length ∧ (xs.foldl longer best = best ∨ ∃ pre post, xs = pre ++ xs.foldl longer best :: post ∧ ∀ y ∈ pre, y.length < (xs.foldl longer best).length) := by
  induction xs with
  | nil => intro best; exact ⟨fun x hx => by simp at hx, Nat.le_refl _, .inl rfl⟩
  | cons x r ih =>
    intro best
    obtain ⟨h1, h2, h3⟩ := ih (longer best x)
    have hb : best.length ≤ (longer best x).length ∧ x.length ≤ (longer best x).length := by unfold longer; split <;> omega
    rw [List.foldl_cons]
    refine ⟨fun y hy => ?_, by omega, ?_⟩
    · rcases List.mem_cons.1 hy with rfl | hy
      · omega
      · exact h1 y hy
    · rcases h3 with h3 | ⟨pre, post, h3, h4⟩
      · by_cases c : best.length < x.length
        · right
          refine ⟨[], r, ?_, fun y hy => by simp at hy⟩
          rw [h3]
          have : longer best x = x := by unfold longer; rw [if_pos c]
          rw [this]; rfl
        · left
          rw [h3]; unfold longer; rw [if_neg c]
      · by_cases c : (longer best x).length < (r.foldl longer (longer best x)).length
        · right
          refine ⟨x :: pre, post, by rw [List.cons_append, ← h3], fun y hy => ?_⟩
          rcases List.mem_cons.1 hy with rfl | hy
          · omega
          · exact h4 y hy
        · have hid : r.foldl longer (longer best x) = longer best x := fold_longer_id r _ (fun y hy => by have := h1 y hy; omega)
          rw [hid]
          by_cases c2 : best.length < x.length
          · right
            refine ⟨[], r, ?_, fun y hy => by simp at hy⟩
            have : longer best x = x := by unfold longer; rw [if_pos c2]
            rw [this]; rfl
          · left; unfold longer; rw [if_neg c2]
theorem allG_cl {nbs : List (List Int)} (f : List Int → List Int → List (List Int)) (hf : ∀ l may, isL nbs l = true → (∀ a ∈ may, isB nbs a = true ∧ okC nbs a l = true) → ∀ x ∈ f l may, isL nbs x = true) (hs : ∀ x y, hasB nbs x y = true → hasB nbs y x = true) (l : List Int) (hl : isL nbs l = true) :
    ∀ may, (∀ a ∈ may, isB nbs a = true ∧ okC nbs a l = true) → ∀ x ∈ allG nbs f l may, isL nbs x = true
  | [], _, x, hx => by simp [allG] at hx
  | a :: rest, hm, x, hx => by
    rw [allG, List.mem_append] at hx
    rcases hx with hx | hx
    · refine hf _ _ (by rw [isL_snoc, hl, (hm a (by simp)).1, (hm a (by simp)).2]; rfl) (fun b hb => ?_) x hx
      rw [List.mem_filter] at hb
      have hb2 := hm b (by simp [hb.1])
      refine ⟨hb2.1, ?_⟩
      unfold okC at hb2 ⊢
      rw [List.all_append, hb2.2, Bool.true_and]
      simp [hs a b hb.2]
    · exact allG_cl f hf hs l hl rest (fun b hb => hm b (by simp [hb])) x hx
theorem allF_cl {nbs : List (List Int)} (hs : ∀ x y, hasB nbs x y = true → hasB nbs y x = true) : ∀ d l may, isL nbs l = true → (∀ a ∈ may, isB nbs a = true ∧ okC nbs a l = true) → ∀ x ∈ allF nbs d l may, isL nbs x = true
  | 0, l, may, _, _, x, hx => by simp [allF] at hx
  | d + 1, l, may, hl, hm, x, hx => by
    rw [allF, List.mem_cons] at hx
    rcases hx with rfl | hx
    · exact hl
    · exact allG_cl _ (fun l may h1 h2 => allF_cl hs d l may h1 h2) hs l hl may hm x hx
theorem allG_has {nbs : List (List Int)} (f : List Int → List Int → List (List Int)) (P : Int → Bool) (l : List Int) : ∀ may a rest, may.filter P = a :: rest → (∀ x y, x ∈ may → y ∈ may → P x = true → P y = true → x ≠ y → hasB nbs x y = true) → may.Nodup →
    (∀ m2 : List Int, m2.length < may.length → (∀ x ∈ m2, x ∈ may) → m2.Nodup → l ++ [a] ++ m2.filter P ∈ f (l ++ [a]) m2) → l ++ may.filter P ∈ allG nbs f l may
  | [], a, rest, h, _, _, _ => by simp at h
  | b :: may, a, rest, h, hp, hnd, hf => by
    rw [allG, List.mem_append]
    rw [List.nodup_cons] at hnd
    cases c : P b with
    | true =>
      rw [List.filter_cons, if_pos c] at h ⊢
      obtain ⟨rfl, h⟩ := List.cons.inj h
      left
      have e : (may.filter fun x => hasB nbs b x).filter P = may.filter P := by
        rw [List.filter_filter]
        refine List.filter_congr (fun x hx => ?_)
        cases c2 : P x
        · simp
        · have : b ≠ x := fun e => hnd.1 (e ▸ hx)
          rw [hp b x (by simp) (by simp [hx]) c c2 this]; rfl
      have := hf (may.filter fun x => hasB nbs b x) (by have := List.length_filter_le (fun x => hasB nbs b x) may; simp; omega) (fun x hx => by simp [(List.mem_filter.1 hx).1]) (hnd.2.filter _)
      rw [e] at this
      simpa using this
    | false =>
      have h' : may.filter P = a :: rest := by rw [List.filter_cons, if_neg (by simp [c])] at h; exact h
      rw [List.filter_cons, if_neg (by simp [c])]
      right
      exact allG_has f P l may a rest h' (fun x y hx hy => hp x y (by simp [hx]) (by simp [hy])) hnd.2 (fun m2 h1 h2 h3 => hf m2 (by simp; omega) (fun x hx => by simp [h2 x hx]) h3)
theorem allF_has {nbs : List (List Int)} (P : Int → Bool) : ∀ d l may, may.length < d → may.Nodup → (∀ x y, x ∈ may → y ∈ may → P x = true → P y = true → x ≠ y → hasB nbs x y = true) → l ++ may.filter P ∈ allF nbs d l may
  | 0, l, may, h, _, _ => by omega
  | d + 1, l, may, h, hnd, hp => by
    rw [allF, List.mem_cons]
    cases e : may.filter P with
    | nil => left; simp
    | cons a rest =>
      right
      rw [← e]
      exact allG_has (allF nbs d) P l may a rest e hp hnd (fun m2 h1 h2 h3 => by
        have := allF_has P d (l ++ [a]) m2 (by omega) h3 (fun x y hx hy => hp x y (h2 x hx) (h2 y hy))
        exact this)
theorem ints_nodup (n : Nat) : (ints n).Nodup := by
  unfold ints
  rw [List.Nodup, List.pairwise_map]
  exact List.Pairwise.imp (fun h => by omega) List.nodup_range
theorem mem_ints (n : Nat) (x : Int) : x ∈ ints n ↔ 0 ≤ x ∧ x < (n : Int) := by
  unfold ints
  rw [List.mem_map]
  constructor
  · rintro ⟨i, hi, rfl⟩; have := List.mem_range.1 hi; omega
  · rintro ⟨h1, h2⟩
    obtain ⟨k, rfl⟩ := Int.eq_ofNat_of_zero_le h1
    exact ⟨k, List.mem_range.2 (by omega), rfl⟩
theorem great_fold (nbs : List (List Int)) (h : nbs.length ≤ 16) : greatL nbs = (allF nbs (nbs.length + 1) [] (ints nbs.length)).foldl longer [] := by
  unfold greatL; rw [if_pos h, fromL_fold]
theorem rd_at_of (l : List Int) (x : Int) (h : x ∈ l) : ∃ i, i < l.length ∧ rd l (i : Int) = x := by
  obtain ⟨i, hi, rfl⟩ := List.mem_iff_getElem.1 h
  exact ⟨i, hi, by simp [rd, hi]⟩
section
variable {nbs : List (List Int)} {n : Nat} {adj : Nat → Nat → Bool}
theorem great_in (h : nbs.length ≤ 16) : greatL nbs ∈ allF nbs (nbs.length + 1) [] (ints nbs.length) := by
  rw [great_fold nbs h]
  obtain ⟨h1, h2, h3⟩ := fold_longer (allF nbs (nbs.length + 1) [] (ints nbs.length)) []
  rcases h3 with h3 | ⟨pre, post, h3, _⟩
  · rw [h3]; rw [allF]; simp
  · generalize (allF nbs (nbs.length + 1) [] (ints nbs.length)).foldl longer [] = G at h3 ⊢
    rw [h3]; simp
theorem great_is (hg : Grf nbs n adj) (h : n ≤ 16) : isL nbs (greatL nbs) = true := by
  have hl := hg.is.len
  refine allF_cl (fun x y e => hg.has_symm e) _ [] _ rfl (fun a ha => ⟨?_, rfl⟩) _ (great_in (by omega))
  rw [mem_ints] at ha
  rw [isB_iff hg]; omega
/-- A clique as a rising row. -/
def rise (n : Nat) (l : List Int) : List Int := (ints n).filter fun x => l.contains x
theorem isL_pair (hg : Grf nbs n adj) {l : List Int} (hl : isL nbs l = true) {x y : Int} (hx : x ∈ l) (hy : y ∈ l) (hne : x ≠ y) : hasB nbs x y = true := by
  obtain ⟨i, hi, rfl⟩ := rd_at_of l x hx
  obtain ⟨j, hj, rfl⟩ := rd_at_of l y hy
  exact isL_nodup hg hl hi hj (fun e => hne (by rw [e]))
theorem rise_len (hg : Grf nbs n adj) {l : List Int} (hl : isL nbs l = true) : l.length ≤ (rise n l).length := by
  refine nodup_sub_len _ _ ?_ (fun x hx => ?_)
  · rw [List.Nodup, List.pairwise_iff_getElem]
    intro i j hi hj hij heq
    have e1 : rd l (i : Int) = l[i] := by simp [rd, hi]
    have e2 : rd l (j : Int) = l[j] := by simp [rd, hj]
    have := hg.has_ne (isL_nodup hg hl hi hj (by omega))
    rw [e1, e2] at this
    exact this heq
  · obtain ⟨i, hi, rfl⟩ := rd_at_of l x hx
    have := (isL_iff.1 hl i hi).1
    rw [isB_iff hg] at this
    exact List.mem_filter.2 ⟨(mem_ints _ _).2 this, by rw [List.contains_iff_mem]; exact hx⟩
theorem rise_in (hg : Grf nbs n adj) {l : List Int} (hl : isL nbs l = true) : rise n l ∈ allF nbs (n + 1) [] (ints n) := by
  have := allF_has (nbs := nbs) (fun x => l.contains x) (n + 1) [] (ints n) (by rw [ints_len]; omega) (ints_nodup n) (fun x y _ _ hx hy hne => isL_pair hg hl (List.contains_iff_mem.1 hx) (List.contains_iff_mem.1 hy) hne)
  rw [List.nil_append] at this
  exact this
theorem great_max (hg : Grf nbs n adj) (h : n ≤ 16) {l : List Int} (hl : isL nbs l = true) : l.length ≤ (greatL nbs).length := by
  have hn := hg.is.len
  have h1 := rise_len hg hl
  have h2 := rise_in hg hl
  rw [great_fold nbs (by omega)]
  obtain ⟨h3, _, _⟩ := fold_longer (allF nbs (nbs.length + 1) [] (ints nbs.length)) []
  rw [← hn] at h2 h1
  exact Nat.le_trans h1 (h3 _ h2)
end
end Go.Proofs.Ytbmnnmcnmfgbaaa.PG
end
section
/-
  What the document's Bounds and Greatest give: the same as the program's.
-/
namespace Go.Proofs.Ytbmnnmcnmfgbaaa.PG
open Go.RowKit Go.Shelf Go.Proofs.YtbmnnmcnmfgbaaaW.PrintWords Go.Proofs.YtbmnnmcnmfgbaaaW.PrintLast Go.Proofs.YtbmnnmcnmfgbaaaW.PrintMore
open Go.Proofs.Ytbmnnmcnmfgbaaa.PB Go.Proofs.Ytbmnnmcnmfgbaaa.PC Go.Proofs.Ytbmnnmcnmfgbaaa.PK Go.Proofs.Ytbmnnmcnmfgbaaa.PD
set_option linter.unusedVariables false
set_option linter.unusedSimpArgs false
section
variable {nbs : List (List Int)} {n : Nat} {adj : Nat → Nat → Bool} {on : List Bool}
/-! ### degrees and the shell -/
def degC (nbs : List (List Int)) (out : List Int) (a : Int) (b : Nat) : Nat := ((ints b).filter fun y => hasB nbs a y && !out.contains y).length
theorem degC_succ (nbs : List (List Int)) (out : List Int) (a : Int) (b : Nat) : degC nbs out a (b + 1) = if hasB nbs a (b : Int) = true ∧ (b : Int) ∉ out then degC nbs out a b + 1 else degC nbs out a b := by
  unfold degC
  rw [ints_succ, List.filter_append, List.length_append]
  by_cases h : hasB nbs a (b : Int) = true ∧ (b : Int) ∉ out
  · rw [if_pos h]; simp [h.1, h.2]
  · rw [if_neg h]
    have : (hasB nbs a (b : Int) && !out.contains (b : Int)) = false := by
      cases h1 : hasB nbs a (b : Int)
      · rfl
      · cases h2 : out.contains (b : Int)
        · exact absurd ⟨h1, fun hm => by rw [List.contains_iff_mem.2 hm] at h2; cases h2⟩ h
        · rfl
    rw [List.filter_cons, if_neg (by rw [this]; simp)]; simp
theorem degC_le (nbs : List (List Int)) (out : List Int) (a : Int) (b : Nat) : degC nbs out a b ≤ b := by
  unfold degC
  exact Nat.le_trans (List.length_filter_le _ _) (by rw [ints_len]; exact Nat.le_refl _)
theorem degC_deg (hg : Grf nbs n adj) (out : List Int) (a : Int) : degC nbs out a n = degN nbs out a := by
  unfold degC degN
  refine Nat.le_antisymm (nodup_sub_len _ _ ((ints_nodup n).filter _) (fun y hy => ?_)) (nodup_sub_len _ _ ((near_nodup nbs a).filter _) (fun y hy => ?_))
  · rw [List.mem_filter, Bool.and_eq_true] at hy
    exact List.mem_filter.2 ⟨near_has.2 hy.2.1, hy.2.2⟩
  · rw [List.mem_filter] at hy
    have h := near_has.1 hy.1
    obtain ⟨p, q, rfl, rfl, hadj⟩ := hg.has h
    have := hg.lt _ _ hadj
    exact List.mem_filter.2 ⟨(mem_ints _ _).2 (by omega), by rw [h, hy.2]; rfl⟩
theorem refdeg_l0 (hg : Grf nbs n adj) (hr : RefIs on n adj) (out : List Int) (ho : out.length ≤ 1000) (a : Int) (ha : isB nbs a = true) : ∀ d b, b + d = n → Ev (fun k => horariumref23_degree.l0 k out a (degC nbs out a b : Int) (b : Int) (n : Int) on) (degN nbs out a : Int)
  | 0, b, hb => by
    obtain rfl : b = n := by omega
    rw [← degC_deg hg]
    refine Ev.step (f := fun _ => some (degC nbs out a b : Int)) (fun k => ?_) (Ev.now _)
    simp only [horariumref23_degree.l0]
    rw [if_neg (by omega)]
  | d + 1, b, hb => by
    have ih := refdeg_l0 hg hr out ho a ha d (b + 1) (by omega)
    have hle := hg.le
    have hd := degC_le nbs out a b
    have hh := has_is hg hr ha (y := (b : Int)) (by rw [isB_iff hg]; omega)
    have hw := wrap_nat b n (by omega) (by omega)
    have hw2 := wrap_nat (degC nbs out a b) n (by omega) (by omega)
    rw [degC_succ] at ih
    cases e1 : hasB nbs a (b : Int) with
    | false =>
      rw [if_neg (by rw [e1]; simp)] at ih
      refine Ev.step (fun k => ?_) ih
      simp only [horariumref23_degree.l0]
      rw [if_pos (by omega), hh, e1, Option.bind_some, if_neg (by simp), hw]
    | true =>
      have hH := has14_ev out (b : Int) (by omega)
      refine Ev.step (f := fun k => (horariumref14_Has.f k out (b : Int)).bind fun t => if t = true then horariumref23_degree.l0 k out a (degC nbs out a b : Int) ((b + 1 : Nat) : Int) (n : Int) on else horariumref23_degree.l0 k out a ((degC nbs out a b + 1 : Nat) : Int) ((b + 1 : Nat) : Int) (n : Int) on) (fun k => ?_) (Ev.bind hH ?_)
      · simp only [horariumref23_degree.l0]
        rw [if_pos (by omega), hh, e1, Option.bind_some, if_pos rfl, hw, hw2]
      · by_cases e2 : (b : Int) ∈ out
        · rw [if_neg (by simp [e2])] at ih
          refine Ev.congr (fun k => ?_) ih
          rw [decide_eq_true e2, if_pos rfl]
        · rw [if_pos ⟨e1, e2⟩] at ih
          refine Ev.congr (fun k => ?_) ih
          rw [decide_eq_false e2, if_neg (by simp)]
theorem refdeg_ev (hg : Grf nbs n adj) (hr : RefIs on n adj) (out : List Int) (ho : out.length ≤ 1000) (a : Int) (ha : isB nbs a = true) : Ev (fun k => horariumref23_degree.f k (n : Int) on out a) (degN nbs out a : Int) := by
  have := refdeg_l0 hg hr out ho a ha n 0 (by omega)
  exact this
theorem best_node (hg : Grf nbs n adj) (out : List Int) (k : Nat) (hk : k ≤ n) (h : ¬ bestK nbs out k < 0) : isB nbs (bestK nbs out k) = true := by
  rcases bestK_spec nbs out k with ⟨h1, _⟩ | ⟨i, hi, h1, _⟩
  · rw [h1] at h; omega
  · rw [h1, isB_iff hg]; omega
theorem refshell_l1 (hg : Grf nbs n adj) (hr : RefIs on n adj) (out : List Int) (ho : out.length ≤ 1000) (R : List Int) (h0 : Ev (fun k => horariumref23_Shell.l0 k (out ++ [bestK nbs out n]) (n : Int) on) R) :
    ∀ d i, i + d = n → Ev (fun k => horariumref23_Shell.l1 k out (bestK nbs out i) (i : Int) (n : Int) on) R
  | 0, i, hi => by
    obtain rfl : i = n := by omega
    refine Ev.step (fun k => ?_) h0
    simp only [horariumref23_Shell.l1]
    rw [if_neg (by omega), if_pos (by omega)]
  | d + 1, i, hi => by
    have ih := refshell_l1 hg hr out ho R h0 d (i + 1) (by omega)
    have hle := hg.le
    have hw := wrap_nat i n (by omega) (by omega)
    have hH := has14_ev out (i : Int) (by omega)
    rw [bestK_succ] at ih
    obtain ⟨best, hb⟩ : ∃ b, bestK nbs out i = b := ⟨_, rfl⟩
    have hbn := best_node hg out i (by omega)
    rw [hb] at ih hbn ⊢
    refine Ev.step (f := fun k => (horariumref14_Has.f k out (i : Int)).bind fun t => if t = true then horariumref23_Shell.l1 k out best ((i + 1 : Nat) : Int) (n : Int) on else if best < 0 then horariumref23_Shell.l1 k out (i : Int) ((i + 1 : Nat) : Int) (n : Int) on else (horariumref23_degree.f k (n : Int) on out (i : Int)).bind fun t1 => (horariumref23_degree.f k (n : Int) on out best).bind fun t2 => if t1 < t2 then horariumref23_Shell.l1 k out (i : Int) ((i + 1 : Nat) : Int) (n : Int) on else horariumref23_Shell.l1 k out best ((i + 1 : Nat) : Int) (n : Int) on) (fun k => ?_) (Ev.bind hH ?_)
    · simp only [horariumref23_Shell.l1]
      rw [if_pos (by omega), hw]
    · by_cases e2 : (i : Int) ∈ out
      · have e : bestStep nbs out best (i : Int) = best := by unfold bestStep; rw [if_neg (fun h => by have := h.1; rw [List.contains_iff_mem.2 e2] at this; cases this)]
        rw [e] at ih
        refine Ev.congr (fun k => ?_) ih
        rw [decide_eq_true e2, if_pos rfl]
      · have hc : out.contains (i : Int) = false := by
          cases h : out.contains (i : Int)
          · rfl
          · exact absurd (List.contains_iff_mem.1 h) e2
        by_cases e3 : best < 0
        · have e : bestStep nbs out best (i : Int) = (i : Int) := by unfold bestStep; rw [if_pos ⟨hc, .inl e3⟩]
          rw [e] at ih
          refine Ev.congr (fun k => ?_) ih
          rw [decide_eq_false e2, if_neg (by simp), if_pos e3]
        · have hd1 := refdeg_ev hg hr out ho (i : Int) (by rw [isB_iff hg]; omega)
          have hd2 := refdeg_ev hg hr out ho best (hbn e3)
          refine Ev.congr (f := fun k => (horariumref23_degree.f k (n : Int) on out (i : Int)).bind fun t1 => (horariumref23_degree.f k (n : Int) on out best).bind fun t2 => if t1 < t2 then horariumref23_Shell.l1 k out (i : Int) ((i + 1 : Nat) : Int) (n : Int) on else horariumref23_Shell.l1 k out best ((i + 1 : Nat) : Int) (n : Int) on) (fun k => ?_) (Ev.bind hd1 (Ev.bind hd2 ?_))
          · rw [decide_eq_false e2, if_neg (by simp), if_neg e3]
          · by_cases e4 : degN nbs out (i : Int) < degN nbs out best
            · have e : bestStep nbs out best (i : Int) = (i : Int) := by unfold bestStep; rw [if_pos ⟨hc, .inr e4⟩]
              rw [e] at ih
              refine Ev.congr (fun k => ?_) ih
              rw [if_pos (by omega)]
            · have e : bestStep nbs out best (i : Int) = best := by unfold bestStep; rw [if_neg (by rintro ⟨_, h | h⟩ <;> omega)]
              rw [e] at ih
              refine Ev.congr (fun k => ?_) ih
              rw [if_neg (by omega)]
theorem refshell_l0 (hg : Grf nbs n adj) (hr : RefIs on n adj) : ∀ d j, j + d = n → Ev (fun k => horariumref23_Shell.l0 k (shellN nbs j) (n : Int) on) (shellN nbs n)
  | 0, j, hj => by
    obtain rfl : j = n := by omega
    have hl := (shellN_spec nbs j (by rw [hg.is.len]; exact Nat.le_refl _)).1
    refine Ev.step (f := fun _ => some (shellN nbs j)) (fun k => ?_) (Ev.now _)
    simp only [horariumref23_Shell.l0]
    rw [if_neg (by omega)]
  | d + 1, j, hj => by
    have ih := refshell_l0 hg hr d (j + 1) (by omega)
    have hle := hg.le
    have hnl := hg.is.len
    have hl := (shellN_spec nbs j (by omega)).1
    have e : shellN nbs (j + 1) = shellN nbs j ++ [bestK nbs (shellN nbs j) n] := by rw [shellN, hnl]
    rw [e] at ih
    refine Ev.step (fun k => ?_) (refshell_l1 hg hr (shellN nbs j) (by omega) _ ih n 0 (by omega))
    simp only [horariumref23_Shell.l0]
    rw [if_pos (by omega)]
    rfl
theorem refshell_ev (hg : Grf nbs n adj) (hr : RefIs on n adj) : Ev (fun k => horariumref23_Shell.f k (n : Int) on) (shellN nbs n) :=
  refshell_l0 hg hr n 0 (by omega)
/-! ### the bounds -/
theorem refcols_f (hg : Grf nbs n adj) (o : List Int) : horariumref26_Colours.f (colourL nbs o) = some (nCol (colourL nbs o) : Int) := by
  have := (colourL_ok hg.gok o).1
  have hle := hg.gok.le
  unfold horariumref26_Colours.f; rw [if_pos ⟨i64b_colour hg.gok o, by omega⟩]
theorem refbounds_l0 (hg : Grf nbs n adj) (hr : RefIs on n adj) : ∀ m : Nat, m ≤ n → Ev (fun k => horariumref26_Bounds.l0 k (shellN nbs n) ((shellN nbs n).drop m).reverse ((m : Int) - 1) (n : Int) on) (((growL nbs (backL nbs)).length : Int), (nCol (colourL nbs (backL nbs)) : Int))
  | 0, _ => by
    have hnl := hg.is.len
    have hle := hg.le
    have e : ((shellN nbs n).drop 0).reverse = backL nbs := by unfold backL; rw [List.drop_zero, hnl]
    have hbl := back_len nbs
    rw [e]
    refine Ev.step (f := fun k => (horariumref26_Grow.f k (n : Int) on (backL nbs)).bind fun t1 => (horariumref26_Colour.f k (n : Int) on (backL nbs)).bind fun t2 => (horariumref26_Colours.f t2).bind fun t3 => some ((t1.length : Int), t3)) (fun k => ?_)
      (Ev.bind (refgrow_ev hg hr (backL nbs) (by omega)) (Ev.bind (refcol_ev hg hr (backL nbs) (by omega)) ?_))
    · simp only [horariumref26_Bounds.l0]
      rw [if_neg (by omega)]
    · refine Ev.congr (fun k => ?_) (Ev.now _)
      rw [refcols_f hg]; rfl
  | m + 1, hm => by
    have ih := refbounds_l0 hg hr m (by omega)
    have hle := hg.le
    have hl := (shellN_spec nbs n (by rw [hg.is.len]; exact Nat.le_refl _)).1
    have e : ((shellN nbs n).drop m).reverse = ((shellN nbs n).drop (m + 1)).reverse ++ [rd (shellN nbs n) (m : Int)] := by
      have : (shellN nbs n).drop m = rd (shellN nbs n) (m : Int) :: (shellN nbs n).drop (m + 1) := by
        rw [List.drop_eq_getElem_cons (by omega), rd_nat, List.getD_eq_getElem?_getD, List.getElem?_eq_getElem (by omega)]; rfl
      rw [this, List.reverse_cons]
    rw [e] at ih
    have e2 : ((m + 1 : Nat) : Int) - 1 = (m : Int) := by omega
    have e3 : wrap64 ((m : Int) - 1) = (m : Int) - 1 := by unfold wrap64; omega
    refine Ev.step (fun k => ?_) ih
    simp only [horariumref26_Bounds.l0]
    rw [e2, if_pos (by omega), if_pos (by omega), if_pos (by omega), if_pos (by simp; omega), e3]
theorem refbounds_ev (hg : Grf nbs n adj) (hr : RefIs on n adj) : Ev (fun k => horariumref26_Bounds.f k (n : Int) on) (((growL nbs (backL nbs)).length : Int), (nCol (colourL nbs (backL nbs)) : Int)) := by
  have hle := hg.le
  have hl := (shellN_spec nbs n (by rw [hg.is.len]; exact Nat.le_refl _)).1
  have h := refbounds_l0 hg hr n (Nat.le_refl _)
  have e : (shellN nbs n).drop n = [] := List.drop_of_length_le (by omega)
  rw [e, List.reverse_nil] at h
  refine Ev.bind (refshell_ev hg hr) (Ev.congr (fun k => ?_) h)
  have e3 : wrap64 (((shellN nbs n).length : Int) - 1) = (n : Int) - 1 := by rw [hl]; unfold wrap64; omega
  rw [e3]
end
end Go.Proofs.Ytbmnnmcnmfgbaaa.PG
end
section
/-
  The document's Greatest: the best of all rows is what the search finds.
-/
namespace Go.Proofs.Ytbmnnmcnmfgbaaa.PG
open Go.RowKit Go.Shelf Go.Proofs.YtbmnnmcnmfgbaaaW.PrintWords Go.Proofs.YtbmnnmcnmfgbaaaW.PrintLast Go.Proofs.YtbmnnmcnmfgbaaaW.PrintMore
open Go.Proofs.Ytbmnnmcnmfgbaaa.PB Go.Proofs.Ytbmnnmcnmfgbaaa.PC Go.Proofs.Ytbmnnmcnmfgbaaa.PK Go.Proofs.Ytbmnnmcnmfgbaaa.PD
set_option linter.unusedVariables false
set_option linter.unusedSimpArgs false
/-! ### rows in order -/
def lt : List Int → List Int → Bool
  | [], [] => false
  | [], _ :: _ => true
  | _ :: _, [] => false
  | a :: l, b :: m => if a = b then lt l m else decide (a < b)
theorem lt_irr : ∀ l, lt l l = false
  | [] => rfl
  | a :: l => by rw [lt, if_pos rfl]; exact lt_irr l
theorem lt_trans : ∀ {x y z : List Int}, lt x y = true → lt y z = true → lt x z = true
  | [], [], z, h, _ => by simp [lt] at h
  | [], _ :: _, [], _, h => by simp [lt] at h
  | [], _ :: _, _ :: _, _, _ => rfl
  | _ :: _, [], _, h, _ => by simp [lt] at h
  | _ :: _, _ :: _, [], _, h => by simp [lt] at h
  | a :: x, b :: y, c :: z, h1, h2 => by
    rw [lt] at h1 h2 ⊢
    by_cases e1 : a = b
    · subst e1
      rw [if_pos rfl] at h1
      by_cases e2 : a = c
      · subst e2
        rw [if_pos rfl] at h2 ⊢
        exact lt_trans h1 h2
      · rw [if_neg e2] at h2 ⊢; exact h2
    · rw [if_neg e1, decide_eq_true_eq] at h1
      by_cases e2 : b = c
      · subst e2
        rw [if_neg e1]; exact decide_eq_true h1
      · rw [if_neg e2, decide_eq_true_eq] at h2
        rw [if_neg (by omega), decide_eq_true_eq]; omega
theorem lt_total : ∀ {x y : List Int}, x.length = y.length → lt x y = false → lt y x = false → x = y
  | [], [], _, _, _ => rfl
  | [], _ :: _, h, _, _ => by simp at h
  | _ :: _, [], h, _, _ => by simp at h
  | a :: x, b :: y, h, h1, h2 => by
    rw [lt] at h1 h2
    by_cases e : a = b
    · subst e
      rw [if_pos rfl] at h1 h2
      rw [lt_total (by simpa using h) h1 h2]
    · rw [if_neg e, decide_eq_false_iff_not] at h1
      rw [if_neg (fun e' => e e'.symm), decide_eq_false_iff_not] at h2
      omega
theorem lt_app (p : List Int) (x y : List Int) : lt (p ++ x) (p ++ y) = lt x y := by
  induction p with
  | nil => rfl
  | cons a p ih => rw [List.cons_append, List.cons_append, lt, if_pos rfl, ih]
/-- Longer, or as long and less. -/
def better (a b : List Int) : Bool := if a.length = b.length then lt a b else decide (a.length > b.length)
theorem better_trans {x y z : List Int} (h1 : better x y = true) (h2 : better y z = true) : better x z = true := by
  unfold better at h1 h2 ⊢
  by_cases e1 : x.length = y.length
  · rw [if_pos e1] at h1
    by_cases e2 : y.length = z.length
    · rw [if_pos e2] at h2
      rw [if_pos (by omega)]; exact lt_trans h1 h2
    · rw [if_neg e2, decide_eq_true_eq] at h2
      rw [if_neg (by omega), decide_eq_true_eq]; omega
  · rw [if_neg e1, decide_eq_true_eq] at h1
    by_cases e2 : y.length = z.length
    · rw [if_neg (by omega), decide_eq_true_eq]; omega
    · rw [if_neg e2, decide_eq_true_eq] at h2
      rw [if_neg (by omega), decide_eq_true_eq]; omega
theorem better_total {x y : List Int} (h1 : better x y = false) (h2 : better y x = false) : x = y := by
  unfold better at h1 h2
  by_cases e : x.length = y.length
  · rw [if_pos e] at h1
    rw [if_pos e.symm] at h2
    exact lt_total e h1 h2
  · rw [if_neg e, decide_eq_false_iff_not] at h1
    rw [if_neg (fun h => e h.symm), decide_eq_false_iff_not] at h2
    omega
theorem better_l0 (a b : List Int) (hl : a.length = b.length) (hn : a.length ≤ 1000) : ∀ d i, i + d = a.length → Ev (fun k => horariumref26_better.l0 k a b (i : Int)) (lt (a.drop i) (b.drop i))
  | 0, i, hi => by
    rw [List.drop_of_length_le (by omega), List.drop_of_length_le (by omega)]
    refine Ev.step (f := fun _ => some false) (fun k => ?_) (Ev.now _)
    simp only [horariumref26_better.l0]
    rw [if_neg (by omega)]
  | d + 1, i, hi => by
    have ih := better_l0 a b hl hn d (i + 1) (by omega)
    have ea : a.drop i = rd a (i : Int) :: a.drop (i + 1) := by
      rw [List.drop_eq_getElem_cons (by omega), rd_nat, List.getD_eq_getElem?_getD, List.getElem?_eq_getElem (by omega)]; rfl
    have eb : b.drop i = rd b (i : Int) :: b.drop (i + 1) := by
      rw [List.drop_eq_getElem_cons (by omega), rd_nat, List.getD_eq_getElem?_getD, List.getElem?_eq_getElem (by omega)]; rfl
    rw [ea, eb, lt]
    by_cases e : rd a (i : Int) = rd b (i : Int)
    · rw [if_pos e]
      refine Ev.step (fun k => ?_) ih
      simp only [horariumref26_better.l0]
      rw [if_pos (by omega), if_pos (by omega), if_pos (by omega), if_pos e, wrap_nat i a.length (by omega) (by omega)]
    · rw [if_neg e]
      refine Ev.step (f := fun _ => some (decide (rd a (i : Int) < rd b (i : Int)))) (fun k => ?_) (Ev.now _)
      simp only [horariumref26_better.l0]
      rw [if_pos (by omega), if_pos (by omega), if_pos (by omega), if_neg e]
theorem better_ev (a b : List Int) (hn : a.length ≤ 1000) : Ev (fun k => horariumref26_better.f k a b) (better a b) := by
  unfold better
  by_cases e : a.length = b.length
  · rw [if_pos e]
    refine Ev.congr (fun k => ?_) (better_l0 a b e hn a.length 0 (by omega))
    unfold horariumref26_better.f
    rw [if_pos (by omega)]; rfl
  · rw [if_neg e]
    refine Ev.congr (fun k => ?_) (Ev.now _)
    unfold horariumref26_better.f
    rw [if_neg (by omega)]
    congr 1
    rw [Bool.eq_iff_iff, decide_eq_true_eq, decide_eq_true_eq]; omega
/-! ### rows as bits -/
def bitsL (m i : Nat) : List Int := (ints i).filter fun x => m.testBit x.toNat
theorem bitsL_succ (m i : Nat) : bitsL m (i + 1) = if m.testBit i = true then bitsL m i ++ [(i : Int)] else bitsL m i := by
  unfold bitsL
  rw [ints_succ, List.filter_append]
  cases h : m.testBit i
  · rw [if_neg (by simp)]; simp [h]
  · rw [if_pos rfl]; simp [h]
theorem bitsL_len (m i : Nat) : (bitsL m i).length ≤ i := by
  unfold bitsL
  exact Nat.le_trans (List.length_filter_le _ _) (by rw [ints_len]; exact Nat.le_refl _)
theorem bits_of (P : Nat → Bool) : ∀ n : Nat, ∃ m, m < 2 ^ n ∧ ∀ i, i < n → m.testBit i = P i
  | 0 => ⟨0, by simp, fun i h => by omega⟩
  | n + 1 => by
    obtain ⟨m, h1, h2⟩ := bits_of P n
    refine ⟨m ||| (if P n = true then 2 ^ n else 0), Nat.or_lt_two_pow (Nat.lt_of_lt_of_le h1 (Nat.pow_le_pow_right (by decide) (by omega))) ?_, fun i hi => ?_⟩
    · split
      · exact Nat.pow_lt_pow_right (by decide) (by omega)
      · exact Nat.two_pow_pos _
    · rw [Nat.testBit_or]
      by_cases e : i = n
      · subst e
        rw [Nat.testBit_lt_two_pow h1]
        cases h : P i
        · simp
        · simp [Nat.testBit_two_pow]
      · rw [h2 i (by omega)]
        cases h : P n
        · simp
        · have : n ≠ i := fun e' => e e'.symm
          simp [Nat.testBit_two_pow, this]
theorem filter_bits (P : Int → Bool) (n : Nat) : ∃ m, m < 2 ^ n ∧ bitsL m n = (ints n).filter P := by
  obtain ⟨m, h1, h2⟩ := bits_of (fun i => P (i : Int)) n
  refine ⟨m, h1, ?_⟩
  unfold bitsL
  refine List.filter_congr (fun x hx => ?_)
  rw [mem_ints] at hx
  obtain ⟨i, rfl⟩ := Int.eq_ofNat_of_zero_le hx.1
  rw [Int.toNat_natCast, h2 i (by omega)]
/-! ### the search's rows are subrows, in order -/
theorem allF_sub (nbs : List (List Int)) : ∀ d l may x, x ∈ allF nbs d l may → ∃ s, x = l ++ s ∧ s.Sublist may
  | 0, l, may, x, hx => by simp [allF] at hx
  | d + 1, l, may, x, hx => by
    have hG : ∀ may x, x ∈ allG nbs (allF nbs d) l may → ∃ a s, x = l ++ a :: s ∧ (a :: s).Sublist may := fun may => by
      induction may with
      | nil => intro x hx; simp [allG] at hx
      | cons b rest ih =>
        intro x hx
        rw [allG, List.mem_append] at hx
        rcases hx with hx | hx
        · obtain ⟨s, h1, h2⟩ := allF_sub nbs d _ _ x hx
          exact ⟨b, s, by rw [h1]; simp, (h2.trans List.filter_sublist).cons_cons b⟩
        · obtain ⟨a, s, h1, h2⟩ := ih x hx
          exact ⟨a, s, h1, h2.cons b⟩
    rw [allF, List.mem_cons] at hx
    rcases hx with rfl | hx
    · exact ⟨[], by simp, List.nil_sublist _⟩
    · obtain ⟨a, s, h1, h2⟩ := hG may x hx
      exact ⟨a :: s, h1, h2⟩
theorem allG_form (nbs : List (List Int)) (d : Nat) (l : List Int) : ∀ may x, x ∈ allG nbs (allF nbs d) l may → ∃ a s, x = l ++ a :: s ∧ a ∈ may
  | [], x, hx => by simp [allG] at hx
  | b :: rest, x, hx => by
    rw [allG, List.mem_append] at hx
    rcases hx with hx | hx
    · obtain ⟨s, h1, _⟩ := allF_sub nbs d _ _ x hx
      exact ⟨b, s, by rw [h1]; simp, by simp⟩
    · obtain ⟨a, s, h1, h2⟩ := allG_form nbs d l rest x hx
      exact ⟨a, s, h1, by simp [h2]⟩
theorem allF_sorted (nbs : List (List Int)) : ∀ d l may, may.Pairwise (· < ·) → (allF nbs d l may).Pairwise fun x y => lt x y = true
  | 0, l, may, _ => by rw [allF]; exact List.Pairwise.nil
  | d + 1, l, may, hm => by
    have hG : ∀ may, may.Pairwise (· < ·) → (allG nbs (allF nbs d) l may).Pairwise fun x y => lt x y = true := fun may => by
      induction may with
      | nil => intro _; rw [allG]; exact List.Pairwise.nil
      | cons b rest ih =>
        intro hm
        rw [List.pairwise_cons] at hm
        rw [allG, List.pairwise_append]
        refine ⟨allF_sorted nbs d _ _ (hm.2.filter _), ih hm.2, fun x hx y hy => ?_⟩
        obtain ⟨s, h1, _⟩ := allF_sub nbs d _ _ x hx
        obtain ⟨a, t, h2, h3⟩ := allG_form nbs d l rest y hy
        have := hm.1 a h3
        rw [h1, h2, List.append_assoc, lt_app]
        show lt (b :: s) (a :: t) = true
        rw [lt, if_neg (by omega)]; exact decide_eq_true this
    rw [allF, List.pairwise_cons]
    refine ⟨fun y hy => ?_, hG may hm⟩
    obtain ⟨a, t, h2, _⟩ := allG_form nbs d l may y hy
    have := lt_app l [] (a :: t)
    rw [List.append_nil] at this
    rw [h2, this]; rfl
theorem ints_sorted (n : Nat) : (ints n).Pairwise (· < ·) := by
  unfold ints
  rw [List.pairwise_map]
  exact List.Pairwise.imp (fun h => by omega) List.pairwise_lt_range
theorem sub_filter : ∀ {s m : List Int}, s.Sublist m → m.Nodup → m.filter (fun x => s.contains x) = s := by
  intro s m h
  induction h with
  | slnil => intro _; rfl
  | @cons s m a h ih =>
    intro hn
    rw [List.nodup_cons] at hn
    have : s.contains a = false := by
      cases e : s.contains a
      · rfl
      · exact absurd (h.subset (List.contains_iff_mem.1 e)) hn.1
    rw [List.filter_cons, if_neg (by rw [this]; simp)]
    exact ih hn.2
  | @cons_cons s m a h ih =>
    intro hn
    rw [List.nodup_cons] at hn
    rw [List.filter_cons, if_pos (by simp)]
    congr 1
    refine (List.filter_congr (q := fun x => s.contains x) (fun x hx => ?_)).trans (ih hn.2)
    have : x ≠ a := fun e => hn.1 (e ▸ hx)
    simp [this]
section
variable {nbs : List (List Int)} {n : Nat} {adj : Nat → Nat → Bool} {on : List Bool}
/-- One step of the document's choice. -/
def refStep (nbs : List (List Int)) (n : Nat) (out : List Int) (m : Nat) : List Int := if isL nbs (bitsL m n) = true ∧ better (bitsL m n) out = true then bitsL m n else out
def refGreat (nbs : List (List Int)) (n m : Nat) : List Int := (List.range m).foldl (refStep nbs n) []
theorem refGreat_succ (nbs : List (List Int)) (n m : Nat) : refGreat nbs n (m + 1) = refStep nbs n (refGreat nbs n m) m := by
  unfold refGreat; rw [List.range_succ, List.foldl_append]; rfl
theorem refGreat_spec (nbs : List (List Int)) (n : Nat) : ∀ m, (refGreat nbs n m = [] ∨ ∃ q, q < m ∧ refGreat nbs n m = bitsL q n ∧ isL nbs (bitsL q n) = true) ∧ ∀ q, q < m → isL nbs (bitsL q n) = true → better (bitsL q n) (refGreat nbs n m) = false
  | 0 => ⟨.inl rfl, fun q h => by omega⟩
  | m + 1 => by
    obtain ⟨h1, h2⟩ := refGreat_spec nbs n m
    rw [refGreat_succ, refStep]
    by_cases c : isL nbs (bitsL m n) = true ∧ better (bitsL m n) (refGreat nbs n m) = true
    · rw [if_pos c]
      refine ⟨.inr ⟨m, by omega, rfl, c.1⟩, fun q hq hi => ?_⟩
      by_cases e : q = m
      · subst e; unfold better; rw [if_pos rfl, lt_irr]
      · cases h : better (bitsL q n) (bitsL m n)
        · rfl
        · have := h2 q (by omega) hi
          rw [better_trans h c.2] at this; cases this
    · rw [if_neg c]
      refine ⟨h1.imp id fun ⟨q, a, b⟩ => ⟨q, by omega, b⟩, fun q hq hi => ?_⟩
      by_cases e : q = m
      · subst e
        cases h : better (bitsL q n) (refGreat nbs n q)
        · rfl
        · exact absurd ⟨hi, h⟩ c
      · exact h2 q (by omega) hi
theorem refGreat_great (hg : Grf nbs n adj) (hn : n ≤ 16) : refGreat nbs n (2 ^ n) = greatL nbs := by
  have hnl := hg.is.len
  obtain ⟨h1, h2⟩ := refGreat_spec nbs n (2 ^ n)
  have hfold := great_fold nbs (by omega)
  have hsort := allF_sorted nbs (nbs.length + 1) [] (ints nbs.length) (ints_sorted _)
  have hmem := great_in (nbs := nbs) (by omega)
  -- what the search finds is one of the rows
  have hG : ∃ q, q < 2 ^ n ∧ bitsL q n = greatL nbs := by
    obtain ⟨s, e1, e2⟩ := allF_sub nbs _ _ _ _ hmem
    rw [List.nil_append] at e1
    obtain ⟨q, hq, e3⟩ := filter_bits (fun x => s.contains x) n
    rw [hnl] at e2
    exact ⟨q, hq, by rw [e3, sub_filter e2 (ints_nodup n), ← e1]⟩
  obtain ⟨q, hq, eq⟩ := hG
  have hb1 : better (greatL nbs) (refGreat nbs n (2 ^ n)) = false := by
    have := h2 q hq (by rw [eq]; exact great_is hg hn)
    rwa [eq] at this
  -- no clique is better than what the search finds
  have hb2 : better (refGreat nbs n (2 ^ n)) (greatL nbs) = false := by
    obtain ⟨R, hR⟩ : ∃ R, refGreat nbs n (2 ^ n) = R := ⟨_, rfl⟩
    rw [hR] at h1 ⊢
    have hRi : isL nbs R = true ∧ R ∈ allF nbs (nbs.length + 1) [] (ints nbs.length) := by
      rcases h1 with h1 | ⟨p, _, h1, h3⟩
      · rw [h1]; exact ⟨rfl, by rw [allF]; simp⟩
      · rw [← h1] at h3
        refine ⟨h3, ?_⟩
        have := rise_in hg h3
        have e : rise n R = R := by
          rw [h1]; unfold rise bitsL
          refine sub_filter (List.filter_sublist) (ints_nodup n)
        rw [e] at this
        rw [hnl]; exact this
    have hmax := great_max hg hn hRi.1
    unfold better
    by_cases e : R.length = (greatL nbs).length
    · rw [if_pos e]
      cases hlt : lt R (greatL nbs)
      · rfl
      · exfalso
        obtain ⟨_, _, h3⟩ := fold_longer (allF nbs (nbs.length + 1) [] (ints nbs.length)) []
        rw [← hfold] at h3
        rcases h3 with h3 | ⟨pre, post, h3, h4⟩
        · rw [h3] at hlt
          have : R = [] := List.eq_nil_of_length_eq_zero (by rw [e, h3]; rfl)
          rw [this] at hlt; cases hlt
        · have hin := hRi.2
          rw [h3] at hin hsort
          rw [List.pairwise_append, List.pairwise_cons] at hsort
          rcases List.mem_append.1 hin with hin | hin
          · have := h4 _ hin; omega
          · rcases List.mem_cons.1 hin with hin | hin
            · rw [hin, lt_irr] at hlt; cases hlt
            · have := lt_trans hlt (hsort.2.1.1 _ hin)
              rw [lt_irr] at this; cases this
    · rw [if_neg e, decide_eq_false_iff_not]; omega
  exact better_total hb2 hb1
/-! ### the document's loops -/
theorem refg_l2 (hg : Grf nbs n adj) (hr : RefIs on n adj) (hn : n ≤ 16) (out : List Int) (ho : out.length ≤ 1000) (all m : Nat) (hm : m < all) (ha : all ≤ 65536) (R : List Int)
    (h0 : Ev (fun k => horariumref26_Greatest.l1 k (refStep nbs n out m) (all : Int) ((m + 1 : Nat) : Int) (n : Int) on) R) : ∀ d i, i + d = n → Ev (fun k => horariumref26_Greatest.l2 k out (all : Int) (m : Int) (bitsL m i) ((m / 2 ^ i : Nat) : Int) (i : Int) (n : Int) on) R
  | 0, i, hi => by
    obtain rfl : i = n := by omega
    have hl := bitsL_len m i
    have hw := wrap_nat m all hm (by omega)
    have hI := refis_ev hg hr (bitsL m i) (by omega)
    have hB := better_ev (bitsL m i) out (by omega)
    refine Ev.step (f := fun k => (horariumref26_Is.f k (i : Int) on (bitsL m i)).bind fun t => if t = true then (horariumref26_better.f k (bitsL m i) out).bind fun u => if u = true then horariumref26_Greatest.l1 k (bitsL m i) (all : Int) ((m + 1 : Nat) : Int) (i : Int) on else horariumref26_Greatest.l1 k out (all : Int) ((m + 1 : Nat) : Int) (i : Int) on else horariumref26_Greatest.l1 k out (all : Int) ((m + 1 : Nat) : Int) (i : Int) on) (fun k => ?_) (Ev.bind hI ?_)
    · simp only [horariumref26_Greatest.l2]
      rw [if_neg (by omega), hw]
    · unfold refStep at h0
      cases c1 : isL nbs (bitsL m i) with
      | false =>
        rw [if_neg (by rw [c1]; simp)] at h0
        exact Ev.congr (fun k => by rw [if_neg (by simp)]) h0
      | true =>
        refine Ev.congr (f := fun k => (horariumref26_better.f k (bitsL m i) out).bind fun u => if u = true then horariumref26_Greatest.l1 k (bitsL m i) (all : Int) ((m + 1 : Nat) : Int) (i : Int) on else horariumref26_Greatest.l1 k out (all : Int) ((m + 1 : Nat) : Int) (i : Int) on) (fun k => by rw [if_pos rfl]) (Ev.bind hB ?_)
        cases c2 : better (bitsL m i) out with
        | false =>
          rw [if_neg (by rw [c2]; simp)] at h0
          exact Ev.congr (fun k => by rw [if_neg (by simp)]) h0
        | true =>
          rw [if_pos ⟨c1, c2⟩] at h0
          exact Ev.congr (fun k => by rw [if_pos rfl]) h0
  | d + 1, i, hi => by
    have ih := refg_l2 hg hr hn out ho all m hm ha R h0 d (i + 1) (by omega)
    have hl := bitsL_len m i
    have hw := wrap_nat i n (by omega) (by omega)
    have hq : m / 2 ^ i ≤ m := Nat.div_le_self _ _
    have e1 : Int.tmod ((m / 2 ^ i : Nat) : Int) 2 = ((m / 2 ^ i % 2 : Nat) : Int) := by
      rw [Int.tmod_eq_emod_of_nonneg (Int.natCast_nonneg _)]; rfl
    have e2 : wrap64 (Int.tdiv ((m / 2 ^ i : Nat) : Int) 2) = ((m / 2 ^ (i + 1) : Nat) : Int) := by
      rw [Int.tdiv_eq_ediv_of_nonneg (Int.natCast_nonneg _), Nat.pow_succ, ← Nat.div_div_eq_div_mul]
      generalize m / 2 ^ i = z at hq
      have : ((z : Int) / 2) = ((z / 2 : Nat) : Int) := by omega
      rw [this]; unfold wrap64; omega
    have e3 : m.testBit i = decide (m / 2 ^ i % 2 = 1) := Nat.testBit_eq_decide_div_mod_eq
    rw [bitsL_succ, e3] at ih
    refine Ev.step (fun k => ?_) ih
    simp only [horariumref26_Greatest.l2]
    rw [if_pos (by omega), e1, e2, hw]
    by_cases c : m / 2 ^ i % 2 = 1
    · rw [if_pos (by omega), if_pos (by omega), if_pos (decide_eq_true c)]
    · rw [if_neg (by omega), if_neg (by simpa using c)]
theorem refGreat_len (hg : Grf nbs n adj) (hn : n ≤ 16) (m : Nat) : (refGreat nbs n m).length ≤ 16 := by
  rcases (refGreat_spec nbs n m).1 with h | ⟨q, _, h, _⟩
  · rw [h]; simp
  · rw [h]; have := bitsL_len q n; omega
theorem refg_l1 (hg : Grf nbs n adj) (hr : RefIs on n adj) (hn : n ≤ 16) (all : Nat) (ha : all ≤ 65536) : ∀ d m, m + d = all → Ev (fun k => horariumref26_Greatest.l1 k (refGreat nbs n m) (all : Int) (m : Int) (n : Int) on) (refGreat nbs n all)
  | 0, m, hm => by
    obtain rfl : m = all := by omega
    refine Ev.step (f := fun _ => some (refGreat nbs n m)) (fun k => ?_) (Ev.now _)
    simp only [horariumref26_Greatest.l1]
    rw [if_neg (by omega)]
  | d + 1, m, hm => by
    have ih := refg_l1 hg hr hn all ha d (m + 1) (by omega)
    have hl := refGreat_len hg hn m
    rw [refGreat_succ] at ih
    have h := refg_l2 hg hr hn (refGreat nbs n m) (by omega) all m (by omega) ha _ ih n 0 (by omega)
    refine Ev.step (fun k => ?_) h
    simp only [horariumref26_Greatest.l1]
    rw [if_pos (by omega), Nat.pow_zero, Nat.div_one]
    rfl
theorem refg_l0 (hg : Grf nbs n adj) (hr : RefIs on n adj) (hn : n ≤ 16) : ∀ d i, i + d = n → Ev (fun k => horariumref26_Greatest.l0 k ((2 ^ i : Nat) : Int) (i : Int) (n : Int) on) (refGreat nbs n (2 ^ n))
  | 0, i, hi => by
    obtain rfl : i = n := by omega
    have hp : 2 ^ i ≤ 65536 := Nat.pow_le_pow_right (n := 2) (by decide) hn
    have h := refg_l1 hg hr hn (2 ^ i) hp (2 ^ i) 0 (by omega)
    refine Ev.step (fun k => ?_) h
    simp only [horariumref26_Greatest.l0]
    rw [if_neg (by omega)]
    rfl
  | d + 1, i, hi => by
    have ih := refg_l0 hg hr hn d (i + 1) (by omega)
    have hp : 2 ^ i ≤ 65536 := (Nat.pow_le_pow_right (n := 2) (by decide) (by omega : i ≤ 16))
    have hw := wrap_nat i n (by omega) (by omega)
    have e : wrap64 (2 * ((2 ^ i : Nat) : Int)) = ((2 ^ (i + 1) : Nat) : Int) := by
      rw [Nat.pow_succ]
      generalize 2 ^ i = z at hp
      unfold wrap64; omega
    refine Ev.step (fun k => ?_) ih
    simp only [horariumref26_Greatest.l0]
    rw [if_pos (by omega), e, hw]
theorem refgreat_ev (hg : Grf nbs n adj) (hr : RefIs on n adj) (hn : n ≤ 16) : Ev (fun k => horariumref26_Greatest.f k (n : Int) on) (greatL nbs) := by
  rw [← refGreat_great hg hn]
  refine Ev.congr (fun k => ?_) (refg_l0 hg hr hn n 0 (by omega))
  unfold horariumref26_Greatest.f
  rw [if_neg (by omega)]
  rfl
end
end Go.Proofs.Ytbmnnmcnmfgbaaa.PG
end
section
/-
  The box that holds the document's graph, while the law's calls run.
-/
namespace Go.Proofs.Ytbmnnmcnmfgbaaa.PG
open Go.RowKit Go.Shelf Go.Proofs.YtbmnnmcnmfgbaaaW.PrintWords Go.Proofs.YtbmnnmcnmfgbaaaW.PrintLast Go.Proofs.YtbmnnmcnmfgbaaaW.PrintMore
open Go.Proofs.Ytbmnnmcnmfgbaaa.PB Go.Proofs.Ytbmnnmcnmfgbaaa.PC
set_option linter.unusedVariables false
def BX (w3 : World) (bx n : Nat) (A : Option Addr) (l c : Nat) (w' : World) : Prop := w'.cell? ⟨bx, 0, none⟩ = some (.int .i64 n) ∧ w'.cell? ⟨bx, 1, none⟩ = some (.slice A l c) ∧ Aside0 (Below w3.heap.size w3 w')
theorem BX.start {w3 : World} {bx n : Nat} {A : Option Addr} {l c : Nat} (h0 : w3.cell? ⟨bx, 0, none⟩ = some (.int .i64 n)) (h1 : w3.cell? ⟨bx, 1, none⟩ = some (.slice A l c)) : BX w3 bx n A l c w3.drew := ⟨h0, h1, ⟨below_drew (Below.refl _ _)⟩⟩
theorem BX.step {w3 w1 w2 : World} {bx n : Nat} {A : Option Addr} {l c : Nat} (h : BX w3 bx n A l c w1) (hb : Below w1.heap.size w1 w2) : BX w3 bx n A l c w2 :=
  ⟨pw_cell_below hb h.1, pw_cell_below hb h.2.1, ⟨below_then h.2.2.out h.2.2.out.size hb⟩⟩
theorem C_ownB {w : World} {base : Nat} {A : Option Addr} {c : Nat} {on : List Bool} (h : w.ownsRow base 4 1 (.slice A on.length c) on.length (encs Value.bool on)) : Kd.C Kd.bool w A on.length on ∧ on.length ≤ c := by
  have h1 : Kd.bool.R 4 w base (fun _ => True) (.slice A on.length c) on := Kd.R_of_own h (fun _ _ => trivial)
  obtain ⟨_, h2, h3⟩ := Kd.R_reads' h1
  exact ⟨h3, h2⟩
end Go.Proofs.Ytbmnnmcnmfgbaaa.PG
end
section
/-
  The law CliqueMost: its walk.
-/
namespace Go.Proofs.Ytbmnnmcnmfgbaaa.PG
open Go.RowKit Go.Shelf Go.Proofs.YtbmnnmcnmfgbaaaW.PrintWords Go.Proofs.YtbmnnmcnmfgbaaaW.PrintLast Go.Proofs.YtbmnnmcnmfgbaaaW.PrintMore
open Go.Proofs.Ytbmnnmcnmfgbaaa.PB Go.Proofs.Ytbmnnmcnmfgbaaa.PC Go.Proofs.Ytbmnnmcnmfgbaaa.PK Go.Proofs.Ytbmnnmcnmfgbaaa.PD
set_option linter.unusedVariables false
set_option linter.unusedSimpArgs false
theorem if_no {c : Bool} {p q : Prop} (hc : c = false) (h : q) : if c = true then p else q := by subst hc; exact h
theorem most_facts {nbs : List (List Int)} {n : Nat} {adj : Nat → Nat → Bool} {on : List Bool} (hg : Grf nbs n adj) (hr : RefIs on n adj) :
    ∃ (a b k1 k2 : Nat) (G : List Int), clique_Bounds.f k1 nbs = some ((a : Int), (b : Int)) ∧ horariumref26_Bounds.f k2 (n : Int) on = some ((a : Int), (b : Int)) ∧ clique_Greatest.f nbs = some G ∧ (¬ n ≤ 16 → G.length = 0) ∧
      (n ≤ 16 → ∃ k3 k4, horariumref26_Greatest.f k3 (n : Int) on = some G ∧ horariumref03_Ints.f k4 G G = some true) := by
  have hle := hg.le
  have hnl := hg.is.len
  obtain ⟨k1, h1⟩ := bounds_f hg
  obtain ⟨k2, h2⟩ := (refbounds_ev hg hr).rounds
  refine ⟨_, _, k1, k2, greatL nbs, h1, h2, ?_, fun hn => ?_, fun hn => ?_⟩
  · unfold clique_Greatest.f; rw [if_pos (by omega)]
  · unfold greatL; rw [if_neg (by omega)]; rfl
  · obtain ⟨k3, h3⟩ := (refgreat_ev hg hr hn).rounds
    have hl : (greatL nbs).length ≤ 16 := by
      have h2 := allF_len nbs _ _ _ _ (great_in (nbs := nbs) (by omega))
      rw [ints_len] at h2; simp at h2; omega
    obtain ⟨k4, h4⟩ := (ints_ev (greatL nbs) (greatL nbs) (by omega)).rounds
    exact ⟨k3, k4, h3, by rw [h4]; simp⟩
set_option maxRecDepth 100000 in
set_option maxHeartbeats 1000000 in
theorem most_no (n : Int) (A1 : Option Addr) (len1 cap1 : Nat) (w : World) (h : okMade n len1 = false) :
    Calls Try.prog 12 #[.int .i64 n, .slice A1 len1 cap1] w fun e w' => e = .returned (.bool true) ∧ Below w.heap.size w w' := by
  have hu44 := Try.underlying44
  have HH := Aside0.mk h
  clear h
  go_enter Try.func12, Try.ntmps12
  go_wp2_with fail
  refine (made_no n A1 len1 cap1 w HH.out).mono ?_
  rintro e w1 ⟨rfl, hb⟩
  have HB1 := Aside0.mk hb
  clear hb
  go_wp2_with fail
  refine (heads_calls _).mono ?_
  rintro e w2 ⟨rfl, hb⟩
  have HB2 := Aside0.mk (below_then (below_alloc HB1.out _) (below_alloc HB1.out _).size hb)
  clear hb
  go_wp2
  go_ret
  exact ⟨rfl, HB2.out⟩
set_option maxRecDepth 100000 in
set_option maxHeartbeats 4000000 in
theorem most_yes (n : Nat) (A1 : Option Addr) (cap1 : Nat) (js : List (Int × Int)) (w : World) (hm : n ≤ 40) (hk : js.length ≤ 800) (hj : JoinsIn w A1 js) :
    Calls Try.prog 12 #[.int .i64 n, .slice A1 js.length cap1] w fun e w' => e = .returned (.bool true) ∧ Below w.heap.size w w' := by
  have hu44 := Try.underlying44
  have HM := Aside0.mk hm
  have HK := Aside0.mk hk
  have HJ := Aside0.mk hj
  clear hm hk hj
  go_enter Try.func12, Try.ntmps12
  go_wp2_with fail
  refine (made_yes n A1 cap1 js w HM.out HK.out HJ.out).mono ?_
  rintro e w1 ⟨g, v, nbs, on, rfl, hG, hI, hRf, ho, hb⟩
  obtain ⟨Ao, co, rfl⟩ := own_slice ho
  have HGF := Aside0.mk (Grf.of hI HM.out)
  have HG : Aside0 (IsGr w1 (some ⟨g, 0, none⟩) nbs) := ⟨⟨_, hG, hI.okw⟩⟩
  have HB1 := Aside0.mk hb
  have HRF := Aside0.mk hRf
  have HO1 := Aside0.mk (C_ownB ho)
  clear hG hI hRf ho hb HJ
  have HB2 := Aside0.mk (below_alloc HB1.out (Obj.cells #[Value.int .i64 n, Value.slice Ao on.length co] 44))
  have HG2 := Aside0.mk (HG.out.alloc (Obj.cells #[Value.int .i64 n, Value.slice Ao on.length co] 44))
  obtain ⟨a, b, k1, k2, G, f1, f2, f3, f4, f5⟩ := most_facts HGF.out HRF.out
  have F1 := Aside0.mk f1
  have F2 := Aside0.mk f2
  have GG1 := Aside0.mk f3
  have F4 := Aside0.mk f4
  have F5 := Aside0.mk f5
  have HBX := Aside0.mk (World.alloc_heap_new w1 (Obj.cells #[Value.int .i64 n, Value.slice Ao on.length co] 44))
  have HO2 := Aside0.mk (Kd.C_below HO1.out.1 (below_alloc (w := w1) (Below.refl w1.heap.size w1) (Obj.cells #[Value.int .i64 n, Value.slice Ao on.length co] 44)))
  clear f1 f2 f3 f4 f5
  go_wp2_with fail
  obtain ⟨w3, hw3⟩ : ∃ w3, w1.alloc (Obj.cells #[Value.int .i64 n, Value.slice Ao on.length co] 44) = w3 := ⟨_, rfl⟩
  obtain ⟨bx, hbx⟩ : ∃ bx, w1.heap.size = bx := ⟨_, rfl⟩
  rw [hw3] at HB2 HG2 HBX HO2 ⊢
  simp only [hbx] at HBX ⊢
  clear hw3 hbx HG HB1
  have HCO := Aside0.mk HO1.out.2
  refine (clique_Bounds.calls k1 _ nbs.length nbs (a : Int) (b : Int) _ HG2.out (Nat.le_refl _) F1.out).mono ?_
  rintro e wq ⟨rfl, hb⟩
  have HBq := Aside0.mk hb
  have q0 : wq.cell? ⟨bx, 0, none⟩ = some (.int .i64 n) := pw_cell_below hb ((blk_cell HBX.out 0).trans rfl)
  have q1 : wq.cell? ⟨bx, 1, none⟩ = some (.slice Ao on.length co) := pw_cell_below hb ((blk_cell HBX.out 1).trans rfl)
  clear hb
  go_wp2_with fail
  refine (horariumref26_Bounds.calls k2 n Ao co on (a : Int) (b : Int) _ (Kd.C_below HO2.out HBq.out) HCO.out F2.out).mono ?_
  rintro e w4 ⟨rfl, hb⟩
  have HB4 := Aside0.mk (below_then HB2.out HB2.out.size (below_then HBq.out HBq.out.size hb))
  have HG4 := Aside0.mk ((HG2.out.below HBq.out).below hb)
  have HO4 := Aside0.mk (Kd.C_below (Kd.C_below HO2.out HBq.out) hb)
  have c0 : w4.cell? ⟨bx, 0, none⟩ = some (.int .i64 n) := pw_cell_below hb q0
  have c1 : w4.cell? ⟨bx, 1, none⟩ = some (.slice Ao on.length co) := pw_cell_below hb q1
  have HON : ∀ {u : World}, Below w4.heap.size w4 u → Kd.C Kd.bool u Ao on.length on := fun hb => Kd.C_below HO4.out hb
  clear hb q0 q1 HBX HBq HO2 HG2 HB2
  by_cases h16 : n ≤ 16
  rotate_left
  · have hd : decide ((n : Int) > 16) = true := decide_eq_true (by omega)
    have hG0 := F4.out h16
    have hGn : G = [] := List.eq_nil_of_length_eq_zero hG0
    subst hGn
    clear h16 hG0
    go_wp2_with fail
    refine (clique_Greatest.calls _ nbs.length nbs [] _ HG4.out (Nat.le_refl _) GG1.out).mono ?_
    rintro e wg ⟨vg, rfl, hR, hb⟩
    obtain ⟨Ag, cg, rfl⟩ := own_slice (Kd.own_of_R hR)
    have HBg := Aside0.mk (below_then HB4.out HB4.out.size hb)
    clear hR hb
    go_wp2_with fail
    refine (heads_calls _).mono ?_
    rintro e wz ⟨rfl, hb⟩
    have HZ := Aside0.mk (below_then HBg.out HBg.out.size hb)
    clear hb
    go_wp2
    go_ret
    exact ⟨rfl, HZ.out⟩
  · have hd : decide ((n : Int) > 16) = false := decide_eq_false (by omega)
    obtain ⟨k3, k4, g2, g3⟩ := F5.out h16
    have GG2 := Aside0.mk g2
    have GG3 := Aside0.mk g3
    clear g2 g3 h16
    by_cases h10 : n ≤ 10
    · have hd10 : decide ((n : Int) > 10) = false := decide_eq_false (by omega)
      clear h10
      go_wp2_with fail
      refine start_ (n := 13) (S := (BX w4 bx n Ao on.length co)) (ds := []) #[false, false, false, false, false, false, false, false, false, false, false, false, false] (by kernel_rfl) rfl rfl (BX.start c0 c1) (fun hHeld => ?_)
      refine pure_ (i := 0) (N := some 47) (v := ?_) (a' := ?_) #[true, false, false, false, false, false, false, false, false, false, false, false, false] rfl rfl (by kernel_rfl) (fun _ _ _ h => h) (Or.inl ⟨by rfl, ?_⟩) ?_ ?_
      rotate_left
      · intro w'
        go_simp
        with_reducible rfl
      rotate_left
      · simp only [Act.put, List.setIfInBounds_toArray, List.set_cons_zero, List.set_cons_succ, i64_w, i32_w]
        rfl
      refine pure_ (i := 1) (N := some 48) (v := ?_) (a' := ?_) #[true, true, false, false, false, false, false, false, false, false, false, false, false] rfl rfl (by kernel_rfl) (fun _ _ _ h => h) (Or.inl ⟨by rfl, ?_⟩) ?_ ?_
      rotate_left
      · intro w'
        go_simp
        with_reducible rfl
      rotate_left
      · simp only [Act.put, List.setIfInBounds_toArray, List.set_cons_zero, List.set_cons_succ, i64_w, i32_w]
        rfl
      refine pure_ (i := 2) (N := some 49) (v := ?_) (a' := ?_) #[true, true, true, false, false, false, false, false, false, false, false, false, false] rfl rfl (by kernel_rfl) (fun _ _ _ h => h) (Or.inl ⟨by rfl, ?_⟩) ?_ ?_
      rotate_left
      · intro w'
        go_simp
        with_reducible rfl
      rotate_left
      · simp only [Act.put, List.setIfInBounds_toArray, List.set_cons_zero, List.set_cons_succ, i64_w, i32_w]
        rfl
      refine pure_ (i := 3) (N := some 50) (v := ?_) (a' := ?_) #[true, true, true, true, false, false, false, false, false, false, false, false, false] rfl rfl (by kernel_rfl) (fun _ _ _ h => h) (Or.inl ⟨by rfl, ?_⟩) ?_ ?_
      rotate_left
      · intro w'
        go_simp
        with_reducible rfl
      rotate_left
      · simp only [Act.put, List.setIfInBounds_toArray, List.set_cons_zero, List.set_cons_succ, i64_w, i32_w]
        rfl
      refine take_ (i := 5) (N := some 52) (v := ?_) (a' := ?_) #[true, true, true, true, false, true, false, false, false, false, false, false, false] rfl rfl (by kernel_rfl) (fun _ _ _ h => h) (Or.inl ⟨by rfl, ?_⟩) hHeld ?_ ?_
      rotate_left
      · rintro w' ⟨s0, s1, s2⟩
        go_simp
        with_reducible rfl
      rotate_left
      · simp only [Act.put, List.setIfInBounds_toArray, List.set_cons_zero, List.set_cons_succ, i64_w, i32_w]
        rfl
      refine one_ (i := 4) (N := some 51) #[true, true, true, true, true, true, false, false, false, false, false, false, false] rfl rfl (by kernel_rfl) (by decide) (fun K hK => ?_)
      have HH := Aside0.mk hHeld
      refine goes_ Try.func43 (by kernel_rfl) rfl #[.pointer (some ⟨g, 0, none⟩)] (by rfl) rfl rfl (by simp only [List.map_toArray, List.map_cons, List.map_nil]; rfl) ?_
      refine (clique_Greatest.calls _ nbs.length nbs G _ (HG4.out.below HH.out.2.2.out) (Nat.le_refl _) GG1.out).mono ?_
      rintro e wa ⟨va, rfl, hRa, hba⟩
      obtain ⟨Aa, ca, rfl⟩ := own_slice (Kd.own_of_R hRa)
      have HRa := Aside0.mk (Kd.R_reads' hRa)
      refine ⟨_, rfl, ?_⟩
      refine hK.out _ _ (hHeld.step hba) (fun hHeld => ?_)
      clear hK K
      refine norm_ (a' := ?_) ?_ ?_
      rotate_left
      · show Act.put _ (some 51) _ = _
        simp only [Act.put, List.setIfInBounds_toArray, List.set_cons_zero, List.set_cons_succ, i64_w, i32_w]
        rfl
      refine one_ (i := 6) (N := some 53) #[true, true, true, true, true, true, true, false, false, false, false, false, false] rfl rfl (by kernel_rfl) (by decide) (fun K hK => ?_)
      have HH := Aside0.mk hHeld
      refine goes_ Try.func52 (by kernel_rfl) rfl #[.agg #[.int .i64 n, .slice Ao on.length co]] (by rfl) rfl rfl (by simp only [List.map_toArray, List.map_cons, List.map_nil]; rfl) ?_
      refine (horariumref26_Greatest.calls k3 n Ao co on G _ (HON HH.out.2.2.out) HCO.out GG2.out).mono ?_
      rintro e wb ⟨vb, rfl, hRb, hbb⟩
      obtain ⟨Ab, cb, rfl⟩ := own_slice (Kd.own_of_R hRb)
      have HRb := Aside0.mk (Kd.R_reads' hRb)
      have HRa2 := Aside0.mk (Kd.C_below HRa.out.2.2 hbb)
      refine ⟨_, rfl, ?_⟩
      refine hK.out _ _ (hHeld.step hbb) (fun hHeld => ?_)
      clear hK K
      refine norm_ (a' := ?_) ?_ ?_
      rotate_left
      · show Act.put _ (some 53) _ = _
        simp only [Act.put, List.setIfInBounds_toArray, List.set_cons_zero, List.set_cons_succ, i64_w, i32_w]
        rfl
      refine one_ (i := 7) (N := some 54) #[true, true, true, true, true, true, true, true, false, false, false, false, false] rfl rfl (by kernel_rfl) (by decide) (fun K hK => ?_)
      have HH := Aside0.mk hHeld
      refine goes_ Try.func20 (by kernel_rfl) rfl #[.slice Aa G.length ca, .slice Ab G.length cb] (by rfl) rfl rfl (by simp only [List.map_toArray, List.map_cons, List.map_nil]; rfl) ?_
      refine (horariumref03_Ints.calls k4 Aa ca G Ab cb G true _ HRa2.out HRa.out.2.1 HRb.out.2.2 HRb.out.2.1 GG3.out).mono ?_
      rintro e wc ⟨rfl, hdc⟩
      refine ⟨_, rfl, ?_⟩
      refine hK.out _ _ (hHeld.step hdc.below) (fun hHeld => ?_)
      clear hK K
      refine norm_ (a' := ?_) ?_ ?_
      rotate_left
      · show Act.put _ (some 54) _ = _
        simp only [Act.put, List.setIfInBounds_toArray, List.set_cons_zero, List.set_cons_succ, i64_w, i32_w]
        rfl
      refine pure_ (i := 8) (N := some 55) (v := ?_) (a' := ?_) #[true, true, true, true, true, true, true, true, true, false, false, false, false] rfl rfl (by kernel_rfl) (fun _ _ _ h => h) (Or.inl ⟨by rfl, ?_⟩) ?_ ?_
      rotate_left
      · intro w'
        go_simp
        with_reducible rfl
      rotate_left
      · simp only [Act.put, List.setIfInBounds_toArray, List.set_cons_zero, List.set_cons_succ, i64_w, i32_w]
        rfl
      refine pure_ (i := 9) (N := some 56) (v := ?_) (a' := ?_) #[true, true, true, true, true, true, true, true, true, true, false, false, false] rfl rfl (by kernel_rfl) (fun _ _ _ h => h) (Or.inl ⟨by rfl, ?_⟩) ?_ ?_
      rotate_left
      · intro w'
        go_simp
        with_reducible rfl
      rotate_left
      · simp only [Act.put, List.setIfInBounds_toArray, List.set_cons_zero, List.set_cons_succ, i64_w, i32_w]
        rfl
      refine one_ (i := 10) (N := some 57) #[true, true, true, true, true, true, true, true, true, true, true, false, false] rfl rfl (by kernel_rfl) (by decide) (fun K hK => ?_)
      have HH := Aside0.mk hHeld
      refine goes_ Try.func34 (by kernel_rfl) rfl #[] (by rfl) rfl rfl (by simp only [List.map_toArray, List.map_cons, List.map_nil]) ?_
      refine (heads_calls _).mono ?_
      rintro e wh ⟨rfl, hbh⟩
      refine ⟨_, rfl, ?_⟩
      refine hK.out _ _ (hHeld.step hbh) (fun hHeld => ?_)
      clear hK K
      refine norm_ (a' := ?_) ?_ ?_
      rotate_left
      · show Act.put _ (some 57) _ = _
        simp only [Act.put, List.setIfInBounds_toArray, List.set_cons_zero, List.set_cons_succ, i64_w, i32_w]
        rfl
      refine pure_ (i := 11) (N := some 58) (v := ?_) (a' := ?_) #[true, true, true, true, true, true, true, true, true, true, true, true, false] rfl rfl (by kernel_rfl) (fun _ _ _ h => h) (Or.inl ⟨by rfl, ?_⟩) ?_ ?_
      rotate_left
      · intro w'
        go_simp
        with_reducible rfl
      rotate_left
      · simp only [Act.put, List.setIfInBounds_toArray, List.set_cons_zero, List.set_cons_succ, i64_w, i32_w]
        rfl
      refine pure_ (i := 12) (N := some 4) (v := ?_) (a' := ?_) #[true, true, true, true, true, true, true, true, true, true, true, true, true] rfl rfl (by kernel_rfl) (fun _ _ _ h => h) (Or.inl ⟨by rfl, ?_⟩) ?_ ?_
      rotate_left
      · intro w'
        go_simp
        with_reducible rfl
      rotate_left
      · simp only [Act.put, List.setIfInBounds_toArray, List.set_cons_zero, List.set_cons_succ, i64_w, i32_w]
        rfl
      refine done_ (by kernel_rfl) ?_
      have HZ := Aside0.mk hHeld.2.2.out
      have HW := Aside0.mk (below_then HB4.out HB4.out.size HZ.out)
      go_wp2
      go_ret
      exact ⟨rfl, HW.out⟩
    · have hd10 : decide ((n : Int) > 10) = true := decide_eq_true (by omega)
      clear h10
      go_wp2_with fail
      refine start_ (n := 13) (S := (BX w4 bx n Ao on.length co)) (ds := []) #[false, false, false, false, false, false, false, false, false, false, false, false, false] (by kernel_rfl) rfl rfl (BX.start c0 c1) (fun hHeld => ?_)
      refine pure_ (i := 0) (N := some 47) (v := ?_) (a' := ?_) #[true, false, false, false, false, false, false, false, false, false, false, false, false] rfl rfl (by kernel_rfl) (fun _ _ _ h => h) (Or.inl ⟨by rfl, ?_⟩) ?_ ?_
      rotate_left
      · intro w'
        go_simp
        with_reducible rfl
      rotate_left
      · simp only [Act.put, List.setIfInBounds_toArray, List.set_cons_zero, List.set_cons_succ, i64_w, i32_w]
        rfl
      refine pure_ (i := 1) (N := some 48) (v := ?_) (a' := ?_) #[true, true, false, false, false, false, false, false, false, false, false, false, false] rfl rfl (by kernel_rfl) (fun _ _ _ h => h) (Or.inl ⟨by rfl, ?_⟩) ?_ ?_
      rotate_left
      · intro w'
        go_simp
        with_reducible rfl
      rotate_left
      · simp only [Act.put, List.setIfInBounds_toArray, List.set_cons_zero, List.set_cons_succ, i64_w, i32_w]
        rfl
      refine pure_ (i := 2) (N := some 49) (v := ?_) (a' := ?_) #[true, true, true, false, false, false, false, false, false, false, false, false, false] rfl rfl (by kernel_rfl) (fun _ _ _ h => h) (Or.inl ⟨by rfl, ?_⟩) ?_ ?_
      rotate_left
      · intro w'
        go_simp
        with_reducible rfl
      rotate_left
      · simp only [Act.put, List.setIfInBounds_toArray, List.set_cons_zero, List.set_cons_succ, i64_w, i32_w]
        rfl
      refine pure_ (i := 3) (N := some 50) (v := undef) (a' := ?_) #[true, true, true, true, false, false, false, false, false, false, false, false, false] rfl rfl (by kernel_rfl) (fun _ _ _ h => h) (Or.inr ⟨by rfl, rfl⟩) ?_ ?_
      rotate_left
      · simp only [Act.put, List.setIfInBounds_toArray, List.set_cons_zero, List.set_cons_succ, i64_w, i32_w]
        rfl
      refine pure_ (i := 5) (N := some 52) (v := undef) (a' := ?_) #[true, true, true, true, false, true, false, false, false, false, false, false, false] rfl rfl (by kernel_rfl) (fun _ _ _ h => h) (Or.inr ⟨by rfl, rfl⟩) ?_ ?_
      rotate_left
      · simp only [Act.put, List.setIfInBounds_toArray, List.set_cons_zero, List.set_cons_succ, i64_w, i32_w]
        rfl
      refine one_ (i := 4) (N := some 51) #[true, true, true, true, true, true, false, false, false, false, false, false, false] rfl rfl (by kernel_rfl) (by decide) (fun K hK => ?_)
      refine if_no (by rfl) ?_
      refine hK.out _ _ (by assumption) (fun hHeld => ?_)
      clear hK K
      refine norm_ (a' := ?_) ?_ ?_
      rotate_left
      · show Act.put _ (some 51) _ = _
        simp only [Act.put, List.setIfInBounds_toArray, List.set_cons_zero, List.set_cons_succ, i64_w, i32_w]
        rfl
      refine one_ (i := 6) (N := some 53) #[true, true, true, true, true, true, true, false, false, false, false, false, false] rfl rfl (by kernel_rfl) (by decide) (fun K hK => ?_)
      refine if_no (by rfl) ?_
      refine hK.out _ _ (by assumption) (fun hHeld => ?_)
      clear hK K
      refine norm_ (a' := ?_) ?_ ?_
      rotate_left
      · show Act.put _ (some 53) _ = _
        simp only [Act.put, List.setIfInBounds_toArray, List.set_cons_zero, List.set_cons_succ, i64_w, i32_w]
        rfl
      refine one_ (i := 7) (N := some 54) #[true, true, true, true, true, true, true, true, false, false, false, false, false] rfl rfl (by kernel_rfl) (by decide) (fun K hK => ?_)
      refine if_no (by rfl) ?_
      refine hK.out _ _ (by assumption) (fun hHeld => ?_)
      clear hK K
      refine norm_ (a' := ?_) ?_ ?_
      rotate_left
      · show Act.put _ (some 54) _ = _
        simp only [Act.put, List.setIfInBounds_toArray, List.set_cons_zero, List.set_cons_succ, i64_w, i32_w]
        rfl
      refine pure_ (i := 8) (N := some 55) (v := ?_) (a' := ?_) #[true, true, true, true, true, true, true, true, true, false, false, false, false] rfl rfl (by kernel_rfl) (fun _ _ _ h => h) (Or.inl ⟨by rfl, ?_⟩) ?_ ?_
      rotate_left
      · intro w'
        go_simp
        with_reducible rfl
      rotate_left
      · simp only [Act.put, List.setIfInBounds_toArray, List.set_cons_zero, List.set_cons_succ, i64_w, i32_w]
        rfl
      refine pure_ (i := 9) (N := some 56) (v := ?_) (a' := ?_) #[true, true, true, true, true, true, true, true, true, true, false, false, false] rfl rfl (by kernel_rfl) (fun _ _ _ h => h) (Or.inl ⟨by rfl, ?_⟩) ?_ ?_
      rotate_left
      · intro w'
        go_simp
        with_reducible rfl
      rotate_left
      · simp only [Act.put, List.setIfInBounds_toArray, List.set_cons_zero, List.set_cons_succ, i64_w, i32_w]
        rfl
      refine one_ (i := 10) (N := some 57) #[true, true, true, true, true, true, true, true, true, true, true, false, false] rfl rfl (by kernel_rfl) (by decide) (fun K hK => ?_)
      have HH := Aside0.mk hHeld
      refine goes_ Try.func34 (by kernel_rfl) rfl #[] (by rfl) rfl rfl (by simp only [List.map_toArray, List.map_cons, List.map_nil]) ?_
      refine (heads_calls _).mono ?_
      rintro e wh ⟨rfl, hbh⟩
      refine ⟨_, rfl, ?_⟩
      refine hK.out _ _ (hHeld.step hbh) (fun hHeld => ?_)
      clear hK K
      refine norm_ (a' := ?_) ?_ ?_
      rotate_left
      · show Act.put _ (some 57) _ = _
        simp only [Act.put, List.setIfInBounds_toArray, List.set_cons_zero, List.set_cons_succ, i64_w, i32_w]
        rfl
      refine pure_ (i := 11) (N := some 58) (v := ?_) (a' := ?_) #[true, true, true, true, true, true, true, true, true, true, true, true, false] rfl rfl (by kernel_rfl) (fun _ _ _ h => h) (Or.inl ⟨by rfl, ?_⟩) ?_ ?_
      rotate_left
      · intro w'
        go_simp
        with_reducible rfl
      rotate_left
      · simp only [Act.put, List.setIfInBounds_toArray, List.set_cons_zero, List.set_cons_succ, i64_w, i32_w]
        rfl
      refine pure_ (i := 12) (N := some 4) (v := ?_) (a' := ?_) #[true, true, true, true, true, true, true, true, true, true, true, true, true] rfl rfl (by kernel_rfl) (fun _ _ _ h => h) (Or.inl ⟨by rfl, ?_⟩) ?_ ?_
      rotate_left
      · intro w'
        go_simp
        with_reducible rfl
      rotate_left
      · simp only [Act.put, List.setIfInBounds_toArray, List.set_cons_zero, List.set_cons_succ, i64_w, i32_w]
        rfl
      refine done_ (by kernel_rfl) ?_
      have HZ := Aside0.mk hHeld.2.2.out
      have HW := Aside0.mk (below_then HB4.out HB4.out.size HZ.out)
      go_wp2
      go_ret
      exact ⟨rfl, HW.out⟩
/-- The walk for every input. -/
theorem most_walk (a0 : Int) (a1 : Option Addr) (len1 cap1 : Nat) (z1 : List (Int × Int)) (w : World) (w0 : (Lit.int .i64 a0).wf = true) (w1 : z1.length = len1 ∧ JoinsIn w a1 z1) :
    Calls Try.prog 12 #[.int .i64 a0, .slice a1 len1 cap1] w fun e w' => e = .returned (.bool true) ∧ Below w.heap.size w w' := by
  obtain ⟨rfl, hj⟩ := w1
  rcases hk : okMade a0 z1.length
  · exact most_no a0 a1 _ cap1 w hk
  · unfold okMade at hk
    rw [Bool.and_eq_true, Bool.and_eq_true, decide_eq_true_eq, decide_eq_true_eq, decide_eq_true_eq] at hk
    obtain ⟨m, rfl⟩ := Int.eq_ofNat_of_zero_le hk.1.1
    exact most_yes m a1 cap1 z1 w (by have := hk.1.2; omega) hk.2 hj
end Go.Proofs.Ytbmnnmcnmfgbaaa.PG
end
