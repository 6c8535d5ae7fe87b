/-
  Put together by slim.py of this session out of the session's own texts (YtbmnnmcnmfgbaaaLawCliqueTells and what it reaches): declarations that nothing kept names are left out. Conditions: none beyond those of the law's row.
-/
import Derived.Laws.ResultCell
import Derived.Laws.StructEq
import Derived.Test.YtbmnnmcnmfgbaaaZTells0
import Derived.Test.YtbmnnmcnmfgbaaaZTells4
import Derived.Test.YtbmnnmcnmfgbaaaZTells9
import Derived.Test.YtbmnnmcnmfgbaaaZTells6
import Derived.Test.YtbmnnmcnmfgbaaaZTells5
import Derived.Test.YtbmnnmcnmfgbaaaZTells3
import Derived.Test.YtbmnnmcnmfgbaaaZTells8
import Derived.Test.YtbmnnmcnmfgbaaaZTells7
import Derived.Test.YtbmnnmcnmfgbaaaZTells10
import Derived.Test.YtbmnnmcnmfgbaaaZTells2
section
/-
  ref23.Join.
-/
namespace Go.Proofs.Ytbmnnmcnmfgbaaa.PG
open Go.RowKit Go.Shelf Go.Proofs.YtbmnnmcnmfgbaaaW.PrintWords Go.Proofs.YtbmnnmcnmfgbaaaW.PrintLast Go.Proofs.YtbmnnmcnmfgbaaaW.PrintMore
open Go.Proofs.Ytbmnnmcnmfgbaaa.PB Go.Proofs.Ytbmnnmcnmfgbaaa.PC
set_option linter.unusedVariables false
set_option linter.unusedSimpArgs false

theorem results_row_tmp {P : Program} {fn : Func} {p u : Tmp} {ty : TypeId} (h : fn.results = #[.cell p ty, .tmp u]) (tmps : Array Value) (w : World) (g : Nat) (t : TypeId) (cs : Array Value) (fr : Nat × Nat) (d : TypeDesc)
    (hp : tmps.getD p undef = .pointer (some ⟨g, 0, none⟩)) (hg : w.heap[g]? = some (.cells cs t fr))
    (hu : P.underlying ty = some d) (hd : (match d with | .struct _ | .array _ _ => true | _ => false) = true) (hi : (P.info? ty).map (·.size) = some cs.size) :
    (results fn tmps).run P w = .ok (.tuple #[.agg cs, tmps.getD u undef]) w := by
  have hp' : tmps[p]?.getD undef = .pointer (some ⟨g, 0, none⟩) := by simpa using hp
  simp [results, h, hp', asAddr, run_loadVar_row w g t ty cs fr d hg hu hd hi]
theorem info44 : (Try.prog.info? 44).map (·.size) = some 2 := by kernel_rfl
set_option maxRecDepth 100000 in
set_option maxHeartbeats 1000000 in
theorem rjoin_eq (N : Int) (A : Option Addr) (c : Nat) (l : List Bool) (a : Int) (w : World) :
    Calls Try.prog 65 #[.agg #[.int .i64 N, .slice A l.length c], .int .i64 a, .int .i64 a] w fun e w' => e = .returned (.tuple #[.agg #[.int .i64 N, .slice A l.length c], .bool false]) ∧ Below w.heap.size w w' := by
  have hu44 := Try.underlying44
  have h1 : (a == a) = true := by simp
  have HB := Aside0.mk (below_alloc (below_alloc (Below.refl w.heap.size w) (Obj.cells #[Value.int IntKind.i64 N, Value.slice A l.length c] 44)) (Obj.cells #[Value.int IntKind.i64 N, Value.slice A l.length c] 44))
  go_enter Try.func65, Try.ntmps65
  go_wp2
  have hh := World.alloc_heap_new (w.alloc (Obj.cells #[Value.int IntKind.i64 N, Value.slice A l.length c] 44)) (Obj.cells #[Value.int IntKind.i64 N, Value.slice A l.length c] 44)
  rw [World.size_alloc] at hh
  (try simp only [Exit.inBlock, Exit.then])
  refine bodyPost_ret (results_row_tmp (ty := 44) rfl _ _ (w.heap.size + 1) 44 #[Value.int IntKind.i64 N, Value.slice A l.length c] (0, 0) _ rfl hh Try.underlying44 rfl info44) rfl ?_
  exact ⟨rfl, HB.out⟩
/-- The two boxes of Join, while nothing is joined yet. -/
structure JB (w : World) (N : Int) (A : Option Addr) (n c : Nat) (w' : World) : Prop where
  b0 : w'.heap[w.heap.size]? = some (.cells #[.int .i64 N, .slice A n c] 44 (0, 0))
  b1 : w'.heap[w.heap.size + 1]? = some (.cells #[.int .i64 0, .slice none 0 0] 44 (0, 0))
  below : Below w.heap.size w w'
theorem JB.start (w : World) (N : Int) (A : Option Addr) (n c : Nat) : JB w N A n c ((w.alloc (Obj.cells #[Value.int IntKind.i64 N, Value.slice A n c] 44)).alloc (Obj.cells #[.int .i64 0, .slice none 0 0] 44)) := by
  have e1 : (w.alloc (Obj.cells #[Value.int IntKind.i64 N, Value.slice A n c] 44)).heap.size = w.heap.size + 1 := World.size_alloc _ _
  refine ⟨?_, ?_, below_alloc (below_alloc (Below.refl _ _) _) _⟩
  · rw [Below.heap_alloc _ _ _ (by omega)]; exact World.alloc_heap_new _ _
  · have := World.alloc_heap_new (w.alloc (Obj.cells #[Value.int IntKind.i64 N, Value.slice A n c] 44)) (Obj.cells #[.int .i64 0, .slice none 0 0] 44)
    rwa [e1] at this
theorem JB.step {w w1 w2 : World} {N : Int} {A : Option Addr} {n c : Nat} (h : JB w N A n c w1) (hb : Below w1.heap.size w1 w2) : JB w N A n c w2 :=
  ⟨(hb.block _ (lt_of_block h.b0)).trans h.b0, (hb.block _ (lt_of_block h.b1)).trans h.b1, below_then h.below h.below.size hb⟩
theorem JB.stored {w w1 : World} {N : Int} {A : Option Addr} {n c : Nat} (h : JB w N A n c w1) (x y : Value) :
    ((w1.setCell ⟨w.heap.size + 1, 0, none⟩ x).setCell ⟨w.heap.size + 1, 1, none⟩ y).heap[w.heap.size + 1]? = some (.cells #[x, y] 44 (0, 0)) ∧ Below w.heap.size w ((w1.setCell ⟨w.heap.size + 1, 0, none⟩ x).setCell ⟨w.heap.size + 1, 1, none⟩ y) :=
  ⟨by rw [heap_set (heap_set h.b1 0 x) 1 y]; rfl, below_store (below_store h.below (by omega) 0 x) (by omega) 1 y⟩
set_option maxRecDepth 100000 in
set_option maxHeartbeats 1000000 in
/-- Nothing is joined: equal, no nodes, or joined before. -/
theorem rjoin_no (N : Int) (A : Option Addr) (c : Nat) (l : List Bool) (a b : Int) (w : World) (hr : Kd.C Kd.bool w A l.length l) (hc : l.length ≤ c) (ta tb th : Bool) (hne : ¬ a = b)
    (ha : horariumref23_Node.f N l a = some ta) (hb : horariumref23_Node.f N l b = some tb) (hh : ta = true → tb = true → horariumref23_Has.f N l a b = some th) (hno : ta = false ∨ tb = false ∨ th = true) :
    Calls Try.prog 65 #[.agg #[.int .i64 N, .slice A l.length c], .int .i64 a, .int .i64 b] w fun e w' => e = .returned (.tuple #[.agg #[.int .i64 N, .slice A l.length c], .bool false]) ∧ Below w.heap.size w w' := by
  have hu44 := Try.underlying44
  have h1 : (a == b) = false := by simp [hne]
  have HR := Aside0.mk hr
  have HC := Aside0.mk hc
  have HA := Aside0.mk ha
  have HBn := Aside0.mk hb
  have HH := Aside0.mk hh
  have HNO := Aside0.mk hno
  have HJ0 := Aside0.mk (JB.start w N A l.length c)
  clear hr hc ha hb hh hno hne
  cases ta
  · go_enter Try.func65, Try.ntmps65
    go_wp2_with fail
    refine (horariumref23_Node.calls N A c l a false _ (Kd.C_below HR.out HJ0.out.below) HC.out HA.out).mono ?_
    rintro e w1 ⟨rfl, hb1⟩
    have HJ1 := Aside0.mk (HJ0.out.step hb1)
    clear hb1
    have c0 : w1.cell? ⟨w.heap.size, 0, none⟩ = some (.int .i64 N) := (blk_cell HJ1.out.b0 0).trans rfl
    have c1 : w1.cell? ⟨w.heap.size, 1, none⟩ = some (.slice A l.length c) := (blk_cell HJ1.out.b0 1).trans rfl
    have d0 : w1.cell? ⟨w.heap.size + 1, 0, none⟩ = some (.int .i64 0) := (blk_cell HJ1.out.b1 0).trans rfl
    have d1 : w1.cell? ⟨w.heap.size + 1, 1, none⟩ = some (.slice none 0 0) := (blk_cell HJ1.out.b1 1).trans rfl
    have f0 := blk_frozen HJ1.out.b1 0
    have f1 := blk_frozen HJ1.out.b1 1
    go_wp2
    (try simp only [Exit.inBlock, Exit.then])
    refine bodyPost_ret (results_row_tmp (ty := 44) rfl _ _ (w.heap.size + 1) 44 #[Value.int IntKind.i64 N, Value.slice A l.length c] (0, 0) _ rfl (HJ1.out.stored _ _).1 Try.underlying44 rfl info44) rfl ?_
    exact ⟨rfl, (HJ1.out.stored _ _).2⟩
  cases tb
  · go_enter Try.func65, Try.ntmps65
    go_wp2_with fail
    refine (horariumref23_Node.calls N A c l a true _ (Kd.C_below HR.out HJ0.out.below) HC.out HA.out).mono ?_
    rintro e w1 ⟨rfl, hb1⟩
    have HJ1 := Aside0.mk (HJ0.out.step hb1)
    clear hb1
    have c0 : w1.cell? ⟨w.heap.size, 0, none⟩ = some (.int .i64 N) := (blk_cell HJ1.out.b0 0).trans rfl
    have c1 : w1.cell? ⟨w.heap.size, 1, none⟩ = some (.slice A l.length c) := (blk_cell HJ1.out.b0 1).trans rfl
    have d0 : w1.cell? ⟨w.heap.size + 1, 0, none⟩ = some (.int .i64 0) := (blk_cell HJ1.out.b1 0).trans rfl
    have d1 : w1.cell? ⟨w.heap.size + 1, 1, none⟩ = some (.slice none 0 0) := (blk_cell HJ1.out.b1 1).trans rfl
    have f0 := blk_frozen HJ1.out.b1 0
    have f1 := blk_frozen HJ1.out.b1 1
    go_wp2_with fail
    refine (horariumref23_Node.calls N A c l b false _ (Kd.C_below HR.out HJ1.out.below) HC.out HBn.out).mono ?_
    rintro e w2 ⟨rfl, hb2⟩
    have HJ2 := Aside0.mk (HJ1.out.step hb2)
    clear hb2
    clear c0 c1 d0 d1 f0 f1
    have c0 : w2.cell? ⟨w.heap.size, 0, none⟩ = some (.int .i64 N) := (blk_cell HJ2.out.b0 0).trans rfl
    have c1 : w2.cell? ⟨w.heap.size, 1, none⟩ = some (.slice A l.length c) := (blk_cell HJ2.out.b0 1).trans rfl
    have d0 : w2.cell? ⟨w.heap.size + 1, 0, none⟩ = some (.int .i64 0) := (blk_cell HJ2.out.b1 0).trans rfl
    have d1 : w2.cell? ⟨w.heap.size + 1, 1, none⟩ = some (.slice none 0 0) := (blk_cell HJ2.out.b1 1).trans rfl
    have f0 := blk_frozen HJ2.out.b1 0
    have f1 := blk_frozen HJ2.out.b1 1
    go_wp2
    (try simp only [Exit.inBlock, Exit.then])
    refine bodyPost_ret (results_row_tmp (ty := 44) rfl _ _ (w.heap.size + 1) 44 #[Value.int IntKind.i64 N, Value.slice A l.length c] (0, 0) _ rfl (HJ2.out.stored _ _).1 Try.underlying44 rfl info44) rfl ?_
    exact ⟨rfl, (HJ2.out.stored _ _).2⟩
  cases th
  · exact absurd HNO.out (by simp)
  · go_enter Try.func65, Try.ntmps65
    go_wp2_with fail
    refine (horariumref23_Node.calls N A c l a true _ (Kd.C_below HR.out HJ0.out.below) HC.out HA.out).mono ?_
    rintro e w1 ⟨rfl, hb1⟩
    have HJ1 := Aside0.mk (HJ0.out.step hb1)
    clear hb1
    have c0 : w1.cell? ⟨w.heap.size, 0, none⟩ = some (.int .i64 N) := (blk_cell HJ1.out.b0 0).trans rfl
    have c1 : w1.cell? ⟨w.heap.size, 1, none⟩ = some (.slice A l.length c) := (blk_cell HJ1.out.b0 1).trans rfl
    have d0 : w1.cell? ⟨w.heap.size + 1, 0, none⟩ = some (.int .i64 0) := (blk_cell HJ1.out.b1 0).trans rfl
    have d1 : w1.cell? ⟨w.heap.size + 1, 1, none⟩ = some (.slice none 0 0) := (blk_cell HJ1.out.b1 1).trans rfl
    have f0 := blk_frozen HJ1.out.b1 0
    have f1 := blk_frozen HJ1.out.b1 1
    go_wp2_with fail
    refine (horariumref23_Node.calls N A c l b true _ (Kd.C_below HR.out HJ1.out.below) HC.out HBn.out).mono ?_
    rintro e w2 ⟨rfl, hb2⟩
    have HJ2 := Aside0.mk (HJ1.out.step hb2)
    clear hb2
    clear c0 c1 d0 d1 f0 f1
    have c0 : w2.cell? ⟨w.heap.size, 0, none⟩ = some (.int .i64 N) := (blk_cell HJ2.out.b0 0).trans rfl
    have c1 : w2.cell? ⟨w.heap.size, 1, none⟩ = some (.slice A l.length c) := (blk_cell HJ2.out.b0 1).trans rfl
    have d0 : w2.cell? ⟨w.heap.size + 1, 0, none⟩ = some (.int .i64 0) := (blk_cell HJ2.out.b1 0).trans rfl
    have d1 : w2.cell? ⟨w.heap.size + 1, 1, none⟩ = some (.slice none 0 0) := (blk_cell HJ2.out.b1 1).trans rfl
    have f0 := blk_frozen HJ2.out.b1 0
    have f1 := blk_frozen HJ2.out.b1 1
    go_wp2_with fail
    refine (horariumref23_Has.calls N A c l a b true _ (Kd.C_below HR.out HJ2.out.below) HC.out (by have := HH.out; simpa using this)).mono ?_
    rintro e w3 ⟨rfl, hb3⟩
    have HJ3 := Aside0.mk (HJ2.out.step hb3)
    clear hb3
    clear c0 c1 d0 d1 f0 f1
    have c0 : w3.cell? ⟨w.heap.size, 0, none⟩ = some (.int .i64 N) := (blk_cell HJ3.out.b0 0).trans rfl
    have c1 : w3.cell? ⟨w.heap.size, 1, none⟩ = some (.slice A l.length c) := (blk_cell HJ3.out.b0 1).trans rfl
    have d0 : w3.cell? ⟨w.heap.size + 1, 0, none⟩ = some (.int .i64 0) := (blk_cell HJ3.out.b1 0).trans rfl
    have d1 : w3.cell? ⟨w.heap.size + 1, 1, none⟩ = some (.slice none 0 0) := (blk_cell HJ3.out.b1 1).trans rfl
    have f0 := blk_frozen HJ3.out.b1 0
    have f1 := blk_frozen HJ3.out.b1 1
    go_wp2
    (try simp only [Exit.inBlock, Exit.then])
    refine bodyPost_ret (results_row_tmp (ty := 44) rfl _ _ (w.heap.size + 1) 44 #[Value.int IntKind.i64 N, Value.slice A l.length c] (0, 0) _ rfl (HJ3.out.stored _ _).1 Try.underlying44 rfl info44) rfl ?_
    exact ⟨rfl, (HJ3.out.stored _ _).2⟩
theorem JB.far {w w1 : World} {N : Int} {A : Option Addr} {n c g : Nat} (h : JB w N A n c w1) (hg : w.heap.size + 1 < g) (i : Nat) (v : Value) : JB w N A n c (w1.setCell ⟨g, i, none⟩ v) :=
  ⟨(Go.Deep.blk_setCell_other _ _ _ _ (by show w.heap.size ≠ g; omega)).trans h.b0, (Go.Deep.blk_setCell_other _ _ _ _ (by show w.heap.size + 1 ≠ g; omega)).trans h.b1, below_store h.below (by omega) i v⟩
theorem pw_set_far {w : World} {b g : Nat} {u : Value} (h : w.cell? ⟨b, 0, none⟩ = some u) (hne : b ≠ g) (i : Nat) (v : Value) : (w.setCell ⟨g, i, none⟩ v).cell? ⟨b, 0, none⟩ = some u := by
  rw [World.cell?_setCell_other _ _ _ _ (by intro e; injection e with e _; exact hne e.symm)]; exact h
theorem own_of_app {w : World} {base : Nat} {v : Value} {l : List Bool} (h : w.ownsRow base 4 1 v ([] ++ l).length (encs Value.bool ([] ++ l))) : w.ownsRow base 4 1 v l.length (encs Value.bool l) := by simpa using h
set_option maxRecDepth 100000 in
set_option maxHeartbeats 1000000 in
/-- Two nodes are joined. -/
theorem rjoin_yes (N : Int) (A : Option Addr) (c : Nat) (l : List Bool) (a b : Int) (w : World) (hr : Kd.C Kd.bool w A l.length l) (hc : l.length ≤ c) (hne : ¬ a = b)
    (ha : horariumref23_Node.f N l a = some true) (hb : horariumref23_Node.f N l b = some true) (hh : horariumref23_Has.f N l a b = some false)
    (p1 p2 q1 q2 : Int) (e1 : wrap64 (a * N) = p1) (e2 : wrap64 (p1 + b) = p2) (e3 : wrap64 (b * N) = q1) (e4 : wrap64 (q1 + a) = q2) (hp : 0 ≤ p2 ∧ p2 < (l.length : Int)) (hq : 0 ≤ q2 ∧ q2 < (l.length : Int)) (hl : l.length ≤ 1000000) :
    Calls Try.prog 65 #[.agg #[.int .i64 N, .slice A l.length c], .int .i64 a, .int .i64 b] w fun e w' => ∃ v, e = .returned (.tuple #[.agg #[.int .i64 N, v], .bool true]) ∧ w'.ownsRow w.heap.size 4 1 v l.length (encs Value.bool ((l.set p2.toNat true).set q2.toNat true)) ∧ Below w.heap.size w w' := by
  have hu44 := Try.underlying44
  have h1 : (a == b) = false := by simp [hne]
  have HR := Aside0.mk hr
  have HC := Aside0.mk hc
  have HA := Aside0.mk ha
  have HBn := Aside0.mk hb
  have HH := Aside0.mk hh
  have HPQ := Aside0.mk (And.intro hp (And.intro hq hl))
  have HJ0 := Aside0.mk (JB.start w N A l.length c)
  clear hr hc ha hb hh hne hp hq hl
  go_enter Try.func65, Try.ntmps65
  go_wp2_with fail
  refine (horariumref23_Node.calls N A c l a true _ (Kd.C_below HR.out HJ0.out.below) HC.out HA.out).mono ?_
  rintro e w1 ⟨rfl, hb1⟩
  have HJ1 := Aside0.mk (HJ0.out.step hb1)
  clear hb1
  have c0 : w1.cell? ⟨w.heap.size, 0, none⟩ = some (.int .i64 N) := (blk_cell HJ1.out.b0 0).trans rfl
  have c1 : w1.cell? ⟨w.heap.size, 1, none⟩ = some (.slice A l.length c) := (blk_cell HJ1.out.b0 1).trans rfl
  go_wp2_with fail
  refine (horariumref23_Node.calls N A c l b true _ (Kd.C_below HR.out HJ1.out.below) HC.out HBn.out).mono ?_
  rintro e w2 ⟨rfl, hb2⟩
  have HJ2 := Aside0.mk (HJ1.out.step hb2)
  clear hb2
  clear c0 c1
  have c0 : w2.cell? ⟨w.heap.size, 0, none⟩ = some (.int .i64 N) := (blk_cell HJ2.out.b0 0).trans rfl
  have c1 : w2.cell? ⟨w.heap.size, 1, none⟩ = some (.slice A l.length c) := (blk_cell HJ2.out.b0 1).trans rfl
  go_wp2_with fail
  refine (horariumref23_Has.calls N A c l a b false _ (Kd.C_below HR.out HJ2.out.below) HC.out HH.out).mono ?_
  rintro e w3 ⟨rfl, hb3⟩
  have HJ3 := Aside0.mk (HJ2.out.step hb3)
  clear hb3
  clear c0 c1
  have c0 : w3.cell? ⟨w.heap.size, 0, none⟩ = some (.int .i64 N) := (blk_cell HJ3.out.b0 0).trans rfl
  have c1 : w3.cell? ⟨w.heap.size, 1, none⟩ = some (.slice A l.length c) := (blk_cell HJ3.out.b0 1).trans rfl
  have HE : Aside0 ((w3.alloc (.cells #[] 4)).ownsRow w.heap.size 4 1 (.slice (some ⟨w3.heap.size, 0, none⟩) 0 0) ([] : List Bool).length (encs Value.bool [])) := ⟨by
    have h := World.ownsRow_lit (base := w.heap.size) (e := 4) (size := 1) w3 #[] 0 HJ3.out.below.size (by decide) (by simp)
    simpa [encs] using h⟩
  have HBe := Aside0.mk (below_then HJ3.out.below HJ3.out.below.size (below_alloc (Below.refl w3.heap.size w3) (.cells #[] 4)))
  have c1a : (w3.alloc (Obj.cells #[] 4)).cell? ⟨w.heap.size, 1, none⟩ = some (.slice A l.length c) := pw_cell_below (below_alloc (Below.refl _ _) _) c1
  go_wp2_with (at_builtin; go_loud (refine print_append_row_of (w0 := w) Value.bool false w.heap.size rfl _ _ 42 4 (.bool false) 1 rfl Try.underlying42 PB.info4 rfl (by decide) (fun _ => rfl) (.slice (some ⟨w3.heap.size, 0, none⟩) 0 0) [] l A l.length c rfl rfl HE.out (Kd.reads_of_C (d := false) (Kd.C_below HR.out HBe.out)) HBe.out HBe.out.size (by have := HPQ.out.2.2; simp; omega) ?_); intro v1 w4 ho4 hb4 hg4 hat4)
  have HB4 := Aside0.mk hb4
  have hja := HJ3.out.step (below_alloc (Below.refl w3.heap.size w3) (.cells #[] 4))
  have hs3 := lt_of_block HJ3.out.b1
  have hj4 : JB w N A l.length c w4 := ⟨(hg4.block _ (lt_of_block hja.b0) (fun e => by simp [Value.ownBlock] at e; omega)).trans hja.b0, (hg4.block _ (lt_of_block hja.b1) (fun e => by simp [Value.ownBlock] at e; omega)).trans hja.b1, hb4⟩
  have HJ4 := Aside0.mk hj4
  have c0n : w4.drew.cell? ⟨w.heap.size, 0, none⟩ = some (.int .i64 N) := (blk_cell HJ4.out.b0 0).trans rfl
  obtain ⟨g, cap, rfl, hgb, hgl⟩ := ho4.form (by have := HPQ.out; simp; omega)
  have hgs : w.heap.size + 1 < g := by
    simp [Value.ownBlock] at hat4
    omega
  have HGS := Aside0.mk hgs
  clear hja hs3 hj4 hgs
  have ho4' := own_of_app ho4
  have HP1 := Aside0.mk (own_at_of (d := false) ho4' p2 HPQ.out.1.1 HPQ.out.1.2)
  have HP2 := Aside0.mk (own_store_of ho4' p2 true)
  have HQ1 := Aside0.mk (own_at_of (d := false) HP2.out.1 q2 HPQ.out.2.1.1 HPQ.out.2.1.2)
  have HP1G : Aside0 (w.heap.size ≠ g) := ⟨by have := HGS.out; omega⟩
  clear hb4 hg4 hat4 ho4
  have hp0 := HPQ.out.1.1
  have hp1 := HPQ.out.1.2
  have hq0 := HPQ.out.2.1.1
  have hq1 := HPQ.out.2.1.2
  refine start_ (n := 18) (S := (fun w' => w'.cell? ⟨w.heap.size, 0, none⟩ = some (.int .i64 N))) (ds := [17]) #[false, false, false, false, false, false, false, false, false, false, false, false, false, false, false, false, false, false] (by kernel_rfl) rfl rfl (c0n) (fun hHeld => ?_)
  refine pure_ (i := 0) (N := some 35) (v := ?_) (a' := ?_) #[true, false, false, false, false, false, false, false, false, false, false, false, false, false, false, false, false, false] rfl rfl (by kernel_rfl) (fun _ _ _ h => h) (Or.inl ⟨by rfl, ?_⟩) ?_ ?_
  rotate_left
  · intro w'
    go_simp
    with_reducible rfl
  rotate_left
  · simp only [Act.put, List.setIfInBounds_toArray, List.set_cons_zero, List.set_cons_succ, i64_w, i32_w]
    rfl
  refine pure_ (i := 1) (N := some 36) (v := ?_) (a' := ?_) #[true, true, false, false, false, false, false, false, false, false, false, false, false, false, false, false, false, false] rfl rfl (by kernel_rfl) (fun _ _ _ h => h) (Or.inl ⟨by rfl, ?_⟩) ?_ ?_
  rotate_left
  · intro w'
    go_simp
    with_reducible rfl
  rotate_left
  · simp only [Act.put, List.setIfInBounds_toArray, List.set_cons_zero, List.set_cons_succ, i64_w, i32_w]
    rfl
  refine pure_ (i := 2) (N := some 37) (v := ?_) (a' := ?_) #[true, true, true, false, false, false, false, false, false, false, false, false, false, false, false, false, false, false] rfl rfl (by kernel_rfl) (fun _ _ _ h => h) (Or.inl ⟨by rfl, ?_⟩) ?_ ?_
  rotate_left
  · intro w'
    go_simp
    with_reducible rfl
  rotate_left
  · simp only [Act.put, List.setIfInBounds_toArray, List.set_cons_zero, List.set_cons_succ, i64_w, i32_w]
    rfl
  refine take_ (i := 3) (N := some 38) (v := ?_) (a' := ?_) #[true, true, true, true, false, false, false, false, false, false, false, false, false, false, false, false, false, false] rfl rfl (by kernel_rfl) (fun _ _ _ h => h) (Or.inl ⟨by rfl, ?_⟩) hHeld ?_ ?_
  rotate_left
  · intro w' s0
    go_simp
    with_reducible rfl
  rotate_left
  · simp only [Act.put, List.setIfInBounds_toArray, List.set_cons_zero, List.set_cons_succ, i64_w, i32_w]
    rfl
  refine pure_ (i := 4) (N := some 39) (v := ?_) (a' := ?_) #[true, true, true, true, true, false, false, false, false, false, false, false, false, false, false, false, false, false] rfl rfl (by kernel_rfl) (fun _ _ _ h => h) (Or.inl ⟨by rfl, ?_⟩) ?_ ?_
  rotate_left
  · intro w'
    go_simp
    with_reducible rfl
  rotate_left
  · simp only [Act.put, List.setIfInBounds_toArray, List.set_cons_zero, List.set_cons_succ, i64_w, i32_w]
    rfl
  refine pure_ (i := 5) (N := some 40) (v := ?_) (a' := ?_) #[true, true, true, true, true, true, false, false, false, false, false, false, false, false, false, false, false, false] rfl rfl (by kernel_rfl) (fun _ _ _ h => h) (Or.inl ⟨by rfl, ?_⟩) ?_ ?_
  rotate_left
  · intro w'
    go_simp
    with_reducible rfl
  rotate_left
  · simp only [Act.put, List.setIfInBounds_toArray, List.set_cons_zero, List.set_cons_succ, i64_w, i32_w]
    rfl
  refine pure_ (i := 6) (N := some 41) (v := ?_) (a' := ?_) #[true, true, true, true, true, true, true, false, false, false, false, false, false, false, false, false, false, false] rfl rfl (by kernel_rfl) (fun _ _ _ h => h) (Or.inl ⟨by rfl, ?_⟩) ?_ ?_
  rotate_left
  · intro w'
    go_simp
    with_reducible rfl
  rotate_left
  · simp only [Act.put, List.setIfInBounds_toArray, List.set_cons_zero, List.set_cons_succ, i64_w, i32_w]
    rfl
  refine pure_ (i := 7) (N := some 42) (v := ?_) (a' := ?_) #[true, true, true, true, true, true, true, true, false, false, false, false, false, false, false, false, false, false] rfl rfl (by kernel_rfl) (fun _ _ _ h => h) (Or.inl ⟨by rfl, ?_⟩) ?_ ?_
  rotate_left
  · intro w'
    go_simp
    with_reducible rfl
  rotate_left
  · simp only [Act.put, List.setIfInBounds_toArray, List.set_cons_zero, List.set_cons_succ, i64_w, i32_w]
    rfl
  refine pure_ (i := 8) (N := some 43) (v := ?_) (a' := ?_) #[true, true, true, true, true, true, true, true, true, false, false, false, false, false, false, false, false, false] rfl rfl (by kernel_rfl) (fun _ _ _ h => h) (Or.inl ⟨by rfl, ?_⟩) ?_ ?_
  rotate_left
  · intro w'
    go_simp
    with_reducible rfl
  rotate_left
  · simp only [Act.put, List.setIfInBounds_toArray, List.set_cons_zero, List.set_cons_succ, i64_w, i32_w]
    rfl
  refine pure_ (i := 9) (N := some 44) (v := ?_) (a' := ?_) #[true, true, true, true, true, true, true, true, true, true, false, false, false, false, false, false, false, false] rfl rfl (by kernel_rfl) (fun _ _ _ h => h) (Or.inl ⟨by rfl, ?_⟩) ?_ ?_
  rotate_left
  · intro w'
    go_simp
    with_reducible rfl
  rotate_left
  · simp only [Act.put, List.setIfInBounds_toArray, List.set_cons_zero, List.set_cons_succ, i64_w, i32_w]
    rfl
  refine take_ (i := 10) (N := some 45) (v := ?_) (a' := ?_) #[true, true, true, true, true, true, true, true, true, true, true, false, false, false, false, false, false, false] rfl rfl (by kernel_rfl) (fun _ _ _ h => h) (Or.inl ⟨by rfl, ?_⟩) hHeld ?_ ?_
  rotate_left
  · intro w' s0
    go_simp
    with_reducible rfl
  rotate_left
  · simp only [Act.put, List.setIfInBounds_toArray, List.set_cons_zero, List.set_cons_succ, i64_w, i32_w]
    rfl
  refine pure_ (i := 11) (N := some 46) (v := ?_) (a' := ?_) #[true, true, true, true, true, true, true, true, true, true, true, true, false, false, false, false, false, false] rfl rfl (by kernel_rfl) (fun _ _ _ h => h) (Or.inl ⟨by rfl, ?_⟩) ?_ ?_
  rotate_left
  · intro w'
    go_simp
    with_reducible rfl
  rotate_left
  · simp only [Act.put, List.setIfInBounds_toArray, List.set_cons_zero, List.set_cons_succ, i64_w, i32_w]
    rfl
  refine pure_ (i := 12) (N := some 47) (v := ?_) (a' := ?_) #[true, true, true, true, true, true, true, true, true, true, true, true, true, false, false, false, false, false] rfl rfl (by kernel_rfl) (fun _ _ _ h => h) (Or.inl ⟨by rfl, ?_⟩) ?_ ?_
  rotate_left
  · intro w'
    go_simp
    with_reducible rfl
  rotate_left
  · simp only [Act.put, List.setIfInBounds_toArray, List.set_cons_zero, List.set_cons_succ, i64_w, i32_w]
    rfl
  refine pure_ (i := 13) (N := some 48) (v := ?_) (a' := ?_) #[true, true, true, true, true, true, true, true, true, true, true, true, true, true, false, false, false, false] rfl rfl (by kernel_rfl) (fun _ _ _ h => h) (Or.inl ⟨by rfl, ?_⟩) ?_ ?_
  rotate_left
  · intro w'
    go_simp
    with_reducible rfl
  rotate_left
  · simp only [Act.put, List.setIfInBounds_toArray, List.set_cons_zero, List.set_cons_succ, i64_w, i32_w]
    rfl
  refine pure_ (i := 14) (N := some 49) (v := ?_) (a' := ?_) #[true, true, true, true, true, true, true, true, true, true, true, true, true, true, true, false, false, false] rfl rfl (by kernel_rfl) (fun _ _ _ h => h) (Or.inl ⟨by rfl, ?_⟩) ?_ ?_
  rotate_left
  · intro w'
    go_simp
    with_reducible rfl
  rotate_left
  · simp only [Act.put, List.setIfInBounds_toArray, List.set_cons_zero, List.set_cons_succ, i64_w, i32_w]
    rfl
  refine one_ (i := 15) (N := none) #[true, true, true, true, true, true, true, true, true, true, true, true, true, true, true, true, false, false] rfl rfl (by kernel_rfl) (by decide) (fun K hK => ?_)
  have cp := HP1.out.1
  have fp := HP1.out.2
  go_simp
  refine hK.out _ _ (pw_set_far hHeld HP1G.out _ _) (fun hHeld => ?_)
  clear hK K
  refine pure_ (i := 16) (N := some 50) (v := ?_) (a' := ?_) #[true, true, true, true, true, true, true, true, true, true, true, true, true, true, true, true, true, false] rfl rfl (by kernel_rfl) (fun _ _ _ h => h) (Or.inl ⟨by rfl, ?_⟩) ?_ ?_
  rotate_left
  · intro w'
    go_simp
    with_reducible rfl
  rotate_left
  · simp only [Act.put, List.setIfInBounds_toArray, List.set_cons_zero, List.set_cons_succ, i64_w, i32_w]
    rfl
  refine last_ (i := 17) (N := none) #[true, true, true, true, true, true, true, true, true, true, true, true, true, true, true, true, true, true] rfl rfl (by kernel_rfl) (by decide) (fun K hK => ?_)
  have cq := HQ1.out.1
  have fq := HQ1.out.2
  go_simp
  refine hK.out _ _ ?_
  clear hK K
  refine done_ (by kernel_rfl) ?_
  have HJ5 := Aside0.mk ((HJ4.out.far HGS.out p2.toNat (.bool true)).far HGS.out q2.toNat (.bool true))
  have k0 := (blk_cell HJ5.out.b0 0).trans rfl
  have d0 := (blk_cell HJ5.out.b1 0).trans rfl
  have d1 := (blk_cell HJ5.out.b1 1).trans rfl
  have f0 := blk_frozen HJ5.out.b1 0
  have f1 := blk_frozen HJ5.out.b1 1
  go_wp2
  (try simp only [Exit.inBlock, Exit.then])
  refine bodyPost_ret (results_row_tmp (ty := 44) rfl _ _ (w.heap.size + 1) 44 #[Value.int IntKind.i64 N, Value.slice (some ⟨g, 0, none⟩) l.length cap] (0, 0) _ rfl (HJ5.out.stored _ _).1 Try.underlying44 rfl info44) rfl ?_
  refine ⟨_, rfl, ?_, below_drew (HJ5.out.stored _ _).2⟩
  refine own_move (own_store_of HP2.out.1 q2 true).1 (fun k hk => ?_)
  obtain rfl : g = k := by simpa [Value.ownBlock] using hk
  have hne : g ≠ w.heap.size + 1 := by have := HGS.out; omega
  exact (Go.Deep.blk_setCell_other _ _ _ _ hne).trans (Go.Deep.blk_setCell_other _ _ _ _ hne)
end Go.Proofs.Ytbmnnmcnmfgbaaa.PG
end
section
/-
  The statements' graph: L23.Made; the joins as a function of two nodes.
-/
namespace Go.Proofs.Ytbmnnmcnmfgbaaa.PG
open Go.RowKit Go.Shelf Go.Proofs.YtbmnnmcnmfgbaaaW.PrintWords Go.Proofs.YtbmnnmcnmfgbaaaW.PrintLast Go.Proofs.YtbmnnmcnmfgbaaaW.PrintMore
open Go.Proofs.Ytbmnnmcnmfgbaaa.PB Go.Proofs.Ytbmnnmcnmfgbaaa.PC
set_option linter.unusedVariables false
set_option linter.unusedSimpArgs false

/-- Are two numbers joined by a list of joins? -/
def adjOf (n : Nat) (js : List (Int × Int)) (a b : Nat) : Bool := (decide (a < n) && decide (b < n)) && (!decide (a = b) && js.any fun p => (p.1 == (a : Int) && p.2 == (b : Int)) || (p.1 == (b : Int) && p.2 == (a : Int)))
theorem adjOf_symm (n : Nat) (js : List (Int × Int)) (a b : Nat) : adjOf n js a b = adjOf n js b a := by
  unfold adjOf
  congr 1
  · exact Bool.and_comm _ _
  · congr 1
    · by_cases e : a = b
      · subst e; rfl
      · have e2 : ¬ b = a := fun h => e h.symm
        simp [e, e2]
    · congr 1; funext p; exact Bool.or_comm _ _
theorem adjOf_lt {n : Nat} {js : List (Int × Int)} {a b : Nat} (h : adjOf n js a b = true) : a < n ∧ b < n ∧ a ≠ b := by
  unfold adjOf at h
  simp only [Bool.and_eq_true, decide_eq_true_eq, Bool.not_eq_true', decide_eq_false_iff_not] at h
  exact ⟨h.1.1, h.1.2, h.2.1⟩
theorem adjOf_snoc (n : Nat) (js : List (Int × Int)) (p : Int × Int) (a b : Nat) : adjOf n (js ++ [p]) a b = (adjOf n js a b || ((decide (a < n) && decide (b < n)) && (!decide (a = b) && ((p.1 == (a : Int) && p.2 == (b : Int)) || (p.1 == (b : Int) && p.2 == (a : Int)))))) := by
  unfold adjOf
  rw [List.any_append]
  simp only [List.any_cons, List.any_nil, Bool.or_false]
  cases decide (a < n) <;> cases decide (b < n) <;> cases decide (a = b) <;> simp
/-- The graph's rows say just who is joined. -/
structure GrIs (nbs : List (List Int)) (n : Nat) (adj : Nat → Nat → Bool) : Prop where
  len : nbs.length = n
  row : ∀ a, a < n → Nrm (nbs.getD a []) (fun i => adj a i)
  short : ∀ a, a < n → (nbs.getD a []).length ≤ 64
/-- The reference's row says just who is joined. -/
structure RefIs (on : List Bool) (n : Nat) (adj : Nat → Nat → Bool) : Prop where
  len : on.length = n * n
  at_ : ∀ a b, a < n → b < n → on.getD (a * n + b) false = adj a b
theorem adjOf_nil (n a b : Nat) : adjOf n [] a b = false := by unfold adjOf; simp
theorem GrIs.gok {nbs : List (List Int)} {n : Nat} {adj : Nat → Nat → Bool} (h : GrIs nbs n adj) (hn : n ≤ 400) (hlt : ∀ a b, adj a b = true → a < n ∧ b < n) : Gok nbs := by
  refine ⟨by rw [h.len]; exact hn, fun a b hb => ?_, fun l hl => ?_⟩
  · by_cases ha : a < n
    · rw [(h.row a ha).tb] at hb
      rw [h.len]; exact (hlt a b hb).2
    · rw [List.getD_eq_getElem?_getD, List.getElem?_eq_none (by rw [h.len]; omega)] at hb
      simp [tb, rd] at hb
  · obtain ⟨a, ha, rfl⟩ := List.mem_iff_getElem.1 hl
    have := h.short a (by rw [← h.len]; exact ha)
    rw [List.getD_eq_getElem?_getD, List.getElem?_eq_getElem ha] at this
    simp at this
    omega
theorem GrIs.gsym {nbs : List (List Int)} {n : Nat} {adj : Nat → Nat → Bool} (h : GrIs nbs n adj) (hs : ∀ a b, adj a b = adj b a) : Gsym nbs := fun a b ha hb => by
  rw [h.len] at ha hb
  rw [(h.row a ha).tb, (h.row b hb).tb, hs]
theorem GrIs.okw {nbs : List (List Int)} {n : Nat} {adj : Nat → Nat → Bool} (h : GrIs nbs n adj) : ∀ l ∈ nbs, okW l ∧ l.length ≤ 1000000 := fun l hl => by
  obtain ⟨a, ha, rfl⟩ := List.mem_iff_getElem.1 hl
  have h1 := h.short a (by rw [← h.len]; exact ha)
  have h2 := (h.row a (by rw [← h.len]; exact ha)).ok
  rw [List.getD_eq_getElem?_getD, List.getElem?_eq_getElem ha] at h1 h2
  simp at h1 h2
  exact ⟨h2, by omega⟩
theorem GrIs.has {nbs : List (List Int)} {n : Nat} {adj : Nat → Nat → Bool} (h : GrIs nbs n adj) (hlt : ∀ a b, adj a b = true → a < n ∧ b < n) (a b : Nat) : hasB nbs (a : Int) (b : Int) = adj a b := by
  unfold hasB
  by_cases ha : a < n
  · have h1 : isB nbs (a : Int) = true := by simp [isB, h.len]; omega
    rw [h1, Int.toNat_natCast, Int.toNat_natCast, (h.row a ha).tb]
    simp
  · have h1 : isB nbs (a : Int) = false := by simp [isB, h.len]; omega
    rw [h1, Bool.false_and]
    cases e : adj a b
    · rfl
    · exact absurd (hlt a b e).1 ha
theorem GrIs.start (n : Nat) : GrIs (List.replicate n []) n (adjOf n []) := by
  refine ⟨by simp, fun a ha => ?_, fun a ha => by simp [ha]⟩
  have e : (List.replicate n ([] : List Int)).getD a [] = [] := by simp [ha]
  rw [e]
  exact ⟨okW.nil, rfl, fun i => by rw [adjOf_nil]; simp [tb, rd]⟩
theorem GrIs.join {nbs : List (List Int)} {n : Nat} {adj adj' : Nat → Nat → Bool} (h : GrIs nbs n adj) (hn : n ≤ 400) {a b : Nat} (ha : a < n) (hb : b < n) (hab : a ≠ b) {ra rb : List Int}
    (hra : Nrm ra (fun i => tb (nbs.getD a []) i || (decide (i < 4096) && decide ((b : Int) = (i : Int))))) (hrb : Nrm rb (fun i => tb (nbs.getD b []) i || (decide (i < 4096) && decide ((a : Int) = (i : Int)))))
    (hla : ra.length ≤ 64) (hlb : rb.length ≤ 64) (hadj : ∀ x y, adj' x y = (adj x y || ((decide (x = a) && decide (y = b)) || (decide (x = b) && decide (y = a))))) : GrIs ((nbs.set a ra).set b rb) n adj' := by
  have ea : ((nbs.set a ra).set b rb).getD a [] = ra := by
    rw [List.getD_eq_getElem?_getD, List.getElem?_set_ne (Ne.symm hab), List.getElem?_set_self (by rw [h.len]; exact ha)]; rfl
  have eb : ((nbs.set a ra).set b rb).getD b [] = rb := by
    rw [List.getD_eq_getElem?_getD, List.getElem?_set_self (by rw [List.length_set, h.len]; exact hb)]; rfl
  have ex : ∀ x, x ≠ a → x ≠ b → ((nbs.set a ra).set b rb).getD x [] = nbs.getD x [] := fun x h1 h2 => by
    rw [List.getD_eq_getElem?_getD, List.getElem?_set_ne (Ne.symm h2), List.getElem?_set_ne (Ne.symm h1), List.getD_eq_getElem?_getD]
  refine ⟨by simp [h.len], fun x hx => ?_, fun x hx => ?_⟩
  · by_cases e1 : x = a
    · subst e1
      rw [ea]
      refine hra.congr (fun i => ?_)
      rw [(h.row x ha).tb, hadj]
      have : decide (x = b) = false := decide_eq_false hab
      rw [this]
      by_cases e2 : i = b
      · subst e2; simp; right; omega
      · have : ¬ (b : Int) = (i : Int) := by omega
        simp [e2, this]
    · by_cases e2 : x = b
      · subst e2
        rw [eb]
        refine hrb.congr (fun i => ?_)
        rw [(h.row x hb).tb, hadj]
        by_cases e3 : i = a
        · subst e3
          simp [e1]; right; omega
        · have : ¬ (a : Int) = (i : Int) := by omega
          simp [e1, e3, this]
      · rw [ex x e1 e2]
        refine (h.row x hx).congr (fun i => ?_)
        rw [hadj]; simp [e1, e2]
  · by_cases e1 : x = a
    · subst e1; rw [ea]; exact hla
    · by_cases e2 : x = b
      · subst e2; rw [eb]; exact hlb
      · rw [ex x e1 e2]; exact h.short x hx
theorem idx_lt {n a b : Nat} (ha : a < n) (hb : b < n) : a * n + b < n * n := by
  have : (a + 1) * n ≤ n * n := Nat.mul_le_mul_right n ha
  rw [Nat.add_mul, Nat.one_mul] at this
  omega
theorem idx_inj {n a b x y : Nat} (hb : b < n) (hy : y < n) (h : a * n + b = x * n + y) : a = x ∧ b = y := by
  have h1 : (a * n + b) / n = a := by rw [Nat.mul_comm, Nat.mul_add_div (by omega), Nat.div_eq_of_lt hb]; omega
  have h2 : (x * n + y) / n = x := by rw [Nat.mul_comm, Nat.mul_add_div (by omega), Nat.div_eq_of_lt hy]; omega
  rw [h, h2] at h1
  subst h1
  exact ⟨rfl, by omega⟩
theorem RefIs.start (n : Nat) : RefIs (List.replicate (n * n) false) n (adjOf n []) :=
  ⟨by simp, fun a b ha hb => by rw [adjOf_nil]; simp [idx_lt ha hb]⟩
theorem getD_set (l : List Bool) (i j : Nat) (x : Bool) (hi : i < l.length) : (l.set i x).getD j false = if j = i then x else l.getD j false := by
  by_cases e : j = i
  · subst e; simp [hi]
  · rw [if_neg e, List.getD_eq_getElem?_getD, List.getElem?_set_ne (Ne.symm e), List.getD_eq_getElem?_getD]
theorem RefIs.join {on : List Bool} {n : Nat} {adj adj' : Nat → Nat → Bool} (h : RefIs on n adj) {a b : Nat} (ha : a < n) (hb : b < n)
    (hadj : ∀ x y, adj' x y = (adj x y || ((decide (x = a) && decide (y = b)) || (decide (x = b) && decide (y = a))))) : RefIs ((on.set (a * n + b) true).set (b * n + a) true) n adj' := by
  have h1 : a * n + b < on.length := by rw [h.len]; exact idx_lt ha hb
  have h2 : b * n + a < (on.set (a * n + b) true).length := by rw [List.length_set, h.len]; exact idx_lt hb ha
  refine ⟨by simp [h.len], fun x y hx hy => ?_⟩
  rw [getD_set _ _ _ _ h2, getD_set _ _ _ _ h1, h.at_ x y hx hy, hadj]
  by_cases e1 : x * n + y = b * n + a
  · obtain ⟨rfl, rfl⟩ := idx_inj hy ha e1
    simp
  · rw [if_neg e1]
    by_cases e2 : x * n + y = a * n + b
    · obtain ⟨rfl, rfl⟩ := idx_inj hy hb e2
      simp
    · rw [if_neg e2]
      have n1 : ¬ (x = b ∧ y = a) := fun ⟨u, v⟩ => e1 (by rw [u, v])
      have n2 : ¬ (x = a ∧ y = b) := fun ⟨u, v⟩ => e2 (by rw [u, v])
      rw [← Bool.decide_and, ← Bool.decide_and, decide_eq_false n1, decide_eq_false n2]
      simp

/-! ### the walk -/
theorem results_tmp_row {P : Program} {fn : Func} {p u : Tmp} {ty : TypeId} (h : fn.results = #[.tmp u, .cell p ty]) (tmps : Array Value) (w : World) (g : Nat) (t : TypeId) (cs : Array Value) (fr : Nat × Nat) (d : TypeDesc)
    (hp : tmps.getD p undef = .pointer (some ⟨g, 0, none⟩)) (hg : w.heap[g]? = some (.cells cs t fr))
    (hu : P.underlying ty = some d) (hd : (match d with | .struct _ | .array _ _ => true | _ => false) = true) (hi : (P.info? ty).map (·.size) = some cs.size) :
    (results fn tmps).run P w = .ok (.tuple #[tmps.getD u undef, .agg cs]) w := by
  have hp' : tmps[p]?.getD undef = .pointer (some ⟨g, 0, none⟩) := by simpa using hp
  simp [results, h, hp', asAddr, run_loadVar_row w g t ty cs fr d hg hu hd hi]
/-- The guard lets in what has so many nodes and joins. -/
def okMade (n : Int) (k : Nat) : Bool := (decide (0 ≤ n) && decide (n ≤ 40)) && decide (k ≤ 800)
set_option maxRecDepth 100000 in
set_option maxHeartbeats 1000000 in
theorem made_no (n : Int) (A : Option Addr) (len cap : Nat) (w : World) (h : okMade n len = false) :
    Calls Try.prog 33 #[.int .i64 n, .slice A len cap] w fun e w' => e = .returned (.tuple #[.pointer none, .agg #[.int .i64 0, .slice none 0 0]]) ∧ Below w.heap.size w w' := by
  have hu44 := Try.underlying44
  have HB := Aside0.mk (below_alloc (Below.refl w.heap.size w) (Obj.cells #[Value.int .i64 0, Value.slice none 0 0] 44))
  have hh := World.alloc_heap_new w (Obj.cells #[Value.int .i64 0, Value.slice none 0 0] 44)
  have HH := Aside0.mk hh
  clear hh
  by_cases h0 : n < 0
  · have d0 : decide (n < 0) = true := decide_eq_true h0
    clear h h0
    go_enter Try.func33, Try.ntmps33
    go_wp2
    (try simp only [Exit.inBlock, Exit.then])
    refine bodyPost_ret (results_tmp_row (ty := 44) rfl _ _ w.heap.size 44 #[Value.int .i64 0, Value.slice none 0 0] (0, 0) _ rfl HH.out Try.underlying44 rfl info44) rfl ?_
    exact ⟨rfl, HB.out⟩
  by_cases h1 : n > 40
  · have d0 : decide (n < 0) = false := decide_eq_false h0
    have d1 : decide (n > 40) = true := decide_eq_true h1
    clear h h0 h1
    go_enter Try.func33, Try.ntmps33
    go_wp2
    (try simp only [Exit.inBlock, Exit.then])
    refine bodyPost_ret (results_tmp_row (ty := 44) rfl _ _ w.heap.size 44 #[Value.int .i64 0, Value.slice none 0 0] (0, 0) _ rfl HH.out Try.underlying44 rfl info44) rfl ?_
    exact ⟨rfl, HB.out⟩
  · have hl : 800 < len := by
      unfold okMade at h
      simp at h
      exact h (by omega) (by omega)
    have d0 : decide (n < 0) = false := decide_eq_false h0
    have d1 : decide (n > 40) = false := decide_eq_false h1
    have d2 : decide ((len : Int) > 800) = true := decide_eq_true (by omega)
    clear h h0 h1
    go_enter Try.func33, Try.ntmps33
    go_wp2
    (try simp only [Exit.inBlock, Exit.then])
    refine bodyPost_ret (results_tmp_row (ty := 44) rfl _ _ w.heap.size 44 #[Value.int .i64 0, Value.slice none 0 0] (0, 0) _ rfl HH.out Try.underlying44 rfl info44) rfl ?_
    exact ⟨rfl, HB.out⟩
end Go.Proofs.Ytbmnnmcnmfgbaaa.PG
end
section
/-
  One round of L23.Made: a join in the graph, and the same one in the document's graph.
-/
namespace Go.Proofs.Ytbmnnmcnmfgbaaa.PG
open Go.RowKit Go.Shelf Go.Proofs.YtbmnnmcnmfgbaaaW.PrintWords Go.Proofs.YtbmnnmcnmfgbaaaW.PrintLast Go.Proofs.YtbmnnmcnmfgbaaaW.PrintMore
open Go.Proofs.Ytbmnnmcnmfgbaaa.PB Go.Proofs.Ytbmnnmcnmfgbaaa.PC
set_option linter.unusedVariables false
set_option linter.unusedSimpArgs false

/-- Does a join add something? -/
def newJ (n : Nat) (adj : Nat → Nat → Bool) (a b : Int) : Bool := (decide (0 ≤ a) && decide (a < (n : Int))) && ((decide (0 ≤ b) && decide (b < (n : Int))) && (!decide (a = b) && !adj a.toNat b.toNat))
theorem adjOf_old {n : Nat} {js : List (Int × Int)} {a b : Int} (h : newJ n (adjOf n js) a b = false) (x y : Nat) : adjOf n (js ++ [(a, b)]) x y = adjOf n js x y := by
  rw [adjOf_snoc]
  cases e : adjOf n js x y with
  | true => rfl
  | false =>
    rw [Bool.false_or]
    by_cases hx : x < n
    · by_cases hy : y < n
      · by_cases hxy : x = y
        · simp [hxy]
        · by_cases h1 : a = (x : Int) ∧ b = (y : Int)
          · obtain ⟨rfl, rfl⟩ := h1
            unfold newJ at h
            simp [e, hx, hy, hxy] at h
            omega
          · by_cases h2 : a = (y : Int) ∧ b = (x : Int)
            · obtain ⟨rfl, rfl⟩ := h2
              unfold newJ at h
              rw [Int.toNat_natCast, Int.toNat_natCast, adjOf_symm n js y x, e] at h
              simp [hx, hy, hxy] at h
              omega
            · have e1 : ((a == (x : Int)) && (b == (y : Int))) = false := by
                rw [Bool.and_eq_false_iff]; by_cases u : a = (x : Int)
                · exact .inr (by simp; exact fun v => h1 ⟨u, v⟩)
                · exact .inl (by simpa using u)
              have e2 : ((a == (y : Int)) && (b == (x : Int))) = false := by
                rw [Bool.and_eq_false_iff]; by_cases u : a = (y : Int)
                · exact .inr (by simp; exact fun v => h2 ⟨u, v⟩)
                · exact .inl (by simpa using u)
              simp only [e1, e2, Bool.or_false, Bool.and_false]
      · simp [hy]
    · simp [hx]
theorem adjOf_new {n : Nat} {js : List (Int × Int)} {a b : Nat} (ha : a < n) (hb : b < n) (hab : a ≠ b) (x y : Nat) : adjOf n (js ++ [((a : Int), (b : Int))]) x y = (adjOf n js x y || ((decide (x = a) && decide (y = b)) || (decide (x = b) && decide (y = a)))) := by
  rw [adjOf_snoc]
  congr 1
  by_cases e1 : x = a
  · subst e1
    by_cases e2 : y = b
    · subst e2; simp [ha, hb, hab]
    · have e3 : ¬ (b : Int) = (y : Int) := by omega
      have e4 : ¬ b = y := by omega
      by_cases e5 : x = b
      · omega
      · have e6 : ¬ (b : Int) = (x : Int) := by omega
        simp [e2, e3, e5, e6, e4]
  · have e3 : ¬ (a : Int) = (x : Int) := by omega
    by_cases e2 : x = b
    · subst e2
      by_cases e5 : y = a
      · subst e5; simp [ha, hb, hab]; try omega
      · have e6 : ¬ (a : Int) = (y : Int) := by omega
        simp [e1, e3, e5, e6]; try (intro _ _ _ h; omega)
    · have e4 : ¬ (b : Int) = (x : Int) := by omega
      simp [e1, e2, e3, e4]
theorem newJ_true {n : Nat} {adj : Nat → Nat → Bool} {a b : Int} (h : newJ n adj a b = true) : ∃ x y : Nat, a = (x : Int) ∧ b = (y : Int) ∧ x < n ∧ y < n ∧ x ≠ y ∧ adj x y = false := by
  unfold newJ at h
  simp only [Bool.and_eq_true, decide_eq_true_eq, Bool.not_eq_true', decide_eq_false_iff_not] at h
  obtain ⟨⟨h1, h2⟩, ⟨h3, h4⟩, h5, h6⟩ := h
  exact ⟨a.toNat, b.toNat, by omega, by omega, by omega, by omega, by omega, h6⟩
theorem below_low {B C : Nat} {w w' : World} (h : Below B w w') (hB : C ≤ B) : Below C w w' := ⟨h.os, h.tape, h.output, h.size, fun k hk => h.block k (Nat.lt_of_lt_of_le hk hB)⟩
theorem own_low {w : World} {base b2 : Nat} {e : TypeId} {size n : Nat} {v : Value} {xs : List Value} (h : w.ownsRow base e size v n xs) (hb : b2 ≤ base) : w.ownsRow b2 e size v n xs :=
  ⟨h.1, h.2.imp id fun ⟨g, cap, cur, h1, h2, h3⟩ => ⟨g, cap, cur, h1, Nat.le_trans hb h2, h3⟩⟩
theorem joinB_new {nbs : List (List Int)} {n : Nat} {js : List (Int × Int)} (h : GrIs nbs n (adjOf n js)) (a b : Int) : joinB nbs a b = newJ n (adjOf n js) a b := by
  unfold joinB newJ
  have e : ∀ x : Int, isB nbs x = (decide (0 ≤ x) && decide (x < (n : Int))) := fun x => by unfold isB; rw [h.len]
  rw [e, e]
  by_cases h1 : 0 ≤ a ∧ a < (n : Int)
  · by_cases h2 : 0 ≤ b ∧ b < (n : Int)
    · obtain ⟨x, rfl⟩ := Int.eq_ofNat_of_zero_le h1.1
      obtain ⟨y, rfl⟩ := Int.eq_ofNat_of_zero_le h2.1
      have := h.has (fun a b h => ⟨(adjOf_lt h).1, (adjOf_lt h).2.1⟩) x y
      rw [this, Int.toNat_natCast, Int.toNat_natCast]
    · have : (decide (0 ≤ b) && decide (b < (n : Int))) = false := by
        rw [Bool.and_eq_false_iff, decide_eq_false_iff_not, decide_eq_false_iff_not]; omega
      rw [this, Bool.false_and, Bool.false_and]
  · have : (decide (0 ≤ a) && decide (a < (n : Int))) = false := by
      rw [Bool.and_eq_false_iff, decide_eq_false_iff_not, decide_eq_false_iff_not]; omega
    rw [this, Bool.false_and, Bool.false_and]
theorem gjoin_calls (base g gr : Nat) (vs : List Value) (nbs : List (List Int)) (n : Nat) (js : List (Int × Int)) (a b : Int) (w : World) (hG : GraphAt w base g gr vs nbs) (hI : GrIs nbs n (adjOf n js)) (hbase : base ≤ w.heap.size) (hn : n ≤ 400) (hb : b < 9223372036854775808) :
    Calls Try.prog 64 #[.pointer (some ⟨g, 0, none⟩), .int .i64 a, .int .i64 b] w fun e w' => ∃ ok vs' nbs', e = .returned (.bool ok) ∧ GraphAt w' base g gr vs' nbs' ∧ GrIs nbs' n (adjOf n (js ++ [(a, b)])) ∧ Below base w w' ∧ w.grownBy w' (some gr) := by
  rcases hj : newJ n (adjOf n js) a b
  · refine (join_no _ base nbs a b w (.inr (.inr ⟨g, gr, vs, rfl, hG⟩)) (fun l hl => (hI.okw l hl).1) hb (by rw [joinB_new hI, hj])).mono ?_
    rintro e w' ⟨rfl, hd⟩
    have hb1 := hd.below
    have e1 : adjOf n (js ++ [(a, b)]) = adjOf n js := funext fun x => funext fun y => adjOf_old hj x y
    refine ⟨false, vs, nbs, rfl, hG.below hb1, by rw [e1]; exact hI, below_low hb1 hbase, grown_of_below hb1 (some gr)⟩
  · obtain ⟨x, y, rfl, rfl, hx, hy, hxy, hadj⟩ := newJ_true hj
    have hh : hasB nbs (x : Int) (y : Int) = false := by rw [hI.has (fun a b h => ⟨(adjOf_lt h).1, (adjOf_lt h).2.1⟩), hadj]
    refine (join_yes base g gr vs nbs x y w hG hbase hI.okw (by rw [hI.len]; exact hx) (by rw [hI.len]; exact hy) hxy hh (by rw [hI.len]; omega)).mono ?_
    rintro e w' ⟨rfl, vs', ra, rb, hG', hra, hla, hrb, hlb, hbl, hgr⟩
    refine ⟨true, vs', _, rfl, hG', ?_, hbl, hgr⟩
    have hsa := hI.short x hx
    have hsb := hI.short y hy
    exact hI.join hn hx hy hxy hra hrb (by omega) (by omega) (adjOf_new hx hy hxy)
theorem node_f (n : Nat) (on : List Bool) (a : Int) : horariumref23_Node.f (n : Int) on a = some (decide (0 ≤ a) && decide (a < (n : Int))) := by
  unfold horariumref23_Node.f
  by_cases h : 0 ≤ a
  · rw [if_pos h, decide_eq_true h, Bool.true_and]
  · rw [if_neg h, decide_eq_false h, Bool.false_and]
theorem wrap_idx (a n b : Nat) (h : a * n + b < 1000000) : wrap64 (wrap64 ((a : Int) * (n : Int)) + (b : Int)) = ((a * n + b : Nat) : Int) := by
  rw [← Int.natCast_mul]
  generalize a * n = z at h
  unfold wrap64; omega
theorem has_f {n : Nat} {on : List Bool} {adj : Nat → Nat → Bool} (h : RefIs on n adj) (hn : n ≤ 400) {a b : Nat} (ha : a < n) (hb : b < n) : horariumref23_Has.f (n : Int) on (a : Int) (b : Int) = some (adj a b) := by
  have h2 := idx_lt ha hb
  have h3 : n * n ≤ 400 * 400 := Nat.mul_le_mul hn hn
  have e := wrap_idx a n b (by omega)
  have e1 : (decide (0 ≤ (a : Int)) && decide ((a : Int) < (n : Int))) = true := by
    rw [decide_eq_true (Int.natCast_nonneg a), decide_eq_true (Int.ofNat_lt.2 ha)]; rfl
  have e2 : (decide (0 ≤ (b : Int)) && decide ((b : Int) < (n : Int))) = true := by
    rw [decide_eq_true (Int.natCast_nonneg b), decide_eq_true (Int.ofNat_lt.2 hb)]; rfl
  have h4 := h.at_ a b ha hb
  have h5 := h.len
  unfold horariumref23_Has.f
  rw [node_f, node_f, e1, e2, e, Option.bind_some, if_pos rfl, Option.bind_some, if_pos rfl, if_pos (Int.natCast_nonneg _), if_pos (Int.ofNat_lt.2 (by rw [h5]; exact h2))]
  unfold rdOf
  rw [Int.toNat_natCast, h4]
theorem rjoin_calls (base : Nat) (n : Nat) (js : List (Int × Int)) (A : Option Addr) (c : Nat) (on : List Bool) (a b : Int) (w : World) (hr : w.ownsRow base 4 1 (.slice A on.length c) on.length (encs Value.bool on)) (hI : RefIs on n (adjOf n js)) (hbase : base ≤ w.heap.size) (hn : n ≤ 400) :
    Calls Try.prog 65 #[.agg #[.int .i64 n, .slice A on.length c], .int .i64 a, .int .i64 b] w fun e w' => ∃ ok v' on', e = .returned (.tuple #[.agg #[.int .i64 n, v'], .bool ok]) ∧ w'.ownsRow base 4 1 v' on'.length (encs Value.bool on') ∧ RefIs on' n (adjOf n (js ++ [(a, b)])) ∧ Below w.heap.size w w' := by
  have hC : Kd.C Kd.bool w A on.length on ∧ on.length ≤ c := by
    have h1 : Kd.bool.R 4 w base (fun _ => True) (.slice A on.length c) on := Kd.R_of_own hr (fun _ _ => trivial)
    obtain ⟨_, h2, h3⟩ := Kd.R_reads' h1
    exact ⟨h3, h2⟩
  rcases hj : newJ n (adjOf n js) a b
  · have e1 : adjOf n (js ++ [(a, b)]) = adjOf n js := funext fun x => funext fun y => adjOf_old hj x y
    by_cases hab : a = b
    · subst hab
      refine (rjoin_eq n A c on a w).mono ?_
      rintro e w' ⟨rfl, hb⟩
      exact ⟨false, _, on, rfl, own_move hr (fun k hk => hb.block k (own_lt hr k hk)), by rw [e1]; exact hI, hb⟩
    · have hno : ∃ th, ((decide (0 ≤ a) && decide (a < (n : Int))) = true → (decide (0 ≤ b) && decide (b < (n : Int))) = true → horariumref23_Has.f n on a b = some th) ∧ ((decide (0 ≤ a) && decide (a < (n : Int))) = false ∨ (decide (0 ≤ b) && decide (b < (n : Int))) = false ∨ th = true) := by
        rcases h1 : (decide (0 ≤ a) && decide (a < (n : Int)))
        · exact ⟨true, fun h => by simp at h, .inl rfl⟩
        · rcases h2 : (decide (0 ≤ b) && decide (b < (n : Int)))
          · exact ⟨true, fun _ h => by simp at h, .inr (.inl rfl)⟩
          · refine ⟨true, fun _ _ => ?_, .inr (.inr rfl)⟩
            simp only [Bool.and_eq_true, decide_eq_true_eq] at h1 h2
            obtain ⟨x, rfl⟩ := Int.eq_ofNat_of_zero_le h1.1
            obtain ⟨y, rfl⟩ := Int.eq_ofNat_of_zero_le h2.1
            rw [has_f hI hn (by omega) (by omega)]
            unfold newJ at hj
            simp [hab] at hj
            rw [hj (by omega) (by omega)]
      obtain ⟨th, hh, hno⟩ := hno
      refine (rjoin_no n A c on a b w hC.1 hC.2 _ _ th hab (node_f n on a) (node_f n on b) hh hno).mono ?_
      rintro e w' ⟨rfl, hb⟩
      exact ⟨false, _, on, rfl, own_move hr (fun k hk => hb.block k (own_lt hr k hk)), by rw [e1]; exact hI, hb⟩
  · obtain ⟨x, y, rfl, rfl, hx, hy, hxy, hadj⟩ := newJ_true hj
    have i1 := idx_lt hx hy
    have i2 := idx_lt hy hx
    have i3 : n * n ≤ 400 * 400 := Nat.mul_le_mul hn hn
    have hl := hI.len
    have m1 : x * n ≤ x * n + y := by omega
    have m2 : y * n ≤ y * n + x := by omega
    refine (rjoin_yes n A c on x y w hC.1 hC.2 (by omega) (by rw [node_f]; simp; omega) (by rw [node_f]; simp; omega) (by rw [has_f hI hn hx hy, hadj])
      ((x * n : Nat) : Int) ((x * n + y : Nat) : Int) ((y * n : Nat) : Int) ((y * n + x : Nat) : Int) ?_ ?_ ?_ ?_ ?_ ?_ (by omega)).mono ?_
    · rw [← Int.natCast_mul]; generalize x * n = z at *; unfold wrap64; omega
    · generalize x * n = z at *; unfold wrap64; omega
    · rw [← Int.natCast_mul]; generalize y * n = z at *; unfold wrap64; omega
    · generalize y * n = z at *; unfold wrap64; omega
    · omega
    · omega
    · rintro e w' ⟨v, rfl, ho, hb⟩
      rw [Int.toNat_natCast, Int.toNat_natCast] at ho
      refine ⟨true, v, _, rfl, ?_, hI.join hx hy (adjOf_new hx hy hxy), hb⟩
      have e : ((on.set (x * n + y) true).set (y * n + x) true).length = on.length := by simp
      rw [e]
      exact own_low ho hbase
end Go.Proofs.Ytbmnnmcnmfgbaaa.PG
end
section
/-
  The statements' graph: L23.Made (two graphs of the same joins).
-/
namespace Go.Proofs.Ytbmnnmcnmfgbaaa.PG
open Go.RowKit Go.Shelf Go.Proofs.YtbmnnmcnmfgbaaaW.PrintWords Go.Proofs.YtbmnnmcnmfgbaaaW.PrintLast Go.Proofs.YtbmnnmcnmfgbaaaW.PrintMore
open Go.Proofs.Ytbmnnmcnmfgbaaa.PB Go.Proofs.Ytbmnnmcnmfgbaaa.PC
set_option linter.unusedVariables false
set_option linter.unusedSimpArgs false

/-- What stands while the joins are put in: the graph's and the reference's. -/
structure MadeAt (w : World) (b1 b7 g gr n : Nat) (js1 js2 : List (Int × Int)) (vs : List Value) (nbs : List (List Int)) (v : Value) (on : List Bool) (wr : World) : Prop where
  graph : GraphAt wr (w.heap.size + 1) g gr vs nbs
  is : GrIs nbs n (adjOf n js1)
  box : wr.heap[b7]? = some (.cells #[.int .i64 n, v] 44 (0, 0))
  own : wr.ownsRow b1 4 1 v on.length (encs Value.bool on)
  ref : RefIs on n (adjOf n js2)
  res : wr.heap[w.heap.size]? = some (.cells #[.int .i64 0, .slice none 0 0] 44 (0, 0))
  below : Below w.heap.size w wr
  grlt : gr < b1
  blt : b1 ≤ b7
section
variable {w wr w2 : World} {b1 b7 g gr n : Nat} {js1 js2 js : List (Int × Int)} {vs vs' : List Value} {nbs nbs' : List (List Int)} {v : Value} {on : List Bool}
theorem MadeAt.step (h : MadeAt w b1 b7 g gr n js1 js2 vs nbs v on wr) (hb : Below wr.heap.size wr w2) : MadeAt w b1 b7 g gr n js1 js2 vs nbs v on w2 :=
  ⟨h.graph.below hb, h.is, (hb.block _ (lt_of_block h.box)).trans h.box, own_move h.own (fun k hk => hb.block k (own_lt h.own k hk)), h.ref, (hb.block _ (lt_of_block h.res)).trans h.res, below_then h.below h.below.size hb, h.grlt, h.blt⟩
theorem MadeAt.drew (h : MadeAt w b1 b7 g gr n js1 js2 vs nbs v on wr) : MadeAt w b1 b7 g gr n js1 js2 vs nbs v on wr.drew := h.step (below_drew (Below.refl _ _))
theorem MadeAt.size (h : MadeAt w b1 b7 g gr n js1 js2 vs nbs v on wr) : w.heap.size + 1 ≤ wr.heap.size := lt_of_block h.res
theorem MadeAt.joined (h : MadeAt w b1 b7 g gr n js1 js2 vs nbs v on wr) (hG : GraphAt w2 (w.heap.size + 1) g gr vs' nbs') (hI : GrIs nbs' n (adjOf n js)) (hb : Below (w.heap.size + 1) wr w2) (hg : wr.grownBy w2 (some gr)) : MadeAt w b1 b7 g gr n js js2 vs' nbs' v on w2 := by
  have h1 := h.graph.gr_base
  have h2 := h.grlt
  have h3 := h.blt
  refine ⟨hG, hI, (hg.block _ (lt_of_block h.box) (by simp; omega)).trans h.box, own_move h.own (fun k hk => hg.block k (own_lt h.own k hk) ?_), h.ref, (hb.block _ (by omega)).trans h.res, h.below.trans (below_low hb (by omega)), h2, h3⟩
  have := own_base h.own k hk
  simp; omega
theorem own_apart {w : World} {base : Nat} {e : TypeId} {size n : Nat} {u : Value} {xs : List Value} (h : w.ownsRow base e size u n xs) {b : Nat} {cs : Array Value} {t : TypeId} (hb : w.heap[b]? = some (.cells cs t (0, 0))) (hne : e ≠ t) (k : Nat) (hk : u.ownBlock = some k) : k ≠ b := fun hkb => by
  obtain ⟨cells, hc⟩ := own_typed h k hk
  rw [hkb, hb] at hc
  injection hc with hc
  injection hc with _ hc _
  exact hne hc.symm
theorem MadeAt.stored (h : MadeAt w b1 b7 g gr n js1 js2 vs nbs v on wr) {v' : Value} {on' : List Bool} (ho : w2.ownsRow b1 4 1 v' on'.length (encs Value.bool on')) (hr : RefIs on' n (adjOf n js)) (hb : Below wr.heap.size wr w2) :
    MadeAt w b1 b7 g gr n js1 js vs nbs v' on' ((w2.setCell ⟨b7, 0, none⟩ (.int .i64 n)).setCell ⟨b7, 1, none⟩ v') := by
  have h2 := h.step hb
  have hbox := h2.box
  have h1 := h2.graph.gr_base
  have h3 := h2.grlt
  have h4 := h2.blt
  have far : ∀ k, k ≠ b7 → ((w2.setCell ⟨b7, 0, none⟩ (.int .i64 n)).setCell ⟨b7, 1, none⟩ v').heap[k]? = w2.heap[k]? := fun k hk =>
    (Below.heap_setCell _ ⟨b7, 1, none⟩ _ k hk).trans (Below.heap_setCell _ ⟨b7, 0, none⟩ _ k hk)
  have hgne : g ≠ b7 := fun e => by have := h2.graph.head; rw [e, hbox] at this; injection this with this; injection this with _ this _; cases this
  have hrne : gr ≠ b7 := by omega
  refine ⟨⟨h2.graph.g_base, h2.graph.gr_base, h2.graph.len, (far g hgne).trans h2.graph.head, (far gr hrne).trans h2.graph.row, fun i hi => ?_⟩, h2.is, ?_, ?_, hr, (far _ (by omega)).trans h2.res, ?_, h3, h4⟩
  · exact own_move (h2.graph.own i hi) (fun k hk => far k (own_apart (h2.graph.own i hi) hbox (by decide) k hk))
  · rw [heap_set (heap_set hbox 0 _) 1 _]; rfl
  · exact own_move ho (fun k hk => far k (own_apart ho hbox (by decide) k hk))
  · exact below_store (below_store h2.below (by omega) 0 _) (by omega) 1 _
end
theorem take_snoc2 (js : List (Int × Int)) {k : Nat} (hk : k < js.length) {x y : Int} (hx : (js.getD k (0, 0)).1 = x) (hy : (js.getD k (0, 0)).2 = y) : js.take (k + 1) = js.take k ++ [(x, y)] := by
  rw [List.take_succ_eq_append_getElem hk]
  rw [List.getD_eq_getElem?_getD, List.getElem?_eq_getElem hk] at hx hy
  simp only [Option.getD_some] at hx hy
  rw [← hx, ← hy]
/-- The joins that come in. -/
def JoinsIn (w : World) (A : Option Addr) (js : List (Int × Int)) : Prop := ∀ i, i < js.length → ∃ ad, A = some ad ∧ w.cell? (ad.add (i * 2)) = some (.int .i64 (js.getD i (0, 0)).1) ∧ w.cell? ⟨(ad.add (i * 2)).block, (ad.add (i * 2)).off + 1, none⟩ = some (.int .i64 (js.getD i (0, 0)).2) ∧ (js.getD i (0, 0)).2 < 9223372036854775808
theorem rnew_f (n : Nat) (hn : n ≤ 40) : horariumref23_New.f (n : Int) = some ((n : Int), List.replicate (n * n) false) := by
  have h1 : n * n ≤ 40 * 40 := Nat.mul_le_mul hn hn
  have e : wrap64 ((n : Int) * (n : Int)) = ((n * n : Nat) : Int) := by
    rw [← Int.natCast_mul]; unfold wrap64; omega
  unfold horariumref23_New.f
  rw [e, if_pos (by omega), if_pos (by omega), Int.toNat_natCast]
set_option maxRecDepth 100000 in
set_option maxHeartbeats 1000000 in
theorem made_yes (n : Nat) (A : Option Addr) (cap : Nat) (js : List (Int × Int)) (w : World) (hn : n ≤ 40) (hk : js.length ≤ 800) (hj : JoinsIn w A js) :
    Calls Try.prog 33 #[.int .i64 n, .slice A js.length cap] w fun e w' => ∃ q v nbs on, e = .returned (.tuple #[.pointer (some ⟨q, 0, none⟩), .agg #[.int .i64 n, v]]) ∧ IsG w' w.heap.size (some ⟨q, 0, none⟩) nbs ∧ GrIs nbs n (adjOf n js) ∧ RefIs on n (adjOf n js) ∧ w'.ownsRow w.heap.size 4 1 v on.length (encs Value.bool on) ∧ Below w.heap.size w w' := by
  have hu44 := Try.underlying44
  have d0 : decide ((n : Int) < 0) = false := decide_eq_false (by omega)
  have d1 : decide ((n : Int) > 40) = false := decide_eq_false (by omega)
  have d2 : decide ((js.length : Int) > 800) = false := decide_eq_false (by omega)
  have HN := Aside0.mk (And.intro hn hk)
  have HJ := Aside0.mk hj
  clear hn hk hj
  go_enter Try.func33, Try.ntmps33
  go_wp2_with fail
  refine (new_yes n (by have := HN.out; omega) _).mono ?_
  rintro e w1 ⟨g, gr, rfl, hG, hb1⟩
  have HG := Aside0.mk hG
  have HB1 := Aside0.mk hb1
  clear hG hb1
  go_wp2_with fail
  refine (horariumref23_New.calls (n : Int) (n : Int) (List.replicate (n * n) false) _ (rnew_f n HN.out.1)).mono ?_
  rintro e w2 ⟨v2, rfl, hR2, hb2⟩
  obtain ⟨A2, c2, rfl⟩ := own_slice (Kd.own_of_R hR2)
  have HR2 := Aside0.mk hR2
  have HB2 := Aside0.mk hb2
  clear hR2 hb2
  have hlt1 : w.heap.size + 1 ≤ w1.heap.size := by have := HB1.out.size; rw [World.size_alloc] at this; exact this
  have HZ := Aside0.mk (World.alloc_heap_new w (Obj.cells #[Value.int .i64 0, Value.slice none 0 0] 44))
  have HM0 := Aside0.mk (below_alloc (w := w) (Below.refl w.heap.size w) (Obj.cells #[Value.int .i64 0, Value.slice none 0 0] 44))
  have HL2 := Aside0.mk HB2.out.size
  go_wp2
  go_loopg [8] js.length (fun m i wr => ∃ k, Aside0 (k + m = js.length) ∧ i = .int .i64 k ∧ Aside0 (∃ vs nbs v on, MadeAt w w1.heap.size w2.heap.size g gr n (js.take k) (js.take k) vs nbs v on wr))
  case atStart =>
    refine ⟨0, ⟨by omega⟩, rfl, ⟨List.replicate n (.slice none 0 0), List.replicate n [], .slice A2 (n * n) c2, List.replicate (n * n) false, ?_⟩⟩
    have hb3 : Below w2.heap.size w2 (w2.alloc (Obj.cells #[Value.int .i64 n, Value.slice A2 (n * n) c2] 44)) := below_alloc (Below.refl _ _) _
    have hb2 : Below w1.heap.size w1 (w2.alloc (Obj.cells #[Value.int .i64 n, Value.slice A2 (n * n) c2] 44)) := below_then HB2.out HL2.out hb3
    have e1 : (w.alloc (Obj.cells #[Value.int .i64 0, Value.slice none 0 0] 44)).heap.size = w.heap.size + 1 := World.size_alloc _ _
    have hG := HG.out
    have hB1 := HB1.out
    rw [e1] at hG hB1
    have ho := Kd.own_of_R HR2.out
    rw [List.length_replicate] at ho
    have hz1 : w1.heap[w.heap.size]? = some (.cells #[.int .i64 0, .slice none 0 0] 44 (0, 0)) := (hB1.block _ (by omega)).trans HZ.out
    rw [List.take_zero]
    refine ⟨hG.below hb2, GrIs.start n, World.alloc_heap_new _ _, ?_, RefIs.start n, (hb2.block _ (lt_of_block hz1)).trans hz1, below_then ((HM0.out).trans (below_low hB1 (by omega))) (by omega) hb2, lt_of_block hG.row, HL2.out⟩
    rw [List.length_replicate]
    exact own_move ho (fun q hq => hb3.block q (own_lt ho q hq))
  case round =>
    obtain ⟨k, HK, rfl, HC⟩ := hrel
    obtain ⟨vs, nbs, v, on, hM⟩ := HC.out
    have HM := Aside0.mk hM
    clear hM HC
    by_cases hlt : k < js.length
    · obtain ⟨ad, rfl, hc1, hc2, hj2⟩ := HJ.out k hlt
      have HJ2 := Aside0.mk hj2
      clear hj2
      obtain ⟨x1, hx1⟩ : ∃ x, (js.getD k (0, 0)).1 = x := ⟨_, rfl⟩
      obtain ⟨x2, hx2⟩ : ∃ x, (js.getD k (0, 0)).2 = x := ⟨_, rfl⟩
      rw [hx1] at hc1
      rw [hx2] at hc2 HJ2

      have HX := Aside0.mk (take_snoc2 js hlt hx1 hx2)
      have HQ1 := Aside0.mk hc1
      have HQ2 := Aside0.mk hc2
      clear hx1 hx2
      replace hc1 := pw_cell_below HM.out.below hc1
      replace hc2 := pw_cell_below HM.out.below hc2
      have hw1 := wrap_succ (n := js.length) (by have := HN.out; omega) hlt
      go_wp2
      refine start_ (n := 12) (S := (fun w' => w'.cell? (ad.add (k * 2)) = some (.int .i64 x1) ∧ w'.cell? ⟨(ad.add (k * 2)).block, (ad.add (k * 2)).off + 1, none⟩ = some (.int .i64 x2) ∧ Aside0 (MadeAt w w1.heap.size w2.heap.size g gr n (js.take k) (js.take k) vs nbs v on w'))) (ds := [11]) #[false, false, false, false, false, false, false, false, false, false, false, false] (by kernel_rfl) rfl rfl (⟨hc1, hc2, ⟨HM.out.drew⟩⟩) (fun hHeld => ?_)
      refine pure_ (i := 0) (N := some 31) (v := ?_) (a' := ?_) #[true, false, false, false, false, false, false, false, false, false, false, false] rfl rfl (by kernel_rfl) (fun _ _ _ h => h) (Or.inl ⟨by rfl, ?_⟩) ?_ ?_
      rotate_left
      · intro w'
        go_simp
        with_reducible rfl
      rotate_left
      · simp only [Act.put, List.setIfInBounds_toArray, List.set_cons_zero, List.set_cons_succ, i64_w, i32_w]
        rfl
      refine pure_ (i := 1) (N := some 32) (v := ?_) (a' := ?_) #[true, true, false, false, false, false, false, false, false, false, false, false] rfl rfl (by kernel_rfl) (fun _ _ _ h => h) (Or.inl ⟨by rfl, ?_⟩) ?_ ?_
      rotate_left
      · intro w'
        go_simp
        with_reducible rfl
      rotate_left
      · simp only [Act.put, List.setIfInBounds_toArray, List.set_cons_zero, List.set_cons_succ, i64_w, i32_w]
        rfl
      refine pure_ (i := 2) (N := some 33) (v := ?_) (a' := ?_) #[true, true, true, false, false, false, false, false, false, false, false, false] rfl rfl (by kernel_rfl) (fun _ _ _ h => h) (Or.inl ⟨by rfl, ?_⟩) ?_ ?_
      rotate_left
      · intro w'
        go_simp
        with_reducible rfl
      rotate_left
      · simp only [Act.put, List.setIfInBounds_toArray, List.set_cons_zero, List.set_cons_succ, i64_w, i32_w]
        rfl
      refine pure_ (i := 3) (N := some 34) (v := ?_) (a' := ?_) #[true, true, true, true, false, false, false, false, false, false, false, false] rfl rfl (by kernel_rfl) (fun _ _ _ h => h) (Or.inl ⟨by rfl, ?_⟩) ?_ ?_
      rotate_left
      · intro w'
        go_simp
        with_reducible rfl
      rotate_left
      · simp only [Act.put, List.setIfInBounds_toArray, List.set_cons_zero, List.set_cons_succ, i64_w, i32_w]
        rfl
      refine pure_ (i := 4) (N := some 35) (v := ?_) (a' := ?_) #[true, true, true, true, true, false, false, false, false, false, false, false] rfl rfl (by kernel_rfl) (fun _ _ _ h => h) (Or.inl ⟨by rfl, ?_⟩) ?_ ?_
      rotate_left
      · intro w'
        go_simp
        with_reducible rfl
      rotate_left
      · simp only [Act.put, List.setIfInBounds_toArray, List.set_cons_zero, List.set_cons_succ, i64_w, i32_w]
        rfl
      refine take_ (i := 5) (N := some 36) (v := ?_) (a' := ?_) #[true, true, true, true, true, true, false, false, false, false, false, false] rfl rfl (by kernel_rfl) (fun _ _ _ h => h) (Or.inl ⟨by rfl, ?_⟩) hHeld ?_ ?_
      rotate_left
      · rintro w' ⟨s0, s1, s2⟩
        go_simp
        with_reducible rfl
      rotate_left
      · simp only [Act.put, List.setIfInBounds_toArray, List.set_cons_zero, List.set_cons_succ, i64_w, i32_w]
        rfl
      refine pure_ (i := 6) (N := some 37) (v := ?_) (a' := ?_) #[true, true, true, true, true, true, true, false, false, false, false, false] rfl rfl (by kernel_rfl) (fun _ _ _ h => h) (Or.inl ⟨by rfl, ?_⟩) ?_ ?_
      rotate_left
      · intro w'
        go_simp
        with_reducible rfl
      rotate_left
      · simp only [Act.put, List.setIfInBounds_toArray, List.set_cons_zero, List.set_cons_succ, i64_w, i32_w]
        rfl
      refine pure_ (i := 7) (N := some 38) (v := ?_) (a' := ?_) #[true, true, true, true, true, true, true, true, false, false, false, false] rfl rfl (by kernel_rfl) (fun _ _ _ h => h) (Or.inl ⟨by rfl, ?_⟩) ?_ ?_
      rotate_left
      · intro w'
        go_simp
        with_reducible rfl
      rotate_left
      · simp only [Act.put, List.setIfInBounds_toArray, List.set_cons_zero, List.set_cons_succ, i64_w, i32_w]
        rfl
      refine pure_ (i := 8) (N := some 39) (v := ?_) (a' := ?_) #[true, true, true, true, true, true, true, true, true, false, false, false] rfl rfl (by kernel_rfl) (fun _ _ _ h => h) (Or.inl ⟨by rfl, ?_⟩) ?_ ?_
      rotate_left
      · intro w'
        go_simp
        with_reducible rfl
      rotate_left
      · simp only [Act.put, List.setIfInBounds_toArray, List.set_cons_zero, List.set_cons_succ, i64_w, i32_w]
        rfl
      refine pure_ (i := 9) (N := some 40) (v := ?_) (a' := ?_) #[true, true, true, true, true, true, true, true, true, true, false, false] rfl rfl (by kernel_rfl) (fun _ _ _ h => h) (Or.inl ⟨by rfl, ?_⟩) ?_ ?_
      rotate_left
      · intro w'
        go_simp
        with_reducible rfl
      rotate_left
      · simp only [Act.put, List.setIfInBounds_toArray, List.set_cons_zero, List.set_cons_succ, i64_w, i32_w]
        rfl
      refine take_ (i := 10) (N := some 41) (v := ?_) (a' := ?_) #[true, true, true, true, true, true, true, true, true, true, true, false] rfl rfl (by kernel_rfl) (fun _ _ _ h => h) (Or.inl ⟨by rfl, ?_⟩) hHeld ?_ ?_
      rotate_left
      · rintro w' ⟨s0, s1, s2⟩
        go_simp
        with_reducible rfl
      rotate_left
      · simp only [Act.put, List.setIfInBounds_toArray, List.set_cons_zero, List.set_cons_succ, i64_w, i32_w]
        rfl
      refine last_ (i := 11) (N := some 42) #[true, true, true, true, true, true, true, true, true, true, true, true] rfl rfl (by kernel_rfl) (by decide) (fun K hK => ?_)
      have HH := Aside0.mk hHeld
      refine goes_ Try.func64 (by kernel_rfl) rfl #[.pointer (some ⟨g, 0, none⟩), .int .i64 x1, .int .i64 x2] (by rfl) rfl rfl (by simp only [List.map_toArray, List.map_cons, List.map_nil]; rfl) ?_
      refine (gjoin_calls (w.heap.size + 1) g gr vs nbs n (js.take k) x1 x2 _ HH.out.2.2.out.graph HH.out.2.2.out.is HH.out.2.2.out.size (by have := HN.out; omega) HJ2.out).mono ?_
      rintro e w3 ⟨ok, vs', nbs', rfl, hG', hI', hb', hg'⟩
      refine ⟨_, rfl, ?_⟩
      refine hK.out _ _ ?_
      clear hK K
      refine done_ (by kernel_rfl) ?_
      have HM3 := Aside0.mk (HH.out.2.2.out.joined hG' hI' hb' hg')
      obtain ⟨A3, c3, rfl⟩ := own_slice HM3.out.own
      have d0 : w3.cell? ⟨w2.heap.size, 0, none⟩ = some (.int .i64 n) := (blk_cell HM3.out.box 0).trans rfl
      have d1 : w3.cell? ⟨w2.heap.size, 1, none⟩ = some (.slice A3 on.length c3) := (blk_cell HM3.out.box 1).trans rfl
      have HB1S : Aside0 (w1.heap.size ≤ w3.drew.heap.size) := ⟨by have := lt_of_block HM3.out.box; have := HM3.out.blt; show _ ≤ w3.heap.size; omega⟩
      clear hc1 hc2 hHeld
      have hc1 := pw_cell_below HM3.out.below HQ1.out
      have hc2 := pw_cell_below HM3.out.below HQ2.out
      go_wp2_with fail
      refine start_ (n := 16) (S := (fun w' => w'.cell? (ad.add (k * 2)) = some (.int .i64 x1) ∧ w'.cell? ⟨(ad.add (k * 2)).block, (ad.add (k * 2)).off + 1, none⟩ = some (.int .i64 x2) ∧ w'.cell? ⟨w2.heap.size, 0, none⟩ = some (.int .i64 n) ∧ w'.cell? ⟨w2.heap.size, 1, none⟩ = some (.slice A3 on.length c3) ∧ Aside0 (MadeAt w w1.heap.size w2.heap.size g gr n (js.take k ++ [(x1, x2)]) (js.take k) vs' nbs' (.slice A3 on.length c3) on w'))) (ds := [11, 15]) #[false, false, false, false, false, false, false, false, false, false, false, false, false, false, false, false] (by kernel_rfl) rfl rfl (⟨hc1, hc2, d0, d1, ⟨HM3.out.drew⟩⟩) (fun hHeld => ?_)
      refine take_ (i := 0) (N := some 44) (v := ?_) (a' := ?_) #[true, false, false, false, false, false, false, false, false, false, false, false, false, false, false, false] rfl rfl (by kernel_rfl) (fun _ _ _ h => h) (Or.inl ⟨by rfl, ?_⟩) hHeld ?_ ?_
      rotate_left
      · rintro w' ⟨s0, s1, s2, s3, s4⟩
        go_simp
        with_reducible rfl
      rotate_left
      · simp only [Act.put, List.setIfInBounds_toArray, List.set_cons_zero, List.set_cons_succ, i64_w, i32_w]
        rfl
      refine pure_ (i := 1) (N := some 45) (v := ?_) (a' := ?_) #[true, true, false, false, false, false, false, false, false, false, false, false, false, false, false, false] rfl rfl (by kernel_rfl) (fun _ _ _ h => h) (Or.inl ⟨by rfl, ?_⟩) ?_ ?_
      rotate_left
      · intro w'
        go_simp
        with_reducible rfl
      rotate_left
      · simp only [Act.put, List.setIfInBounds_toArray, List.set_cons_zero, List.set_cons_succ, i64_w, i32_w]
        rfl
      refine pure_ (i := 2) (N := some 46) (v := ?_) (a' := ?_) #[true, true, true, false, false, false, false, false, false, false, false, false, false, false, false, false] rfl rfl (by kernel_rfl) (fun _ _ _ h => h) (Or.inl ⟨by rfl, ?_⟩) ?_ ?_
      rotate_left
      · intro w'
        go_simp
        with_reducible rfl
      rotate_left
      · simp only [Act.put, List.setIfInBounds_toArray, List.set_cons_zero, List.set_cons_succ, i64_w, i32_w]
        rfl
      refine pure_ (i := 3) (N := some 47) (v := ?_) (a' := ?_) #[true, true, true, true, false, false, false, false, false, false, false, false, false, false, false, false] rfl rfl (by kernel_rfl) (fun _ _ _ h => h) (Or.inl ⟨by rfl, ?_⟩) ?_ ?_
      rotate_left
      · intro w'
        go_simp
        with_reducible rfl
      rotate_left
      · simp only [Act.put, List.setIfInBounds_toArray, List.set_cons_zero, List.set_cons_succ, i64_w, i32_w]
        rfl
      refine pure_ (i := 4) (N := some 48) (v := ?_) (a' := ?_) #[true, true, true, true, true, false, false, false, false, false, false, false, false, false, false, false] rfl rfl (by kernel_rfl) (fun _ _ _ h => h) (Or.inl ⟨by rfl, ?_⟩) ?_ ?_
      rotate_left
      · intro w'
        go_simp
        with_reducible rfl
      rotate_left
      · simp only [Act.put, List.setIfInBounds_toArray, List.set_cons_zero, List.set_cons_succ, i64_w, i32_w]
        rfl
      refine take_ (i := 5) (N := some 49) (v := ?_) (a' := ?_) #[true, true, true, true, true, true, false, false, false, false, false, false, false, false, false, false] rfl rfl (by kernel_rfl) (fun _ _ _ h => h) (Or.inl ⟨by rfl, ?_⟩) hHeld ?_ ?_
      rotate_left
      · rintro w' ⟨s0, s1, s2, s3, s4⟩
        go_simp
        with_reducible rfl
      rotate_left
      · simp only [Act.put, List.setIfInBounds_toArray, List.set_cons_zero, List.set_cons_succ, i64_w, i32_w]
        rfl
      refine pure_ (i := 6) (N := some 50) (v := ?_) (a' := ?_) #[true, true, true, true, true, true, true, false, false, false, false, false, false, false, false, false] rfl rfl (by kernel_rfl) (fun _ _ _ h => h) (Or.inl ⟨by rfl, ?_⟩) ?_ ?_
      rotate_left
      · intro w'
        go_simp
        with_reducible rfl
      rotate_left
      · simp only [Act.put, List.setIfInBounds_toArray, List.set_cons_zero, List.set_cons_succ, i64_w, i32_w]
        rfl
      refine pure_ (i := 7) (N := some 51) (v := ?_) (a' := ?_) #[true, true, true, true, true, true, true, true, false, false, false, false, false, false, false, false] rfl rfl (by kernel_rfl) (fun _ _ _ h => h) (Or.inl ⟨by rfl, ?_⟩) ?_ ?_
      rotate_left
      · intro w'
        go_simp
        with_reducible rfl
      rotate_left
      · simp only [Act.put, List.setIfInBounds_toArray, List.set_cons_zero, List.set_cons_succ, i64_w, i32_w]
        rfl
      refine pure_ (i := 8) (N := some 52) (v := ?_) (a' := ?_) #[true, true, true, true, true, true, true, true, true, false, false, false, false, false, false, false] rfl rfl (by kernel_rfl) (fun _ _ _ h => h) (Or.inl ⟨by rfl, ?_⟩) ?_ ?_
      rotate_left
      · intro w'
        go_simp
        with_reducible rfl
      rotate_left
      · simp only [Act.put, List.setIfInBounds_toArray, List.set_cons_zero, List.set_cons_succ, i64_w, i32_w]
        rfl
      refine pure_ (i := 9) (N := some 53) (v := ?_) (a' := ?_) #[true, true, true, true, true, true, true, true, true, true, false, false, false, false, false, false] rfl rfl (by kernel_rfl) (fun _ _ _ h => h) (Or.inl ⟨by rfl, ?_⟩) ?_ ?_
      rotate_left
      · intro w'
        go_simp
        with_reducible rfl
      rotate_left
      · simp only [Act.put, List.setIfInBounds_toArray, List.set_cons_zero, List.set_cons_succ, i64_w, i32_w]
        rfl
      refine take_ (i := 10) (N := some 54) (v := ?_) (a' := ?_) #[true, true, true, true, true, true, true, true, true, true, true, false, false, false, false, false] rfl rfl (by kernel_rfl) (fun _ _ _ h => h) (Or.inl ⟨by rfl, ?_⟩) hHeld ?_ ?_
      rotate_left
      · rintro w' ⟨s0, s1, s2, s3, s4⟩
        go_simp
        with_reducible rfl
      rotate_left
      · simp only [Act.put, List.setIfInBounds_toArray, List.set_cons_zero, List.set_cons_succ, i64_w, i32_w]
        rfl
      refine last_ (i := 11) (N := some 55) #[true, true, true, true, true, true, true, true, true, true, true, true, false, false, false, false] rfl rfl (by kernel_rfl) (by decide) (fun K hK => ?_)
      have HH := Aside0.mk hHeld
      refine goes_ Try.func65 (by kernel_rfl) rfl #[.agg #[.int .i64 n, .slice A3 on.length c3], .int .i64 x1, .int .i64 x2] (by rfl) rfl rfl (by simp only [List.map_toArray, List.map_cons, List.map_nil]; rfl) ?_
      refine (rjoin_calls w1.heap.size n (js.take k) A3 c3 on x1 x2 _ HH.out.2.2.2.2.out.own HH.out.2.2.2.2.out.ref HB1S.out (by have := HN.out; omega)).mono ?_
      rintro e w4 ⟨ok2, v', on', rfl, ho', hr', hb''⟩
      obtain ⟨A4, c4, rfl⟩ := own_slice ho'
      refine ⟨_, rfl, ?_⟩
      refine hK.out _ _ ?_
      clear hK K
      refine pure_ (i := 12) (N := some 43) (v := ?_) (a' := ?_) #[true, true, true, true, true, true, true, true, true, true, true, true, true, false, false, false] rfl rfl (by kernel_rfl) (fun _ _ _ h => h) (Or.inl ⟨by rfl, ?_⟩) ?_ ?_
      rotate_left
      · intro w'
        go_simp
        with_reducible rfl
      rotate_left
      · simp only [Act.put, List.setIfInBounds_toArray, List.set_cons_zero, List.set_cons_succ, i64_w, i32_w]
        rfl
      refine pure_ (i := 13) (N := some 56) (v := ?_) (a' := ?_) #[true, true, true, true, true, true, true, true, true, true, true, true, true, true, false, false] rfl rfl (by kernel_rfl) (fun _ _ _ h => h) (Or.inl ⟨by rfl, ?_⟩) ?_ ?_
      rotate_left
      · intro w'
        go_simp
        with_reducible rfl
      rotate_left
      · simp only [Act.put, List.setIfInBounds_toArray, List.set_cons_zero, List.set_cons_succ, i64_w, i32_w]
        rfl
      refine pure_ (i := 14) (N := some 57) (v := ?_) (a' := ?_) #[true, true, true, true, true, true, true, true, true, true, true, true, true, true, true, false] rfl rfl (by kernel_rfl) (fun _ _ _ h => h) (Or.inl ⟨by rfl, ?_⟩) ?_ ?_
      rotate_left
      · intro w'
        go_simp
        with_reducible rfl
      rotate_left
      · simp only [Act.put, List.setIfInBounds_toArray, List.set_cons_zero, List.set_cons_succ, i64_w, i32_w]
        rfl
      refine last_ (i := 15) (N := none) #[true, true, true, true, true, true, true, true, true, true, true, true, true, true, true, true] rfl rfl (by kernel_rfl) (by decide) (fun K hK => ?_)
      have hbx := (HH.out.2.2.2.2.out.step hb'').box
      have e0 := (blk_cell hbx 0).trans rfl
      have e1 := (blk_cell hbx 1).trans rfl
      have f0 := blk_frozen hbx 0
      have f1 := blk_frozen hbx 1
      go_simp
      refine hK.out _ _ ?_
      clear hK K
      refine done_ (by kernel_rfl) ?_
      have HM4 := Aside0.mk (HH.out.2.2.2.2.out.stored ho' hr' hb'')
      go_wp2
      go_roundg (gk - 1)
      case measure => exact pred_lt HK hlt
      case rel => exact ⟨k + 1, next_eq HK hlt, by first | rfl | go_num, ⟨vs', nbs', _, on', by rw [HX.out]; exact HM4.out⟩⟩
    · obtain rfl : k = js.length := by have := HK.out; omega
      rw [List.take_length] at HM
      clear HK hlt HJ
      obtain ⟨A3, c3, rfl⟩ := own_slice HM.out.own
      have d0 : wr.cell? ⟨w2.heap.size, 0, none⟩ = some (.int .i64 n) := (blk_cell HM.out.box 0).trans rfl
      have d1 : wr.cell? ⟨w2.heap.size, 1, none⟩ = some (.slice A3 on.length c3) := (blk_cell HM.out.box 1).trans rfl
      go_wp2_with fail
      refine start_ (n := 4) (S := (fun w' => w'.cell? ⟨w2.heap.size, 0, none⟩ = some (.int .i64 n) ∧ w'.cell? ⟨w2.heap.size, 1, none⟩ = some (.slice A3 on.length c3))) (ds := [3]) #[false, false, false, false] (by kernel_rfl) rfl rfl (⟨d0, d1⟩) (fun hHeld => ?_)
      refine pure_ (i := 0) (N := some 58) (v := ?_) (a' := ?_) #[true, false, false, false] rfl rfl (by kernel_rfl) (fun _ _ _ h => h) (Or.inl ⟨by rfl, ?_⟩) ?_ ?_
      rotate_left
      · intro w'
        go_simp
        with_reducible rfl
      rotate_left
      · simp only [Act.put, List.setIfInBounds_toArray, List.set_cons_zero, List.set_cons_succ, i64_w, i32_w]
        rfl
      refine take_ (i := 1) (N := some 59) (v := ?_) (a' := ?_) #[true, true, false, false] rfl rfl (by kernel_rfl) (fun _ _ _ h => h) (Or.inl ⟨by rfl, ?_⟩) hHeld ?_ ?_
      rotate_left
      · rintro w' ⟨s0, s1⟩
        go_simp
        with_reducible rfl
      rotate_left
      · simp only [Act.put, List.setIfInBounds_toArray, List.set_cons_zero, List.set_cons_succ, i64_w, i32_w]
        rfl
      refine pure_ (i := 2) (N := some 4) (v := ?_) (a' := ?_) #[true, true, true, false] rfl rfl (by kernel_rfl) (fun _ _ _ h => h) (Or.inl ⟨by rfl, ?_⟩) ?_ ?_
      rotate_left
      · intro w'
        go_simp
        with_reducible rfl
      rotate_left
      · simp only [Act.put, List.setIfInBounds_toArray, List.set_cons_zero, List.set_cons_succ, i64_w, i32_w]
        rfl
      refine last_ (i := 3) (N := none) #[true, true, true, true] rfl rfl (by kernel_rfl) (by decide) (fun K hK => ?_)
      have hrs := HM.out.res
      have e0 := (blk_cell hrs 0).trans rfl
      have e1 := (blk_cell hrs 1).trans rfl
      have f0 := blk_frozen hrs 0
      have f1 := blk_frozen hrs 1
      go_simp
      refine hK.out _ _ ?_
      clear hK K
      refine done_ (by kernel_rfl) ?_
      skip
      have HH := Aside0.mk HM.out.drew
      have hres := HH.out.res
      have far : ∀ q, q ≠ w.heap.size → ((wr.drew.setCell ⟨w.heap.size, 0, none⟩ (.int .i64 n)).setCell ⟨w.heap.size, 1, none⟩ (.slice A3 on.length c3)).heap[q]? = wr.drew.heap[q]? := fun q hq =>
        (Below.heap_setCell _ ⟨w.heap.size, 1, none⟩ _ q hq).trans (Below.heap_setCell _ ⟨w.heap.size, 0, none⟩ _ q hq)
      have FAR := Aside0.mk far
      have HRS : Aside0 (((wr.drew.setCell ⟨w.heap.size, 0, none⟩ (.int .i64 n)).setCell ⟨w.heap.size, 1, none⟩ (.slice A3 on.length c3)).heap[w.heap.size]? = some (.cells #[.int .i64 n, .slice A3 on.length c3] 44 (0, 0))) := ⟨by rw [heap_set (heap_set hres 0 _) 1 _]; rfl⟩
      clear far hres
      go_wp2
      (try simp only [Exit.inBlock, Exit.then])
      refine bodyPost_ret (results_tmp_row (ty := 44) rfl _ _ w.heap.size 44 #[Value.int .i64 n, .slice A3 on.length c3] (0, 0) _ rfl HRS.out Try.underlying44 rfl info44) rfl ?_
      have hG := HH.out.graph.move (fun q h1 _ => FAR.out q (by omega))
      refine ⟨_, _, nbs, on, rfl, .inr (.inr ⟨g, gr, vs, rfl, Nat.le_trans (Nat.le_succ _) hG.g_base, Nat.le_trans (Nat.le_succ _) hG.gr_base, hG.len, hG.head, hG.row, fun i hi => own_low (hG.own i hi) (Nat.le_succ _)⟩), HH.out.is, HH.out.ref, ?_, ?_⟩
      · have h1 := HH.out.grlt
        have h2 := HH.out.graph.gr_base
        refine own_low (own_move HH.out.own (fun q hq => FAR.out q ?_)) (by omega)
        have := own_base HH.out.own q hq
        omega
      · exact below_store (below_store HH.out.below (Nat.le_refl _) 0 _) (Nat.le_refl _) 1 _
end Go.Proofs.Ytbmnnmcnmfgbaaa.PG
end
section
/-
  The example of layer 26, plain.
-/
namespace Go.Proofs.Ytbmnnmcnmfgbaaa.PG
open Go.RowKit Go.Shelf Go.Proofs.YtbmnnmcnmfgbaaaW.PrintWords Go.Proofs.YtbmnnmcnmfgbaaaW.PrintLast Go.Proofs.YtbmnnmcnmfgbaaaW.PrintMore
open Go.Proofs.Ytbmnnmcnmfgbaaa.PB Go.Proofs.Ytbmnnmcnmfgbaaa.PC Go.Proofs.Ytbmnnmcnmfgbaaa.PK
set_option linter.unusedVariables false
set_option linter.unusedSimpArgs false
open Elems (sh)
def hjs : List (Int × Int) := [(0, 1), (1, 2), (0, 2), (2, 3)]
def hnbs : List (List Int) := [[6], [5], [11], [4]]
theorem tb_one (x : Int) (i : Nat) : tb [x] i = if i < 64 then x.toNat.testBit i else false := by
  unfold tb
  by_cases h : i < 64
  · rw [if_pos h, Nat.div_eq_of_lt h, Nat.mod_eq_of_lt h]; rfl
  · rw [if_neg h, rd_out _ _ (by simp; omega)]; simp
theorem hrow (x : Int) (hx : 0 ≤ x ∧ x < 16) (hnz : sh [x] = [x]) (a : Nat) (ha : a < 4) (h : ∀ i, i < 4 → x.toNat.testBit i = adjOf 4 hjs a i) : Nrm [x] (fun i => adjOf 4 hjs a i) := by
  refine ⟨fun y hy => by simp at hy; subst hy; omega, hnz, fun i => ?_⟩
  rw [tb_one]
  by_cases hi : i < 4
  · rw [if_pos (by omega)]; exact h i hi
  · have e : adjOf 4 hjs a i = false := by
      cases e : adjOf 4 hjs a i
      · rfl
      · exact absurd (adjOf_lt e).2.1 hi
    rw [e]
    split
    · refine Nat.testBit_lt_two_pow (Nat.lt_of_lt_of_le (m := 2 ^ 4) (by omega) (Nat.pow_le_pow_right (by decide) (by omega)))
    · rfl
theorem hnbs_is : GrIs hnbs 4 (adjOf 4 hjs) := by
  refine ⟨rfl, fun a ha => ?_, fun a ha => ?_⟩
  · match a, ha with
    | 0, _ => exact hrow 6 (by decide) (by decide) 0 (by decide) (by decide)
    | 1, _ => exact hrow 5 (by decide) (by decide) 1 (by decide) (by decide)
    | 2, _ => exact hrow 11 (by decide) (by decide) 2 (by decide) (by decide)
    | 3, _ => exact hrow 4 (by decide) (by decide) 3 (by decide) (by decide)
  · match a, ha with
    | 0, _ => decide
    | 1, _ => decide
    | 2, _ => decide
    | 3, _ => decide
theorem GrIs.unique {nbs nbs' : List (List Int)} {n : Nat} {adj : Nat → Nat → Bool} (h : GrIs nbs n adj) (h' : GrIs nbs' n adj) : nbs = nbs' := by
  refine List.ext_getElem (by rw [h.len, h'.len]) (fun i h1 h2 => ?_)
  have e := (h.row i (by rw [← h.len]; exact h1)).unique (h'.row i (by rw [← h.len]; exact h1)) (fun _ => rfl)
  rw [List.getD_eq_getElem?_getD, List.getD_eq_getElem?_getD, List.getElem?_eq_getElem h1, List.getElem?_eq_getElem h2] at e
  exact e
theorem hGok : Gok hnbs := hnbs_is.gok (by decide) (fun a b h => ⟨(adjOf_lt h).1, (adjOf_lt h).2.1⟩)
theorem hGsym : Gsym hnbs := hnbs_is.gsym (adjOf_symm 4 hjs)
theorem h_is1 : clique_Is.f 20 hnbs [3, 2] = some true := by decide +kernel
theorem h_is2 : clique_Is.f 20 hnbs [3, 0] = some false := by decide +kernel
theorem h_col : clique_Colours.f [4, -1, 4] = some 1 := by decide +kernel
theorem h_great : clique_Greatest.f hnbs = some [0, 1, 2] := by decide +kernel
theorem h_shell : graph_Graph_Shell.f hnbs = some [3, 0, 1, 2] := by
  unfold graph_Graph_Shell.f
  rw [if_pos ⟨hGok, hGsym⟩]
  decide +kernel
theorem h_bounds : clique_Bounds.f 20 hnbs = some (3, 3) := by
  unfold clique_Bounds.f
  rw [h_shell]
  have e1 : slices_Reverse_int_int.f 20 [3, 0, 1, 2] = some [2, 1, 0, 3] := by decide +kernel
  have e2 : clique_Grow.f hnbs [2, 1, 0, 3] = some [2, 1, 0] := by decide +kernel
  have e3 : clique_Colour.f hnbs [2, 1, 0, 3] = some [2, 1, 0, 1] := by
    unfold clique_Colour.f
    rw [if_pos ⟨hGok, by decide⟩]
    decide +kernel
  have e4 : clique_Colours.f [2, 1, 0, 1] = some 3 := by decide +kernel
  simp only [Option.bind_some, e1, e2, e3, e4]
  rfl
end Go.Proofs.Ytbmnnmcnmfgbaaa.PG
end
section
/-
  The example of layer 26: heads.
-/
namespace Go.Proofs.Ytbmnnmcnmfgbaaa.PG
open Go.RowKit Go.Shelf Go.Proofs.YtbmnnmcnmfgbaaaW.PrintWords Go.Proofs.YtbmnnmcnmfgbaaaW.PrintLast Go.Proofs.YtbmnnmcnmfgbaaaW.PrintMore
open Go.Proofs.Ytbmnnmcnmfgbaaa.PB Go.Proofs.Ytbmnnmcnmfgbaaa.PC Go.Proofs.Ytbmnnmcnmfgbaaa.PK
set_option linter.unusedVariables false
set_option linter.unusedSimpArgs false
theorem own_lit (w : World) (xs : List Int) (h : xs.length ≤ 1000) : (w.alloc (.cells (nums .i64 xs).toArray 3)).ownsRow w.heap.size 3 1 (.slice (some ⟨w.heap.size, 0, none⟩) xs.length xs.length) xs.length (nums .i64 xs) :=
  ⟨by simp [nums], .inr ⟨w.heap.size, xs.length, _, rfl, Nat.le_refl _, World.alloc_heap_new _ _, Nat.le_refl _, by unfold maxLen; omega, by simp [nums], by rw [Nat.mul_one]; exact List.take_of_length_le (by simp [nums])⟩⟩
theorem C_own {w : World} {base : Nat} {A : Option Addr} {c : Nat} {xs : List Int} (h : w.ownsRow base 3 1 (.slice A xs.length c) xs.length (nums .i64 xs)) : Kd.C (Kd.int .i64) w A xs.length xs ∧ xs.length ≤ c := by
  have h1 : Kd.R (Kd.int .i64) 3 w base (fun _ => True) (.slice A xs.length c) xs := Kd.R_of_own h (fun _ _ => trivial)
  obtain ⟨_, h2, h3⟩ := Kd.R_reads' h1
  exact ⟨h3, h2⟩
theorem C_lit (w : World) (xs : List Int) (h : xs.length ≤ 1000) : Kd.C (Kd.int .i64) (w.alloc (.cells (nums .i64 xs).toArray 3)) (some ⟨w.heap.size, 0, none⟩) xs.length xs := (C_own (own_lit w xs h)).1
theorem hjoins (w : World) : JoinsIn (w.alloc (Obj.cells #[Value.int IntKind.i64 0, Value.int IntKind.i64 1, Value.int IntKind.i64 1, Value.int IntKind.i64 2, Value.int IntKind.i64 0, Value.int IntKind.i64 2, Value.int IntKind.i64 2, Value.int IntKind.i64 3] 78)) (some ⟨w.heap.size, 0, none⟩) hjs := fun i hi => by
  have hh := World.alloc_heap_new w (Obj.cells #[Value.int IntKind.i64 0, Value.int IntKind.i64 1, Value.int IntKind.i64 1, Value.int IntKind.i64 2, Value.int IntKind.i64 0, Value.int IntKind.i64 2, Value.int IntKind.i64 2, Value.int IntKind.i64 3] 78)
  refine ⟨_, rfl, ?_⟩
  match i, hi with
  | 0, _ => exact ⟨(blk_cell hh 0).trans rfl, (blk_cell hh 1).trans rfl, by decide⟩
  | 1, _ => exact ⟨(blk_cell hh 2).trans rfl, (blk_cell hh 3).trans rfl, by decide⟩
  | 2, _ => exact ⟨(blk_cell hh 4).trans rfl, (blk_cell hh 5).trans rfl, by decide⟩
  | 3, _ => exact ⟨(blk_cell hh 6).trans rfl, (blk_cell hh 7).trans rfl, by decide⟩
theorem h_ints : horariumref03_Ints.f 5 [0, 1, 2] [0, 1, 2] = some true := by decide +kernel
set_option maxRecDepth 100000 in
set_option maxHeartbeats 1000000 in
theorem heads_calls (w : World) : Calls Try.prog 34 #[] w fun e w' => e = .returned (.bool true) ∧ Below w.heap.size w w' := by
  have hu44 := Try.underlying44
  have HJ := Aside0.mk (hjoins w)
  have HW0 := Aside0.mk (below_alloc (w := w) (Below.refl w.heap.size w) (Obj.cells #[Value.int IntKind.i64 0, Value.int IntKind.i64 1, Value.int IntKind.i64 1, Value.int IntKind.i64 2, Value.int IntKind.i64 0, Value.int IntKind.i64 2, Value.int IntKind.i64 2, Value.int IntKind.i64 3] 78))
  go_enter Try.func34, Try.ntmps34
  go_wp2_with fail
  refine (made_yes 4 (some ⟨w.heap.size, 0, none⟩) 4 hjs _ (by decide) (by decide) HJ.out).mono ?_
  rintro e w1 ⟨p, v, nbs, on, rfl, hG, hI, hRf, ho, hb⟩
  obtain ⟨A1, c1, rfl⟩ := own_slice ho
  have HI : Aside0 (nbs = hnbs) := ⟨hI.unique hnbs_is⟩
  have HW1 := Aside0.mk (below_then HW0.out HW0.out.size hb)
  have HG : Aside0 (IsGr w1 (some ⟨p, 0, none⟩) hnbs) := ⟨⟨_, by rw [← HI.out]; exact hG, hnbs_is.okw⟩⟩
  clear hG hI hRf ho hb HW0 HJ
  go_wp2_with fail
  refine (clique_Bounds.calls 20 _ hnbs.length hnbs 3 3 _ (HG.out.alloc _) (Nat.le_refl _) h_bounds).mono ?_
  rintro e w2 ⟨rfl, hb⟩
  have HW2 := Aside0.mk (below_then (below_alloc HW1.out _) (below_alloc HW1.out _).size hb)
  have HG2 := Aside0.mk ((HG.out.alloc _).below hb)
  clear hb
  go_wp2_with fail
  refine (clique_Greatest.calls _ hnbs.length hnbs _ _ HG2.out (Nat.le_refl _) h_great).mono ?_
  rintro e w3 ⟨v3, rfl, hR, hb⟩
  obtain ⟨A3, c3, rfl⟩ := own_slice (Kd.own_of_R hR)
  have HR := Aside0.mk (Kd.R_reads' hR)
  have HW3 := Aside0.mk (below_then HW2.out HW2.out.size hb)
  have HG3 := Aside0.mk (HG2.out.below hb)
  clear hb hR
  go_wp2_with fail
  refine (horariumref03_Ints.calls 5 A3 c3 [0, 1, 2] _ _ [0, 1, 2] true _ (Kd.C_below HR.out.2.2 (below_alloc (Below.refl _ _) _)) HR.out.2.1 (C_lit w3 [0, 1, 2] (by decide)) (Nat.le_refl _) h_ints).mono ?_
  rintro e w4 ⟨rfl, hd⟩
  have HW4 := Aside0.mk (below_then (below_alloc HW3.out _) (below_alloc HW3.out _).size hd.below)
  have HG4 := Aside0.mk ((HG3.out.alloc _).below hd.below)
  clear hd
  go_wp2_with fail
  refine (clique_Is.calls 20 _ hnbs.length hnbs _ _ [3, 2] true _ (HG4.out.alloc _) (Nat.le_refl _) (C_lit w4 [3, 2] (by decide)) (Nat.le_refl _) h_is1).mono ?_
  rintro e w5 ⟨rfl, hd⟩
  have HW5 := Aside0.mk (below_then (below_alloc HW4.out _) (below_alloc HW4.out _).size hd.below)
  have HG5 := Aside0.mk ((HG4.out.alloc _).below hd.below)
  clear hd
  go_wp2_with fail
  refine (clique_Is.calls 20 _ hnbs.length hnbs _ _ [3, 0] false _ (HG5.out.alloc _) (Nat.le_refl _) (C_lit w5 [3, 0] (by decide)) (Nat.le_refl _) h_is2).mono ?_
  rintro e w6 ⟨rfl, hd⟩
  have HW6 := Aside0.mk (below_then (below_alloc HW5.out _) (below_alloc HW5.out _).size hd.below)
  clear hd
  go_wp2_with fail
  refine (clique_Colours.calls _ _ [4, -1, 4] 1 _ (C_lit w6 [4, -1, 4] (by decide)) (Nat.le_refl _) h_col).mono ?_
  rintro e w7 ⟨rfl, hb⟩
  have HW7 := Aside0.mk (below_then (below_alloc HW6.out _) (below_alloc HW6.out _).size hb)
  clear hb
  go_wp2
  go_ret
  exact ⟨rfl, HW7.out⟩
end Go.Proofs.Ytbmnnmcnmfgbaaa.PG
end
section
/-
  What growing and colouring along an order give: a maximal clique, right colours; no fewer colours than a clique has nodes.
-/
namespace Go.Proofs.Ytbmnnmcnmfgbaaa.PG
open Go.RowKit Go.Shelf Go.Proofs.YtbmnnmcnmfgbaaaW.PrintWords Go.Proofs.YtbmnnmcnmfgbaaaW.PrintLast Go.Proofs.YtbmnnmcnmfgbaaaW.PrintMore
open Go.Proofs.Ytbmnnmcnmfgbaaa.PB Go.Proofs.Ytbmnnmcnmfgbaaa.PC Go.Proofs.Ytbmnnmcnmfgbaaa.PK
set_option linter.unusedVariables false
set_option linter.unusedSimpArgs false
/-- The rows are a plain graph's. -/
structure Grf (nbs : List (List Int)) (n : Nat) (adj : Nat → Nat → Bool) : Prop where
  is : GrIs nbs n adj
  le : n ≤ 400
  sym : ∀ a b, adj a b = adj b a
  lt : ∀ a b, adj a b = true → a < n ∧ b < n ∧ a ≠ b
theorem Grf.of {nbs : List (List Int)} {n : Nat} {js : List (Int × Int)} (h : GrIs nbs n (adjOf n js)) (hn : n ≤ 40) : Grf nbs n (adjOf n js) := ⟨h, by omega, adjOf_symm n js, fun _ _ h => adjOf_lt h⟩
section
variable {nbs : List (List Int)} {n : Nat} {adj : Nat → Nat → Bool}
theorem Grf.gok (h : Grf nbs n adj) : Gok nbs := h.is.gok h.le (fun a b e => ⟨(h.lt a b e).1, (h.lt a b e).2.1⟩)
theorem Grf.gsym (h : Grf nbs n adj) : Gsym nbs := h.is.gsym h.sym
theorem Grf.has_nat (h : Grf nbs n adj) (a b : Nat) : hasB nbs (a : Int) (b : Int) = adj a b := h.is.has (fun a b e => ⟨(h.lt a b e).1, (h.lt a b e).2.1⟩) a b
theorem Grf.has (h : Grf nbs n adj) {x y : Int} (e : hasB nbs x y = true) : ∃ a b : Nat, x = a ∧ y = b ∧ adj a b = true := by
  have e' := e
  unfold hasB at e
  rw [Bool.and_eq_true, Bool.and_eq_true, decide_eq_true_eq] at e
  obtain ⟨a, rfl, ha⟩ := isB_cases e.1
  obtain ⟨b, rfl⟩ := Int.eq_ofNat_of_zero_le e.2.1
  exact ⟨a, b, rfl, rfl, by rw [← h.has_nat]; exact e'⟩
theorem Grf.has_symm (h : Grf nbs n adj) {x y : Int} (e : hasB nbs x y = true) : hasB nbs y x = true := by
  obtain ⟨a, b, rfl, rfl, e2⟩ := h.has e
  rw [h.has_nat, h.sym]; exact e2
theorem Grf.has_ne (h : Grf nbs n adj) {x y : Int} (e : hasB nbs x y = true) : x ≠ y := by
  obtain ⟨a, b, rfl, rfl, e2⟩ := h.has e
  have := (h.lt a b e2).2.2
  omega
theorem isB_iff (h : Grf nbs n adj) (x : Int) : isB nbs x = true ↔ 0 ≤ x ∧ x < (n : Int) := by
  unfold isB; rw [h.is.len]; simp
theorem near_has {a b : Int} : b ∈ nearL nbs a ↔ hasB nbs a b = true := by
  rw [mem_near]; unfold hasB; simp
end
/-! ### cliques -/
/-! ### colours -/
/-- No two that are joined have one colour. -/
def Right (nbs : List (List Int)) (c : List Int) : Prop := ∀ a b : Int, hasB nbs a b = true → 0 ≤ rd c a → rd c b ≠ rd c a
theorem right_rightL {nbs : List (List Int)} {c : List Int} (hc : c.length = nbs.length) (h1 : ∀ x ∈ c, -1 ≤ x) (h : Right nbs c) : rightL nbs c = true := by
  unfold rightL
  rw [decide_eq_true hc, Bool.true_and, List.all_eq_true]
  intro a ha
  rw [List.mem_range'_1] at ha
  rw [Bool.and_eq_true, List.all_eq_true]
  constructor
  · have := h1 _ (rd_mem c a (by omega))
    simp; omega
  · intro b hb
    by_cases h0 : 0 ≤ rd c (a : Int)
    · have := h _ _ (near_has.1 hb) h0
      simp [this]
    · simp [h0]
theorem rightL_right {nbs : List (List Int)} {n : Nat} {adj : Nat → Nat → Bool} (hg : Grf nbs n adj) {c : List Int} (h : rightL nbs c = true) : c.length = n ∧ (∀ x ∈ c, -1 ≤ x) ∧ Right nbs c := by
  unfold rightL at h
  rw [Bool.and_eq_true, decide_eq_true_eq, List.all_eq_true] at h
  obtain ⟨hc, h⟩ := h
  have hn := hg.is.len
  refine ⟨by omega, fun x hx => ?_, fun a b hab h0 heq => ?_⟩
  · obtain ⟨i, hi, rfl⟩ := List.mem_iff_getElem.1 hx
    have := h i (by rw [List.mem_range'_1]; omega)
    rw [Bool.and_eq_true] at this
    have e : rd c (i : Int) = c[i] := by simp [rd, hi]
    have := this.1
    rw [e] at this; simp at this; omega
  · obtain ⟨a', b', rfl, rfl, hadj⟩ := hg.has hab
    have h1 := hg.lt _ _ hadj
    have h2 := h a' (by rw [List.mem_range'_1]; omega)
    rw [Bool.and_eq_true, List.all_eq_true] at h2
    have h3 := h2.2 _ (near_has.2 hab)
    simp [h0, heq] at h3
/-! ### a clique needs as many colours as it has nodes -/
end Go.Proofs.Ytbmnnmcnmfgbaaa.PG
end
section
/-
  What the document's Is, Grow and Colour give: the same as the program's.
-/
namespace Go.Proofs.Ytbmnnmcnmfgbaaa.PG
open Go.RowKit Go.Shelf Go.Proofs.YtbmnnmcnmfgbaaaW.PrintWords Go.Proofs.YtbmnnmcnmfgbaaaW.PrintLast Go.Proofs.YtbmnnmcnmfgbaaaW.PrintMore
open Go.Proofs.Ytbmnnmcnmfgbaaa.PB Go.Proofs.Ytbmnnmcnmfgbaaa.PC Go.Proofs.Ytbmnnmcnmfgbaaa.PK
set_option linter.unusedVariables false
set_option linter.unusedSimpArgs false
section
variable {nbs : List (List Int)} {n : Nat} {adj : Nat → Nat → Bool} {on : List Bool}
theorem node_is (hg : Grf nbs n adj) (on : List Bool) (x : Int) : horariumref23_Node.f (n : Int) on x = some (isB nbs x) := by
  rw [node_f]; unfold isB; rw [hg.is.len]
theorem has_is (hg : Grf nbs n adj) (hr : RefIs on n adj) {x y : Int} (hx : isB nbs x = true) (hy : isB nbs y = true) : horariumref23_Has.f (n : Int) on x y = some (hasB nbs x y) := by
  obtain ⟨a, rfl, ha⟩ := isB_cases hx
  obtain ⟨b, rfl, hb⟩ := isB_cases hy
  have hl := hg.is.len
  rw [has_f hr hg.le (by omega) (by omega), hg.has_nat]
theorem refis_l1 (hg : Grf nbs n adj) (hr : RefIs on n adj) (l : List Int) (hl : l.length < 4611686018427387904) (i : Nat) (hi : i < l.length) (hB : ∀ j, j ≤ i → isB nbs (rd l (j : Int)) = true) (R : Bool)
    (h0 : Ev (fun k => horariumref26_Is.l0 k l ((i + 1 : Nat) : Int) (n : Int) on) R) : ∀ d j, j + d = i → Ev (fun k => horariumref26_Is.l1 k l (i : Int) (j : Int) (n : Int) on) (((List.range' j d).all fun j => hasB nbs (rd l (i : Int)) (rd l (j : Int))) && R)
  | 0, j, hj => by
    have e : ((List.range' j 0).all (fun j => hasB nbs (rd l (i : Int)) (rd l (j : Int))) && R) = R := by simp
    rw [e]
    refine Ev.step (fun k => ?_) h0
    simp only [horariumref26_Is.l1]
    rw [if_neg (by omega), wrap_nat i l.length hi hl]
  | d + 1, j, hj => by
    have ih := refis_l1 hg hr l hl i hi hB R h0 d (j + 1) (by omega)
    rw [List.range'_succ, List.all_cons]
    have hh := has_is hg hr (hB i (Nat.le_refl _)) (hB j (by omega))
    cases c : hasB nbs (rd l (i : Int)) (rd l (j : Int)) with
    | true =>
      rw [Bool.true_and]
      refine Ev.step (fun k => ?_) ih
      simp only [horariumref26_Is.l1]
      rw [if_pos (by omega), if_pos (by omega), if_pos (by omega), if_pos (by omega), if_pos (by omega), hh, c, Option.bind_some, if_pos rfl, wrap_nat j l.length (by omega) hl]
    | false =>
      rw [Bool.false_and, Bool.false_and]
      refine Ev.step (f := fun _ => some false) (fun k => ?_) (Ev.now _)
      simp only [horariumref26_Is.l1]
      rw [if_pos (by omega), if_pos (by omega), if_pos (by omega), if_pos (by omega), if_pos (by omega), hh, c, Option.bind_some, if_neg (by simp)]
theorem refis_l0 (hg : Grf nbs n adj) (hr : RefIs on n adj) (l : List Int) (hl : l.length < 4611686018427387904) : ∀ m i, i + m = l.length → (∀ j, j < i → isB nbs (rd l (j : Int)) = true) →
    Ev (fun k => horariumref26_Is.l0 k l (i : Int) (n : Int) on) ((List.range' i m).all fun i => isB nbs (rd l (i : Int)) && (List.range' 0 i).all fun j => hasB nbs (rd l (i : Int)) (rd l (j : Int)))
  | 0, i, hi, _ => by
    refine Ev.step (f := fun _ => some true) (fun k => ?_) (Ev.now _)
    simp only [horariumref26_Is.l0]
    rw [if_neg (by omega)]
  | m + 1, i, hi, hB => by
    rw [List.range'_succ, List.all_cons]
    cases c : isB nbs (rd l (i : Int)) with
    | false =>
      rw [Bool.false_and, Bool.false_and]
      refine Ev.step (f := fun _ => some false) (fun k => ?_) (Ev.now _)
      simp only [horariumref26_Is.l0]
      rw [if_pos (by omega), if_pos (by omega), node_is hg, c, Option.bind_some, if_neg (by simp)]
    | true =>
      rw [Bool.true_and]
      have hB' : ∀ j, j ≤ i → isB nbs (rd l (j : Int)) = true := fun j hj => by
        by_cases e : j = i
        · subst e; exact c
        · exact hB j (by omega)
      have ih := refis_l0 hg hr l hl m (i + 1) (by omega) (fun j hj => hB' j (by omega))
      refine Ev.step (fun k => ?_) (refis_l1 hg hr l hl i (by omega) hB' _ ih i 0 (by omega))
      simp only [horariumref26_Is.l0]
      rw [if_pos (by omega), if_pos (by omega), node_is hg, c, Option.bind_some, if_pos rfl]
      rfl
theorem refis_ev (hg : Grf nbs n adj) (hr : RefIs on n adj) (l : List Int) (hl : l.length < 4611686018427387904) : Ev (fun k => horariumref26_Is.f k (n : Int) on l) (isL nbs l) :=
  refis_l0 hg hr l hl l.length 0 (by omega) (fun j hj => by omega)
/-! ### colours -/
end
end Go.Proofs.Ytbmnnmcnmfgbaaa.PG
end
section
/-
  What the document's Right gives: the same as the program's.
-/
namespace Go.Proofs.Ytbmnnmcnmfgbaaa.PG
open Go.RowKit Go.Shelf Go.Proofs.YtbmnnmcnmfgbaaaW.PrintWords Go.Proofs.YtbmnnmcnmfgbaaaW.PrintLast Go.Proofs.YtbmnnmcnmfgbaaaW.PrintMore
open Go.Proofs.Ytbmnnmcnmfgbaaa.PB Go.Proofs.Ytbmnnmcnmfgbaaa.PC Go.Proofs.Ytbmnnmcnmfgbaaa.PK Go.Proofs.Ytbmnnmcnmfgbaaa.PD
set_option linter.unusedVariables false
set_option linter.unusedSimpArgs false
section
variable {nbs : List (List Int)} {n : Nat} {adj : Nat → Nat → Bool} {on : List Bool}
/-- Nothing is wrong between two nodes. -/
def fineC (nbs : List (List Int)) (c : List Int) (a b : Nat) : Bool := !(hasB nbs (a : Int) (b : Int) && (decide (rd c (a : Int) = rd c (b : Int)) && !decide (rd c (a : Int) = -1)))
theorem refright_l1 (hg : Grf nbs n adj) (hr : RefIs on n adj) (c : List Int) (hc : c.length = n) (a : Nat) (ha : a < n) (R : Bool) (h0 : Ev (fun k => horariumref26_Right.l0 k c ((a + 1 : Nat) : Int) (n : Int) on) R) :
    ∀ d b, b + d = a → Ev (fun k => horariumref26_Right.l1 k c (a : Int) (b : Int) (n : Int) on) (((List.range' b d).all fun b => fineC nbs c a b) && R)
  | 0, b, hb => by
    have hle := hg.le
    have e : ((List.range' b 0).all (fun b => fineC nbs c a b) && R) = R := by simp
    rw [e]
    refine Ev.step (fun k => ?_) h0
    simp only [horariumref26_Right.l1]
    rw [if_neg (by omega), wrap_nat a n ha (by omega)]
  | d + 1, b, hb => by
    have hle := hg.le
    have ih := refright_l1 hg hr c hc a ha R h0 d (b + 1) (by omega)
    rw [List.range'_succ, List.all_cons]
    have hh := has_is hg hr (x := (a : Int)) (y := (b : Int)) (by rw [isB_iff hg]; omega) (by rw [isB_iff hg]; omega)
    have hw := wrap_nat b n (by omega) (by omega)
    cases e1 : hasB nbs (a : Int) (b : Int) with
    | false =>
      have e : fineC nbs c a b = true := by unfold fineC; rw [e1]; rfl
      rw [e, Bool.true_and]
      refine Ev.step (fun k => ?_) ih
      simp only [horariumref26_Right.l1]
      rw [if_pos (by omega), hh, e1, Option.bind_some, if_neg (by simp), hw]
    | true =>
      by_cases e2 : rd c (a : Int) = rd c (b : Int)
      · by_cases e3 : rd c (a : Int) = -1
        · have e : fineC nbs c a b = true := by unfold fineC; simp [e3]
          rw [e, Bool.true_and]
          refine Ev.step (fun k => ?_) ih
          simp only [horariumref26_Right.l1]
          rw [if_pos (by omega), hh, e1, Option.bind_some, if_pos rfl, if_pos (by omega), if_pos (by omega), if_pos (by omega), if_pos (by omega), if_pos e2, if_pos e3, hw]
        · have e : fineC nbs c a b = false := by unfold fineC; rw [e1]; simp [e2]; omega
          rw [e, Bool.false_and, Bool.false_and]
          refine Ev.step (f := fun _ => some false) (fun k => ?_) (Ev.now _)
          simp only [horariumref26_Right.l1]
          rw [if_pos (by omega), hh, e1, Option.bind_some, if_pos rfl, if_pos (by omega), if_pos (by omega), if_pos (by omega), if_pos (by omega), if_pos e2, if_neg e3]
      · have e : fineC nbs c a b = true := by unfold fineC; simp [e2]
        rw [e, Bool.true_and]
        refine Ev.step (fun k => ?_) ih
        simp only [horariumref26_Right.l1]
        rw [if_pos (by omega), hh, e1, Option.bind_some, if_pos rfl, if_pos (by omega), if_pos (by omega), if_pos (by omega), if_pos (by omega), if_neg e2, hw]
theorem refright_l0 (hg : Grf nbs n adj) (hr : RefIs on n adj) (c : List Int) (hc : c.length = n) : ∀ m a, a + m = n →
    Ev (fun k => horariumref26_Right.l0 k c (a : Int) (n : Int) on) ((List.range' a m).all fun a => !decide (rd c (a : Int) < -1) && (List.range' 0 a).all fun b => fineC nbs c a b)
  | 0, a, ha => by
    refine Ev.step (f := fun _ => some true) (fun k => ?_) (Ev.now _)
    simp only [horariumref26_Right.l0]
    rw [if_neg (by omega)]
  | m + 1, a, ha => by
    have ih := refright_l0 hg hr c hc m (a + 1) (by omega)
    rw [List.range'_succ, List.all_cons]
    by_cases c0 : rd c (a : Int) < -1
    · rw [decide_eq_true c0, Bool.not_true, Bool.false_and, Bool.false_and]
      refine Ev.step (f := fun _ => some false) (fun k => ?_) (Ev.now _)
      simp only [horariumref26_Right.l0]
      rw [if_pos (by omega), if_pos (by omega), if_pos (by omega), if_pos c0]
    · rw [decide_eq_false c0, Bool.not_false, Bool.true_and]
      refine Ev.step (fun k => ?_) (refright_l1 hg hr c hc a (by omega) _ ih a 0 (by omega))
      simp only [horariumref26_Right.l0]
      rw [if_pos (by omega), if_pos (by omega), if_pos (by omega), if_neg c0]
      rfl
theorem fine_right (hg : Grf nbs n adj) (c : List Int) (hc : c.length = n) : ((List.range' 0 n).all fun a => !decide (rd c (a : Int) < -1) && (List.range' 0 a).all fun b => fineC nbs c a b) = rightL nbs c := by
  rw [Bool.eq_iff_iff]
  have hnl := hg.is.len
  constructor
  · intro h
    rw [List.all_eq_true] at h
    have h1 : ∀ a : Nat, a < n → -1 ≤ rd c (a : Int) ∧ ∀ b : Nat, b < a → fineC nbs c a b = true := fun a ha => by
      have := h a (by rw [List.mem_range'_1]; omega)
      rw [Bool.and_eq_true, List.all_eq_true] at this
      refine ⟨by have := this.1; simp at this; omega, fun b hb => this.2 b (by rw [List.mem_range'_1]; omega)⟩
    refine right_rightL (by omega) (fun x hx => ?_) (fun x y hxy h0 heq => ?_)
    · obtain ⟨i, hi, rfl⟩ := List.mem_iff_getElem.1 hx
      have := (h1 i (by omega)).1
      have e : rd c (i : Int) = c[i] := by simp [rd, hi]
      rw [← e]; exact this
    · have hne := hg.has_ne hxy
      obtain ⟨a, b, rfl, rfl, hadj⟩ := hg.has hxy
      have hl := hg.lt _ _ hadj
      by_cases hba : b < a
      · have := (h1 a hl.1).2 b hba
        unfold fineC at this
        rw [hxy] at this
        simp [heq] at this
        omega
      · have := (h1 b hl.2.1).2 a (by omega)
        unfold fineC at this
        rw [hg.has_symm hxy] at this
        simp [heq] at this
        omega
  · intro h
    obtain ⟨_, h2, h3⟩ := rightL_right hg h
    rw [List.all_eq_true]
    intro a ha
    rw [List.mem_range'_1] at ha
    rw [Bool.and_eq_true, List.all_eq_true]
    have ha2 := h2 _ (rd_mem c a (by omega))
    refine ⟨by simp; omega, fun b hb => ?_⟩
    rw [List.mem_range'_1] at hb
    unfold fineC
    cases e1 : hasB nbs (a : Int) (b : Int)
    · rfl
    · by_cases e3 : rd c (a : Int) = -1
      · simp [e3]
      · have := h3 _ _ e1 (by omega)
        have e2 : ¬ rd c (a : Int) = rd c (b : Int) := fun e => this e.symm
        simp [e2]
theorem refright_ev (hg : Grf nbs n adj) (hr : RefIs on n adj) (c : List Int) (hcl : c.length ≤ 1000) : Ev (fun k => horariumref26_Right.f k (n : Int) on c) (rightL nbs c) := by
  by_cases hc : c.length = n
  · rw [← fine_right hg c hc]
    refine Ev.congr (fun k => ?_) (refright_l0 hg hr c hc n 0 (by omega))
    unfold horariumref26_Right.f
    rw [if_pos (by omega)]
    rfl
  · have e : rightL nbs c = false := by unfold rightL; rw [decide_eq_false (by rw [hg.is.len]; exact hc)]; rfl
    rw [e]
    refine Ev.congr (fun k => ?_) (Ev.now _)
    unfold horariumref26_Right.f
    rw [if_neg (by omega)]
end
end Go.Proofs.Ytbmnnmcnmfgbaaa.PG
end
section
/-
  The box that holds the document's graph, while the law's calls run.
-/
namespace Go.Proofs.Ytbmnnmcnmfgbaaa.PG
open Go.RowKit Go.Shelf Go.Proofs.YtbmnnmcnmfgbaaaW.PrintWords Go.Proofs.YtbmnnmcnmfgbaaaW.PrintLast Go.Proofs.YtbmnnmcnmfgbaaaW.PrintMore
open Go.Proofs.Ytbmnnmcnmfgbaaa.PB Go.Proofs.Ytbmnnmcnmfgbaaa.PC
set_option linter.unusedVariables false
def BX (w3 : World) (bx n : Nat) (A : Option Addr) (l c : Nat) (w' : World) : Prop := w'.cell? ⟨bx, 0, none⟩ = some (.int .i64 n) ∧ w'.cell? ⟨bx, 1, none⟩ = some (.slice A l c) ∧ Aside0 (Below w3.heap.size w3 w')
theorem BX.start {w3 : World} {bx n : Nat} {A : Option Addr} {l c : Nat} (h0 : w3.cell? ⟨bx, 0, none⟩ = some (.int .i64 n)) (h1 : w3.cell? ⟨bx, 1, none⟩ = some (.slice A l c)) : BX w3 bx n A l c w3.drew := ⟨h0, h1, ⟨below_drew (Below.refl _ _)⟩⟩
theorem BX.step {w3 w1 w2 : World} {bx n : Nat} {A : Option Addr} {l c : Nat} (h : BX w3 bx n A l c w1) (hb : Below w1.heap.size w1 w2) : BX w3 bx n A l c w2 :=
  ⟨pw_cell_below hb h.1, pw_cell_below hb h.2.1, ⟨below_then h.2.2.out h.2.2.out.size hb⟩⟩
theorem C_ownB {w : World} {base : Nat} {A : Option Addr} {c : Nat} {on : List Bool} (h : w.ownsRow base 4 1 (.slice A on.length c) on.length (encs Value.bool on)) : Kd.C Kd.bool w A on.length on ∧ on.length ≤ c := by
  have h1 : Kd.bool.R 4 w base (fun _ => True) (.slice A on.length c) on := Kd.R_of_own h (fun _ _ => trivial)
  obtain ⟨_, h2, h3⟩ := Kd.R_reads' h1
  exact ⟨h3, h2⟩
end Go.Proofs.Ytbmnnmcnmfgbaaa.PG
end
section
/-
  The law CliqueTells: its walk.
-/
namespace Go.Proofs.Ytbmnnmcnmfgbaaa.PG
open Go.RowKit Go.Shelf Go.Proofs.YtbmnnmcnmfgbaaaW.PrintWords Go.Proofs.YtbmnnmcnmfgbaaaW.PrintLast Go.Proofs.YtbmnnmcnmfgbaaaW.PrintMore
open Go.Proofs.Ytbmnnmcnmfgbaaa.PB Go.Proofs.Ytbmnnmcnmfgbaaa.PC Go.Proofs.Ytbmnnmcnmfgbaaa.PK Go.Proofs.Ytbmnnmcnmfgbaaa.PD
set_option linter.unusedVariables false
set_option linter.unusedSimpArgs false
def i64t (l : List Int) : Prop := ∀ x ∈ l, -9223372036854775808 ≤ x ∧ x < 9223372036854775808
theorem tells_facts {nbs : List (List Int)} {n : Nat} {adj : Nat → Nat → Bool} {on : List Bool} (hg : Grf nbs n adj) (hr : RefIs on n adj) (l c : List Int) (hl : l.length ≤ 100) (hc : c.length ≤ 100) (hl6 : i64t l) (hc6 : i64t c) :
    ∃ (b1 b2 : Bool) (m k1 k2 k3 k4 : Nat), clique_Is.f k1 nbs l = some b1 ∧ horariumref26_Is.f k2 (n : Int) on l = some b1 ∧ clique_Right.f k3 nbs c = some b2 ∧ horariumref26_Right.f k4 (n : Int) on c = some b2 ∧ clique_Colours.f c = some (m : Int) ∧ horariumref26_Colours.f c = some (m : Int) := by
  obtain ⟨k1, h1⟩ := is_f nbs l (fun x hx => (hl6 x hx).2) (by omega)
  obtain ⟨k2, h2⟩ := (refis_ev hg hr l (by omega)).rounds
  obtain ⟨k3, h3⟩ := right_f nbs hg.gok c
  obtain ⟨k4, h4⟩ := (refright_ev hg hr c (by omega)).rounds
  have hi : i64b c = true := by
    unfold i64b
    rw [List.all_eq_true]
    intro x hx
    have := hc6 x hx
    simp; omega
  refine ⟨_, _, nCol c, k1, k2, k3, k4, h1, h2, h3, h4, ?_, ?_⟩
  · unfold clique_Colours.f; rw [if_pos hi]
  · unfold horariumref26_Colours.f; rw [if_pos ⟨hi, by omega⟩]
set_option maxRecDepth 100000 in
set_option maxHeartbeats 1000000 in
theorem tells_no (n : Int) (A1 : Option Addr) (len1 cap1 : Nat) (A2 : Option Addr) (len2 cap2 : Nat) (A3 : Option Addr) (len3 cap3 : Nat) (w : World) (h : okMade n len1 = false) :
    Calls Try.prog 13 #[.int .i64 n, .slice A1 len1 cap1, .slice A2 len2 cap2, .slice A3 len3 cap3] w fun e w' => e = .returned (.bool true) ∧ Below w.heap.size w w' := by
  have hu44 := Try.underlying44
  have HH := Aside0.mk h
  clear h
  go_enter Try.func13, Try.ntmps13
  go_wp2_with fail
  refine (made_no n A1 len1 cap1 w HH.out).mono ?_
  rintro e w1 ⟨rfl, hb⟩
  have HB1 := Aside0.mk hb
  clear hb
  go_wp2_with fail
  refine (heads_calls _).mono ?_
  rintro e w2 ⟨rfl, hb⟩
  have HB2 := Aside0.mk (below_then (below_alloc HB1.out _) (below_alloc HB1.out _).size hb)
  clear hb
  go_wp2
  go_ret
  exact ⟨rfl, HB2.out⟩
set_option maxRecDepth 100000 in
set_option maxHeartbeats 4000000 in
theorem tells_yes (n : Nat) (A1 : Option Addr) (cap1 : Nat) (js : List (Int × Int)) (A2 : Option Addr) (c2 : Nat) (l : List Int) (A3 : Option Addr) (c3 : Nat) (c : List Int) (w : World) (hm : n ≤ 40) (hk : js.length ≤ 800) (hj : JoinsIn w A1 js)
    (hr2 : Kd.C (Kd.int .i64) w A2 l.length l) (hc2 : l.length ≤ c2) (hr3 : Kd.C (Kd.int .i64) w A3 c.length c) (hc3 : c.length ≤ c3) (hl : i64t l) (hc : i64t c) :
    Calls Try.prog 13 #[.int .i64 n, .slice A1 js.length cap1, .slice A2 l.length c2, .slice A3 c.length c3] w fun e w' => e = .returned (.bool true) ∧ Below w.heap.size w w' := by
  have hu44 := Try.underlying44
  have HM := Aside0.mk hm
  have HK := Aside0.mk hk
  have HJ := Aside0.mk hj
  have HR2 := Aside0.mk hr2
  have HR3 := Aside0.mk hr3
  have HC2 := Aside0.mk hc2
  have HC3 := Aside0.mk hc3
  have HLl := Aside0.mk hl
  have HLc := Aside0.mk hc
  clear hm hk hj hr2 hr3 hc2 hc3 hl hc
  go_enter Try.func13, Try.ntmps13
  go_wp2_with fail
  refine (made_yes n A1 cap1 js w HM.out HK.out HJ.out).mono ?_
  rintro e w1 ⟨g, v, nbs, on, rfl, hG, hI, hRf, ho, hb⟩
  obtain ⟨Ao, co, rfl⟩ := own_slice ho
  have HGF := Aside0.mk (Grf.of hI HM.out)
  have HG : Aside0 (IsGr w1 (some ⟨g, 0, none⟩) nbs) := ⟨⟨_, hG, hI.okw⟩⟩
  have HB1 := Aside0.mk hb
  have HRF := Aside0.mk hRf
  have HO1 := Aside0.mk (C_ownB ho)
  clear hG hI hRf ho hb HJ
  have HB2 := Aside0.mk (below_alloc HB1.out (Obj.cells #[Value.int .i64 n, Value.slice Ao on.length co] 44))
  have HG2 := Aside0.mk (HG.out.alloc (Obj.cells #[Value.int .i64 n, Value.slice Ao on.length co] 44))
  by_cases hlong : l.length > 100 ∨ c.length > 100
  · rcases Classical.em (l.length > 100) with h1 | h1
    · have hd : decide ((l.length : Int) > 100) = true := decide_eq_true (by omega)
      clear hlong
      go_wp2_with fail
      refine (heads_calls _).mono ?_
      rintro e w2 ⟨rfl, hb⟩
      have HB3 := Aside0.mk (below_then HB2.out HB2.out.size hb)
      clear hb
      go_wp2
      go_ret
      exact ⟨rfl, HB3.out⟩
    · have hd1 : decide ((l.length : Int) > 100) = false := decide_eq_false (by omega)
      have hd2 : decide ((c.length : Int) > 100) = true := decide_eq_true (by omega)
      clear hlong
      go_wp2_with fail
      refine (heads_calls _).mono ?_
      rintro e w2 ⟨rfl, hb⟩
      have HB3 := Aside0.mk (below_then HB2.out HB2.out.size hb)
      clear hb
      go_wp2
      go_ret
      exact ⟨rfl, HB3.out⟩
  have hll : l.length ≤ 100 := by omega
  have hcl : c.length ≤ 100 := by omega
  obtain ⟨b1, b2, m, k1, k2, k3, k4, f1, f2, f3, f4, f5, f6⟩ := tells_facts HGF.out HRF.out l c hll hcl HLl.out HLc.out
  have F1 := Aside0.mk f1
  have F2 := Aside0.mk f2
  have F3 := Aside0.mk f3
  have F4 := Aside0.mk f4
  have F5 := Aside0.mk f5
  have F6 := Aside0.mk f6
  have HBX := Aside0.mk (World.alloc_heap_new w1 (Obj.cells #[Value.int .i64 n, Value.slice Ao on.length co] 44))
  have HO2 := Aside0.mk (Kd.C_below HO1.out.1 (below_alloc (w := w1) (Below.refl w1.heap.size w1) (Obj.cells #[Value.int .i64 n, Value.slice Ao on.length co] 44)))
  clear f1 f2 f3 f4 f5 f6 hlong
  go_wp2_with fail
  obtain ⟨w3, hw3⟩ : ∃ w3, w1.alloc (Obj.cells #[Value.int .i64 n, Value.slice Ao on.length co] 44) = w3 := ⟨_, rfl⟩
  obtain ⟨bx, hbx⟩ : ∃ bx, w1.heap.size = bx := ⟨_, rfl⟩
  rw [hw3] at HB2 HG2 HBX HO2 ⊢
  simp only [hbx] at HBX ⊢
  clear hw3 hbx HG HB1
  have c0 : w3.cell? ⟨bx, 0, none⟩ = some (.int .i64 n) := (blk_cell HBX.out 0).trans rfl
  have c1 : w3.cell? ⟨bx, 1, none⟩ = some (.slice Ao on.length co) := (blk_cell HBX.out 1).trans rfl
  have HCO := Aside0.mk HO1.out.2
  have HRO : ∀ {u : World}, Below w3.heap.size w3 u → Kd.C (Kd.int .i64) u A2 l.length l := fun hb => Kd.C_below HR2.out (below_then HB2.out HB2.out.size hb)
  have HRC : ∀ {u : World}, Below w3.heap.size w3 u → Kd.C (Kd.int .i64) u A3 c.length c := fun hb => Kd.C_below HR3.out (below_then HB2.out HB2.out.size hb)
  have HON : ∀ {u : World}, Below w3.heap.size w3 u → Kd.C Kd.bool u Ao on.length on := fun hb => Kd.C_below HO2.out hb
  refine start_ (n := 27) (S := (BX w3 bx n Ao on.length co)) (ds := []) #[false, false, false, false, false, false, false, false, false, false, false, false, false, false, false, false, false, false, false, false, false, false, false, false, false, false, false] (by kernel_rfl) rfl rfl (BX.start c0 c1) (fun hHeld => ?_)
  refine pure_ (i := 0) (N := some 30) (v := ?_) (a' := ?_) #[true, false, false, false, false, false, false, false, false, false, false, false, false, false, false, false, false, false, false, false, false, false, false, false, false, false, false] rfl rfl (by kernel_rfl) (fun _ _ _ h => h) (Or.inl ⟨by rfl, ?_⟩) ?_ ?_
  rotate_left
  · intro w'
    go_simp
    with_reducible rfl
  rotate_left
  · simp only [Act.put, List.setIfInBounds_toArray, List.set_cons_zero, List.set_cons_succ, i64_w, i32_w]
    rfl
  refine pure_ (i := 1) (N := some 31) (v := ?_) (a' := ?_) #[true, true, false, false, false, false, false, false, false, false, false, false, false, false, false, false, false, false, false, false, false, false, false, false, false, false, false] rfl rfl (by kernel_rfl) (fun _ _ _ h => h) (Or.inl ⟨by rfl, ?_⟩) ?_ ?_
  rotate_left
  · intro w'
    go_simp
    with_reducible rfl
  rotate_left
  · simp only [Act.put, List.setIfInBounds_toArray, List.set_cons_zero, List.set_cons_succ, i64_w, i32_w]
    rfl
  refine take_ (i := 3) (N := some 33) (v := ?_) (a' := ?_) #[true, true, false, true, false, false, false, false, false, false, false, false, false, false, false, false, false, false, false, false, false, false, false, false, false, false, false] rfl rfl (by kernel_rfl) (fun _ _ _ h => h) (Or.inl ⟨by rfl, ?_⟩) hHeld ?_ ?_
  rotate_left
  · rintro w' ⟨s0, s1, s2⟩
    go_simp
    with_reducible rfl
  rotate_left
  · simp only [Act.put, List.setIfInBounds_toArray, List.set_cons_zero, List.set_cons_succ, i64_w, i32_w]
    rfl
  refine pure_ (i := 4) (N := some 34) (v := ?_) (a' := ?_) #[true, true, false, true, true, false, false, false, false, false, false, false, false, false, false, false, false, false, false, false, false, false, false, false, false, false, false] rfl rfl (by kernel_rfl) (fun _ _ _ h => h) (Or.inl ⟨by rfl, ?_⟩) ?_ ?_
  rotate_left
  · intro w'
    go_simp
    with_reducible rfl
  rotate_left
  · simp only [Act.put, List.setIfInBounds_toArray, List.set_cons_zero, List.set_cons_succ, i64_w, i32_w]
    rfl
  refine one_ (i := 2) (N := some 32) #[true, true, true, true, true, false, false, false, false, false, false, false, false, false, false, false, false, false, false, false, false, false, false, false, false, false, false] rfl rfl (by kernel_rfl) (by decide) (fun K hK => ?_)
  have HH := Aside0.mk hHeld
  refine goes_ Try.func37 (by kernel_rfl) rfl #[.pointer (some ⟨g, 0, none⟩), .slice A2 l.length c2] (by rfl) rfl rfl (by simp only [List.map_toArray, List.map_cons, List.map_nil]; rfl) ?_
  refine (clique_Is.calls k1 _ nbs.length nbs A2 c2 l _ _ (HG2.out.below HH.out.2.2.out) (Nat.le_refl _) (HRO HH.out.2.2.out) HC2.out F1.out).mono ?_
  rintro e wa ⟨rfl, hda⟩
  refine ⟨_, rfl, ?_⟩
  refine hK.out _ _ (hHeld.step hda.below) (fun hHeld => ?_)
  clear hK K
  refine norm_ (a' := ?_) ?_ ?_
  rotate_left
  · show Act.put _ (some 32) _ = _
    simp only [Act.put, List.setIfInBounds_toArray, List.set_cons_zero, List.set_cons_succ, i64_w, i32_w]
    rfl
  refine one_ (i := 5) (N := some 35) #[true, true, true, true, true, true, false, false, false, false, false, false, false, false, false, false, false, false, false, false, false, false, false, false, false, false, false] rfl rfl (by kernel_rfl) (by decide) (fun K hK => ?_)
  have HH := Aside0.mk hHeld
  refine goes_ Try.func53 (by kernel_rfl) rfl #[.agg #[.int .i64 n, .slice Ao on.length co], .slice A2 l.length c2] (by rfl) rfl rfl (by simp only [List.map_toArray, List.map_cons, List.map_nil]; rfl) ?_
  refine (horariumref26_Is.calls k2 n Ao co on A2 c2 l _ _ (HON HH.out.2.2.out) HCO.out (HRO HH.out.2.2.out) HC2.out F2.out).mono ?_
  rintro e wb ⟨rfl, hbb⟩
  refine ⟨_, rfl, ?_⟩
  refine hK.out _ _ (hHeld.step hbb) (fun hHeld => ?_)
  clear hK K
  refine norm_ (a' := ?_) ?_ ?_
  rotate_left
  · show Act.put _ (some 35) _ = _
    simp only [Act.put, List.setIfInBounds_toArray, List.set_cons_zero, List.set_cons_succ, i64_w, i32_w]
    rfl
  refine pure_ (i := 6) (N := some 36) (v := ?_) (a' := ?_) #[true, true, true, true, true, true, true, false, false, false, false, false, false, false, false, false, false, false, false, false, false, false, false, false, false, false, false] rfl rfl (by kernel_rfl) (fun _ _ _ h => h) (Or.inl ⟨by rfl, ?_⟩) ?_ ?_
  rotate_left
  · intro w'
    go_simp
    with_reducible rfl
  rotate_left
  · simp only [Act.put, List.setIfInBounds_toArray, List.set_cons_zero, List.set_cons_succ, i64_w, i32_w]
    rfl
  refine pure_ (i := 7) (N := some 37) (v := ?_) (a' := ?_) #[true, true, true, true, true, true, true, true, false, false, false, false, false, false, false, false, false, false, false, false, false, false, false, false, false, false, false] rfl rfl (by kernel_rfl) (fun _ _ _ h => h) (Or.inl ⟨by rfl, ?_⟩) ?_ ?_
  rotate_left
  · intro w'
    go_simp
    with_reducible rfl
  rotate_left
  · simp only [Act.put, List.setIfInBounds_toArray, List.set_cons_zero, List.set_cons_succ, i64_w, i32_w]
    rfl
  refine pure_ (i := 8) (N := some 38) (v := ?_) (a' := ?_) #[true, true, true, true, true, true, true, true, true, false, false, false, false, false, false, false, false, false, false, false, false, false, false, false, false, false, false] rfl rfl (by kernel_rfl) (fun _ _ _ h => h) (Or.inl ⟨by rfl, ?_⟩) ?_ ?_
  rotate_left
  · intro w'
    go_simp
    with_reducible rfl
  rotate_left
  · simp only [Act.put, List.setIfInBounds_toArray, List.set_cons_zero, List.set_cons_succ, i64_w, i32_w]
    rfl
  refine pure_ (i := 9) (N := some 39) (v := ?_) (a' := ?_) #[true, true, true, true, true, true, true, true, true, true, false, false, false, false, false, false, false, false, false, false, false, false, false, false, false, false, false] rfl rfl (by kernel_rfl) (fun _ _ _ h => h) (Or.inl ⟨by rfl, ?_⟩) ?_ ?_
  rotate_left
  · intro w'
    go_simp
    with_reducible rfl
  rotate_left
  · simp only [Act.put, List.setIfInBounds_toArray, List.set_cons_zero, List.set_cons_succ, i64_w, i32_w]
    rfl
  refine take_ (i := 11) (N := some 41) (v := ?_) (a' := ?_) #[true, true, true, true, true, true, true, true, true, true, false, true, false, false, false, false, false, false, false, false, false, false, false, false, false, false, false] rfl rfl (by kernel_rfl) (fun _ _ _ h => h) (Or.inl ⟨by rfl, ?_⟩) hHeld ?_ ?_
  rotate_left
  · rintro w' ⟨s0, s1, s2⟩
    go_simp
    with_reducible rfl
  rotate_left
  · simp only [Act.put, List.setIfInBounds_toArray, List.set_cons_zero, List.set_cons_succ, i64_w, i32_w]
    rfl
  refine pure_ (i := 12) (N := some 42) (v := ?_) (a' := ?_) #[true, true, true, true, true, true, true, true, true, true, false, true, true, false, false, false, false, false, false, false, false, false, false, false, false, false, false] rfl rfl (by kernel_rfl) (fun _ _ _ h => h) (Or.inl ⟨by rfl, ?_⟩) ?_ ?_
  rotate_left
  · intro w'
    go_simp
    with_reducible rfl
  rotate_left
  · simp only [Act.put, List.setIfInBounds_toArray, List.set_cons_zero, List.set_cons_succ, i64_w, i32_w]
    rfl
  refine one_ (i := 10) (N := some 40) #[true, true, true, true, true, true, true, true, true, true, true, true, true, false, false, false, false, false, false, false, false, false, false, false, false, false, false] rfl rfl (by kernel_rfl) (by decide) (fun K hK => ?_)
  have HH := Aside0.mk hHeld
  refine goes_ Try.func38 (by kernel_rfl) rfl #[.pointer (some ⟨g, 0, none⟩), .slice A3 c.length c3] (by rfl) rfl rfl (by simp only [List.map_toArray, List.map_cons, List.map_nil]; rfl) ?_
  refine (clique_Right.calls k3 _ nbs.length nbs A3 c3 c _ _ (HG2.out.below HH.out.2.2.out) (Nat.le_refl _) (HRC HH.out.2.2.out) HC3.out F3.out).mono ?_
  rintro e wd ⟨rfl, hbd⟩
  refine ⟨_, rfl, ?_⟩
  refine hK.out _ _ (hHeld.step hbd) (fun hHeld => ?_)
  clear hK K
  refine norm_ (a' := ?_) ?_ ?_
  rotate_left
  · show Act.put _ (some 40) _ = _
    simp only [Act.put, List.setIfInBounds_toArray, List.set_cons_zero, List.set_cons_succ, i64_w, i32_w]
    rfl
  refine one_ (i := 13) (N := some 43) #[true, true, true, true, true, true, true, true, true, true, true, true, true, true, false, false, false, false, false, false, false, false, false, false, false, false, false] rfl rfl (by kernel_rfl) (by decide) (fun K hK => ?_)
  have HH := Aside0.mk hHeld
  refine goes_ Try.func54 (by kernel_rfl) rfl #[.agg #[.int .i64 n, .slice Ao on.length co], .slice A3 c.length c3] (by rfl) rfl rfl (by simp only [List.map_toArray, List.map_cons, List.map_nil]; rfl) ?_
  refine (horariumref26_Right.calls k4 n Ao co on A3 c3 c _ _ (HON HH.out.2.2.out) HCO.out (HRC HH.out.2.2.out) HC3.out F4.out).mono ?_
  rintro e we ⟨rfl, hbe⟩
  refine ⟨_, rfl, ?_⟩
  refine hK.out _ _ (hHeld.step hbe) (fun hHeld => ?_)
  clear hK K
  refine norm_ (a' := ?_) ?_ ?_
  rotate_left
  · show Act.put _ (some 43) _ = _
    simp only [Act.put, List.setIfInBounds_toArray, List.set_cons_zero, List.set_cons_succ, i64_w, i32_w]
    rfl
  refine pure_ (i := 14) (N := some 44) (v := ?_) (a' := ?_) #[true, true, true, true, true, true, true, true, true, true, true, true, true, true, true, false, false, false, false, false, false, false, false, false, false, false, false] rfl rfl (by kernel_rfl) (fun _ _ _ h => h) (Or.inl ⟨by rfl, ?_⟩) ?_ ?_
  rotate_left
  · intro w'
    go_simp
    with_reducible rfl
  rotate_left
  · simp only [Act.put, List.setIfInBounds_toArray, List.set_cons_zero, List.set_cons_succ, i64_w, i32_w]
    rfl
  refine pure_ (i := 15) (N := some 45) (v := ?_) (a' := ?_) #[true, true, true, true, true, true, true, true, true, true, true, true, true, true, true, true, false, false, false, false, false, false, false, false, false, false, false] rfl rfl (by kernel_rfl) (fun _ _ _ h => h) (Or.inl ⟨by rfl, ?_⟩) ?_ ?_
  rotate_left
  · intro w'
    go_simp
    with_reducible rfl
  rotate_left
  · simp only [Act.put, List.setIfInBounds_toArray, List.set_cons_zero, List.set_cons_succ, i64_w, i32_w]
    rfl
  refine pure_ (i := 16) (N := some 46) (v := ?_) (a' := ?_) #[true, true, true, true, true, true, true, true, true, true, true, true, true, true, true, true, true, false, false, false, false, false, false, false, false, false, false] rfl rfl (by kernel_rfl) (fun _ _ _ h => h) (Or.inl ⟨by rfl, ?_⟩) ?_ ?_
  rotate_left
  · intro w'
    go_simp
    with_reducible rfl
  rotate_left
  · simp only [Act.put, List.setIfInBounds_toArray, List.set_cons_zero, List.set_cons_succ, i64_w, i32_w]
    rfl
  refine pure_ (i := 17) (N := some 47) (v := ?_) (a' := ?_) #[true, true, true, true, true, true, true, true, true, true, true, true, true, true, true, true, true, true, false, false, false, false, false, false, false, false, false] rfl rfl (by kernel_rfl) (fun _ _ _ h => h) (Or.inl ⟨by rfl, ?_⟩) ?_ ?_
  rotate_left
  · intro w'
    go_simp
    with_reducible rfl
  rotate_left
  · simp only [Act.put, List.setIfInBounds_toArray, List.set_cons_zero, List.set_cons_succ, i64_w, i32_w]
    rfl
  refine pure_ (i := 19) (N := some 49) (v := ?_) (a' := ?_) #[true, true, true, true, true, true, true, true, true, true, true, true, true, true, true, true, true, true, false, true, false, false, false, false, false, false, false] rfl rfl (by kernel_rfl) (fun _ _ _ h => h) (Or.inl ⟨by rfl, ?_⟩) ?_ ?_
  rotate_left
  · intro w'
    go_simp
    with_reducible rfl
  rotate_left
  · simp only [Act.put, List.setIfInBounds_toArray, List.set_cons_zero, List.set_cons_succ, i64_w, i32_w]
    rfl
  refine one_ (i := 18) (N := some 48) #[true, true, true, true, true, true, true, true, true, true, true, true, true, true, true, true, true, true, true, true, false, false, false, false, false, false, false] rfl rfl (by kernel_rfl) (by decide) (fun K hK => ?_)
  have HH := Aside0.mk hHeld
  refine goes_ Try.func40 (by kernel_rfl) rfl #[.slice A3 c.length c3] (by rfl) rfl rfl (by simp only [List.map_toArray, List.map_cons, List.map_nil]; rfl) ?_
  refine (clique_Colours.calls A3 c3 c (m : Int) _ (HRC HH.out.2.2.out) HC3.out F5.out).mono ?_
  rintro e wf ⟨rfl, hbf⟩
  refine ⟨_, rfl, ?_⟩
  refine hK.out _ _ (hHeld.step hbf) (fun hHeld => ?_)
  clear hK K
  refine norm_ (a' := ?_) ?_ ?_
  rotate_left
  · show Act.put _ (some 48) _ = _
    simp only [Act.put, List.setIfInBounds_toArray, List.set_cons_zero, List.set_cons_succ, i64_w, i32_w]
    rfl
  refine one_ (i := 20) (N := some 50) #[true, true, true, true, true, true, true, true, true, true, true, true, true, true, true, true, true, true, true, true, true, false, false, false, false, false, false] rfl rfl (by kernel_rfl) (by decide) (fun K hK => ?_)
  have HH := Aside0.mk hHeld
  refine goes_ Try.func55 (by kernel_rfl) rfl #[.slice A3 c.length c3] (by rfl) rfl rfl (by simp only [List.map_toArray, List.map_cons, List.map_nil]; rfl) ?_
  refine (horariumref26_Colours.calls A3 c3 c (m : Int) _ (HRC HH.out.2.2.out) HC3.out F6.out).mono ?_
  rintro e wg ⟨rfl, hdg⟩
  refine ⟨_, rfl, ?_⟩
  refine hK.out _ _ (hHeld.step hdg.below) (fun hHeld => ?_)
  clear hK K
  refine norm_ (a' := ?_) ?_ ?_
  rotate_left
  · show Act.put _ (some 50) _ = _
    simp only [Act.put, List.setIfInBounds_toArray, List.set_cons_zero, List.set_cons_succ, i64_w, i32_w]
    rfl
  refine pure_ (i := 21) (N := some 51) (v := ?_) (a' := ?_) #[true, true, true, true, true, true, true, true, true, true, true, true, true, true, true, true, true, true, true, true, true, true, false, false, false, false, false] rfl rfl (by kernel_rfl) (fun _ _ _ h => h) (Or.inl ⟨by rfl, ?_⟩) ?_ ?_
  rotate_left
  · intro w'
    go_simp
    with_reducible rfl
  rotate_left
  · simp only [Act.put, List.setIfInBounds_toArray, List.set_cons_zero, List.set_cons_succ, i64_w, i32_w]
    rfl
  refine pure_ (i := 22) (N := some 52) (v := ?_) (a' := ?_) #[true, true, true, true, true, true, true, true, true, true, true, true, true, true, true, true, true, true, true, true, true, true, true, false, false, false, false] rfl rfl (by kernel_rfl) (fun _ _ _ h => h) (Or.inl ⟨by rfl, ?_⟩) ?_ ?_
  rotate_left
  · intro w'
    go_simp
    with_reducible rfl
  rotate_left
  · simp only [Act.put, List.setIfInBounds_toArray, List.set_cons_zero, List.set_cons_succ, i64_w, i32_w]
    rfl
  refine pure_ (i := 23) (N := some 53) (v := ?_) (a' := ?_) #[true, true, true, true, true, true, true, true, true, true, true, true, true, true, true, true, true, true, true, true, true, true, true, true, false, false, false] rfl rfl (by kernel_rfl) (fun _ _ _ h => h) (Or.inl ⟨by rfl, ?_⟩) ?_ ?_
  rotate_left
  · intro w'
    go_simp
    with_reducible rfl
  rotate_left
  · simp only [Act.put, List.setIfInBounds_toArray, List.set_cons_zero, List.set_cons_succ, i64_w, i32_w]
    rfl
  refine one_ (i := 24) (N := some 54) #[true, true, true, true, true, true, true, true, true, true, true, true, true, true, true, true, true, true, true, true, true, true, true, true, true, false, false] rfl rfl (by kernel_rfl) (by decide) (fun K hK => ?_)
  have HH := Aside0.mk hHeld
  refine goes_ Try.func34 (by kernel_rfl) rfl #[] (by rfl) rfl rfl (by simp only [List.map_toArray, List.map_cons, List.map_nil]) ?_
  refine (heads_calls _).mono ?_
  rintro e wh ⟨rfl, hbh⟩
  refine ⟨_, rfl, ?_⟩
  refine hK.out _ _ (hHeld.step hbh) (fun hHeld => ?_)
  clear hK K
  refine norm_ (a' := ?_) ?_ ?_
  rotate_left
  · show Act.put _ (some 54) _ = _
    simp only [Act.put, List.setIfInBounds_toArray, List.set_cons_zero, List.set_cons_succ, i64_w, i32_w]
    rfl
  refine pure_ (i := 25) (N := some 55) (v := ?_) (a' := ?_) #[true, true, true, true, true, true, true, true, true, true, true, true, true, true, true, true, true, true, true, true, true, true, true, true, true, true, false] rfl rfl (by kernel_rfl) (fun _ _ _ h => h) (Or.inl ⟨by rfl, ?_⟩) ?_ ?_
  rotate_left
  · intro w'
    go_simp
    with_reducible rfl
  rotate_left
  · simp only [Act.put, List.setIfInBounds_toArray, List.set_cons_zero, List.set_cons_succ, i64_w, i32_w]
    rfl
  refine pure_ (i := 26) (N := some 8) (v := ?_) (a' := ?_) #[true, true, true, true, true, true, true, true, true, true, true, true, true, true, true, true, true, true, true, true, true, true, true, true, true, true, true] rfl rfl (by kernel_rfl) (fun _ _ _ h => h) (Or.inl ⟨by rfl, ?_⟩) ?_ ?_
  rotate_left
  · intro w'
    go_simp
    with_reducible rfl
  rotate_left
  · simp only [Act.put, List.setIfInBounds_toArray, List.set_cons_zero, List.set_cons_succ, i64_w, i32_w]
    rfl
  refine done_ (by kernel_rfl) ?_
  have HZ := Aside0.mk hHeld.2.2.out
  have HW := Aside0.mk (below_then HB2.out HB2.out.size HZ.out)
  go_wp2
  go_ret
  exact ⟨rfl, HW.out⟩
/-- The walk for every input. -/
theorem tells_walk (a0 : Int) (a1 : Option Addr) (len1 cap1 : Nat) (z1 : List (Int × Int)) (a2 : Option Addr) (len2 cap2 : Nat) (z2 : List Int) (a3 : Option Addr) (len3 cap3 : Nat) (z3 : List Int) (w : World) (w0 : (Lit.int .i64 a0).wf = true) (w1 : z1.length = len1 ∧ JoinsIn w a1 z1)
    (w2 : (a2 = none ∧ len2 = 0 ∧ cap2 = 0 ∧ z2 = []) ∨ ∃ x, a2 = some x ∧ len2 ≤ cap2 ∧ cap2 ≤ maxLen ∧ z2.length = cap2 ∧ (∀ i, i < z2.length → w.cell? (x.add i) = some (.int .i64 (z2.getD i 0))) ∧ ∀ n ∈ z2, (Lit.int .i64 n).wf = true) (y2 : len2 * 8 ≤ 140737488351232)
    (w3 : (a3 = none ∧ len3 = 0 ∧ cap3 = 0 ∧ z3 = []) ∨ ∃ x, a3 = some x ∧ len3 ≤ cap3 ∧ cap3 ≤ maxLen ∧ z3.length = cap3 ∧ (∀ i, i < z3.length → w.cell? (x.add i) = some (.int .i64 (z3.getD i 0))) ∧ ∀ n ∈ z3, (Lit.int .i64 n).wf = true) (y3 : len3 * 8 ≤ 140737488351232) :
    Calls Try.prog 13 #[.int .i64 a0, .slice a1 len1 cap1, .slice a2 len2 cap2, .slice a3 len3 cap3] w fun e w' => e = .returned (.bool true) ∧ Below w.heap.size w w' := by
  obtain ⟨l2, rfl, hr2, hm2, hw2, hc2⟩ := ReadsInt.ofRowC w2
  obtain ⟨l3, rfl, hr3, hm3, hw3, hc3⟩ := ReadsInt.ofRowC w3
  have C2 := Kd.C_of_reads (d := (0 : Int)) (h1 := fun _ => rfl) hr2
  have C3 := Kd.C_of_reads (d := (0 : Int)) (h1 := fun _ => rfl) hr3
  have i64 : ∀ l : List Int, (∀ n ∈ l, (Lit.int .i64 n).wf = true) → i64t l := fun l h x hx => by
    have h := h x hx
    simp [Lit.wf, IntKind.min, IntKind.max, IntKind.signed, IntKind.bits] at h; omega
  obtain ⟨rfl, hj⟩ := w1
  rcases hk : okMade a0 z1.length
  · exact tells_no a0 a1 _ cap1 a2 _ cap2 a3 _ cap3 w hk
  · unfold okMade at hk
    rw [Bool.and_eq_true, Bool.and_eq_true, decide_eq_true_eq, decide_eq_true_eq, decide_eq_true_eq] at hk
    obtain ⟨m, rfl⟩ := Int.eq_ofNat_of_zero_le hk.1.1
    exact tells_yes m a1 cap1 z1 a2 cap2 l2 a3 cap3 l3 w (by have := hk.1.2; omega) hk.2 hj C2 hc2 C3 hc3 (i64 _ hw2) (i64 _ hw3)
end Go.Proofs.Ytbmnnmcnmfgbaaa.PG
end
