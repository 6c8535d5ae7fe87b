/-
  For every input the law BitsLists answers true: the walk of its text (a range over bits.All, with a break), over the contracts of what it calls. Conditions: none beyond those of the row.
-/
import Derived.Deep.RegionHeld3
import Derived.Test.YtbmnnmcnmfgbaaaHeads
namespace Go.Proofs.Ytbmnnmcnmfgbaaa.PLists
open Go.RowKit Go.Shelf Go.Proofs.YtbmnnmcnmfgbaaaW.PrintWords Go.Proofs.YtbmnnmcnmfgbaaaW.PrintLast Go.Proofs.YtbmnnmcnmfgbaaaW.PrintMore
open Go.Proofs.Ytbmnnmcnmfgbaaa.PB Go.Proofs.Ytbmnnmcnmfgbaaa.PL
attribute [local go_sem] Oper.semAt_some
attribute [local go_sem] max2_int min2_int max_two min_two max_three min_three max_four min_four
set_option linter.unusedVariables false

theorem inside_f (a b r : List Int) (ha : okW a) (hb : okW b) (hn : a.length ≤ 1000000) (hN : Nrm r (fun i => tb a i && !tb b i)) : Ev (fun k => bits_Inside.f k a b) ((r.length : Int) == 0) := by
  obtain ⟨q, hq, hNq, _⟩ := less_ev a b ha hb hn
  obtain rfl : q = r := hNq.unique hN (fun _ => rfl)
  exact Ev.bind hq (Ev.now _)
theorem same_f (a b r s : List Int) (ha : okW a) (hb : okW b) (hn : a.length ≤ 1000000) (hnb : b.length ≤ 1000000) (hN : Nrm r (fun i => tb a i && !tb b i)) (hM : Nrm s (fun i => tb b i && !tb a i)) :
    Ev (fun k => bits_Same.f k a b) (((r.length : Int) == 0) && ((s.length : Int) == 0)) := by
  have e1 := inside_f a b r ha hb hn hN
  have e2 := inside_f b a s hb ha hnb hM
  obtain ⟨x, hx⟩ : ∃ x, ((r.length : Int) == 0) = x := ⟨_, rfl⟩
  rw [hx] at e1 ⊢
  cases x
  · exact Ev.bind e1 (Ev.congr (fun k => by rw [if_neg (by simp)]; rfl) (Ev.now _))
  · rw [Bool.true_and]
    exact Ev.bind e1 (Ev.congr (fun k => by rw [if_pos rfl]) (Ev.bind e2 (Ev.now _)))
set_option maxRecDepth 100000 in
set_option maxHeartbeats 4000000 in
theorem walk_no (A0 : Option Addr) (c0 : Nat) (l0 : List Int) (A1 : Option Addr) (c1 : Nat) (l1 : List Int) (m : Int) (w : World) (hr0 : Kd.C (Kd.int .u64) w A0 l0.length l0) (hc0 : l0.length ≤ c0) (hr1 : Kd.C (Kd.int .u64) w A1 l1.length l1) (hc1 : l1.length ≤ c1)
    (hf : ¬ (l0.length ≤ 70 ∧ l1.length ≤ 70)) :
    Calls Try.prog 3 #[.slice A0 l0.length c0, .slice A1 l1.length c1, .int .u8 m] w fun e w' => e = .returned (.bool true) ∧ Below w.heap.size w w' := by
  have HF := Aside0.mk (few_f l0 l1)
  rw [decide_eq_false hf] at HF
  obtain ⟨k, hk⟩ := heads_ev.rounds
  have HH := Aside0.mk hk
  have HR0 := Aside0.mk hr0
  have HC0 := Aside0.mk hc0
  have HR1 := Aside0.mk hr1
  have HC1 := Aside0.mk hc1
  clear hr0 hc0 hr1 hc1 hf hk
  go_enter Try.func3, Try.ntmps3
  go_wp2_with fail
  refine (horariumlaw05_few.calls A0 c0 l0 A1 c1 l1 false _ (Kd.C_alloc (Kd.C_alloc HR0.out _) _) HC0.out (Kd.C_alloc (Kd.C_alloc HR1.out _) _) HC1.out HF.out).mono ?_
  rintro e w1 ⟨rfl, ⟨q, rfl⟩⟩
  go_wp2_with fail
  refine (horariumlaw05_heads.calls k true _ HH.out).mono ?_
  rintro e w2 ⟨rfl, hb⟩
  have bO : Boxed w2 (w.heap.size + 1) 4 (.bool false) := (hb.block (w.heap.size + 1) (by simp)).trans (by
    have := Boxed.new (w.alloc (.cells #[.int .u8 m] 5)) 4 (.bool false)
    rw [World.size_alloc] at this
    exact this)
  have hc := bO.cell
  have hf := bO.frozen
  have hc2 := (bO.set (.bool true)).cell
  go_wp2
  have h0 : Below w.heap.size w w2 := (below_alloc (below_alloc (Below.refl _ _) _) _).trans ((pw_below_drewN (Below.refl _ _) q).trans (hb.mono (by simp; omega)))
  exact bodyPost_ret (v := .bool true) (by simp [results, Try.results3, go_sem, hc2]) rfl ⟨rfl, h0.setCell (by simp) _⟩

theorem min_nat (m n : Nat) : mn (m : Int) (n : Int) = ((min m n : Nat) : Int) := by unfold mn; split <;> omega

/-! ### the last region: what its worlds keep -/
/-- Below g's world nothing but the box g has turned, and g is a box. -/
def Rg (w6 : World) (g : Nat) (w' : World) : Prop := (w6.heap.size ≤ w'.heap.size ∧ (∀ k, k < w6.heap.size → k ≠ g → w'.heap[k]? = w6.heap[k]?)) ∧ (w'.os = w6.os ∧ w'.tape = w6.tape ∧ w'.output = w6.output) ∧ ∃ v, Boxed w' g 4 v
/-- What the box g holds. -/
def resV (g : Nat) (w : World) : Value := (w.cell? ⟨g, 0, none⟩).getD undef
theorem res_cell {w6 w' : World} {g : Nat} (h : Rg w6 g w') : w'.cell? ⟨g, 0, none⟩ = some (resV g w') := by
  obtain ⟨_, _, v, hv⟩ := h
  unfold resV
  rw [hv.cell]; rfl
theorem res_frozen {w6 w' : World} {g : Nat} (h : Rg w6 g w') : w'.frozen? ⟨g, 0, none⟩ = false := by
  obtain ⟨_, _, v, hv⟩ := h
  exact hv.frozen
theorem Rg.start {w6 : World} {g : Nat} {v : Value} (h : Boxed w6 g 4 v) : Rg w6 g w6.drew := ⟨⟨Nat.le_refl _, fun _ _ _ => rfl⟩, ⟨rfl, rfl, rfl⟩, v, h⟩
theorem Rg.call {w6 w' w'' : World} {g : Nat} (h : Rg w6 g w') (hb : Below w'.heap.size w' w'') : Rg w6 g w'' := by
  obtain ⟨⟨h1, h2⟩, ⟨h3, h4, h5⟩, v, hv⟩ := h
  exact ⟨⟨Nat.le_trans h1 hb.size, fun k hk hg => (hb.block k (by omega)).trans (h2 k hk hg)⟩, ⟨hb.os.trans h3, hb.tape.trans h4, hb.output.trans h5⟩, v, (hb.block g hv.lt).trans hv⟩
theorem Rg.call2 {w6 w' w'' : World} {g : Nat} (hb : Below w'.heap.size w' w'') (h : Rg w6 g w') : Rg w6 g w'' := h.call hb
theorem Rg.store {w6 w' : World} {g : Nat} (h : Rg w6 g w') (u : Value) : Rg w6 g (w'.setCell ⟨g, 0, none⟩ u) := by
  obtain ⟨⟨h1, h2⟩, h3, v, hv⟩ := h
  exact ⟨⟨by simpa using h1, fun k hk hg => (Below.heap_setCell _ _ _ _ (by simpa using hg)).trans (h2 k hk hg)⟩, h3, u, hv.set u⟩
theorem Rg.cell {w6 w' : World} {g : Nat} (h : Rg w6 g w') {b : Nat} {t : TypeId} {v : Value} (hb : Boxed w6 b t v) (hg : b ≠ g) : w'.cell? ⟨b, 0, none⟩ = some v :=
  Boxed.cell (t := t) ((h.1.2 b hb.lt hg).trans hb)
theorem Rg.below {w w6 w' : World} {g : Nat} (h : Rg w6 g w') (hb : Below w.heap.size w w6) (hg : w.heap.size ≤ g) : Below w.heap.size w w' :=
  hb.trans ⟨h.2.1.1, h.2.1.2.1, h.2.1.2.2, h.1.1, fun k hk => h.1.2 k (by have := hb.size; omega) (by omega)⟩
theorem Rg.keep {w6 w' : World} {g : Nat} (h : Rg w6 g w') : KeepBut w6 w' g none := ⟨h.1.1, fun i hi hg _ => h.1.2 i hi hg⟩
/-- The condition that the last region's loads want. -/
theorem S_mk {w6 w' : World} {w0 b1 b2 b3 g : Nat} {v1 v2 v3 : Value} {t1 t2 t3 : TypeId} (h1 : Boxed w6 b1 t1 v1) (h2 : Boxed w6 b2 t2 v2) (h3 : Boxed w6 b3 t3 v3) (n1 : b1 ≠ g) (n2 : b2 ≠ g) (n3 : b3 ≠ g) (h : Rg w6 g w') :
    w'.cell? ⟨b1, 0, none⟩ = some v1 ∧ w'.cell? ⟨b2, 0, none⟩ = some v2 ∧ w'.cell? ⟨b3, 0, none⟩ = some v3 ∧ w'.cell? ⟨g, 0, none⟩ = some (resV g w') ∧ w'.frozen? ⟨g, 0, none⟩ = false ∧ Aside0 (Rg w6 g w') :=
  ⟨h.cell h1 n1, h.cell h2 n2, h.cell h3 n3, res_cell h, res_frozen h, ⟨h⟩⟩
theorem box_set {w : World} {g : Nat} {t : TypeId} {u v : Value} (h : Boxed (w.setCell ⟨g, 0, none⟩ u) g t v) : v = u := by
  have h' : (w.setCell ⟨g, 0, none⟩ u).heap[g]? = some (.cells #[v] t (0, 0)) := h
  simp only [World.setCell, Array.getElem?_modify, if_true] at h'
  obtain ⟨o, ho, he⟩ := Option.map_eq_some_iff.1 h'
  cases o with
  | cells c e f =>
    simp at he
    obtain ⟨h1, _⟩ := he
    have hs : c.size = 1 := by have := congrArg Array.size h1; simpa using this
    have h2 := congrArg (fun a : Array Value => a[0]?) h1
    simp [hs] at h2
    exact h2.symm
  | _ => simp at he
theorem S_rg {a b c d e : Prop} {w6 w' : World} {g : Nat} (h : a ∧ b ∧ c ∧ d ∧ e ∧ Aside0 (Rg w6 g w')) : Rg w6 g w' := h.2.2.2.2.2.out

theorem fn_nil (Bo : Nat) (W : World) : (binOp BinOp.eql 28 (Value.func (Fn.func 58) #[] #[.pointer (some ⟨Bo, 0, none⟩)]) Value.nilFunc).run Try.prog W = .ok (.bool false) W := by kernel_rfl
set_option maxRecDepth 100000 in
set_option maxHeartbeats 4000000 in
theorem walk_in (A0 : Option Addr) (c0 : Nat) (l0 : List Int) (A1 : Option Addr) (c1 : Nat) (l1 : List Int) (m : Nat) (hm : m < 256) (w : World) (hr0 : Kd.C (Kd.int .u64) w A0 l0.length l0) (hc0 : l0.length ≤ c0) (hr1 : Kd.C (Kd.int .u64) w A1 l1.length l1) (hc1 : l1.length ≤ c1)
    (hf : l0.length ≤ 70 ∧ l1.length ≤ 70) (ha : okW l0) (hb : okW l1)
    (hlab0 : ∀ lab : List Int, Nrm lab (fun i => tb l0 i && !tb l1 i) → ((lab.length : Int) == 0) = true) :
    Calls Try.prog 3 #[.slice A0 l0.length c0, .slice A1 l1.length c1, .int .u8 m] w fun e w' => e = .returned (.bool true) ∧ Below w.heap.size w w' := by
  have HF := Aside0.mk (few_f l0 l1)
  rw [decide_eq_true hf] at HF
  obtain ⟨k, hk⟩ := heads_ev.rounds
  have HH := Aside0.mk hk
  obtain ⟨k1, hk1⟩ := (refList_ev l0 ha (by omega)).rounds
  have HL := Aside0.mk hk1
  have HOK := Aside0.mk (okWords_of ha (by omega))
  obtain ⟨want, hwant⟩ : ∃ x, els l0 (64 * l0.length) = x := ⟨_, rfl⟩
  have hwl : want.length ≤ 4480 := by have := els_len l0 (64 * l0.length); rw [hwant] at this; omega
  rw [hwant] at HL
  have HWA := Aside0.mk hwant
  obtain ⟨ki, hki⟩ := (ints_ev want want (by omega)).rounds
  rw [decide_eq_true rfl] at hki
  have HINT := Aside0.mk hki
  have HCF := Aside0.mk (count_f l0 ha (by omega))
  rw [HWA.out] at HCF
  clear hki
  have HLF := Aside0.mk (list_f l0 ha (by omega))
  rw [HWA.out] at HLF
  obtain ⟨lab, hlab, hNab⟩ := refLess_ev l0 l1 ha hb (by omega) (by omega)
  obtain ⟨kl, hkl⟩ := hlab.rounds
  obtain ⟨lba, hlba, hNba⟩ := refLess_ev l1 l0 hb ha (by omega) (by omega)
  obtain ⟨kb, hkb⟩ := hlba.rounds
  have HLBA := Aside0.mk hkb
  clear hkb hlba
  have HLAB := Aside0.mk hkl
  have HR0 := Aside0.mk hr0
  have HC0 := Aside0.mk hc0
  have HR1 := Aside0.mk hr1
  have HC1 := Aside0.mk hc1
  clear hr0 hc0 hr1 hc1 hk hk1 hwant hlab hkl
  refine (callsIn_wide (n := 5)).1 ?_
  refine callsIn_of_wp_marks Try.func3 rfl trivial ?_ rfl
  simp only [Try.ntmps3, List.size_toArray, List.length_cons, List.length_nil, Nat.reduceAdd, Nat.reduceSub, Array.replicate_succ, Array.replicate_zero, List.push_toArray, List.append_toArray, List.nil_append, List.cons_append]
  gi_wp2_with fail
  refine ⟨trivial, callsIn_wide.2 ((horariumlaw05_few.calls A0 c0 l0 A1 c1 l1 true _ (Kd.C_alloc (Kd.C_alloc HR0.out _) _) HC0.out (Kd.C_alloc (Kd.C_alloc HR1.out _) _) HC1.out HF.out).mono ?_)⟩
  rintro e w1 ⟨rfl, hd1⟩
  have hb1 := hd1.below
  have bM0 : Boxed ((w.alloc (.cells #[.int .u8 m] 5)).alloc (.cells #[.bool false] 4)) w.heap.size 5 (.int .u8 m) := (Boxed.new w 5 (.int .u8 m)).alloc _
  have bR0 : Boxed ((w.alloc (.cells #[.int .u8 m] 5)).alloc (.cells #[.bool false] 4)) (w.heap.size + 1) 4 (.bool false) := by
    have := Boxed.new (w.alloc (.cells #[.int .u8 m] 5)) 4 (.bool false)
    rwa [World.size_alloc] at this
  have hB1 : Below w.heap.size w w1 := (below_alloc (below_alloc (Below.refl _ _) _) _).trans (hb1.mono (by simp; omega))
  have bM1 : Boxed w1 w.heap.size 5 (.int .u8 m) := (hb1.block _ (by simp; omega)).trans bM0
  have bR1 : Boxed w1 (w.heap.size + 1) 4 (.bool false) := (hb1.block _ (by simp)).trans bR0
  have hs1 : w.heap.size + 2 ≤ w1.heap.size := by have := hb1.size; simp at this; omega
  clear hd1 bM0 bR0 hb1
  gi_wp2_with fail
  refine ⟨trivial, callsIn_wide.2 ((horariumref05_List.calls k1 A0 c0 l0 want _ (Kd.C_below HR0.out (hB1)) HC0.out HL.out).mono ?_)⟩
  rintro e w2 ⟨vw, rfl, hR2, hb2⟩
  obtain ⟨Aw, cw, rfl, hcw, hCw⟩ := Kd.R_reads hR2
  have HAW : Aside0 (∀ ad, Aw = some ad → 0 < want.length → ad.block ≠ w.heap.size + 1) := ⟨fun ad e _ h => by
    subst e
    obtain ⟨inner, hown⟩ := Kd.R_own hR2
    have := own_base hown _ rfl
    omega⟩
  have HCW := Aside0.mk hCw
  have HCWC := Aside0.mk hcw
  clear hR2 hCw hcw
  have hB2 : Below w.heap.size w w2 := hB1.trans (hb2.mono hB1.size)
  have bM2 : Boxed w2 w.heap.size 5 (.int .u8 m) := (hb2.block _ (by omega)).trans bM1
  have bR2 : Boxed w2 (w.heap.size + 1) 4 (.bool false) := (hb2.block _ (by omega)).trans bR1
  have hs2 : w1.heap.size ≤ w2.heap.size := hb2.size
  clear bM1 bR1 hb2
  gi_wp2_with fail
  refine ⟨trivial, callsIn_wide.2 ((all_calls A0 c0 l0 _ (Kd.C_alloc (Kd.C_below HR0.out hB2) _) HC0.out HOK.out).mono ?_)⟩
  rintro e w4 ⟨Ao, co, Bo, rfl, hBo1, hBo2, hWo, hb4⟩
  rw [World.size_alloc] at hWo
  have bW4 : Boxed w4 w2.heap.size 25 (.slice Aw want.length cw) := (hb4.block _ (by simp)).trans (Boxed.new w2 25 _)
  have bM4 : Boxed w4 w.heap.size 5 (.int .u8 m) := (hb4.block _ (by simp; omega)).trans (bM2.alloc _)
  have bR4 : Boxed w4 (w.heap.size + 1) 4 (.bool false) := (hb4.block _ (by simp; omega)).trans (bR2.alloc _)
  have hb24 : Below w2.heap.size w2 w4 := (below_alloc (Below.refl _ _) _).trans (hb4.mono (by simp))
  have hs4 : w2.heap.size < w4.heap.size := by have := hb4.size; simp at this; omega
  have hB4 : Below w.heap.size w w4 := hB2.trans (hb24.mono (by omega))
  have HCW4 := Aside0.mk (Kd.C_below HCW.out hb24)
  clear bM2 bR2 hb4
  have hfn := fun W => fn_nil Bo W
  gi_wp2
  clear hfn
  have bN : Boxed (w4.alloc (.cells #[.int .i64 0] 3)) w4.heap.size 3 (.int .i64 0) := Boxed.new w4 3 _
  have hfr : ∀ y ∈ Elems.sh l0, y ∈ l0 := fun y hy => Elems.sh_mem hy
  refine wpIn_rangeFunc_ownG rfl (by omega) (gf := 58) (lb := #[.pointer (some ⟨Bo, 0, none⟩)]) rfl trivial (enters_of Try.func58 (by kernel_rfl) rfl)
    (all_stops Fence.wide (5 - 1) trivial rfl (by omega) Bo (w2.heap.size + 1) co Ao _ w4 hBo1 hBo2 hWo) keepsK_t (keepsK_b (by simp)) (below_alloc (Below.refl _ _) _) (fun _ => rfl)
    (fun pre W => Boxed W w4.heap.size 3 (.int .i64 (pre.length : Int)) ∧ (Below w4.heap.size w4 W ∧ pre.length ≤ m))
    (fun c pre W => (c = .exit 0 ∧ ∃ p x, pre = p ++ [x] ∧ m ≤ p.length ∧ (Boxed W w4.heap.size 3 (.int .i64 (p.length : Int)) ∧ (Below w4.heap.size w4 W ∧ p.length ≤ m))) ∨ (c = .ret ∧ ¬ pre <+: want))
    ?hI ?hIx ?h0
    (fun x => { tmps := #[.slice A0 l0.length c0, .slice A1 l1.length c1, .int .u8 m, undef, undef, .pointer (some ⟨w.heap.size, 0, none⟩), .pointer (some ⟨w.heap.size + 1, 0, none⟩), .pointer (some ⟨w2.heap.size, 0, none⟩), .func (.func 58) #[] #[.pointer (some ⟨Bo, 0, none⟩)], .pointer (some ⟨w4.heap.size, 0, none⟩), .int .i64 x, undef, .slice A0 l0.length c0, .slice A1 l1.length c1, .bool true, .bool false, undef, .slice A0 l0.length c0, .slice Aw want.length cw, .slice A0 l0.length c0, .func (.func 58) #[] #[.pointer (some ⟨Bo, 0, none⟩)], .func (.func 58) #[] #[.pointer (some ⟨Bo, 0, none⟩)], .bool false, .func (.func 58) #[] #[.pointer (some ⟨Bo, 0, none⟩)], .int .i64 x, undef, undef, undef, undef, undef, undef, undef, undef, undef, undef, undef, undef, undef, undef, undef, undef, undef, undef, undef, undef, undef, undef, undef, undef, undef, undef, undef, undef, undef, undef, undef, undef, undef, undef, undef, undef, undef, undef, undef, undef, undef, undef, undef, undef, undef, undef, undef, undef, undef, undef, undef, undef, undef, undef, undef, undef, undef, undef, undef, undef, undef, undef, undef, undef, undef, undef, undef], defers := [] }) ?assign ?body ?done ?stop
  case hI => exact OwnFrom.and (Own.from (boxed_own w4.heap.size 3 (fun pre : List Int => .int .i64 (pre.length : Int))) _) (OwnFrom.and (ownFrom_below (Nat.le_refl _) (by simp)) (ownFrom_pure _ (fun pre : List Int => pre.length ≤ m)))
  case hIx =>
    intro c pre W W' row hs hg hr
    rcases hs with ⟨hc, p, x, hp, hm', h1, h2, h3⟩ | h
    · exact .inl ⟨hc, p, x, hp, hm', (boxed_own w4.heap.size 3 (fun pre : List Int => .int .i64 (pre.length : Int))) p W W' row h1 hg (fun r e => (hr r e).2), (ownFrom_below (β := List Int) (B := (w4.alloc (.cells #[.int .i64 0] 3)).heap.size) (Nat.le_refl _) (by simp)) p W W' row h2 hg hr, h3⟩
    · exact .inr h
  case h0 => exact ⟨bN, below_alloc (Below.refl _ _) _, Nat.zero_le _⟩
  case assign =>
    intro l x W K hK
    gi_wp2
    exact hK
  case body =>
    rintro l pre x W ⟨hbox, hbel, hpm⟩ hl
    have bMW : Boxed W w.heap.size 5 (.int .u8 m) := (hbel.block _ (by omega)).trans bM4
    have bRW : Boxed W (w.heap.size + 1) 4 (.bool false) := (hbel.block _ (by omega)).trans bR4
    have bWW : Boxed W w2.heap.size 25 (.slice Aw want.length cw) := (hbel.block _ (by omega)).trans bW4
    have hcN := hbox.cell
    have hfN := hbox.frozen
    have hcM := bMW.cell
    have hcR := bRW.cell
    have hfR := bRW.frozen
    have hcW := bWW.cell
    by_cases hge : m ≤ pre.length
    · have hge1 : decide ((m : Int) ≤ (pre.length : Int)) = true := decide_eq_true (by omega)
      have hge2 : decide (m ≤ pre.length) = true := decide_eq_true hge
      gi_wp2
      exact ⟨KeepsFrom.refl _ _, .inl ⟨rfl, pre, x, rfl, hge, hbox, hbel, hpm⟩⟩
    · have hge1 : decide ((m : Int) ≤ (pre.length : Int)) = false := decide_eq_false (by omega)
      have hge2 : decide (m ≤ pre.length) = false := decide_eq_false hge
      by_cases hwn : want.length ≤ pre.length
      · have hw1 : decide ((want.length : Int) ≤ (pre.length : Int)) = true := decide_eq_true (by omega)
        have hw2 : decide (want.length ≤ pre.length) = true := decide_eq_true hwn
        gi_wp2
        refine ⟨(KeepsOthers.setCell _ _ _).from _, .inr ⟨rfl, fun h => ?_⟩⟩
        have := h.length_le
        simp at this; omega
      · have hw1 : decide ((want.length : Int) ≤ (pre.length : Int)) = false := decide_eq_false (by omega)
        have hw2 : decide (want.length ≤ pre.length) = false := decide_eq_false hwn
        obtain ⟨ad, e1, hcell4⟩ := Kd.at_int HCW4.out (pre.length : Int) (by omega) (by omega)
        cases e1
        have hlt4 := World.block_lt_of_cell? _ _ hcell4
        have hcell : W.cell? (ad.add pre.length) = some (.int .i64 (rd want (pre.length : Int))) := (hbel.cell hlt4).trans hcell4
        clear hcell4
        have hw3 : pre.length < want.length := by omega
        by_cases hx : x = rd want (pre.length : Int)
        · have hx1 : (x != rd want (pre.length : Int)) = false := by rw [bne_eq_false_iff_eq]; exact hx
          have Hx := Aside0.mk hx
          clear hx
          gi_wp2
          refine ⟨(KeepsOthers.setCell _ _ _).from _, ?_, ?_, hbel.setCell (by simp) _, by simp; omega⟩
          · intro k h1 h2
            exact Below.heap_setCell _ _ _ _ (by simp; omega)
          · rw [List.length_append, List.length_singleton]
            exact hbox.set _
        · have hx1 : (x != rd want (pre.length : Int)) = true := by rw [bne_iff_ne]; exact hx
          have Hx := Aside0.mk hx
          clear hx
          gi_wp2
          refine ⟨(KeepsOthers.setCell _ _ _).from _, .inr ⟨rfl, fun h => ?_⟩⟩
          obtain ⟨t, ht⟩ := h
          apply Hx.out
          rw [← ht, rd_nat]
          simp
  case done =>
    rintro D ys W hD rfl ⟨hbox, hbel, hpm⟩ hK
    rw [Elems.from_sh, from_all l0 ha, HWA.out] at hbox hpm
    have hmin : (min m want.length : Nat) = want.length := by omega
    rw [← hmin] at hbox
    obtain ⟨r, hr⟩ : ∃ r, min m want.length = r := ⟨_, rfl⟩
    rw [hr] at hbox
    have HMN := Aside0.mk hr
    clear hr
    have HK := Aside0.mk hK
    clear hK hmin hpm
    have hB5 : Below w.heap.size w W := hB4.trans (hbel.mono (by omega))
    have bM5 : Boxed W w.heap.size 5 (.int .u8 m) := (hbel.block _ (by omega)).trans bM4
    have bR5 : Boxed W (w.heap.size + 1) 4 (.bool false) := (hbel.block _ (by omega)).trans bR4
    have bW5 : Boxed W w2.heap.size 25 (.slice Aw want.length cw) := (hbel.block _ (by omega)).trans bW4
    have HC5 := Aside0.mk (Kd.C_below HCW4.out hbel)
    gi_wp2_with fail
    refine ⟨trivial, callsIn_wide.2 ((horariumref05_Less.calls kl A0 c0 l0 A1 c1 l1 lab _ (Kd.C_below HR0.out hB5) HC0.out (Kd.C_below HR1.out hB5) HC1.out HLAB.out).mono ?_)⟩
    rintro e w6 ⟨v6, rfl, hR6, hb6⟩
    obtain ⟨A6, c6, rfl, _, _⟩ := Kd.R_reads hR6
    clear hR6
    have bM6 : Boxed w6 w.heap.size 5 (.int .u8 m) := (hb6.block _ bM5.lt).trans bM5
    have bR6 : Boxed w6 (w.heap.size + 1) 4 (.bool false) := (hb6.block _ bR5.lt).trans bR5
    have bW6 : Boxed w6 w2.heap.size 25 (.slice Aw want.length cw) := (hb6.block _ bW5.lt).trans bW5
    have bN6 : Boxed w6 w4.heap.size 3 (.int .i64 (r : Int)) := (hb6.block _ hbox.lt).trans hbox
    have hB6 : Below w.heap.size w w6 := hB5.trans (hb6.mono hB5.size)
    have hS : ∀ w', Rg w6 (w.heap.size + 1) w' → _ := fun w' h => S_mk (w0 := 0) bN6 bM6 bW6 (by omega) (by omega) (by omega) h
    have HS := Aside0.mk hS
    have HRG := Aside0.mk (Rg.start bR6)
    have HB6 := Aside0.mk hB6
    have HC6 := Aside0.mk (Kd.C_below HC5.out hb6)
    clear bM5 bR5 bW5 hbox hS bM6 bR6 bW6 bN6 hB6
    have hin1 : ((lab.length : Int) == 0) = true := hlab0 lab hNab
    gi_wp2
    refine wpIn_wide.2 ?_
    obtain ⟨kn, hkn⟩ := (inside_f l0 l1 lab ha hb (by omega) hNab).rounds
    have HIN := Aside0.mk hkn
    obtain ⟨ks, hks⟩ := (same_f l0 l1 lab lba ha hb (by omega) (by omega) hNab hNba).rounds
    rw [hin1, Bool.true_and] at hks
    rw [hin1] at HIN
    obtain ⟨bl, hblv⟩ : ∃ bl, ((lba.length : Int) == 0) = bl := ⟨_, rfl⟩
    rw [hblv] at hks
    have HSA := Aside0.mk hks
    clear hkn hks
    have hm1 : IntKind.i64.wrap (m : Int) = (m : Int) := by rw [IntKind.wrap_i64]; omega
    have hm2 : (if (want.length : Int) < (m : Int) then (want.length : Int) else (m : Int)) = (r : Int) := by have := HMN.out; split <;> omega
    have hm3 : (if want.length < m then (want.length : Int) else (m : Int)) = (r : Int) := by have := HMN.out; split <;> omega
    go_region_held3 (fun w' => w'.cell? ⟨w4.heap.size, 0, none⟩ = some (.int .i64 (r : Int)) ∧ w'.cell? ⟨w.heap.size, 0, none⟩ = some (.int .u8 m) ∧ w'.cell? ⟨w2.heap.size, 0, none⟩ = some (.slice Aw want.length cw) ∧ w'.cell? ⟨w.heap.size + 1, 0, none⟩ = some (resV (w.heap.size + 1) w') ∧ w'.frozen? ⟨w.heap.size + 1, 0, none⟩ = false ∧ Aside0 (Rg w6 (w.heap.size + 1) w'))
      (first | exact HS.out _ HRG.out | exact HS.out _ (Rg.call2 (by assumption) (S_rg (by assumption))) | exact HS.out _ (Rg.store (S_rg (by assumption)) _))
      (first
        | (go_at_call 21; refine (bits_List.calls A0 c0 l0 want _ (Kd.C_below HR0.out (Rg.below (S_rg (by assumption)) HB6.out (by omega))) HC0.out HLF.out).mono ?_; rintro e w' ⟨vl, rfl, hRl, hbl⟩; obtain ⟨Al, cl, rfl, hcl, hCl⟩ := Kd.R_reads hRl; have HCL := Aside0.mk hCl; clear hCl hRl) | (go_at_call 20; refine (horariumref03_Ints.calls ki Al cl want Aw cw want true _ HCL.out hcl (Kd.C_keep (0 : Int) HC6.out (Rg.keep (S_rg (by assumption))) HAW.out) HCWC.out HINT.out).mono ?_; rintro e w' ⟨rfl, hdi⟩; have hbi := hdi.below; clear hdi) | (go_at_call 22; refine (bits_Count.calls A0 c0 l0 (want.length : Int) _ (Kd.C_below HR0.out (Rg.below (S_rg (by assumption)) HB6.out (by omega))) HC0.out HCF.out).mono ?_; rintro e w' ⟨rfl, hbc⟩) | (go_at_call 23; refine (bits_Inside.calls kn A0 c0 l0 A1 c1 l1 true _ (Kd.C_below HR0.out (Rg.below (S_rg (by assumption)) HB6.out (by omega))) HC0.out (Kd.C_below HR1.out (Rg.below (S_rg (by assumption)) HB6.out (by omega))) HC1.out HIN.out).mono ?_; rintro e w' ⟨rfl, hbn⟩) | (go_at_call 24; refine (bits_Same.calls ks A0 c0 l0 A1 c1 l1 bl _ (Kd.C_below HR0.out (Rg.below (S_rg (by assumption)) HB6.out (by omega))) HC0.out (Kd.C_below HR1.out (Rg.below (S_rg (by assumption)) HB6.out (by omega))) HC1.out HSA.out).mono ?_; rintro e w' ⟨rfl, hbs⟩) | (go_at_call 19; refine (horariumref05_Less.calls kb A1 c1 l1 A0 c0 l0 lba _ (Kd.C_below HR1.out (Rg.below (S_rg (by assumption)) HB6.out (by omega))) HC1.out (Kd.C_below HR0.out (Rg.below (S_rg (by assumption)) HB6.out (by omega))) HC0.out HLBA.out).mono ?_; rintro e w' ⟨vb, rfl, hRb, hbb⟩; obtain ⟨Ab, cb, rfl, _, _⟩ := Kd.R_reads hRb; clear hRb) | (go_at_call 16; refine (horariumlaw05_heads.calls k true _ HH.out).mono ?_; rintro e w' ⟨rfl, hbh⟩))
    have hfin := S_rg (w6 := w6) (g := w.heap.size + 1) (by assumption)
    have hres : Boxed (w'.setCell ⟨w.heap.size + 1, 0, none⟩ (.bool true)) (w.heap.size + 1) 4 (.bool true) := by
      obtain ⟨_, _, v, hv⟩ := hfin
      have := box_set hv
      rw [this] at hv; exact hv
    have hKf := (hfin.1.2 D (by have := lt_of_block HK.out; have := hb6.size; omega) (by simp at hD; omega)).trans ((hb6.block D (lt_of_block HK.out)).trans HK.out)
    have hBf := hfin.below HB6.out (by omega)
    gi_wp2
    refine ⟨by simp, .inl ⟨_, _, rfl, run_takeDeferred hKf, ?_⟩⟩
    have hcr := cell_kept hres.cell (grownBy_putObj' _ D (.deferred none)) (fun r e => by cases e; exact ⟨_, hKf, rfl⟩)
    refine ⟨.bool true, by simp [results, Try.results3, go_sem, hcr], rfl, hBf.trans (belowK_b (w := w) (Nat.le_refl _) _ D _ _ (by simp at hD; omega) hKf rfl rfl)⟩
  case stop =>
    rintro D c pre W hD hpre hx hK
    rw [Elems.from_sh, from_all l0 ha, HWA.out] at hpre
    rcases hx with ⟨rfl, p, x, rfl, hmp, hbox, hbel, hpm⟩ | ⟨rfl, hno⟩
    · have hle := hpre.length_le
      rw [List.length_append, List.length_singleton] at hle
      have hmin : (min m want.length : Nat) = p.length := by omega
      rw [← hmin] at hbox
      obtain ⟨r, hr⟩ : ∃ r, min m want.length = r := ⟨_, rfl⟩
      rw [hr] at hbox
      have HMN := Aside0.mk hr
      clear hr
      have HK := Aside0.mk hK
      clear hK hmin hpm
      have hB5 : Below w.heap.size w W := hB4.trans (hbel.mono (by omega))
      have bM5 : Boxed W w.heap.size 5 (.int .u8 m) := (hbel.block _ (by omega)).trans bM4
      have bR5 : Boxed W (w.heap.size + 1) 4 (.bool false) := (hbel.block _ (by omega)).trans bR4
      have bW5 : Boxed W w2.heap.size 25 (.slice Aw want.length cw) := (hbel.block _ (by omega)).trans bW4
      have HC5 := Aside0.mk (Kd.C_below HCW4.out hbel)
      gi_wp2_with fail
      refine ⟨trivial, callsIn_wide.2 ((horariumref05_Less.calls kl A0 c0 l0 A1 c1 l1 lab _ (Kd.C_below HR0.out hB5) HC0.out (Kd.C_below HR1.out hB5) HC1.out HLAB.out).mono ?_)⟩
      rintro e w6 ⟨v6, rfl, hR6, hb6⟩
      obtain ⟨A6, c6, rfl, _, _⟩ := Kd.R_reads hR6
      clear hR6
      have bM6 : Boxed w6 w.heap.size 5 (.int .u8 m) := (hb6.block _ bM5.lt).trans bM5
      have bR6 : Boxed w6 (w.heap.size + 1) 4 (.bool false) := (hb6.block _ bR5.lt).trans bR5
      have bW6 : Boxed w6 w2.heap.size 25 (.slice Aw want.length cw) := (hb6.block _ bW5.lt).trans bW5
      have bN6 : Boxed w6 w4.heap.size 3 (.int .i64 (r : Int)) := (hb6.block _ hbox.lt).trans hbox
      have hB6 : Below w.heap.size w w6 := hB5.trans (hb6.mono hB5.size)
      have hS : ∀ w', Rg w6 (w.heap.size + 1) w' → _ := fun w' h => S_mk (w0 := 0) bN6 bM6 bW6 (by omega) (by omega) (by omega) h
      have HS := Aside0.mk hS
      have HRG := Aside0.mk (Rg.start bR6)
      have HB6 := Aside0.mk hB6
      have HC6 := Aside0.mk (Kd.C_below HC5.out hb6)
      clear bM5 bR5 bW5 hbox hS bM6 bR6 bW6 bN6 hB6
      have hin1 : ((lab.length : Int) == 0) = true := hlab0 lab hNab
      gi_wp2
      refine wpIn_wide.2 ?_
      obtain ⟨kn, hkn⟩ := (inside_f l0 l1 lab ha hb (by omega) hNab).rounds
      have HIN := Aside0.mk hkn
      obtain ⟨ks, hks⟩ := (same_f l0 l1 lab lba ha hb (by omega) (by omega) hNab hNba).rounds
      rw [hin1, Bool.true_and] at hks
      rw [hin1] at HIN
      obtain ⟨bl, hblv⟩ : ∃ bl, ((lba.length : Int) == 0) = bl := ⟨_, rfl⟩
      rw [hblv] at hks
      have HSA := Aside0.mk hks
      clear hkn hks
      have hm1 : IntKind.i64.wrap (m : Int) = (m : Int) := by rw [IntKind.wrap_i64]; omega
      have hm2 : (if (want.length : Int) < (m : Int) then (want.length : Int) else (m : Int)) = (r : Int) := by have := HMN.out; split <;> omega
      have hm3 : (if want.length < m then (want.length : Int) else (m : Int)) = (r : Int) := by have := HMN.out; split <;> omega
      go_region_held3 (fun w' => w'.cell? ⟨w4.heap.size, 0, none⟩ = some (.int .i64 (r : Int)) ∧ w'.cell? ⟨w.heap.size, 0, none⟩ = some (.int .u8 m) ∧ w'.cell? ⟨w2.heap.size, 0, none⟩ = some (.slice Aw want.length cw) ∧ w'.cell? ⟨w.heap.size + 1, 0, none⟩ = some (resV (w.heap.size + 1) w') ∧ w'.frozen? ⟨w.heap.size + 1, 0, none⟩ = false ∧ Aside0 (Rg w6 (w.heap.size + 1) w'))
        (first | exact HS.out _ HRG.out | exact HS.out _ (Rg.call2 (by assumption) (S_rg (by assumption))) | exact HS.out _ (Rg.store (S_rg (by assumption)) _))
        (first
          | (go_at_call 21; refine (bits_List.calls A0 c0 l0 want _ (Kd.C_below HR0.out (Rg.below (S_rg (by assumption)) HB6.out (by omega))) HC0.out HLF.out).mono ?_; rintro e w' ⟨vl, rfl, hRl, hbl⟩; obtain ⟨Al, cl, rfl, hcl, hCl⟩ := Kd.R_reads hRl; have HCL := Aside0.mk hCl; clear hCl hRl) | (go_at_call 20; refine (horariumref03_Ints.calls ki Al cl want Aw cw want true _ HCL.out hcl (Kd.C_keep (0 : Int) HC6.out (Rg.keep (S_rg (by assumption))) HAW.out) HCWC.out HINT.out).mono ?_; rintro e w' ⟨rfl, hdi⟩; have hbi := hdi.below; clear hdi) | (go_at_call 22; refine (bits_Count.calls A0 c0 l0 (want.length : Int) _ (Kd.C_below HR0.out (Rg.below (S_rg (by assumption)) HB6.out (by omega))) HC0.out HCF.out).mono ?_; rintro e w' ⟨rfl, hbc⟩) | (go_at_call 23; refine (bits_Inside.calls kn A0 c0 l0 A1 c1 l1 true _ (Kd.C_below HR0.out (Rg.below (S_rg (by assumption)) HB6.out (by omega))) HC0.out (Kd.C_below HR1.out (Rg.below (S_rg (by assumption)) HB6.out (by omega))) HC1.out HIN.out).mono ?_; rintro e w' ⟨rfl, hbn⟩) | (go_at_call 24; refine (bits_Same.calls ks A0 c0 l0 A1 c1 l1 bl _ (Kd.C_below HR0.out (Rg.below (S_rg (by assumption)) HB6.out (by omega))) HC0.out (Kd.C_below HR1.out (Rg.below (S_rg (by assumption)) HB6.out (by omega))) HC1.out HSA.out).mono ?_; rintro e w' ⟨rfl, hbs⟩) | (go_at_call 19; refine (horariumref05_Less.calls kb A1 c1 l1 A0 c0 l0 lba _ (Kd.C_below HR1.out (Rg.below (S_rg (by assumption)) HB6.out (by omega))) HC1.out (Kd.C_below HR0.out (Rg.below (S_rg (by assumption)) HB6.out (by omega))) HC0.out HLBA.out).mono ?_; rintro e w' ⟨vb, rfl, hRb, hbb⟩; obtain ⟨Ab, cb, rfl, _, _⟩ := Kd.R_reads hRb; clear hRb) | (go_at_call 16; refine (horariumlaw05_heads.calls k true _ HH.out).mono ?_; rintro e w' ⟨rfl, hbh⟩))
      have hfin := S_rg (w6 := w6) (g := w.heap.size + 1) (by assumption)
      have hres : Boxed (w'.setCell ⟨w.heap.size + 1, 0, none⟩ (.bool true)) (w.heap.size + 1) 4 (.bool true) := by
        obtain ⟨_, _, v, hv⟩ := hfin
        have := box_set hv
        rw [this] at hv; exact hv
      have hKf := (hfin.1.2 D (by have := lt_of_block HK.out; have := hb6.size; omega) (by simp at hD; omega)).trans ((hb6.block D (lt_of_block HK.out)).trans HK.out)
      have hBf := hfin.below HB6.out (by omega)
      gi_wp2
      refine ⟨by simp, .inl ⟨_, _, rfl, run_takeDeferred hKf, ?_⟩⟩
      have hcr := cell_kept hres.cell (grownBy_putObj' _ D (.deferred none)) (fun r e => by cases e; exact ⟨_, hKf, rfl⟩)
      refine ⟨.bool true, by simp [results, Try.results3, go_sem, hcr], rfl, hBf.trans (belowK_b (w := w) (Nat.le_refl _) _ D _ _ (by simp at hD; omega) hKf rfl rfl)⟩
    · exact absurd hpre hno

set_option maxRecDepth 100000 in
set_option maxHeartbeats 4000000 in
theorem walk_out (A0 : Option Addr) (c0 : Nat) (l0 : List Int) (A1 : Option Addr) (c1 : Nat) (l1 : List Int) (m : Nat) (hm : m < 256) (w : World) (hr0 : Kd.C (Kd.int .u64) w A0 l0.length l0) (hc0 : l0.length ≤ c0) (hr1 : Kd.C (Kd.int .u64) w A1 l1.length l1) (hc1 : l1.length ≤ c1)
    (hf : l0.length ≤ 70 ∧ l1.length ≤ 70) (ha : okW l0) (hb : okW l1)
    (hlab0 : ∀ lab : List Int, Nrm lab (fun i => tb l0 i && !tb l1 i) → ((lab.length : Int) == 0) = false) :
    Calls Try.prog 3 #[.slice A0 l0.length c0, .slice A1 l1.length c1, .int .u8 m] w fun e w' => e = .returned (.bool true) ∧ Below w.heap.size w w' := by
  have HF := Aside0.mk (few_f l0 l1)
  rw [decide_eq_true hf] at HF
  obtain ⟨k, hk⟩ := heads_ev.rounds
  have HH := Aside0.mk hk
  obtain ⟨k1, hk1⟩ := (refList_ev l0 ha (by omega)).rounds
  have HL := Aside0.mk hk1
  have HOK := Aside0.mk (okWords_of ha (by omega))
  obtain ⟨want, hwant⟩ : ∃ x, els l0 (64 * l0.length) = x := ⟨_, rfl⟩
  have hwl : want.length ≤ 4480 := by have := els_len l0 (64 * l0.length); rw [hwant] at this; omega
  rw [hwant] at HL
  have HWA := Aside0.mk hwant
  obtain ⟨ki, hki⟩ := (ints_ev want want (by omega)).rounds
  rw [decide_eq_true rfl] at hki
  have HINT := Aside0.mk hki
  have HCF := Aside0.mk (count_f l0 ha (by omega))
  rw [HWA.out] at HCF
  clear hki
  have HLF := Aside0.mk (list_f l0 ha (by omega))
  rw [HWA.out] at HLF
  obtain ⟨lab, hlab, hNab⟩ := refLess_ev l0 l1 ha hb (by omega) (by omega)
  obtain ⟨kl, hkl⟩ := hlab.rounds
  obtain ⟨lba, hlba, hNba⟩ := refLess_ev l1 l0 hb ha (by omega) (by omega)
  obtain ⟨kb, hkb⟩ := hlba.rounds
  have HLBA := Aside0.mk hkb
  clear hkb hlba
  have HLAB := Aside0.mk hkl
  have HR0 := Aside0.mk hr0
  have HC0 := Aside0.mk hc0
  have HR1 := Aside0.mk hr1
  have HC1 := Aside0.mk hc1
  clear hr0 hc0 hr1 hc1 hk hk1 hwant hlab hkl
  refine (callsIn_wide (n := 5)).1 ?_
  refine callsIn_of_wp_marks Try.func3 rfl trivial ?_ rfl
  simp only [Try.ntmps3, List.size_toArray, List.length_cons, List.length_nil, Nat.reduceAdd, Nat.reduceSub, Array.replicate_succ, Array.replicate_zero, List.push_toArray, List.append_toArray, List.nil_append, List.cons_append]
  gi_wp2_with fail
  refine ⟨trivial, callsIn_wide.2 ((horariumlaw05_few.calls A0 c0 l0 A1 c1 l1 true _ (Kd.C_alloc (Kd.C_alloc HR0.out _) _) HC0.out (Kd.C_alloc (Kd.C_alloc HR1.out _) _) HC1.out HF.out).mono ?_)⟩
  rintro e w1 ⟨rfl, hd1⟩
  have hb1 := hd1.below
  have bM0 : Boxed ((w.alloc (.cells #[.int .u8 m] 5)).alloc (.cells #[.bool false] 4)) w.heap.size 5 (.int .u8 m) := (Boxed.new w 5 (.int .u8 m)).alloc _
  have bR0 : Boxed ((w.alloc (.cells #[.int .u8 m] 5)).alloc (.cells #[.bool false] 4)) (w.heap.size + 1) 4 (.bool false) := by
    have := Boxed.new (w.alloc (.cells #[.int .u8 m] 5)) 4 (.bool false)
    rwa [World.size_alloc] at this
  have hB1 : Below w.heap.size w w1 := (below_alloc (below_alloc (Below.refl _ _) _) _).trans (hb1.mono (by simp; omega))
  have bM1 : Boxed w1 w.heap.size 5 (.int .u8 m) := (hb1.block _ (by simp; omega)).trans bM0
  have bR1 : Boxed w1 (w.heap.size + 1) 4 (.bool false) := (hb1.block _ (by simp)).trans bR0
  have hs1 : w.heap.size + 2 ≤ w1.heap.size := by have := hb1.size; simp at this; omega
  clear hd1 bM0 bR0 hb1
  gi_wp2_with fail
  refine ⟨trivial, callsIn_wide.2 ((horariumref05_List.calls k1 A0 c0 l0 want _ (Kd.C_below HR0.out (hB1)) HC0.out HL.out).mono ?_)⟩
  rintro e w2 ⟨vw, rfl, hR2, hb2⟩
  obtain ⟨Aw, cw, rfl, hcw, hCw⟩ := Kd.R_reads hR2
  have HAW : Aside0 (∀ ad, Aw = some ad → 0 < want.length → ad.block ≠ w.heap.size + 1) := ⟨fun ad e _ h => by
    subst e
    obtain ⟨inner, hown⟩ := Kd.R_own hR2
    have := own_base hown _ rfl
    omega⟩
  have HCW := Aside0.mk hCw
  have HCWC := Aside0.mk hcw
  clear hR2 hCw hcw
  have hB2 : Below w.heap.size w w2 := hB1.trans (hb2.mono hB1.size)
  have bM2 : Boxed w2 w.heap.size 5 (.int .u8 m) := (hb2.block _ (by omega)).trans bM1
  have bR2 : Boxed w2 (w.heap.size + 1) 4 (.bool false) := (hb2.block _ (by omega)).trans bR1
  have hs2 : w1.heap.size ≤ w2.heap.size := hb2.size
  clear bM1 bR1 hb2
  gi_wp2_with fail
  refine ⟨trivial, callsIn_wide.2 ((all_calls A0 c0 l0 _ (Kd.C_alloc (Kd.C_below HR0.out hB2) _) HC0.out HOK.out).mono ?_)⟩
  rintro e w4 ⟨Ao, co, Bo, rfl, hBo1, hBo2, hWo, hb4⟩
  rw [World.size_alloc] at hWo
  have bW4 : Boxed w4 w2.heap.size 25 (.slice Aw want.length cw) := (hb4.block _ (by simp)).trans (Boxed.new w2 25 _)
  have bM4 : Boxed w4 w.heap.size 5 (.int .u8 m) := (hb4.block _ (by simp; omega)).trans (bM2.alloc _)
  have bR4 : Boxed w4 (w.heap.size + 1) 4 (.bool false) := (hb4.block _ (by simp; omega)).trans (bR2.alloc _)
  have hb24 : Below w2.heap.size w2 w4 := (below_alloc (Below.refl _ _) _).trans (hb4.mono (by simp))
  have hs4 : w2.heap.size < w4.heap.size := by have := hb4.size; simp at this; omega
  have hB4 : Below w.heap.size w w4 := hB2.trans (hb24.mono (by omega))
  have HCW4 := Aside0.mk (Kd.C_below HCW.out hb24)
  clear bM2 bR2 hb4
  have hfn := fun W => fn_nil Bo W
  gi_wp2
  clear hfn
  have bN : Boxed (w4.alloc (.cells #[.int .i64 0] 3)) w4.heap.size 3 (.int .i64 0) := Boxed.new w4 3 _
  have hfr : ∀ y ∈ Elems.sh l0, y ∈ l0 := fun y hy => Elems.sh_mem hy
  refine wpIn_rangeFunc_ownG rfl (by omega) (gf := 58) (lb := #[.pointer (some ⟨Bo, 0, none⟩)]) rfl trivial (enters_of Try.func58 (by kernel_rfl) rfl)
    (all_stops Fence.wide (5 - 1) trivial rfl (by omega) Bo (w2.heap.size + 1) co Ao _ w4 hBo1 hBo2 hWo) keepsK_t (keepsK_b (by simp)) (below_alloc (Below.refl _ _) _) (fun _ => rfl)
    (fun pre W => Boxed W w4.heap.size 3 (.int .i64 (pre.length : Int)) ∧ (Below w4.heap.size w4 W ∧ pre.length ≤ m))
    (fun c pre W => (c = .exit 0 ∧ ∃ p x, pre = p ++ [x] ∧ m ≤ p.length ∧ (Boxed W w4.heap.size 3 (.int .i64 (p.length : Int)) ∧ (Below w4.heap.size w4 W ∧ p.length ≤ m))) ∨ (c = .ret ∧ ¬ pre <+: want))
    ?hI ?hIx ?h0
    (fun x => { tmps := #[.slice A0 l0.length c0, .slice A1 l1.length c1, .int .u8 m, undef, undef, .pointer (some ⟨w.heap.size, 0, none⟩), .pointer (some ⟨w.heap.size + 1, 0, none⟩), .pointer (some ⟨w2.heap.size, 0, none⟩), .func (.func 58) #[] #[.pointer (some ⟨Bo, 0, none⟩)], .pointer (some ⟨w4.heap.size, 0, none⟩), .int .i64 x, undef, .slice A0 l0.length c0, .slice A1 l1.length c1, .bool true, .bool false, undef, .slice A0 l0.length c0, .slice Aw want.length cw, .slice A0 l0.length c0, .func (.func 58) #[] #[.pointer (some ⟨Bo, 0, none⟩)], .func (.func 58) #[] #[.pointer (some ⟨Bo, 0, none⟩)], .bool false, .func (.func 58) #[] #[.pointer (some ⟨Bo, 0, none⟩)], .int .i64 x, undef, undef, undef, undef, undef, undef, undef, undef, undef, undef, undef, undef, undef, undef, undef, undef, undef, undef, undef, undef, undef, undef, undef, undef, undef, undef, undef, undef, undef, undef, undef, undef, undef, undef, undef, undef, undef, undef, undef, undef, undef, undef, undef, undef, undef, undef, undef, undef, undef, undef, undef, undef, undef, undef, undef, undef, undef, undef, undef, undef, undef, undef, undef, undef, undef, undef, undef], defers := [] }) ?assign ?body ?done ?stop
  case hI => exact OwnFrom.and (Own.from (boxed_own w4.heap.size 3 (fun pre : List Int => .int .i64 (pre.length : Int))) _) (OwnFrom.and (ownFrom_below (Nat.le_refl _) (by simp)) (ownFrom_pure _ (fun pre : List Int => pre.length ≤ m)))
  case hIx =>
    intro c pre W W' row hs hg hr
    rcases hs with ⟨hc, p, x, hp, hm', h1, h2, h3⟩ | h
    · exact .inl ⟨hc, p, x, hp, hm', (boxed_own w4.heap.size 3 (fun pre : List Int => .int .i64 (pre.length : Int))) p W W' row h1 hg (fun r e => (hr r e).2), (ownFrom_below (β := List Int) (B := (w4.alloc (.cells #[.int .i64 0] 3)).heap.size) (Nat.le_refl _) (by simp)) p W W' row h2 hg hr, h3⟩
    · exact .inr h
  case h0 => exact ⟨bN, below_alloc (Below.refl _ _) _, Nat.zero_le _⟩
  case assign =>
    intro l x W K hK
    gi_wp2
    exact hK
  case body =>
    rintro l pre x W ⟨hbox, hbel, hpm⟩ hl
    have bMW : Boxed W w.heap.size 5 (.int .u8 m) := (hbel.block _ (by omega)).trans bM4
    have bRW : Boxed W (w.heap.size + 1) 4 (.bool false) := (hbel.block _ (by omega)).trans bR4
    have bWW : Boxed W w2.heap.size 25 (.slice Aw want.length cw) := (hbel.block _ (by omega)).trans bW4
    have hcN := hbox.cell
    have hfN := hbox.frozen
    have hcM := bMW.cell
    have hcR := bRW.cell
    have hfR := bRW.frozen
    have hcW := bWW.cell
    by_cases hge : m ≤ pre.length
    · have hge1 : decide ((m : Int) ≤ (pre.length : Int)) = true := decide_eq_true (by omega)
      have hge2 : decide (m ≤ pre.length) = true := decide_eq_true hge
      gi_wp2
      exact ⟨KeepsFrom.refl _ _, .inl ⟨rfl, pre, x, rfl, hge, hbox, hbel, hpm⟩⟩
    · have hge1 : decide ((m : Int) ≤ (pre.length : Int)) = false := decide_eq_false (by omega)
      have hge2 : decide (m ≤ pre.length) = false := decide_eq_false hge
      by_cases hwn : want.length ≤ pre.length
      · have hw1 : decide ((want.length : Int) ≤ (pre.length : Int)) = true := decide_eq_true (by omega)
        have hw2 : decide (want.length ≤ pre.length) = true := decide_eq_true hwn
        gi_wp2
        refine ⟨(KeepsOthers.setCell _ _ _).from _, .inr ⟨rfl, fun h => ?_⟩⟩
        have := h.length_le
        simp at this; omega
      · have hw1 : decide ((want.length : Int) ≤ (pre.length : Int)) = false := decide_eq_false (by omega)
        have hw2 : decide (want.length ≤ pre.length) = false := decide_eq_false hwn
        obtain ⟨ad, e1, hcell4⟩ := Kd.at_int HCW4.out (pre.length : Int) (by omega) (by omega)
        cases e1
        have hlt4 := World.block_lt_of_cell? _ _ hcell4
        have hcell : W.cell? (ad.add pre.length) = some (.int .i64 (rd want (pre.length : Int))) := (hbel.cell hlt4).trans hcell4
        clear hcell4
        have hw3 : pre.length < want.length := by omega
        by_cases hx : x = rd want (pre.length : Int)
        · have hx1 : (x != rd want (pre.length : Int)) = false := by rw [bne_eq_false_iff_eq]; exact hx
          have Hx := Aside0.mk hx
          clear hx
          gi_wp2
          refine ⟨(KeepsOthers.setCell _ _ _).from _, ?_, ?_, hbel.setCell (by simp) _, by simp; omega⟩
          · intro k h1 h2
            exact Below.heap_setCell _ _ _ _ (by simp; omega)
          · rw [List.length_append, List.length_singleton]
            exact hbox.set _
        · have hx1 : (x != rd want (pre.length : Int)) = true := by rw [bne_iff_ne]; exact hx
          have Hx := Aside0.mk hx
          clear hx
          gi_wp2
          refine ⟨(KeepsOthers.setCell _ _ _).from _, .inr ⟨rfl, fun h => ?_⟩⟩
          obtain ⟨t, ht⟩ := h
          apply Hx.out
          rw [← ht, rd_nat]
          simp
  case done =>
    rintro D ys W hD rfl ⟨hbox, hbel, hpm⟩ hK
    rw [Elems.from_sh, from_all l0 ha, HWA.out] at hbox hpm
    have hmin : (min m want.length : Nat) = want.length := by omega
    rw [← hmin] at hbox
    obtain ⟨r, hr⟩ : ∃ r, min m want.length = r := ⟨_, rfl⟩
    rw [hr] at hbox
    have HMN := Aside0.mk hr
    clear hr
    have HK := Aside0.mk hK
    clear hK hmin hpm
    have hB5 : Below w.heap.size w W := hB4.trans (hbel.mono (by omega))
    have bM5 : Boxed W w.heap.size 5 (.int .u8 m) := (hbel.block _ (by omega)).trans bM4
    have bR5 : Boxed W (w.heap.size + 1) 4 (.bool false) := (hbel.block _ (by omega)).trans bR4
    have bW5 : Boxed W w2.heap.size 25 (.slice Aw want.length cw) := (hbel.block _ (by omega)).trans bW4
    have HC5 := Aside0.mk (Kd.C_below HCW4.out hbel)
    gi_wp2_with fail
    refine ⟨trivial, callsIn_wide.2 ((horariumref05_Less.calls kl A0 c0 l0 A1 c1 l1 lab _ (Kd.C_below HR0.out hB5) HC0.out (Kd.C_below HR1.out hB5) HC1.out HLAB.out).mono ?_)⟩
    rintro e w6 ⟨v6, rfl, hR6, hb6⟩
    obtain ⟨A6, c6, rfl, _, _⟩ := Kd.R_reads hR6
    clear hR6
    have bM6 : Boxed w6 w.heap.size 5 (.int .u8 m) := (hb6.block _ bM5.lt).trans bM5
    have bR6 : Boxed w6 (w.heap.size + 1) 4 (.bool false) := (hb6.block _ bR5.lt).trans bR5
    have bW6 : Boxed w6 w2.heap.size 25 (.slice Aw want.length cw) := (hb6.block _ bW5.lt).trans bW5
    have bN6 : Boxed w6 w4.heap.size 3 (.int .i64 (r : Int)) := (hb6.block _ hbox.lt).trans hbox
    have hB6 : Below w.heap.size w w6 := hB5.trans (hb6.mono hB5.size)
    have hS : ∀ w', Rg w6 (w.heap.size + 1) w' → _ := fun w' h => S_mk (w0 := 0) bN6 bM6 bW6 (by omega) (by omega) (by omega) h
    have HS := Aside0.mk hS
    have HRG := Aside0.mk (Rg.start bR6)
    have HB6 := Aside0.mk hB6
    have HC6 := Aside0.mk (Kd.C_below HC5.out hb6)
    clear bM5 bR5 bW5 hbox hS bM6 bR6 bW6 bN6 hB6
    have hin1 : ((lab.length : Int) == 0) = false := hlab0 lab hNab
    gi_wp2
    refine wpIn_wide.2 ?_
    obtain ⟨kn, hkn⟩ := (inside_f l0 l1 lab ha hb (by omega) hNab).rounds
    have HIN := Aside0.mk hkn
    obtain ⟨ks, hks⟩ := (same_f l0 l1 lab lba ha hb (by omega) (by omega) hNab hNba).rounds
    rw [hin1, Bool.false_and] at hks
    rw [hin1] at HIN
    have HSA := Aside0.mk hks
    clear hkn hks
    have hm1 : IntKind.i64.wrap (m : Int) = (m : Int) := by rw [IntKind.wrap_i64]; omega
    have hm2 : (if (want.length : Int) < (m : Int) then (want.length : Int) else (m : Int)) = (r : Int) := by have := HMN.out; split <;> omega
    have hm3 : (if want.length < m then (want.length : Int) else (m : Int)) = (r : Int) := by have := HMN.out; split <;> omega
    refine wp_region_noPanic ?_
    refine wp_region_held_drew (S := (fun w' => w'.cell? ⟨w4.heap.size, 0, none⟩ = some (.int .i64 (r : Int)) ∧ w'.cell? ⟨w.heap.size, 0, none⟩ = some (.int .u8 m) ∧ w'.cell? ⟨w2.heap.size, 0, none⟩ = some (.slice Aw want.length cw) ∧ w'.cell? ⟨w.heap.size + 1, 0, none⟩ = some (resV (w.heap.size + 1) w') ∧ w'.frozen? ⟨w.heap.size + 1, 0, none⟩ = false ∧ Aside0 (Rg w6 (w.heap.size + 1) w'))) (by kernel_rfl) (by first | exact HS.out _ HRG.out | exact HS.out _ (Rg.call2 (by assumption) (S_rg (by assumption))) | exact HS.out _ (Rg.store (S_rg (by assumption)) _)) (fun hHeld => ?_)
    refine wpAnyH_take (i := 0) (oi := { dst := some 48, op := Op.load 3 (Operand.tmp 9), type := 3, pos := "law.go:64", after := #[], guard := none }) (v := ?_) rfl (by kernel_rfl) (by kernel_rfl) (by kernel_rfl) (fun _ _ _ h => h) (Or.inl ⟨by rfl, ?_⟩) (by assumption) ?_
    rotate_left
    · (intro w hSw; (try dsimp only at hSw); go_simp; try with_reducible rfl)
    (try simp only [Act.put, List.setIfInBounds_toArray, List.set_cons_zero, List.set_cons_succ])
    refine wpAnyH_take (i := 1) (oi := { dst := some 49, op := Op.load 5 (Operand.tmp 5), type := 5, pos := "law.go:64", after := #[], guard := none }) (v := ?_) rfl (by kernel_rfl) (by kernel_rfl) (by kernel_rfl) (fun _ _ _ h => h) (Or.inl ⟨by rfl, ?_⟩) (by assumption) ?_
    rotate_left
    · (intro w hSw; (try dsimp only at hSw); go_simp; try with_reducible rfl)
    (try simp only [Act.put, List.setIfInBounds_toArray, List.set_cons_zero, List.set_cons_succ])
    refine wpAnyH_take (i := 2) (oi := { dst := some 50, op := Op.convert 5 3 (Operand.tmp 49), type := 3, pos := "law.go:64", after := #[{ on := 1, ground := Ground.data }], guard := none }) (v := ?_) rfl (by kernel_rfl) (by kernel_rfl) (by kernel_rfl) (fun _ _ _ h => h) (Or.inl ⟨by rfl, ?_⟩) (by assumption) ?_
    rotate_left
    · (intro w hSw; (try dsimp only at hSw); go_simp; try with_reducible rfl)
    (try simp only [Act.put, List.setIfInBounds_toArray, List.set_cons_zero, List.set_cons_succ])
    refine wpAnyH_take (i := 3) (oi := { dst := some 51, op := Op.load 25 (Operand.tmp 7), type := 25, pos := "law.go:64", after := #[], guard := none }) (v := ?_) rfl (by kernel_rfl) (by kernel_rfl) (by kernel_rfl) (fun _ _ _ h => h) (Or.inl ⟨by rfl, ?_⟩) (by assumption) ?_
    rotate_left
    · (intro w hSw; (try dsimp only at hSw); go_simp; try with_reducible rfl)
    (try simp only [Act.put, List.setIfInBounds_toArray, List.set_cons_zero, List.set_cons_succ])
    refine wpAnyH_take (i := 4) (oi := { dst := some 52, op := Op.call { callee := Callee.builtin Builtin.len, args := #[Operand.tmp 51], argTypes := #[25] }, type := 3, pos := "law.go:64", after := #[{ on := 3, ground := Ground.data }], guard := none }) (v := ?_) rfl (by kernel_rfl) (by kernel_rfl) (by kernel_rfl) (fun _ _ _ h => h) (Or.inl ⟨by rfl, ?_⟩) (by assumption) ?_
    rotate_left
    · (intro w hSw; (try dsimp only at hSw); go_simp; try with_reducible rfl)
    (try simp only [Act.put, List.setIfInBounds_toArray, List.set_cons_zero, List.set_cons_succ])
    refine wpAnyH_ready (rs := [5]) (by kernel_rfl) (by simp) ?_
    refine AllReadyH.cons (o := { dst := some 53, op := Op.call { callee := Callee.builtin Builtin.min, args := #[Operand.tmp 50, Operand.tmp 52], argTypes := #[3, 3] }, type := 3, pos := "law.go:64", after := #[{ on := 2, ground := Ground.data }, { on := 4, ground := Ground.data }], guard := none }) rfl (fun K hK => ?_) AllReadyH.nil
    go_simp
    refine hK.out _ _ ((by first | exact HS.out _ HRG.out | exact HS.out _ (Rg.call2 (by assumption) (S_rg (by assumption))) | exact HS.out _ (Rg.store (S_rg (by assumption)) _))) (fun hHeld => ?_)
    clear hK K
    (try simp only [Act.put, List.setIfInBounds_toArray, List.set_cons_zero, List.set_cons_succ])
    refine wpAnyH_take (i := 6) (oi := { dst := some 54, op := Op.binOp BinOp.eql 3 (Operand.tmp 48) (Operand.tmp 53) 3, type := 4, pos := "law.go:64", after := #[{ on := 0, ground := Ground.data }, { on := 5, ground := Ground.data }], guard := none }) (v := ?_) rfl (by kernel_rfl) (by kernel_rfl) (by kernel_rfl) (fun _ _ _ h => h) (Or.inl ⟨by rfl, ?_⟩) (by assumption) ?_
    rotate_left
    · (intro w hSw; (try dsimp only at hSw); go_simp; try with_reducible rfl)
    (try simp only [Act.put, List.setIfInBounds_toArray, List.set_cons_zero, List.set_cons_succ])
    refine wpAnyH_take (i := 7) (oi := { dst := some 55, op := Op.move (Operand.tmp 54), type := 4, pos := "law.go:64", after := #[{ on := 6, ground := Ground.data }], guard := none }) (v := ?_) rfl (by kernel_rfl) (by kernel_rfl) (by kernel_rfl) (fun _ _ _ h => h) (Or.inl ⟨by rfl, ?_⟩) (by assumption) ?_
    rotate_left
    · (intro w hSw; (try dsimp only at hSw); go_simp; try with_reducible rfl)
    (try simp only [Act.put, List.setIfInBounds_toArray, List.set_cons_zero, List.set_cons_succ])
    refine wpAnyH_take (i := 8) (oi := { dst := some 56, op := Op.move (Operand.tmp 0), type := 22, pos := "law.go:64", after := #[{ on := 7, ground := Ground.guard }], guard := some (7, true) }) (v := ?_) rfl (by kernel_rfl) (by kernel_rfl) (by kernel_rfl) (fun _ _ _ h => h) (Or.inl ⟨by rfl, ?_⟩) (by assumption) ?_
    rotate_left
    · (intro w hSw; (try dsimp only at hSw); go_simp; try with_reducible rfl)
    (try simp only [Act.put, List.setIfInBounds_toArray, List.set_cons_zero, List.set_cons_succ])
    refine wpAnyH_take (i := 10) (oi := { dst := some 58, op := Op.load 25 (Operand.tmp 7), type := 25, pos := "law.go:64", after := #[{ on := 7, ground := Ground.guard }], guard := some (7, true) }) (v := ?_) rfl (by kernel_rfl) (by kernel_rfl) (by kernel_rfl) (fun _ _ _ h => h) (Or.inl ⟨by rfl, ?_⟩) (by assumption) ?_
    rotate_left
    · (intro w hSw; (try dsimp only at hSw); go_simp; try with_reducible rfl)
    (try simp only [Act.put, List.setIfInBounds_toArray, List.set_cons_zero, List.set_cons_succ])
    refine wpAnyH_ready (rs := [9]) (by kernel_rfl) (by simp) ?_
    refine AllReadyH.cons (o := { dst := some 57, op := Op.call { callee := Callee.value (Operand.func 21), args := #[Operand.tmp 56], argTypes := #[22] }, type := 25, pos := "law.go:64", after := #[{ on := 8, ground := Ground.data }, { on := 7, ground := Ground.chain }, { on := 7, ground := Ground.guard }], guard := some (7, true) }) rfl (fun K hK => ?_) AllReadyH.nil
    go_simp
    (refine (bits_List.calls A0 c0 l0 want _ (Kd.C_below HR0.out (Rg.below (S_rg (by assumption)) HB6.out (by omega))) HC0.out HLF.out).mono ?_; rintro e w' ⟨vl, rfl, hRl, hbl⟩; obtain ⟨Al, cl, rfl, hcl, hCl⟩ := Kd.R_reads hRl; have HCL := Aside0.mk hCl; clear hCl hRl)
    refine hK.out _ _ ((by first | exact HS.out _ HRG.out | exact HS.out _ (Rg.call2 (by assumption) (S_rg (by assumption))) | exact HS.out _ (Rg.store (S_rg (by assumption)) _))) (fun hHeld => ?_)
    clear hK K
    (try simp only [Act.put, List.setIfInBounds_toArray, List.set_cons_zero, List.set_cons_succ])
    refine wpAnyH_ready (rs := [11]) (by kernel_rfl) (by simp) ?_
    refine AllReadyH.cons (o := { dst := some 59, op := Op.call { callee := Callee.value (Operand.func 20), args := #[Operand.tmp 57, Operand.tmp 58], argTypes := #[25, 25] }, type := 4, pos := "law.go:64", after := #[{ on := 9, ground := Ground.data }, { on := 10, ground := Ground.data }, { on := 9, ground := Ground.chain }, { on := 7, ground := Ground.guard }], guard := some (7, true) }) rfl (fun K hK => ?_) AllReadyH.nil
    go_simp
    (refine (horariumref03_Ints.calls ki Al cl want Aw cw want true _ HCL.out hcl (Kd.C_keep (0 : Int) HC6.out (Rg.keep (S_rg (by assumption))) HAW.out) HCWC.out HINT.out).mono ?_; rintro e w' ⟨rfl, hdi⟩; have hbi := hdi.below; clear hdi)
    refine hK.out _ _ ((by first | exact HS.out _ HRG.out | exact HS.out _ (Rg.call2 (by assumption) (S_rg (by assumption))) | exact HS.out _ (Rg.store (S_rg (by assumption)) _))) (fun hHeld => ?_)
    clear hK K
    (try simp only [Act.put, List.setIfInBounds_toArray, List.set_cons_zero, List.set_cons_succ])
    refine wpAnyH_take (i := 12) (oi := { dst := some 60, op := Op.pick (Operand.tmp 55) (Operand.tmp 59) (Operand.const (Value.bool false)), type := 4, pos := "law.go:64", after := #[{ on := 7, ground := Ground.data }, { on := 11, ground := Ground.data }], guard := none }) (v := ?_) rfl (by kernel_rfl) (by kernel_rfl) (by kernel_rfl) (fun _ _ _ h => h) (Or.inl ⟨by rfl, ?_⟩) (by assumption) ?_
    rotate_left
    · (intro w hSw; (try dsimp only at hSw); go_simp; try with_reducible rfl)
    (try simp only [Act.put, List.setIfInBounds_toArray, List.set_cons_zero, List.set_cons_succ])
    refine wpAnyH_take (i := 13) (oi := { dst := some 61, op := Op.move (Operand.tmp 60), type := 4, pos := "law.go:64", after := #[{ on := 12, ground := Ground.data }, { on := 11, ground := Ground.chain }], guard := none }) (v := ?_) rfl (by kernel_rfl) (by kernel_rfl) (by kernel_rfl) (fun _ _ _ h => h) (Or.inl ⟨by rfl, ?_⟩) (by assumption) ?_
    rotate_left
    · (intro w hSw; (try dsimp only at hSw); go_simp; try with_reducible rfl)
    (try simp only [Act.put, List.setIfInBounds_toArray, List.set_cons_zero, List.set_cons_succ])
    refine wpAnyH_take (i := 14) (oi := { dst := some 62, op := Op.move (Operand.tmp 0), type := 22, pos := "law.go:64", after := #[{ on := 13, ground := Ground.guard }], guard := some (13, true) }) (v := ?_) rfl (by kernel_rfl) (by kernel_rfl) (by kernel_rfl) (fun _ _ _ h => h) (Or.inl ⟨by rfl, ?_⟩) (by assumption) ?_
    rotate_left
    · (intro w hSw; (try dsimp only at hSw); go_simp; try with_reducible rfl)
    (try simp only [Act.put, List.setIfInBounds_toArray, List.set_cons_zero, List.set_cons_succ])
    refine wpAnyH_take (i := 16) (oi := { dst := some 64, op := Op.load 25 (Operand.tmp 7), type := 25, pos := "law.go:64", after := #[{ on := 13, ground := Ground.guard }], guard := some (13, true) }) (v := ?_) rfl (by kernel_rfl) (by kernel_rfl) (by kernel_rfl) (fun _ _ _ h => h) (Or.inl ⟨by rfl, ?_⟩) (by assumption) ?_
    rotate_left
    · (intro w hSw; (try dsimp only at hSw); go_simp; try with_reducible rfl)
    (try simp only [Act.put, List.setIfInBounds_toArray, List.set_cons_zero, List.set_cons_succ])
    refine wpAnyH_take (i := 17) (oi := { dst := some 65, op := Op.call { callee := Callee.builtin Builtin.len, args := #[Operand.tmp 64], argTypes := #[25] }, type := 3, pos := "law.go:64", after := #[{ on := 16, ground := Ground.data }, { on := 13, ground := Ground.guard }], guard := some (13, true) }) (v := ?_) rfl (by kernel_rfl) (by kernel_rfl) (by kernel_rfl) (fun _ _ _ h => h) (Or.inl ⟨by rfl, ?_⟩) (by assumption) ?_
    rotate_left
    · (intro w hSw; (try dsimp only at hSw); go_simp; try with_reducible rfl)
    (try simp only [Act.put, List.setIfInBounds_toArray, List.set_cons_zero, List.set_cons_succ])
    refine wpAnyH_ready (rs := [15]) (by kernel_rfl) (by simp) ?_
    refine AllReadyH.cons (o := { dst := some 63, op := Op.call { callee := Callee.value (Operand.func 22), args := #[Operand.tmp 62], argTypes := #[22] }, type := 3, pos := "law.go:64", after := #[{ on := 14, ground := Ground.data }, { on := 13, ground := Ground.chain }, { on := 13, ground := Ground.guard }], guard := some (13, true) }) rfl (fun K hK => ?_) AllReadyH.nil
    go_simp
    (refine (bits_Count.calls A0 c0 l0 (want.length : Int) _ (Kd.C_below HR0.out (Rg.below (S_rg (by assumption)) HB6.out (by omega))) HC0.out HCF.out).mono ?_; rintro e w' ⟨rfl, hbc⟩)
    refine hK.out _ _ ((by first | exact HS.out _ HRG.out | exact HS.out _ (Rg.call2 (by assumption) (S_rg (by assumption))) | exact HS.out _ (Rg.store (S_rg (by assumption)) _))) (fun hHeld => ?_)
    clear hK K
    (try simp only [Act.put, List.setIfInBounds_toArray, List.set_cons_zero, List.set_cons_succ])
    refine wpAnyH_take (i := 18) (oi := { dst := some 66, op := Op.binOp BinOp.eql 3 (Operand.tmp 63) (Operand.tmp 65) 3, type := 4, pos := "law.go:64", after := #[{ on := 15, ground := Ground.data }, { on := 17, ground := Ground.data }, { on := 13, ground := Ground.guard }], guard := some (13, true) }) (v := ?_) rfl (by kernel_rfl) (by kernel_rfl) (by kernel_rfl) (fun _ _ _ h => h) (Or.inl ⟨by rfl, ?_⟩) (by assumption) ?_
    rotate_left
    · (intro w hSw; (try dsimp only at hSw); go_simp; try with_reducible rfl)
    (try simp only [Act.put, List.setIfInBounds_toArray, List.set_cons_zero, List.set_cons_succ])
    refine wpAnyH_take (i := 19) (oi := { dst := some 67, op := Op.pick (Operand.tmp 61) (Operand.tmp 66) (Operand.const (Value.bool false)), type := 4, pos := "law.go:64", after := #[{ on := 13, ground := Ground.data }, { on := 18, ground := Ground.data }], guard := none }) (v := ?_) rfl (by kernel_rfl) (by kernel_rfl) (by kernel_rfl) (fun _ _ _ h => h) (Or.inl ⟨by rfl, ?_⟩) (by assumption) ?_
    rotate_left
    · (intro w hSw; (try dsimp only at hSw); go_simp; try with_reducible rfl)
    (try simp only [Act.put, List.setIfInBounds_toArray, List.set_cons_zero, List.set_cons_succ])
    refine wpAnyH_take (i := 20) (oi := { dst := some 68, op := Op.move (Operand.tmp 67), type := 4, pos := "law.go:64", after := #[{ on := 19, ground := Ground.data }, { on := 15, ground := Ground.chain }], guard := none }) (v := ?_) rfl (by kernel_rfl) (by kernel_rfl) (by kernel_rfl) (fun _ _ _ h => h) (Or.inl ⟨by rfl, ?_⟩) (by assumption) ?_
    rotate_left
    · (intro w hSw; (try dsimp only at hSw); go_simp; try with_reducible rfl)
    (try simp only [Act.put, List.setIfInBounds_toArray, List.set_cons_zero, List.set_cons_succ])
    refine wpAnyH_take (i := 21) (oi := { dst := some 69, op := Op.move (Operand.tmp 0), type := 22, pos := "law.go:64", after := #[{ on := 20, ground := Ground.guard }], guard := some (20, true) }) (v := ?_) rfl (by kernel_rfl) (by kernel_rfl) (by kernel_rfl) (fun _ _ _ h => h) (Or.inl ⟨by rfl, ?_⟩) (by assumption) ?_
    rotate_left
    · (intro w hSw; (try dsimp only at hSw); go_simp; try with_reducible rfl)
    (try simp only [Act.put, List.setIfInBounds_toArray, List.set_cons_zero, List.set_cons_succ])
    refine wpAnyH_take (i := 22) (oi := { dst := some 70, op := Op.move (Operand.tmp 1), type := 22, pos := "law.go:64", after := #[{ on := 20, ground := Ground.guard }], guard := some (20, true) }) (v := ?_) rfl (by kernel_rfl) (by kernel_rfl) (by kernel_rfl) (fun _ _ _ h => h) (Or.inl ⟨by rfl, ?_⟩) (by assumption) ?_
    rotate_left
    · (intro w hSw; (try dsimp only at hSw); go_simp; try with_reducible rfl)
    (try simp only [Act.put, List.setIfInBounds_toArray, List.set_cons_zero, List.set_cons_succ])
    refine wpAnyH_take (i := 24) (oi := { dst := some 72, op := Op.move (Operand.tmp 11), type := 4, pos := "law.go:64", after := #[{ on := 20, ground := Ground.guard }], guard := some (20, true) }) (v := ?_) rfl (by kernel_rfl) (by kernel_rfl) (by kernel_rfl) (fun _ _ _ h => h) (Or.inl ⟨by rfl, ?_⟩) (by assumption) ?_
    rotate_left
    · (intro w hSw; (try dsimp only at hSw); go_simp; try with_reducible rfl)
    (try simp only [Act.put, List.setIfInBounds_toArray, List.set_cons_zero, List.set_cons_succ])
    refine wpAnyH_ready (rs := [23]) (by kernel_rfl) (by simp) ?_
    refine AllReadyH.cons (o := { dst := some 71, op := Op.call { callee := Callee.value (Operand.func 23), args := #[Operand.tmp 69, Operand.tmp 70], argTypes := #[22, 22] }, type := 4, pos := "law.go:64", after := #[{ on := 21, ground := Ground.data }, { on := 22, ground := Ground.data }, { on := 20, ground := Ground.chain }, { on := 20, ground := Ground.guard }], guard := some (20, true) }) rfl (fun K hK => ?_) AllReadyH.nil
    go_simp
    (refine (bits_Inside.calls kn A0 c0 l0 A1 c1 l1 false _ (Kd.C_below HR0.out (Rg.below (S_rg (by assumption)) HB6.out (by omega))) HC0.out (Kd.C_below HR1.out (Rg.below (S_rg (by assumption)) HB6.out (by omega))) HC1.out HIN.out).mono ?_; rintro e w' ⟨rfl, hbn⟩)
    refine hK.out _ _ ((by first | exact HS.out _ HRG.out | exact HS.out _ (Rg.call2 (by assumption) (S_rg (by assumption))) | exact HS.out _ (Rg.store (S_rg (by assumption)) _))) (fun hHeld => ?_)
    clear hK K
    (try simp only [Act.put, List.setIfInBounds_toArray, List.set_cons_zero, List.set_cons_succ])
    refine wpAnyH_take (i := 25) (oi := { dst := some 73, op := Op.binOp BinOp.eql 4 (Operand.tmp 71) (Operand.tmp 72) 4, type := 4, pos := "law.go:64", after := #[{ on := 23, ground := Ground.data }, { on := 24, ground := Ground.data }, { on := 20, ground := Ground.guard }], guard := some (20, true) }) (v := ?_) rfl (by kernel_rfl) (by kernel_rfl) (by kernel_rfl) (fun _ _ _ h => h) (Or.inl ⟨by rfl, ?_⟩) (by assumption) ?_
    rotate_left
    · (intro w hSw; (try dsimp only at hSw); go_simp; try with_reducible rfl)
    (try simp only [Act.put, List.setIfInBounds_toArray, List.set_cons_zero, List.set_cons_succ])
    refine wpAnyH_take (i := 26) (oi := { dst := some 74, op := Op.pick (Operand.tmp 68) (Operand.tmp 73) (Operand.const (Value.bool false)), type := 4, pos := "law.go:64", after := #[{ on := 20, ground := Ground.data }, { on := 25, ground := Ground.data }], guard := none }) (v := ?_) rfl (by kernel_rfl) (by kernel_rfl) (by kernel_rfl) (fun _ _ _ h => h) (Or.inl ⟨by rfl, ?_⟩) (by assumption) ?_
    rotate_left
    · (intro w hSw; (try dsimp only at hSw); go_simp; try with_reducible rfl)
    (try simp only [Act.put, List.setIfInBounds_toArray, List.set_cons_zero, List.set_cons_succ])
    refine wpAnyH_take (i := 27) (oi := { dst := some 75, op := Op.move (Operand.tmp 74), type := 4, pos := "law.go:64", after := #[{ on := 26, ground := Ground.data }, { on := 23, ground := Ground.chain }], guard := none }) (v := ?_) rfl (by kernel_rfl) (by kernel_rfl) (by kernel_rfl) (fun _ _ _ h => h) (Or.inl ⟨by rfl, ?_⟩) (by assumption) ?_
    rotate_left
    · (intro w hSw; (try dsimp only at hSw); go_simp; try with_reducible rfl)
    (try simp only [Act.put, List.setIfInBounds_toArray, List.set_cons_zero, List.set_cons_succ])
    refine wpAnyH_take (i := 28) (oi := { dst := some 76, op := Op.move (Operand.tmp 0), type := 22, pos := "law.go:64", after := #[{ on := 27, ground := Ground.guard }], guard := some (27, true) }) (v := ?_) rfl (by kernel_rfl) (by kernel_rfl) (by kernel_rfl) (fun _ _ _ h => h) (Or.inl ⟨by rfl, ?_⟩) (by assumption) ?_
    rotate_left
    · (intro w hSw; (try dsimp only at hSw); go_simp; try with_reducible rfl)
    (try simp only [Act.put, List.setIfInBounds_toArray, List.set_cons_zero, List.set_cons_succ])
    refine wpAnyH_take (i := 29) (oi := { dst := some 77, op := Op.move (Operand.tmp 1), type := 22, pos := "law.go:64", after := #[{ on := 27, ground := Ground.guard }], guard := some (27, true) }) (v := ?_) rfl (by kernel_rfl) (by kernel_rfl) (by kernel_rfl) (fun _ _ _ h => h) (Or.inl ⟨by rfl, ?_⟩) (by assumption) ?_
    rotate_left
    · (intro w hSw; (try dsimp only at hSw); go_simp; try with_reducible rfl)
    (try simp only [Act.put, List.setIfInBounds_toArray, List.set_cons_zero, List.set_cons_succ])
    refine wpAnyH_take (i := 31) (oi := { dst := some 79, op := Op.move (Operand.tmp 11), type := 4, pos := "law.go:64", after := #[{ on := 27, ground := Ground.guard }], guard := some (27, true) }) (v := ?_) rfl (by kernel_rfl) (by kernel_rfl) (by kernel_rfl) (fun _ _ _ h => h) (Or.inl ⟨by rfl, ?_⟩) (by assumption) ?_
    rotate_left
    · (intro w hSw; (try dsimp only at hSw); go_simp; try with_reducible rfl)
    (try simp only [Act.put, List.setIfInBounds_toArray, List.set_cons_zero, List.set_cons_succ])
    refine wpAnyH_ready (rs := [30]) (by kernel_rfl) (by simp) ?_
    refine AllReadyH.cons (o := { dst := some 78, op := Op.call { callee := Callee.value (Operand.func 24), args := #[Operand.tmp 76, Operand.tmp 77], argTypes := #[22, 22] }, type := 4, pos := "law.go:64", after := #[{ on := 28, ground := Ground.data }, { on := 29, ground := Ground.data }, { on := 27, ground := Ground.chain }, { on := 27, ground := Ground.guard }], guard := some (27, true) }) rfl (fun K hK => ?_) AllReadyH.nil
    go_simp
    (refine (bits_Same.calls ks A0 c0 l0 A1 c1 l1 false _ (Kd.C_below HR0.out (Rg.below (S_rg (by assumption)) HB6.out (by omega))) HC0.out (Kd.C_below HR1.out (Rg.below (S_rg (by assumption)) HB6.out (by omega))) HC1.out HSA.out).mono ?_; rintro e w' ⟨rfl, hbs⟩)
    refine hK.out _ _ ((by first | exact HS.out _ HRG.out | exact HS.out _ (Rg.call2 (by assumption) (S_rg (by assumption))) | exact HS.out _ (Rg.store (S_rg (by assumption)) _))) (fun hHeld => ?_)
    clear hK K
    (try simp only [Act.put, List.setIfInBounds_toArray, List.set_cons_zero, List.set_cons_succ])
    refine wpAnyH_take (i := 32) (oi := { dst := some 80, op := Op.move (Operand.tmp 79), type := 4, pos := "law.go:64", after := #[{ on := 31, ground := Ground.data }, { on := 30, ground := Ground.chain }, { on := 27, ground := Ground.guard }], guard := some (27, true) }) (v := ?_) rfl (by kernel_rfl) (by kernel_rfl) (by kernel_rfl) (fun _ _ _ h => h) (Or.inl ⟨by rfl, ?_⟩) (by assumption) ?_
    rotate_left
    · (intro w hSw; (try dsimp only at hSw); go_simp; try with_reducible rfl)
    (try simp only [Act.put, List.setIfInBounds_toArray, List.set_cons_zero, List.set_cons_succ])
    refine wpAnyH_take (i := 33) (oi := { dst := some 81, op := Op.move (Operand.tmp 1), type := 22, pos := "law.go:64", after := #[{ on := 32, ground := Ground.guard }], guard := some (32, true) }) (v := undef) rfl (by kernel_rfl) (by kernel_rfl) (by kernel_rfl) (fun _ _ _ h => h) (Or.inr ⟨by rfl, rfl⟩) (by assumption) ?_
    (try simp only [Act.put, List.setIfInBounds_toArray, List.set_cons_zero, List.set_cons_succ])
    refine wpAnyH_take (i := 34) (oi := { dst := some 82, op := Op.move (Operand.tmp 0), type := 22, pos := "law.go:64", after := #[{ on := 32, ground := Ground.guard }], guard := some (32, true) }) (v := undef) rfl (by kernel_rfl) (by kernel_rfl) (by kernel_rfl) (fun _ _ _ h => h) (Or.inr ⟨by rfl, rfl⟩) (by assumption) ?_
    (try simp only [Act.put, List.setIfInBounds_toArray, List.set_cons_zero, List.set_cons_succ])
    refine wpAnyH_ready (rs := [35]) (by kernel_rfl) (by simp) ?_
    refine AllReadyH.cons (o := { dst := some 83, op := Op.call { callee := Callee.value (Operand.func 19), args := #[Operand.tmp 81, Operand.tmp 82], argTypes := #[22, 22] }, type := 22, pos := "law.go:64", after := #[{ on := 33, ground := Ground.data }, { on := 34, ground := Ground.data }, { on := 32, ground := Ground.chain }, { on := 32, ground := Ground.guard }], guard := some (32, true) }) rfl (fun K hK => ?_) AllReadyH.nil
    go_simp
    refine hK.out _ _ (by assumption) (fun hHeld => ?_)
    clear hK K
    (try simp only [Act.put, List.setIfInBounds_toArray, List.set_cons_zero, List.set_cons_succ])
    refine wpAnyH_take (i := 36) (oi := { dst := some 84, op := Op.call { callee := Callee.builtin Builtin.len, args := #[Operand.tmp 83], argTypes := #[22] }, type := 3, pos := "law.go:64", after := #[{ on := 35, ground := Ground.data }, { on := 32, ground := Ground.guard }], guard := some (32, true) }) (v := undef) rfl (by kernel_rfl) (by kernel_rfl) (by kernel_rfl) (fun _ _ _ h => h) (Or.inr ⟨by rfl, rfl⟩) (by assumption) ?_
    (try simp only [Act.put, List.setIfInBounds_toArray, List.set_cons_zero, List.set_cons_succ])
    refine wpAnyH_take (i := 37) (oi := { dst := some 85, op := Op.binOp BinOp.eql 3 (Operand.tmp 84) (Operand.const (Value.int IntKind.i64 0)) 3, type := 4, pos := "law.go:64", after := #[{ on := 36, ground := Ground.data }, { on := 32, ground := Ground.guard }], guard := some (32, true) }) (v := undef) rfl (by kernel_rfl) (by kernel_rfl) (by kernel_rfl) (fun _ _ _ h => h) (Or.inr ⟨by rfl, rfl⟩) (by assumption) ?_
    (try simp only [Act.put, List.setIfInBounds_toArray, List.set_cons_zero, List.set_cons_succ])
    refine wpAnyH_take (i := 38) (oi := { dst := some 86, op := Op.pick (Operand.tmp 80) (Operand.tmp 85) (Operand.const (Value.bool false)), type := 4, pos := "law.go:64", after := #[{ on := 32, ground := Ground.data }, { on := 37, ground := Ground.data }, { on := 27, ground := Ground.guard }], guard := some (27, true) }) (v := ?_) rfl (by kernel_rfl) (by kernel_rfl) (by kernel_rfl) (fun _ _ _ h => h) (Or.inl ⟨by rfl, ?_⟩) (by assumption) ?_
    rotate_left
    · (intro w hSw; (try dsimp only at hSw); go_simp; try with_reducible rfl)
    (try simp only [Act.put, List.setIfInBounds_toArray, List.set_cons_zero, List.set_cons_succ])
    refine wpAnyH_take (i := 39) (oi := { dst := some 87, op := Op.binOp BinOp.eql 4 (Operand.tmp 78) (Operand.tmp 86) 4, type := 4, pos := "law.go:64", after := #[{ on := 30, ground := Ground.data }, { on := 38, ground := Ground.data }, { on := 27, ground := Ground.guard }], guard := some (27, true) }) (v := ?_) rfl (by kernel_rfl) (by kernel_rfl) (by kernel_rfl) (fun _ _ _ h => h) (Or.inl ⟨by rfl, ?_⟩) (by assumption) ?_
    rotate_left
    · (intro w hSw; (try dsimp only at hSw); go_simp; try with_reducible rfl)
    (try simp only [Act.put, List.setIfInBounds_toArray, List.set_cons_zero, List.set_cons_succ])
    refine wpAnyH_take (i := 40) (oi := { dst := some 88, op := Op.pick (Operand.tmp 75) (Operand.tmp 87) (Operand.const (Value.bool false)), type := 4, pos := "law.go:64", after := #[{ on := 27, ground := Ground.data }, { on := 39, ground := Ground.data }], guard := none }) (v := ?_) rfl (by kernel_rfl) (by kernel_rfl) (by kernel_rfl) (fun _ _ _ h => h) (Or.inl ⟨by rfl, ?_⟩) (by assumption) ?_
    rotate_left
    · (intro w hSw; (try dsimp only at hSw); go_simp; try with_reducible rfl)
    (try simp only [Act.put, List.setIfInBounds_toArray, List.set_cons_zero, List.set_cons_succ])
    refine wpAnyH_take (i := 41) (oi := { dst := some 89, op := Op.move (Operand.tmp 88), type := 4, pos := "law.go:64", after := #[{ on := 40, ground := Ground.data }, { on := 35, ground := Ground.chain }], guard := none }) (v := ?_) rfl (by kernel_rfl) (by kernel_rfl) (by kernel_rfl) (fun _ _ _ h => h) (Or.inl ⟨by rfl, ?_⟩) (by assumption) ?_
    rotate_left
    · (intro w hSw; (try dsimp only at hSw); go_simp; try with_reducible rfl)
    (try simp only [Act.put, List.setIfInBounds_toArray, List.set_cons_zero, List.set_cons_succ])
    refine wpAnyH_ready (rs := [42]) (by kernel_rfl) (by simp) ?_
    refine AllReadyH.cons (o := { dst := some 90, op := Op.call { callee := Callee.value (Operand.func 16), args := #[], argTypes := #[] }, type := 4, pos := "law.go:64", after := #[{ on := 41, ground := Ground.chain }, { on := 41, ground := Ground.guard }], guard := some (41, true) }) rfl (fun K hK => ?_) AllReadyH.nil
    go_simp
    (refine (horariumlaw05_heads.calls k true _ HH.out).mono ?_; rintro e w' ⟨rfl, hbh⟩)
    refine hK.out _ _ ((by first | exact HS.out _ HRG.out | exact HS.out _ (Rg.call2 (by assumption) (S_rg (by assumption))) | exact HS.out _ (Rg.store (S_rg (by assumption)) _))) (fun hHeld => ?_)
    clear hK K
    (try simp only [Act.put, List.setIfInBounds_toArray, List.set_cons_zero, List.set_cons_succ])
    refine wpAnyH_take (i := 43) (oi := { dst := some 91, op := Op.pick (Operand.tmp 89) (Operand.tmp 90) (Operand.const (Value.bool false)), type := 4, pos := "law.go:64", after := #[{ on := 41, ground := Ground.data }, { on := 42, ground := Ground.data }], guard := none }) (v := ?_) rfl (by kernel_rfl) (by kernel_rfl) (by kernel_rfl) (fun _ _ _ h => h) (Or.inl ⟨by rfl, ?_⟩) (by assumption) ?_
    rotate_left
    · (intro w hSw; (try dsimp only at hSw); go_simp; try with_reducible rfl)
    (try simp only [Act.put, List.setIfInBounds_toArray, List.set_cons_zero, List.set_cons_succ])
    refine wpAnyH_ready (rs := [44]) (by kernel_rfl) (by simp) ?_
    refine AllReadyH.cons (o := { dst := none, op := Op.store 4 (Operand.tmp 6) (Operand.tmp 91), type := 0, pos := "law.go:64", after := #[{ on := 43, ground := Ground.data }, { on := 42, ground := Ground.chain }, { on := 0, ground := Ground.phase }, { on := 1, ground := Ground.phase }, { on := 2, ground := Ground.phase }, { on := 3, ground := Ground.phase }, { on := 4, ground := Ground.phase }, { on := 5, ground := Ground.phase }, { on := 6, ground := Ground.phase }, { on := 7, ground := Ground.phase }, { on := 8, ground := Ground.phase }, { on := 9, ground := Ground.phase }, { on := 10, ground := Ground.phase }, { on := 11, ground := Ground.phase }, { on := 12, ground := Ground.phase }, { on := 13, ground := Ground.phase }, { on := 14, ground := Ground.phase }, { on := 15, ground := Ground.phase }, { on := 16, ground := Ground.phase }, { on := 17, ground := Ground.phase }, { on := 18, ground := Ground.phase }, { on := 19, ground := Ground.phase }, { on := 20, ground := Ground.phase }, { on := 21, ground := Ground.phase }, { on := 22, ground := Ground.phase }, { on := 23, ground := Ground.phase }, { on := 24, ground := Ground.phase }, { on := 25, ground := Ground.phase }, { on := 26, ground := Ground.phase }, { on := 27, ground := Ground.phase }, { on := 28, ground := Ground.phase }, { on := 29, ground := Ground.phase }, { on := 30, ground := Ground.phase }, { on := 31, ground := Ground.phase }, { on := 32, ground := Ground.phase }, { on := 33, ground := Ground.phase }, { on := 34, ground := Ground.phase }, { on := 35, ground := Ground.phase }, { on := 36, ground := Ground.phase }, { on := 37, ground := Ground.phase }, { on := 38, ground := Ground.phase }, { on := 39, ground := Ground.phase }, { on := 40, ground := Ground.phase }, { on := 41, ground := Ground.phase }, { on := 42, ground := Ground.phase }, { on := 43, ground := Ground.phase }], guard := none }) rfl (fun K hK => ?_) AllReadyH.nil
    go_simp
    refine hK.out _ _ ((by first | exact HS.out _ HRG.out | exact HS.out _ (Rg.call2 (by assumption) (S_rg (by assumption))) | exact HS.out _ (Rg.store (S_rg (by assumption)) _))) (fun hHeld => ?_)
    clear hK K
    (try simp only [Act.put, List.setIfInBounds_toArray, List.set_cons_zero, List.set_cons_succ])
    refine wpAnyH_done (by kernel_rfl) ?_ _
    refine NoPanic.normal ?_
    have hfin := S_rg (w6 := w6) (g := w.heap.size + 1) (by assumption)
    have hres : Boxed (w'.setCell ⟨w.heap.size + 1, 0, none⟩ (.bool true)) (w.heap.size + 1) 4 (.bool true) := by
      obtain ⟨_, _, v, hv⟩ := hfin
      have := box_set hv
      rw [this] at hv; exact hv
    have hKf := (hfin.1.2 D (by have := lt_of_block HK.out; have := hb6.size; omega) (by simp at hD; omega)).trans ((hb6.block D (lt_of_block HK.out)).trans HK.out)
    have hBf := hfin.below HB6.out (by omega)
    gi_wp2
    refine ⟨by simp, .inl ⟨_, _, rfl, run_takeDeferred hKf, ?_⟩⟩
    have hcr := cell_kept hres.cell (grownBy_putObj' _ D (.deferred none)) (fun r e => by cases e; exact ⟨_, hKf, rfl⟩)
    refine ⟨.bool true, by simp [results, Try.results3, go_sem, hcr], rfl, hBf.trans (belowK_b (w := w) (Nat.le_refl _) _ D _ _ (by simp at hD; omega) hKf rfl rfl)⟩
  case stop =>
    rintro D c pre W hD hpre hx hK
    rw [Elems.from_sh, from_all l0 ha, HWA.out] at hpre
    rcases hx with ⟨rfl, p, x, rfl, hmp, hbox, hbel, hpm⟩ | ⟨rfl, hno⟩
    · have hle := hpre.length_le
      rw [List.length_append, List.length_singleton] at hle
      have hmin : (min m want.length : Nat) = p.length := by omega
      rw [← hmin] at hbox
      obtain ⟨r, hr⟩ : ∃ r, min m want.length = r := ⟨_, rfl⟩
      rw [hr] at hbox
      have HMN := Aside0.mk hr
      clear hr
      have HK := Aside0.mk hK
      clear hK hmin hpm
      have hB5 : Below w.heap.size w W := hB4.trans (hbel.mono (by omega))
      have bM5 : Boxed W w.heap.size 5 (.int .u8 m) := (hbel.block _ (by omega)).trans bM4
      have bR5 : Boxed W (w.heap.size + 1) 4 (.bool false) := (hbel.block _ (by omega)).trans bR4
      have bW5 : Boxed W w2.heap.size 25 (.slice Aw want.length cw) := (hbel.block _ (by omega)).trans bW4
      have HC5 := Aside0.mk (Kd.C_below HCW4.out hbel)
      gi_wp2_with fail
      refine ⟨trivial, callsIn_wide.2 ((horariumref05_Less.calls kl A0 c0 l0 A1 c1 l1 lab _ (Kd.C_below HR0.out hB5) HC0.out (Kd.C_below HR1.out hB5) HC1.out HLAB.out).mono ?_)⟩
      rintro e w6 ⟨v6, rfl, hR6, hb6⟩
      obtain ⟨A6, c6, rfl, _, _⟩ := Kd.R_reads hR6
      clear hR6
      have bM6 : Boxed w6 w.heap.size 5 (.int .u8 m) := (hb6.block _ bM5.lt).trans bM5
      have bR6 : Boxed w6 (w.heap.size + 1) 4 (.bool false) := (hb6.block _ bR5.lt).trans bR5
      have bW6 : Boxed w6 w2.heap.size 25 (.slice Aw want.length cw) := (hb6.block _ bW5.lt).trans bW5
      have bN6 : Boxed w6 w4.heap.size 3 (.int .i64 (r : Int)) := (hb6.block _ hbox.lt).trans hbox
      have hB6 : Below w.heap.size w w6 := hB5.trans (hb6.mono hB5.size)
      have hS : ∀ w', Rg w6 (w.heap.size + 1) w' → _ := fun w' h => S_mk (w0 := 0) bN6 bM6 bW6 (by omega) (by omega) (by omega) h
      have HS := Aside0.mk hS
      have HRG := Aside0.mk (Rg.start bR6)
      have HB6 := Aside0.mk hB6
      have HC6 := Aside0.mk (Kd.C_below HC5.out hb6)
      clear bM5 bR5 bW5 hbox hS bM6 bR6 bW6 bN6 hB6
      have hin1 : ((lab.length : Int) == 0) = false := hlab0 lab hNab
      gi_wp2
      refine wpIn_wide.2 ?_
      obtain ⟨kn, hkn⟩ := (inside_f l0 l1 lab ha hb (by omega) hNab).rounds
      have HIN := Aside0.mk hkn
      obtain ⟨ks, hks⟩ := (same_f l0 l1 lab lba ha hb (by omega) (by omega) hNab hNba).rounds
      rw [hin1, Bool.false_and] at hks
      rw [hin1] at HIN
      have HSA := Aside0.mk hks
      clear hkn hks
      have hm1 : IntKind.i64.wrap (m : Int) = (m : Int) := by rw [IntKind.wrap_i64]; omega
      have hm2 : (if (want.length : Int) < (m : Int) then (want.length : Int) else (m : Int)) = (r : Int) := by have := HMN.out; split <;> omega
      have hm3 : (if want.length < m then (want.length : Int) else (m : Int)) = (r : Int) := by have := HMN.out; split <;> omega
      refine wp_region_noPanic ?_
      refine wp_region_held_drew (S := (fun w' => w'.cell? ⟨w4.heap.size, 0, none⟩ = some (.int .i64 (r : Int)) ∧ w'.cell? ⟨w.heap.size, 0, none⟩ = some (.int .u8 m) ∧ w'.cell? ⟨w2.heap.size, 0, none⟩ = some (.slice Aw want.length cw) ∧ w'.cell? ⟨w.heap.size + 1, 0, none⟩ = some (resV (w.heap.size + 1) w') ∧ w'.frozen? ⟨w.heap.size + 1, 0, none⟩ = false ∧ Aside0 (Rg w6 (w.heap.size + 1) w'))) (by kernel_rfl) (by first | exact HS.out _ HRG.out | exact HS.out _ (Rg.call2 (by assumption) (S_rg (by assumption))) | exact HS.out _ (Rg.store (S_rg (by assumption)) _)) (fun hHeld => ?_)
      refine wpAnyH_take (i := 0) (oi := { dst := some 48, op := Op.load 3 (Operand.tmp 9), type := 3, pos := "law.go:64", after := #[], guard := none }) (v := ?_) rfl (by kernel_rfl) (by kernel_rfl) (by kernel_rfl) (fun _ _ _ h => h) (Or.inl ⟨by rfl, ?_⟩) (by assumption) ?_
      rotate_left
      · (intro w hSw; (try dsimp only at hSw); go_simp; try with_reducible rfl)
      (try simp only [Act.put, List.setIfInBounds_toArray, List.set_cons_zero, List.set_cons_succ])
      refine wpAnyH_take (i := 1) (oi := { dst := some 49, op := Op.load 5 (Operand.tmp 5), type := 5, pos := "law.go:64", after := #[], guard := none }) (v := ?_) rfl (by kernel_rfl) (by kernel_rfl) (by kernel_rfl) (fun _ _ _ h => h) (Or.inl ⟨by rfl, ?_⟩) (by assumption) ?_
      rotate_left
      · (intro w hSw; (try dsimp only at hSw); go_simp; try with_reducible rfl)
      (try simp only [Act.put, List.setIfInBounds_toArray, List.set_cons_zero, List.set_cons_succ])
      refine wpAnyH_take (i := 2) (oi := { dst := some 50, op := Op.convert 5 3 (Operand.tmp 49), type := 3, pos := "law.go:64", after := #[{ on := 1, ground := Ground.data }], guard := none }) (v := ?_) rfl (by kernel_rfl) (by kernel_rfl) (by kernel_rfl) (fun _ _ _ h => h) (Or.inl ⟨by rfl, ?_⟩) (by assumption) ?_
      rotate_left
      · (intro w hSw; (try dsimp only at hSw); go_simp; try with_reducible rfl)
      (try simp only [Act.put, List.setIfInBounds_toArray, List.set_cons_zero, List.set_cons_succ])
      refine wpAnyH_take (i := 3) (oi := { dst := some 51, op := Op.load 25 (Operand.tmp 7), type := 25, pos := "law.go:64", after := #[], guard := none }) (v := ?_) rfl (by kernel_rfl) (by kernel_rfl) (by kernel_rfl) (fun _ _ _ h => h) (Or.inl ⟨by rfl, ?_⟩) (by assumption) ?_
      rotate_left
      · (intro w hSw; (try dsimp only at hSw); go_simp; try with_reducible rfl)
      (try simp only [Act.put, List.setIfInBounds_toArray, List.set_cons_zero, List.set_cons_succ])
      refine wpAnyH_take (i := 4) (oi := { dst := some 52, op := Op.call { callee := Callee.builtin Builtin.len, args := #[Operand.tmp 51], argTypes := #[25] }, type := 3, pos := "law.go:64", after := #[{ on := 3, ground := Ground.data }], guard := none }) (v := ?_) rfl (by kernel_rfl) (by kernel_rfl) (by kernel_rfl) (fun _ _ _ h => h) (Or.inl ⟨by rfl, ?_⟩) (by assumption) ?_
      rotate_left
      · (intro w hSw; (try dsimp only at hSw); go_simp; try with_reducible rfl)
      (try simp only [Act.put, List.setIfInBounds_toArray, List.set_cons_zero, List.set_cons_succ])
      refine wpAnyH_ready (rs := [5]) (by kernel_rfl) (by simp) ?_
      refine AllReadyH.cons (o := { dst := some 53, op := Op.call { callee := Callee.builtin Builtin.min, args := #[Operand.tmp 50, Operand.tmp 52], argTypes := #[3, 3] }, type := 3, pos := "law.go:64", after := #[{ on := 2, ground := Ground.data }, { on := 4, ground := Ground.data }], guard := none }) rfl (fun K hK => ?_) AllReadyH.nil
      go_simp
      refine hK.out _ _ ((by first | exact HS.out _ HRG.out | exact HS.out _ (Rg.call2 (by assumption) (S_rg (by assumption))) | exact HS.out _ (Rg.store (S_rg (by assumption)) _))) (fun hHeld => ?_)
      clear hK K
      (try simp only [Act.put, List.setIfInBounds_toArray, List.set_cons_zero, List.set_cons_succ])
      refine wpAnyH_take (i := 6) (oi := { dst := some 54, op := Op.binOp BinOp.eql 3 (Operand.tmp 48) (Operand.tmp 53) 3, type := 4, pos := "law.go:64", after := #[{ on := 0, ground := Ground.data }, { on := 5, ground := Ground.data }], guard := none }) (v := ?_) rfl (by kernel_rfl) (by kernel_rfl) (by kernel_rfl) (fun _ _ _ h => h) (Or.inl ⟨by rfl, ?_⟩) (by assumption) ?_
      rotate_left
      · (intro w hSw; (try dsimp only at hSw); go_simp; try with_reducible rfl)
      (try simp only [Act.put, List.setIfInBounds_toArray, List.set_cons_zero, List.set_cons_succ])
      refine wpAnyH_take (i := 7) (oi := { dst := some 55, op := Op.move (Operand.tmp 54), type := 4, pos := "law.go:64", after := #[{ on := 6, ground := Ground.data }], guard := none }) (v := ?_) rfl (by kernel_rfl) (by kernel_rfl) (by kernel_rfl) (fun _ _ _ h => h) (Or.inl ⟨by rfl, ?_⟩) (by assumption) ?_
      rotate_left
      · (intro w hSw; (try dsimp only at hSw); go_simp; try with_reducible rfl)
      (try simp only [Act.put, List.setIfInBounds_toArray, List.set_cons_zero, List.set_cons_succ])
      refine wpAnyH_take (i := 8) (oi := { dst := some 56, op := Op.move (Operand.tmp 0), type := 22, pos := "law.go:64", after := #[{ on := 7, ground := Ground.guard }], guard := some (7, true) }) (v := ?_) rfl (by kernel_rfl) (by kernel_rfl) (by kernel_rfl) (fun _ _ _ h => h) (Or.inl ⟨by rfl, ?_⟩) (by assumption) ?_
      rotate_left
      · (intro w hSw; (try dsimp only at hSw); go_simp; try with_reducible rfl)
      (try simp only [Act.put, List.setIfInBounds_toArray, List.set_cons_zero, List.set_cons_succ])
      refine wpAnyH_take (i := 10) (oi := { dst := some 58, op := Op.load 25 (Operand.tmp 7), type := 25, pos := "law.go:64", after := #[{ on := 7, ground := Ground.guard }], guard := some (7, true) }) (v := ?_) rfl (by kernel_rfl) (by kernel_rfl) (by kernel_rfl) (fun _ _ _ h => h) (Or.inl ⟨by rfl, ?_⟩) (by assumption) ?_
      rotate_left
      · (intro w hSw; (try dsimp only at hSw); go_simp; try with_reducible rfl)
      (try simp only [Act.put, List.setIfInBounds_toArray, List.set_cons_zero, List.set_cons_succ])
      refine wpAnyH_ready (rs := [9]) (by kernel_rfl) (by simp) ?_
      refine AllReadyH.cons (o := { dst := some 57, op := Op.call { callee := Callee.value (Operand.func 21), args := #[Operand.tmp 56], argTypes := #[22] }, type := 25, pos := "law.go:64", after := #[{ on := 8, ground := Ground.data }, { on := 7, ground := Ground.chain }, { on := 7, ground := Ground.guard }], guard := some (7, true) }) rfl (fun K hK => ?_) AllReadyH.nil
      go_simp
      (refine (bits_List.calls A0 c0 l0 want _ (Kd.C_below HR0.out (Rg.below (S_rg (by assumption)) HB6.out (by omega))) HC0.out HLF.out).mono ?_; rintro e w' ⟨vl, rfl, hRl, hbl⟩; obtain ⟨Al, cl, rfl, hcl, hCl⟩ := Kd.R_reads hRl; have HCL := Aside0.mk hCl; clear hCl hRl)
      refine hK.out _ _ ((by first | exact HS.out _ HRG.out | exact HS.out _ (Rg.call2 (by assumption) (S_rg (by assumption))) | exact HS.out _ (Rg.store (S_rg (by assumption)) _))) (fun hHeld => ?_)
      clear hK K
      (try simp only [Act.put, List.setIfInBounds_toArray, List.set_cons_zero, List.set_cons_succ])
      refine wpAnyH_ready (rs := [11]) (by kernel_rfl) (by simp) ?_
      refine AllReadyH.cons (o := { dst := some 59, op := Op.call { callee := Callee.value (Operand.func 20), args := #[Operand.tmp 57, Operand.tmp 58], argTypes := #[25, 25] }, type := 4, pos := "law.go:64", after := #[{ on := 9, ground := Ground.data }, { on := 10, ground := Ground.data }, { on := 9, ground := Ground.chain }, { on := 7, ground := Ground.guard }], guard := some (7, true) }) rfl (fun K hK => ?_) AllReadyH.nil
      go_simp
      (refine (horariumref03_Ints.calls ki Al cl want Aw cw want true _ HCL.out hcl (Kd.C_keep (0 : Int) HC6.out (Rg.keep (S_rg (by assumption))) HAW.out) HCWC.out HINT.out).mono ?_; rintro e w' ⟨rfl, hdi⟩; have hbi := hdi.below; clear hdi)
      refine hK.out _ _ ((by first | exact HS.out _ HRG.out | exact HS.out _ (Rg.call2 (by assumption) (S_rg (by assumption))) | exact HS.out _ (Rg.store (S_rg (by assumption)) _))) (fun hHeld => ?_)
      clear hK K
      (try simp only [Act.put, List.setIfInBounds_toArray, List.set_cons_zero, List.set_cons_succ])
      refine wpAnyH_take (i := 12) (oi := { dst := some 60, op := Op.pick (Operand.tmp 55) (Operand.tmp 59) (Operand.const (Value.bool false)), type := 4, pos := "law.go:64", after := #[{ on := 7, ground := Ground.data }, { on := 11, ground := Ground.data }], guard := none }) (v := ?_) rfl (by kernel_rfl) (by kernel_rfl) (by kernel_rfl) (fun _ _ _ h => h) (Or.inl ⟨by rfl, ?_⟩) (by assumption) ?_
      rotate_left
      · (intro w hSw; (try dsimp only at hSw); go_simp; try with_reducible rfl)
      (try simp only [Act.put, List.setIfInBounds_toArray, List.set_cons_zero, List.set_cons_succ])
      refine wpAnyH_take (i := 13) (oi := { dst := some 61, op := Op.move (Operand.tmp 60), type := 4, pos := "law.go:64", after := #[{ on := 12, ground := Ground.data }, { on := 11, ground := Ground.chain }], guard := none }) (v := ?_) rfl (by kernel_rfl) (by kernel_rfl) (by kernel_rfl) (fun _ _ _ h => h) (Or.inl ⟨by rfl, ?_⟩) (by assumption) ?_
      rotate_left
      · (intro w hSw; (try dsimp only at hSw); go_simp; try with_reducible rfl)
      (try simp only [Act.put, List.setIfInBounds_toArray, List.set_cons_zero, List.set_cons_succ])
      refine wpAnyH_take (i := 14) (oi := { dst := some 62, op := Op.move (Operand.tmp 0), type := 22, pos := "law.go:64", after := #[{ on := 13, ground := Ground.guard }], guard := some (13, true) }) (v := ?_) rfl (by kernel_rfl) (by kernel_rfl) (by kernel_rfl) (fun _ _ _ h => h) (Or.inl ⟨by rfl, ?_⟩) (by assumption) ?_
      rotate_left
      · (intro w hSw; (try dsimp only at hSw); go_simp; try with_reducible rfl)
      (try simp only [Act.put, List.setIfInBounds_toArray, List.set_cons_zero, List.set_cons_succ])
      refine wpAnyH_take (i := 16) (oi := { dst := some 64, op := Op.load 25 (Operand.tmp 7), type := 25, pos := "law.go:64", after := #[{ on := 13, ground := Ground.guard }], guard := some (13, true) }) (v := ?_) rfl (by kernel_rfl) (by kernel_rfl) (by kernel_rfl) (fun _ _ _ h => h) (Or.inl ⟨by rfl, ?_⟩) (by assumption) ?_
      rotate_left
      · (intro w hSw; (try dsimp only at hSw); go_simp; try with_reducible rfl)
      (try simp only [Act.put, List.setIfInBounds_toArray, List.set_cons_zero, List.set_cons_succ])
      refine wpAnyH_take (i := 17) (oi := { dst := some 65, op := Op.call { callee := Callee.builtin Builtin.len, args := #[Operand.tmp 64], argTypes := #[25] }, type := 3, pos := "law.go:64", after := #[{ on := 16, ground := Ground.data }, { on := 13, ground := Ground.guard }], guard := some (13, true) }) (v := ?_) rfl (by kernel_rfl) (by kernel_rfl) (by kernel_rfl) (fun _ _ _ h => h) (Or.inl ⟨by rfl, ?_⟩) (by assumption) ?_
      rotate_left
      · (intro w hSw; (try dsimp only at hSw); go_simp; try with_reducible rfl)
      (try simp only [Act.put, List.setIfInBounds_toArray, List.set_cons_zero, List.set_cons_succ])
      refine wpAnyH_ready (rs := [15]) (by kernel_rfl) (by simp) ?_
      refine AllReadyH.cons (o := { dst := some 63, op := Op.call { callee := Callee.value (Operand.func 22), args := #[Operand.tmp 62], argTypes := #[22] }, type := 3, pos := "law.go:64", after := #[{ on := 14, ground := Ground.data }, { on := 13, ground := Ground.chain }, { on := 13, ground := Ground.guard }], guard := some (13, true) }) rfl (fun K hK => ?_) AllReadyH.nil
      go_simp
      (refine (bits_Count.calls A0 c0 l0 (want.length : Int) _ (Kd.C_below HR0.out (Rg.below (S_rg (by assumption)) HB6.out (by omega))) HC0.out HCF.out).mono ?_; rintro e w' ⟨rfl, hbc⟩)
      refine hK.out _ _ ((by first | exact HS.out _ HRG.out | exact HS.out _ (Rg.call2 (by assumption) (S_rg (by assumption))) | exact HS.out _ (Rg.store (S_rg (by assumption)) _))) (fun hHeld => ?_)
      clear hK K
      (try simp only [Act.put, List.setIfInBounds_toArray, List.set_cons_zero, List.set_cons_succ])
      refine wpAnyH_take (i := 18) (oi := { dst := some 66, op := Op.binOp BinOp.eql 3 (Operand.tmp 63) (Operand.tmp 65) 3, type := 4, pos := "law.go:64", after := #[{ on := 15, ground := Ground.data }, { on := 17, ground := Ground.data }, { on := 13, ground := Ground.guard }], guard := some (13, true) }) (v := ?_) rfl (by kernel_rfl) (by kernel_rfl) (by kernel_rfl) (fun _ _ _ h => h) (Or.inl ⟨by rfl, ?_⟩) (by assumption) ?_
      rotate_left
      · (intro w hSw; (try dsimp only at hSw); go_simp; try with_reducible rfl)
      (try simp only [Act.put, List.setIfInBounds_toArray, List.set_cons_zero, List.set_cons_succ])
      refine wpAnyH_take (i := 19) (oi := { dst := some 67, op := Op.pick (Operand.tmp 61) (Operand.tmp 66) (Operand.const (Value.bool false)), type := 4, pos := "law.go:64", after := #[{ on := 13, ground := Ground.data }, { on := 18, ground := Ground.data }], guard := none }) (v := ?_) rfl (by kernel_rfl) (by kernel_rfl) (by kernel_rfl) (fun _ _ _ h => h) (Or.inl ⟨by rfl, ?_⟩) (by assumption) ?_
      rotate_left
      · (intro w hSw; (try dsimp only at hSw); go_simp; try with_reducible rfl)
      (try simp only [Act.put, List.setIfInBounds_toArray, List.set_cons_zero, List.set_cons_succ])
      refine wpAnyH_take (i := 20) (oi := { dst := some 68, op := Op.move (Operand.tmp 67), type := 4, pos := "law.go:64", after := #[{ on := 19, ground := Ground.data }, { on := 15, ground := Ground.chain }], guard := none }) (v := ?_) rfl (by kernel_rfl) (by kernel_rfl) (by kernel_rfl) (fun _ _ _ h => h) (Or.inl ⟨by rfl, ?_⟩) (by assumption) ?_
      rotate_left
      · (intro w hSw; (try dsimp only at hSw); go_simp; try with_reducible rfl)
      (try simp only [Act.put, List.setIfInBounds_toArray, List.set_cons_zero, List.set_cons_succ])
      refine wpAnyH_take (i := 21) (oi := { dst := some 69, op := Op.move (Operand.tmp 0), type := 22, pos := "law.go:64", after := #[{ on := 20, ground := Ground.guard }], guard := some (20, true) }) (v := ?_) rfl (by kernel_rfl) (by kernel_rfl) (by kernel_rfl) (fun _ _ _ h => h) (Or.inl ⟨by rfl, ?_⟩) (by assumption) ?_
      rotate_left
      · (intro w hSw; (try dsimp only at hSw); go_simp; try with_reducible rfl)
      (try simp only [Act.put, List.setIfInBounds_toArray, List.set_cons_zero, List.set_cons_succ])
      refine wpAnyH_take (i := 22) (oi := { dst := some 70, op := Op.move (Operand.tmp 1), type := 22, pos := "law.go:64", after := #[{ on := 20, ground := Ground.guard }], guard := some (20, true) }) (v := ?_) rfl (by kernel_rfl) (by kernel_rfl) (by kernel_rfl) (fun _ _ _ h => h) (Or.inl ⟨by rfl, ?_⟩) (by assumption) ?_
      rotate_left
      · (intro w hSw; (try dsimp only at hSw); go_simp; try with_reducible rfl)
      (try simp only [Act.put, List.setIfInBounds_toArray, List.set_cons_zero, List.set_cons_succ])
      refine wpAnyH_take (i := 24) (oi := { dst := some 72, op := Op.move (Operand.tmp 11), type := 4, pos := "law.go:64", after := #[{ on := 20, ground := Ground.guard }], guard := some (20, true) }) (v := ?_) rfl (by kernel_rfl) (by kernel_rfl) (by kernel_rfl) (fun _ _ _ h => h) (Or.inl ⟨by rfl, ?_⟩) (by assumption) ?_
      rotate_left
      · (intro w hSw; (try dsimp only at hSw); go_simp; try with_reducible rfl)
      (try simp only [Act.put, List.setIfInBounds_toArray, List.set_cons_zero, List.set_cons_succ])
      refine wpAnyH_ready (rs := [23]) (by kernel_rfl) (by simp) ?_
      refine AllReadyH.cons (o := { dst := some 71, op := Op.call { callee := Callee.value (Operand.func 23), args := #[Operand.tmp 69, Operand.tmp 70], argTypes := #[22, 22] }, type := 4, pos := "law.go:64", after := #[{ on := 21, ground := Ground.data }, { on := 22, ground := Ground.data }, { on := 20, ground := Ground.chain }, { on := 20, ground := Ground.guard }], guard := some (20, true) }) rfl (fun K hK => ?_) AllReadyH.nil
      go_simp
      (refine (bits_Inside.calls kn A0 c0 l0 A1 c1 l1 false _ (Kd.C_below HR0.out (Rg.below (S_rg (by assumption)) HB6.out (by omega))) HC0.out (Kd.C_below HR1.out (Rg.below (S_rg (by assumption)) HB6.out (by omega))) HC1.out HIN.out).mono ?_; rintro e w' ⟨rfl, hbn⟩)
      refine hK.out _ _ ((by first | exact HS.out _ HRG.out | exact HS.out _ (Rg.call2 (by assumption) (S_rg (by assumption))) | exact HS.out _ (Rg.store (S_rg (by assumption)) _))) (fun hHeld => ?_)
      clear hK K
      (try simp only [Act.put, List.setIfInBounds_toArray, List.set_cons_zero, List.set_cons_succ])
      refine wpAnyH_take (i := 25) (oi := { dst := some 73, op := Op.binOp BinOp.eql 4 (Operand.tmp 71) (Operand.tmp 72) 4, type := 4, pos := "law.go:64", after := #[{ on := 23, ground := Ground.data }, { on := 24, ground := Ground.data }, { on := 20, ground := Ground.guard }], guard := some (20, true) }) (v := ?_) rfl (by kernel_rfl) (by kernel_rfl) (by kernel_rfl) (fun _ _ _ h => h) (Or.inl ⟨by rfl, ?_⟩) (by assumption) ?_
      rotate_left
      · (intro w hSw; (try dsimp only at hSw); go_simp; try with_reducible rfl)
      (try simp only [Act.put, List.setIfInBounds_toArray, List.set_cons_zero, List.set_cons_succ])
      refine wpAnyH_take (i := 26) (oi := { dst := some 74, op := Op.pick (Operand.tmp 68) (Operand.tmp 73) (Operand.const (Value.bool false)), type := 4, pos := "law.go:64", after := #[{ on := 20, ground := Ground.data }, { on := 25, ground := Ground.data }], guard := none }) (v := ?_) rfl (by kernel_rfl) (by kernel_rfl) (by kernel_rfl) (fun _ _ _ h => h) (Or.inl ⟨by rfl, ?_⟩) (by assumption) ?_
      rotate_left
      · (intro w hSw; (try dsimp only at hSw); go_simp; try with_reducible rfl)
      (try simp only [Act.put, List.setIfInBounds_toArray, List.set_cons_zero, List.set_cons_succ])
      refine wpAnyH_take (i := 27) (oi := { dst := some 75, op := Op.move (Operand.tmp 74), type := 4, pos := "law.go:64", after := #[{ on := 26, ground := Ground.data }, { on := 23, ground := Ground.chain }], guard := none }) (v := ?_) rfl (by kernel_rfl) (by kernel_rfl) (by kernel_rfl) (fun _ _ _ h => h) (Or.inl ⟨by rfl, ?_⟩) (by assumption) ?_
      rotate_left
      · (intro w hSw; (try dsimp only at hSw); go_simp; try with_reducible rfl)
      (try simp only [Act.put, List.setIfInBounds_toArray, List.set_cons_zero, List.set_cons_succ])
      refine wpAnyH_take (i := 28) (oi := { dst := some 76, op := Op.move (Operand.tmp 0), type := 22, pos := "law.go:64", after := #[{ on := 27, ground := Ground.guard }], guard := some (27, true) }) (v := ?_) rfl (by kernel_rfl) (by kernel_rfl) (by kernel_rfl) (fun _ _ _ h => h) (Or.inl ⟨by rfl, ?_⟩) (by assumption) ?_
      rotate_left
      · (intro w hSw; (try dsimp only at hSw); go_simp; try with_reducible rfl)
      (try simp only [Act.put, List.setIfInBounds_toArray, List.set_cons_zero, List.set_cons_succ])
      refine wpAnyH_take (i := 29) (oi := { dst := some 77, op := Op.move (Operand.tmp 1), type := 22, pos := "law.go:64", after := #[{ on := 27, ground := Ground.guard }], guard := some (27, true) }) (v := ?_) rfl (by kernel_rfl) (by kernel_rfl) (by kernel_rfl) (fun _ _ _ h => h) (Or.inl ⟨by rfl, ?_⟩) (by assumption) ?_
      rotate_left
      · (intro w hSw; (try dsimp only at hSw); go_simp; try with_reducible rfl)
      (try simp only [Act.put, List.setIfInBounds_toArray, List.set_cons_zero, List.set_cons_succ])
      refine wpAnyH_take (i := 31) (oi := { dst := some 79, op := Op.move (Operand.tmp 11), type := 4, pos := "law.go:64", after := #[{ on := 27, ground := Ground.guard }], guard := some (27, true) }) (v := ?_) rfl (by kernel_rfl) (by kernel_rfl) (by kernel_rfl) (fun _ _ _ h => h) (Or.inl ⟨by rfl, ?_⟩) (by assumption) ?_
      rotate_left
      · (intro w hSw; (try dsimp only at hSw); go_simp; try with_reducible rfl)
      (try simp only [Act.put, List.setIfInBounds_toArray, List.set_cons_zero, List.set_cons_succ])
      refine wpAnyH_ready (rs := [30]) (by kernel_rfl) (by simp) ?_
      refine AllReadyH.cons (o := { dst := some 78, op := Op.call { callee := Callee.value (Operand.func 24), args := #[Operand.tmp 76, Operand.tmp 77], argTypes := #[22, 22] }, type := 4, pos := "law.go:64", after := #[{ on := 28, ground := Ground.data }, { on := 29, ground := Ground.data }, { on := 27, ground := Ground.chain }, { on := 27, ground := Ground.guard }], guard := some (27, true) }) rfl (fun K hK => ?_) AllReadyH.nil
      go_simp
      (refine (bits_Same.calls ks A0 c0 l0 A1 c1 l1 false _ (Kd.C_below HR0.out (Rg.below (S_rg (by assumption)) HB6.out (by omega))) HC0.out (Kd.C_below HR1.out (Rg.below (S_rg (by assumption)) HB6.out (by omega))) HC1.out HSA.out).mono ?_; rintro e w' ⟨rfl, hbs⟩)
      refine hK.out _ _ ((by first | exact HS.out _ HRG.out | exact HS.out _ (Rg.call2 (by assumption) (S_rg (by assumption))) | exact HS.out _ (Rg.store (S_rg (by assumption)) _))) (fun hHeld => ?_)
      clear hK K
      (try simp only [Act.put, List.setIfInBounds_toArray, List.set_cons_zero, List.set_cons_succ])
      refine wpAnyH_take (i := 32) (oi := { dst := some 80, op := Op.move (Operand.tmp 79), type := 4, pos := "law.go:64", after := #[{ on := 31, ground := Ground.data }, { on := 30, ground := Ground.chain }, { on := 27, ground := Ground.guard }], guard := some (27, true) }) (v := ?_) rfl (by kernel_rfl) (by kernel_rfl) (by kernel_rfl) (fun _ _ _ h => h) (Or.inl ⟨by rfl, ?_⟩) (by assumption) ?_
      rotate_left
      · (intro w hSw; (try dsimp only at hSw); go_simp; try with_reducible rfl)
      (try simp only [Act.put, List.setIfInBounds_toArray, List.set_cons_zero, List.set_cons_succ])
      refine wpAnyH_take (i := 33) (oi := { dst := some 81, op := Op.move (Operand.tmp 1), type := 22, pos := "law.go:64", after := #[{ on := 32, ground := Ground.guard }], guard := some (32, true) }) (v := undef) rfl (by kernel_rfl) (by kernel_rfl) (by kernel_rfl) (fun _ _ _ h => h) (Or.inr ⟨by rfl, rfl⟩) (by assumption) ?_
      (try simp only [Act.put, List.setIfInBounds_toArray, List.set_cons_zero, List.set_cons_succ])
      refine wpAnyH_take (i := 34) (oi := { dst := some 82, op := Op.move (Operand.tmp 0), type := 22, pos := "law.go:64", after := #[{ on := 32, ground := Ground.guard }], guard := some (32, true) }) (v := undef) rfl (by kernel_rfl) (by kernel_rfl) (by kernel_rfl) (fun _ _ _ h => h) (Or.inr ⟨by rfl, rfl⟩) (by assumption) ?_
      (try simp only [Act.put, List.setIfInBounds_toArray, List.set_cons_zero, List.set_cons_succ])
      refine wpAnyH_ready (rs := [35]) (by kernel_rfl) (by simp) ?_
      refine AllReadyH.cons (o := { dst := some 83, op := Op.call { callee := Callee.value (Operand.func 19), args := #[Operand.tmp 81, Operand.tmp 82], argTypes := #[22, 22] }, type := 22, pos := "law.go:64", after := #[{ on := 33, ground := Ground.data }, { on := 34, ground := Ground.data }, { on := 32, ground := Ground.chain }, { on := 32, ground := Ground.guard }], guard := some (32, true) }) rfl (fun K hK => ?_) AllReadyH.nil
      go_simp
      refine hK.out _ _ (by assumption) (fun hHeld => ?_)
      clear hK K
      (try simp only [Act.put, List.setIfInBounds_toArray, List.set_cons_zero, List.set_cons_succ])
      refine wpAnyH_take (i := 36) (oi := { dst := some 84, op := Op.call { callee := Callee.builtin Builtin.len, args := #[Operand.tmp 83], argTypes := #[22] }, type := 3, pos := "law.go:64", after := #[{ on := 35, ground := Ground.data }, { on := 32, ground := Ground.guard }], guard := some (32, true) }) (v := undef) rfl (by kernel_rfl) (by kernel_rfl) (by kernel_rfl) (fun _ _ _ h => h) (Or.inr ⟨by rfl, rfl⟩) (by assumption) ?_
      (try simp only [Act.put, List.setIfInBounds_toArray, List.set_cons_zero, List.set_cons_succ])
      refine wpAnyH_take (i := 37) (oi := { dst := some 85, op := Op.binOp BinOp.eql 3 (Operand.tmp 84) (Operand.const (Value.int IntKind.i64 0)) 3, type := 4, pos := "law.go:64", after := #[{ on := 36, ground := Ground.data }, { on := 32, ground := Ground.guard }], guard := some (32, true) }) (v := undef) rfl (by kernel_rfl) (by kernel_rfl) (by kernel_rfl) (fun _ _ _ h => h) (Or.inr ⟨by rfl, rfl⟩) (by assumption) ?_
      (try simp only [Act.put, List.setIfInBounds_toArray, List.set_cons_zero, List.set_cons_succ])
      refine wpAnyH_take (i := 38) (oi := { dst := some 86, op := Op.pick (Operand.tmp 80) (Operand.tmp 85) (Operand.const (Value.bool false)), type := 4, pos := "law.go:64", after := #[{ on := 32, ground := Ground.data }, { on := 37, ground := Ground.data }, { on := 27, ground := Ground.guard }], guard := some (27, true) }) (v := ?_) rfl (by kernel_rfl) (by kernel_rfl) (by kernel_rfl) (fun _ _ _ h => h) (Or.inl ⟨by rfl, ?_⟩) (by assumption) ?_
      rotate_left
      · (intro w hSw; (try dsimp only at hSw); go_simp; try with_reducible rfl)
      (try simp only [Act.put, List.setIfInBounds_toArray, List.set_cons_zero, List.set_cons_succ])
      refine wpAnyH_take (i := 39) (oi := { dst := some 87, op := Op.binOp BinOp.eql 4 (Operand.tmp 78) (Operand.tmp 86) 4, type := 4, pos := "law.go:64", after := #[{ on := 30, ground := Ground.data }, { on := 38, ground := Ground.data }, { on := 27, ground := Ground.guard }], guard := some (27, true) }) (v := ?_) rfl (by kernel_rfl) (by kernel_rfl) (by kernel_rfl) (fun _ _ _ h => h) (Or.inl ⟨by rfl, ?_⟩) (by assumption) ?_
      rotate_left
      · (intro w hSw; (try dsimp only at hSw); go_simp; try with_reducible rfl)
      (try simp only [Act.put, List.setIfInBounds_toArray, List.set_cons_zero, List.set_cons_succ])
      refine wpAnyH_take (i := 40) (oi := { dst := some 88, op := Op.pick (Operand.tmp 75) (Operand.tmp 87) (Operand.const (Value.bool false)), type := 4, pos := "law.go:64", after := #[{ on := 27, ground := Ground.data }, { on := 39, ground := Ground.data }], guard := none }) (v := ?_) rfl (by kernel_rfl) (by kernel_rfl) (by kernel_rfl) (fun _ _ _ h => h) (Or.inl ⟨by rfl, ?_⟩) (by assumption) ?_
      rotate_left
      · (intro w hSw; (try dsimp only at hSw); go_simp; try with_reducible rfl)
      (try simp only [Act.put, List.setIfInBounds_toArray, List.set_cons_zero, List.set_cons_succ])
      refine wpAnyH_take (i := 41) (oi := { dst := some 89, op := Op.move (Operand.tmp 88), type := 4, pos := "law.go:64", after := #[{ on := 40, ground := Ground.data }, { on := 35, ground := Ground.chain }], guard := none }) (v := ?_) rfl (by kernel_rfl) (by kernel_rfl) (by kernel_rfl) (fun _ _ _ h => h) (Or.inl ⟨by rfl, ?_⟩) (by assumption) ?_
      rotate_left
      · (intro w hSw; (try dsimp only at hSw); go_simp; try with_reducible rfl)
      (try simp only [Act.put, List.setIfInBounds_toArray, List.set_cons_zero, List.set_cons_succ])
      refine wpAnyH_ready (rs := [42]) (by kernel_rfl) (by simp) ?_
      refine AllReadyH.cons (o := { dst := some 90, op := Op.call { callee := Callee.value (Operand.func 16), args := #[], argTypes := #[] }, type := 4, pos := "law.go:64", after := #[{ on := 41, ground := Ground.chain }, { on := 41, ground := Ground.guard }], guard := some (41, true) }) rfl (fun K hK => ?_) AllReadyH.nil
      go_simp
      (refine (horariumlaw05_heads.calls k true _ HH.out).mono ?_; rintro e w' ⟨rfl, hbh⟩)
      refine hK.out _ _ ((by first | exact HS.out _ HRG.out | exact HS.out _ (Rg.call2 (by assumption) (S_rg (by assumption))) | exact HS.out _ (Rg.store (S_rg (by assumption)) _))) (fun hHeld => ?_)
      clear hK K
      (try simp only [Act.put, List.setIfInBounds_toArray, List.set_cons_zero, List.set_cons_succ])
      refine wpAnyH_take (i := 43) (oi := { dst := some 91, op := Op.pick (Operand.tmp 89) (Operand.tmp 90) (Operand.const (Value.bool false)), type := 4, pos := "law.go:64", after := #[{ on := 41, ground := Ground.data }, { on := 42, ground := Ground.data }], guard := none }) (v := ?_) rfl (by kernel_rfl) (by kernel_rfl) (by kernel_rfl) (fun _ _ _ h => h) (Or.inl ⟨by rfl, ?_⟩) (by assumption) ?_
      rotate_left
      · (intro w hSw; (try dsimp only at hSw); go_simp; try with_reducible rfl)
      (try simp only [Act.put, List.setIfInBounds_toArray, List.set_cons_zero, List.set_cons_succ])
      refine wpAnyH_ready (rs := [44]) (by kernel_rfl) (by simp) ?_
      refine AllReadyH.cons (o := { dst := none, op := Op.store 4 (Operand.tmp 6) (Operand.tmp 91), type := 0, pos := "law.go:64", after := #[{ on := 43, ground := Ground.data }, { on := 42, ground := Ground.chain }, { on := 0, ground := Ground.phase }, { on := 1, ground := Ground.phase }, { on := 2, ground := Ground.phase }, { on := 3, ground := Ground.phase }, { on := 4, ground := Ground.phase }, { on := 5, ground := Ground.phase }, { on := 6, ground := Ground.phase }, { on := 7, ground := Ground.phase }, { on := 8, ground := Ground.phase }, { on := 9, ground := Ground.phase }, { on := 10, ground := Ground.phase }, { on := 11, ground := Ground.phase }, { on := 12, ground := Ground.phase }, { on := 13, ground := Ground.phase }, { on := 14, ground := Ground.phase }, { on := 15, ground := Ground.phase }, { on := 16, ground := Ground.phase }, { on := 17, ground := Ground.phase }, { on := 18, ground := Ground.phase }, { on := 19, ground := Ground.phase }, { on := 20, ground := Ground.phase }, { on := 21, ground := Ground.phase }, { on := 22, ground := Ground.phase }, { on := 23, ground := Ground.phase }, { on := 24, ground := Ground.phase }, { on := 25, ground := Ground.phase }, { on := 26, ground := Ground.phase }, { on := 27, ground := Ground.phase }, { on := 28, ground := Ground.phase }, { on := 29, ground := Ground.phase }, { on := 30, ground := Ground.phase }, { on := 31, ground := Ground.phase }, { on := 32, ground := Ground.phase }, { on := 33, ground := Ground.phase }, { on := 34, ground := Ground.phase }, { on := 35, ground := Ground.phase }, { on := 36, ground := Ground.phase }, { on := 37, ground := Ground.phase }, { on := 38, ground := Ground.phase }, { on := 39, ground := Ground.phase }, { on := 40, ground := Ground.phase }, { on := 41, ground := Ground.phase }, { on := 42, ground := Ground.phase }, { on := 43, ground := Ground.phase }], guard := none }) rfl (fun K hK => ?_) AllReadyH.nil
      go_simp
      refine hK.out _ _ ((by first | exact HS.out _ HRG.out | exact HS.out _ (Rg.call2 (by assumption) (S_rg (by assumption))) | exact HS.out _ (Rg.store (S_rg (by assumption)) _))) (fun hHeld => ?_)
      clear hK K
      (try simp only [Act.put, List.setIfInBounds_toArray, List.set_cons_zero, List.set_cons_succ])
      refine wpAnyH_done (by kernel_rfl) ?_ _
      refine NoPanic.normal ?_
      have hfin := S_rg (w6 := w6) (g := w.heap.size + 1) (by assumption)
      have hres : Boxed (w'.setCell ⟨w.heap.size + 1, 0, none⟩ (.bool true)) (w.heap.size + 1) 4 (.bool true) := by
        obtain ⟨_, _, v, hv⟩ := hfin
        have := box_set hv
        rw [this] at hv; exact hv
      have hKf := (hfin.1.2 D (by have := lt_of_block HK.out; have := hb6.size; omega) (by simp at hD; omega)).trans ((hb6.block D (lt_of_block HK.out)).trans HK.out)
      have hBf := hfin.below HB6.out (by omega)
      gi_wp2
      refine ⟨by simp, .inl ⟨_, _, rfl, run_takeDeferred hKf, ?_⟩⟩
      have hcr := cell_kept hres.cell (grownBy_putObj' _ D (.deferred none)) (fun r e => by cases e; exact ⟨_, hKf, rfl⟩)
      refine ⟨.bool true, by simp [results, Try.results3, go_sem, hcr], rfl, hBf.trans (belowK_b (w := w) (Nat.le_refl _) _ D _ _ (by simp at hD; omega) hKf rfl rfl)⟩
    · exact absurd hpre hno

/-- The law's call, over what the row hands it. -/
theorem walk (a0 : Option Addr) (len0 cap0 : Nat) (z0 : List Int) (a1 : Option Addr) (len1 cap1 : Nat) (z1 : List Int) (a2 : Int) (w : World) (w0 : (a0 = none ∧ len0 = 0 ∧ cap0 = 0 ∧ z0 = []) ∨ ∃ x, a0 = some x ∧ len0 ≤ cap0 ∧ cap0 ≤ maxLen ∧ z0.length = cap0 ∧ (∀ i, i < z0.length → w.cell? (x.add i) = some (.int .u64 (z0.getD i 0))) ∧ ∀ n ∈ z0, (Lit.int .u64 n).wf = true) (y0 : len0 * 8 ≤ 140737488351232) (w1 : (a1 = none ∧ len1 = 0 ∧ cap1 = 0 ∧ z1 = []) ∨ ∃ x, a1 = some x ∧ len1 ≤ cap1 ∧ cap1 ≤ maxLen ∧ z1.length = cap1 ∧ (∀ i, i < z1.length → w.cell? (x.add i) = some (.int .u64 (z1.getD i 0))) ∧ ∀ n ∈ z1, (Lit.int .u64 n).wf = true) (y1 : len1 * 8 ≤ 140737488351232) (w2 : (Lit.int .u8 a2).wf = true) :
    Calls Try.prog 3 #[.slice a0 len0 cap0, .slice a1 len1 cap1, .int .u8 a2] w fun e w' => e = .returned (.bool true) ∧ Below w.heap.size w w' := by
  obtain ⟨l0, rfl, hr0, hm0, hw0, hc0⟩ := ReadsInt.ofRowC w0
  obtain ⟨l1, rfl, hr1, hm1, hw1, hc1⟩ := ReadsInt.ofRowC w1
  have C0 := Kd.C_of_reads (d := (0 : Int)) (h1 := fun _ => rfl) hr0
  have C1 := Kd.C_of_reads (d := (0 : Int)) (h1 := fun _ => rfl) hr1
  have hb : 0 ≤ a2 ∧ a2 < 256 := by simp [Lit.wf, IntKind.min, IntKind.max, IntKind.signed, IntKind.bits] at w2; omega
  obtain ⟨m, rfl⟩ := Int.eq_ofNat_of_zero_le hb.1
  by_cases hf : l0.length ≤ 70 ∧ l1.length ≤ 70
  · have ha := okW_of hw0
    have hb' := okW_of hw1
    obtain ⟨lab, _, hN⟩ := refLess_ev l0 l1 ha hb' (by omega) (by omega)
    by_cases he : ((lab.length : Int) == 0) = true
    · exact walk_in a0 cap0 l0 a1 cap1 l1 m (by omega) w C0 hc0 C1 hc1 hf ha hb' (fun l hl => by rw [hl.unique hN (fun _ => rfl)]; exact he)
    · exact walk_out a0 cap0 l0 a1 cap1 l1 m (by omega) w C0 hc0 C1 hc1 hf ha hb' (fun l hl => by rw [hl.unique hN (fun _ => rfl)]; simpa using he)
  · exact walk_no a0 cap0 l0 a1 cap1 l1 m w C0 hc0 C1 hc1 hf
end Go.Proofs.Ytbmnnmcnmfgbaaa.PLists
