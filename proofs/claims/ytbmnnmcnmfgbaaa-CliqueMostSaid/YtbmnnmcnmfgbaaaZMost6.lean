/-
  Put together by slim.py of this session out of the session's own texts (YtbmnnmcnmfgbaaaLawCliqueMost and what it reaches): declarations that nothing kept names are left out. Conditions: none beyond those of the law's row.
-/
import Derived.RangeFuncNested
import Derived.RangeFuncBox
import Derived.RangeFuncBound
import Derived.RangeFuncCalls
import Derived.RangeFuncLeaves
import Derived.Shelf.Abstract
import Derived.WalkKit
import Derived.OwnWalkIn
import Derived.TacticsInMore
import Derived.LoopNIn
import Derived.LoopIn
import Derived.Maps.AppendAt
import Derived.Laws.StructEq
import Derived.Deep.RegionHeld3
import Derived.Test.YtbmnnmcnmfgbaaaZMost2
import Derived.Test.YtbmnnmcnmfgbaaaZMost0
import Derived.Test.YtbmnnmcnmfgbaaaZMost3
import Derived.Test.YtbmnnmcnmfgbaaaZMost4
import Derived.Test.YtbmnnmcnmfgbaaaZMost1
section
/-
  bits.All and what ranges over it: bits.Count, bits.List: contracts in the printed form.
-/
namespace Go.Proofs.Ytbmnnmcnmfgbaaa.PB
open Go.RowKit Go.Shelf Go.Proofs.YtbmnnmcnmfgbaaaW.PrintWords Go.Proofs.YtbmnnmcnmfgbaaaW.PrintLast Go.Proofs.YtbmnnmcnmfgbaaaW.PrintMore
attribute [local go_sem] Oper.semAt_some
set_option linter.unusedVariables false

/-- The blocks from lo to hi hold what they held. -/
def Keeps (lo hi : Nat) (W W' : World) : Prop := ∀ k, lo ≤ k → k < hi → W'.heap[k]? = W.heap[k]?
theorem Keeps.refl (lo hi : Nat) (W : World) : Keeps lo hi W W := fun _ _ _ => rfl
theorem Keeps.trans {lo hi : Nat} {A B C : World} (h : Keeps lo hi A B) (h' : Keeps lo hi B C) : Keeps lo hi A C := fun k h1 h2 => (h' k h1 h2).trans (h k h1 h2)
theorem Keeps.of_below {lo hi n : Nat} {A B : World} (h : Below n A B) (hn : hi ≤ n) : Keeps lo hi A B := fun k _ h2 => h.block k (by omega)
/-- The row (A, ..) holds the words ws, in a block from lo to hi. -/
def HasWords (lo hi : Nat) (W : World) (A : Option Addr) (ws : List Int) : Prop :=
  ws.length ≤ 1000000 ∧ (∀ x ∈ ws, 0 ≤ x ∧ x < 18446744073709551616) ∧ ∀ k, k < ws.length → ∃ ad, A = some ad ∧ lo ≤ ad.block ∧ ad.block < hi ∧ W.cell? (ad.add k) = some (.int .u64 (ws.getD k 0))
theorem HasWords.keeps {lo hi : Nat} {W W' : World} {A : Option Addr} {ws : List Int} (h : HasWords lo hi W A ws) (hb : Keeps lo hi W W') : HasWords lo hi W' A ws :=
  ⟨h.1, h.2.1, fun k hk => by
    obtain ⟨ad, e, h1, h2, hc⟩ := h.2.2 k hk
    refine ⟨ad, e, h1, h2, ?_⟩
    have hl : (ad.add k).block = ad.block := by unfold Addr.add; split <;> rfl
    exact (World.cell?_of_block (w := W) (by rw [hl]; exact hb _ h1 h2)).trans hc⟩

set_option maxRecDepth 100000 in
set_option maxHeartbeats 2000000 in
theorem all1_in (F : Fence) (n : Nat) (h6 : F.fn 58) (hro : F.round = none) (hn : 1 ≤ n) (l Bs lo hi len cap : Nat) (A : Option Addr) (ws : List Int) (hlen : ws.length = len) (J Jx : List Int → World → Prop)
    (hY : ∀ pre x W, J pre W → pre.length < 64000000 → YieldAt F (n - 1) Try.prog l #[.int .i64 x] W fun e W' =>
      (e = .returned (.bool true) ∧ J (pre ++ [x]) W' ∧ Keeps lo hi W W') ∨ (e = .returned (.bool false) ∧ Jx (pre ++ [x]) W'))
    (W : World) (hBs : W.cell? ⟨Bs, 0, none⟩ = some (.slice A len cap)) (hc : HasWords lo hi W A ws) (h0 : J [] W) :
    CallsIn F n Try.prog 58 #[.func (.yield l) #[] #[], .pointer (some ⟨Bs, 0, none⟩)] W fun e W' => (∃ v, e = .returned v) ∧
      ((∃ ys, ys = Elems.from_ 0 ws ∧ J ys W') ∨ (∃ pre, pre <+: Elems.from_ 0 ws ∧ Jx pre W')) := by
  refine callsIn_of_wp Try.func58 rfl h6 ?_ hro
  simp only [Try.ntmps58, List.size_toArray, List.length_cons, List.length_nil, Nat.reduceAdd, Nat.reduceSub, Array.replicate_succ, Array.replicate_zero, List.push_toArray, List.append_toArray, List.nil_append, List.cons_append]
  gi_wp2
  gi_loopw [9] (fun i wr => ∃ k : Nat, k ≤ len ∧ i = .int .i64 k ∧ J (Elems.from_ 0 (ws.take k)) wr ∧ Keeps lo hi W wr)
    (fun i _ => len - (intOf i).toNat)
  case atStart => exact ⟨0, Nat.zero_le _, rfl, h0, Keeps.refl _ _ _⟩
  case round =>
    obtain ⟨k, hk, rfl, hJs, hnx⟩ := hrel
    by_cases hlt : k < len
    · obtain ⟨ad, rfl, had0, had, hcell⟩ := (hc.keeps hnx).2.2 k (by omega)
      obtain ⟨x, hx⟩ : ∃ x, ws.getD k 0 = x := ⟨_, rfl⟩
      rw [hx] at hcell
      have Hx := Aside0.mk hx
      clear hx
      have hx0 : 0 ≤ x ∧ x < 18446744073709551616 := by
        have := hc.2.1 (ws.getD k 0) (by rw [List.getD_eq_getElem?_getD, List.getElem?_eq_getElem (by omega)]; exact List.getElem_mem _)
        rw [Hx.out] at this; exact this
      obtain ⟨xn, rfl⟩ := Int.eq_ofNat_of_zero_le hx0.1
      have Hlen := Aside0.mk hlen
      have hk6 : k < 1000000 := by have := hc.1; omega
      clear hlen
      gi_wp2
      gi_loopw [4] (fun v w' => ∃ (q : Nat) (done : List Nat), q < 18446744073709551616 ∧ v = .int .u64 q ∧ Aside0 (Elems.wbits xn = done ++ Elems.wbits q) ∧ J (Elems.from_ 0 (ws.take k) ++ done.map (fun n => ((64 * k + n : Nat) : Int))) w' ∧ Keeps lo hi W w')
        (fun v _ => (Elems.wbits (intOf v).toNat).length)
      case atStart => exact ⟨xn, [], by omega, rfl, ⟨by simp⟩, by simpa using hJs, hnx⟩
      case round =>
        obtain ⟨q, done, hq, rfl, HW, hJ2, hB2⟩ := hrel
        by_cases h0q : q = 0
        · subst h0q
          have h0q' : (((0 : Nat) : Int) != 0) = false := rfl
          gi_wp2
          refine ⟨⟨k + 1, by omega, by simp, ?_, hB2⟩, ?_⟩
          · rw [Elems.from_take_succ ws k (by rw [Hlen.out]; exact hlt), Hx.out]
            have hd : done = Elems.wbits xn := by rw [HW.out, Elems.wbits_zero, List.append_nil]
            rw [hd] at hJ2
            exact hJ2
          · simp [intOf]; omega
        · have h0q' : ((q : Int) != 0) = true := by rw [bne_iff_ne]; omega
          obtain ⟨t, ht, hlow, hwb, hlt2⟩ := Elems.wbits_step q (by omega) hq
          obtain ⟨P, hP⟩ : ∃ P, 2 ^ t = P := ⟨_, rfl⟩
          obtain ⟨q2, hq2⟩ : ∃ q2, q ^^^ P = q2 := ⟨_, rfl⟩
          rw [hP] at hlow hwb hlt2
          rw [hq2] at hwb hlt2
          have hP64 : P < 18446744073709551616 := by
            rw [← hP]; exact Nat.lt_of_lt_of_le (Nat.pow_lt_pow_right (by omega) ht) (Nat.le_refl _)
          have hlow' : bits BinOp.and IntKind.u64 (q : Int) (IntKind.u64.wrap (-(q : Int))) = (P : Int) := by
            have e : IntKind.u64.wrap (-(q : Int)) = ((18446744073709551616 - q : Nat) : Int) := by rw [IntKind.wrap_u64]; omega
            rw [e, u64_and_nat _ _ hq (by omega), ← hlow]
          have hxor : bits BinOp.xor IntKind.u64 (q : Int) (P : Int) = (q2 : Int) := by
            rw [u64_xor_nat _ _ hq hP64, hq2]
          have HP := Aside0.mk hP
          have HWB := Aside0.mk hwb
          clear hP hlow hwb hq2
          have hlen1 : (Elems.from_ 0 (ws.take k) ++ done.map (fun n => ((64 * k + n : Nat) : Int))).length < 64000000 := by
            have h1 := Elems.from_len (ws.take k) 0
            have h2 : done.length + (t :: Elems.wbits q2).length ≤ 64 := by
              have := Elems.wbits_len xn
              rw [HW.out, HWB.out, List.length_append] at this
              exact this
            have h3 := hc.1
            have h4 := Hlen.out
            simp only [List.length_append, List.length_map, List.length_take, List.length_cons] at h1 h2 ⊢
            omega
          gi_wp2
          gi_loopw [6] (fun v w' => ∃ m : Nat, m ≤ t ∧ v = .int .i64 m ∧ w' = wr) (fun v _ => t - (intOf v).toNat)
          case atStart => exact ⟨0, Nat.zero_le _, rfl, rfl⟩
          case round =>
            obtain ⟨m, hm, rfl, rfl⟩ := hrel
            by_cases hmt : m < t
            · have hne : ((P : Int) / 2 ^ m != 1) = true := by
                rw [bne_iff_ne, ← HP.out, Elems.pow_quot t m hm]
                have h1 : 2 ^ (t - m) = 2 * 2 ^ (t - m - 1) := by rw [← Nat.pow_succ']; congr 1; omega
                omega
              gi_wp2
              refine ⟨⟨m + 1, by omega, by simp, trivial⟩, by simp [intOf]; omega⟩
            · obtain rfl : m = t := by omega
              have hne : ((P : Int) / 2 ^ m != 1) = false := by
                rw [bne_eq_false_iff_eq, ← HP.out, Elems.pow_quot m m hm]
                simp
              obtain ⟨fn, tmps, assign, body, hy, hR⟩ := hY _ (64 * (k : Int) + (m : Int)) wr hJ2 hlen1
              gi_wp2
              refine hR.mono ?_
              rintro e W3 (⟨rfl, hJ3, hk3⟩ | ⟨rfl, hJx3⟩)
              · gi_wp2
                refine ⟨⟨q2, done ++ [m], hlt2, rfl, ⟨by rw [HW.out, HWB.out]; simp⟩, ?_, hB2.trans hk3⟩, ?_⟩
                · have e : ((64 * k + m : Nat) : Int) = 64 * (k : Int) + (m : Int) := by omega
                  rw [List.map_append, List.map_cons, List.map_nil, e, ← List.append_assoc]
                  exact hJ3
                · simp only [intOf, Int.toNat_natCast, HWB.out, List.length_cons]; omega
              · gi_wp2
                refine bodyPost_ret (results_none rfl _ _ _) rfl ?_
                refine ⟨⟨_, rfl⟩, .inr ⟨_, ?_, hJx3⟩⟩
                have e : ((64 * k + m : Nat) : Int) = 64 * (k : Int) + (m : Int) := by omega
                have h1 := Elems.from_take_succ ws k (by rw [Hlen.out]; exact hlt)
                rw [Hx.out] at h1
                simp only [Int.toNat_natCast] at h1
                rw [HW.out, HWB.out, List.map_append, List.map_cons, e] at h1
                have h2 : Elems.from_ 0 (ws.take (k + 1)) <+: Elems.from_ 0 ws := by
                  have h3 : ws.take (k + 1) ++ ws.drop (k + 1) = ws := List.take_append_drop _ _
                  have h4 := Elems.from_append (ws.take (k + 1)) 0 (ws.drop (k + 1))
                  rw [h3] at h4
                  exact ⟨_, h4.symm⟩
                refine List.IsPrefix.trans ?_ h2
                rw [h1]
                refine ⟨List.map (fun n => ((64 * k + n : Nat) : Int)) (Elems.wbits q2), ?_⟩
                simp
    · obtain rfl : k = len := by omega
      gi_wp2
      go_end0
      exact ⟨⟨_, rfl⟩, .inl ⟨_, rfl, by rw [← hlen] at hJs; simpa using hJs⟩⟩

theorem take_succ_rd (l : List Int) (k : Nat) (h : k < l.length) : l.take (k + 1) = l.take k ++ [rd l k] := by
  rw [List.take_succ_eq_append_getElem h]; simp [rd, h]

theorem short_loop (l : List Int) (hl : l.length < 17592186044416) (n : Nat) : ∀ k, n < k → n ≤ l.length → bits_short.l0 k l (n : Int) = some (Elems.sh (l.take n)) := by
  induction n with
  | zero =>
    intro k hk _
    obtain ⟨k, rfl⟩ : ∃ m, k = m + 1 := ⟨k - 1, by omega⟩
    simp only [bits_short.l0]
    rw [if_neg (by omega)]
    simp [Elems.sh]
  | succ n ih =>
    intro k hk hn
    obtain ⟨k, rfl⟩ : ∃ m, k = m + 1 := ⟨k - 1, by omega⟩
    have e : wrap64 (((n + 1 : Nat) : Int) - 1) = (n : Int) := by unfold wrap64; omega
    simp only [bits_short.l0]
    rw [if_pos (by omega), e, if_pos (by omega), if_pos (by omega)]
    rw [take_succ_rd l n (by omega), Elems.sh_snoc]
    by_cases h0 : rd l n = 0
    · rw [if_pos h0, if_pos h0]; exact ih k (by omega) (by omega)
    · rw [if_neg h0, if_neg h0]
      simp only [Option.bind_some, List.nil_append, List.length_nil, Nat.zero_add, Int.toNat_natCast]
      rw [if_pos (by omega), if_pos (by omega), if_pos (by rw [List.length_take]; omega), take_succ_rd l n (by omega)]

theorem short_f (l : List Int) (hl : l.length < 17592186044416) (k : Nat) (hk : l.length < k) : bits_short.f k l = some (Elems.sh l) := by
  unfold bits_short.f
  rw [short_loop l hl l.length k hk (Nat.le_refl _), List.take_length]

/-- The words are words, and not too many. -/
def okWords (l : List Int) : Bool := decide (l.length ≤ 1000000) && l.all fun x => decide (0 ≤ x) && decide (x < 18446744073709551616)
theorem okWords_iff {l : List Int} : okWords l = true ↔ l.length ≤ 1000000 ∧ ∀ x ∈ l, 0 ≤ x ∧ x < 18446744073709551616 := by
  simp [okWords]

set_option maxHeartbeats 1000000 in
theorem all_calls (A0 : Option Addr) (c0 : Nat) (l0 : List Int) (w : World) (hr0 : Kd.C (Kd.int .u64) w A0 l0.length l0) (hc0 : l0.length ≤ c0) (hok : okWords l0 = true) :
    Calls Try.prog 18 #[.slice A0 l0.length c0] w fun e w' => ∃ A c B, e = .returned (.func (.func 58) #[] #[.pointer (some ⟨B, 0, none⟩)]) ∧ B < w'.heap.size ∧
      w'.cell? ⟨B, 0, none⟩ = some (.slice A (Elems.sh l0).length c) ∧ HasWords w.heap.size w'.heap.size w' A (Elems.sh l0) ∧ Below w.heap.size w w' := by
  obtain ⟨hl, hwf⟩ := okWords_iff.1 hok
  have HS := Aside0.mk (short_f l0 (by omega) (l0.length + 1) (by omega))
  obtain ⟨ws, hws⟩ : ∃ ws, Elems.sh l0 = ws := ⟨_, rfl⟩
  rw [hws] at HS
  have HW := Aside0.mk hws
  rw [hws]
  clear hws
  have HR0 := Aside0.mk hr0
  have HC0 := Aside0.mk hc0
  clear hr0 hc0
  go_enter Try.func18, Try.ntmps18
  go_wp2_with fail
  refine (bits_short.calls (l0.length + 1) _ _ l0 ws _ HR0.out HC0.out HS.out).mono ?_
  rintro e w4 ⟨v, rfl, hR, hb⟩
  obtain ⟨A, c, rfl, hcc, hC⟩ := Kd.R_reads hR
  obtain ⟨inner, hown⟩ := Kd.R_own hR
  have hbase : ∀ ad, A = some ad → w.heap.size ≤ ad.block := fun ad e => by
    subst e
    exact own_base hown _ rfl
  have HO := Aside0.mk hown
  clear hown
  have HR := Aside0.mk hR
  have HCC := Aside0.mk hC
  clear hR hC
  go_wp2
  go_ret
  have hb2 : Below w.heap.size w (w4.alloc (.cells #[.slice A ws.length c] 22)) := below_alloc hb _
  have hw4 : Below w4.heap.size w4 (w4.alloc (.cells #[.slice A ws.length c] 22)) := below_alloc (Below.refl _ _) _
  refine ⟨A, c, w4.heap.size, rfl, by simp, ?_, ⟨?_, ?_, ?_⟩, hb2⟩
  · exact (Boxed.new w4 22 _).cell
  · have := Elems.sh_len l0; rw [HW.out] at this; omega
  · intro x hx; exact hwf x (Elems.sh_mem (by rw [HW.out]; exact hx))
  · intro k hk
    obtain ⟨ad, e, hcell⟩ := Kd.at_int HCC.out k (by omega) (by omega)
    have hlt := World.block_lt_of_cell? _ _ hcell
    have hlt2 : ad.block < w4.heap.size := by unfold Addr.add at hlt; split at hlt <;> exact hlt
    refine ⟨ad, e, hbase ad e, by simp; omega, ?_⟩
    have := pw_cell_below hw4 hcell
    simpa [rd] using this

theorem all_stops (F : Fence) (n : Nat) (h6 : F.fn 58) (hro : F.round = none) (hn : 1 ≤ n) (Bs lo cap : Nat) (A : Option Addr) (ws : List Int) (w : World) (hBs : Bs < w.heap.size)
    (hc : w.cell? ⟨Bs, 0, none⟩ = some (.slice A ws.length cap)) (hI : HasWords lo w.heap.size w A ws) :
    SeqStopsK F n Try.prog 58 #[.pointer (some ⟨Bs, 0, none⟩)] (fun x : Int => #[Value.int .i64 x]) (Keeps lo w.heap.size) (fun ys => ys = Elems.from_ 0 ws) (fun pre => pre <+: Elems.from_ 0 ws) 64000000 w := fun l J Jx W hW _ _ hY h0 =>
  all1_in F n h6 hro hn l Bs lo w.heap.size ws.length cap A ws rfl J Jx hY W ((hW.cell (p := ⟨Bs, 0, none⟩) hBs).trans hc) (hI.keeps (Keeps.of_below hW (Nat.le_refl _))) h0
theorem keepsK_t {lo hi : Nat} : ∀ {A B C : World}, Keeps lo hi A B → Keeps lo hi B C → Keeps lo hi A C := fun h h' => h.trans h'
theorem keepsK_b {lo hi : Nat} {w : World} (hh : hi ≤ w.heap.size) : ∀ (W : World) (l : Nat) (o o' : Obj), w.heap.size ≤ l → W.heap[l]? = some o → o.isCells = false → o.isWalk = false → Keeps lo hi W (W.putObj l o') := fun W l o o' hl _ _ _ k _ hk => by
  have : ¬ l = k := by omega
  simp [World.putObj, this]

/-- The numbers of a set. -/
def bits_List.f (l0 : List Int) : Option (List Int) := if okWords l0 = true then some (Elems.from_ 0 l0) else none

set_option maxRecDepth 100000 in
set_option maxHeartbeats 2000000 in
theorem bits_List.calls (A0 : Option Addr) (c0 : Nat) (l0 : List Int) (r : List Int) (w : World) (hr0 : Kd.C (Kd.int .u64) w A0 l0.length l0) (hc0 : l0.length ≤ c0) (h : bits_List.f l0 = some r) :
    Calls Try.prog 21 #[.slice A0 l0.length c0] w fun e w' => ∃ v0_ : Value, e = .returned (v0_) ∧ Kd.R (Kd.int .i64) 3 w' w.heap.size (fun _ => True) v0_ r ∧ Below w.heap.size w w' := by
  unfold bits_List.f at h
  have hok : okWords l0 = true := by
    by_cases hx : okWords l0 = true
    · exact hx
    · rw [if_neg hx] at h; cases h
  rw [if_pos hok] at h
  have hr := Aside0.mk (Option.some.inj h)
  clear h
  have HR0 := Aside0.mk hr0
  have HC0 := Aside0.mk hc0
  have HOK := Aside0.mk hok
  clear hr0 hc0 hok
  obtain ⟨i0, hi, hz0, hz1, hz2⟩ := info_parts info3
  refine (callsIn_wide (n := 5)).1 ?_
  refine callsIn_of_wp_marks Try.func21 rfl trivial ?_ rfl
  simp only [Try.ntmps21, List.size_toArray, List.length_cons, List.length_nil, Nat.reduceAdd, Nat.reduceSub, Array.replicate_succ, Array.replicate_zero, List.push_toArray, List.append_toArray, List.nil_append, List.cons_append]
  gi_wp2_with fail
  refine ⟨trivial, callsIn_wide.2 ((all_calls A0 c0 l0 _ (Kd.C_alloc HR0.out _) HC0.out HOK.out).mono ?_)⟩
  rintro e w1 ⟨A, c, B, rfl, hB1, hB2, hW, hbel⟩
  have bO : Boxed w1 w.heap.size 25 (.slice none 0 0) := (hbel.block w.heap.size (by simp)).trans (Boxed.new w 25 (.slice none 0 0))
  have hB0 : Below w.heap.size w w1 := (below_alloc (Below.refl _ _) _).trans (hbel.mono (by simp))
  have hlt : w.heap.size < w1.heap.size := by have := hbel.size; simp at this; omega
  rw [World.size_alloc] at hW
  gi_wp2
  refine wpIn_rangeFunc_ownG rfl (by omega) (gf := 58) (lb := #[.pointer (some ⟨B, 0, none⟩)]) rfl trivial (enters_of Try.func58 (by kernel_rfl) rfl)
    (all_stops Fence.wide (5 - 1) trivial rfl (by omega) B (w.heap.size + 1) c A _ w1 hB1 hB2 hW) keepsK_t (keepsK_b (Nat.le_refl _)) (Below.refl _ _) (fun _ => rfl)
    (fun pre W => (∃ v, Boxed W w.heap.size 25 v ∧ W.ownsRow w1.heap.size 3 1 v pre.length (pre.map (Value.int .i64)) ∧ True) ∧ Below w.heap.size w1 W)
    (fun _ _ _ => False)
    (OwnFrom.and (Own.from (holdsRow_own w1.heap.size w.heap.size 25 3 1 (fun pre : List Int => pre.length) (fun pre => pre.map (Value.int .i64)) (fun _ _ => True)) _) (ownFrom_below (by omega) (by omega)))
    (fun _ _ _ _ _ hs _ _ => hs)
    ⟨⟨_, bO, World.ownsRow_nil _ _ _ _, trivial⟩, Below.refl _ _⟩
    (fun x => { tmps := #[.slice A0 l0.length c0, undef, .slice none 0 0, .pointer (some ⟨w.heap.size, 0, none⟩), .int .i64 x, .slice A0 l0.length c0, .func (.func 58) #[] #[.pointer (some ⟨B, 0, none⟩)], .int .i64 x, undef, undef, undef, undef, undef], defers := [] }) ?assign ?body ?done ?stop
  case assign =>
    intro l x W K hK
    gi_wp2
    simpa using hK
  case body =>
    rintro l pre x W ⟨⟨v, hv, hrow, _⟩, hB⟩ hl
    have hc := hv.cell
    have hsz := hB.size
    have hvb : ∀ k, v.ownBlock = some k → w1.heap.size ≤ k := fun k hk => own_base hrow k hk
    have HV := Aside0.mk hvb
    clear hvb
    gi_wp2_with (gi_at_builtin; refine wpListIn_append_own _ rfl _ _ 25 rfl w1.heap.size 3 i0 (.int .i64 0) 1 8 Try.underlying25 hi hz0 hz1 hz2 rfl (by decide) _ _ _ rfl (hrow.alloc _) ⟨W.heap.size, 0, none⟩ 1 1 [.int .i64 x] rfl rfl (cell_one_new _ _ _) (by simp [Value.oneCell']) (by unfold maxLen; omega) (by omega) (by simp; omega) ?_; intro v' w2 hown' hgrow _; obtain ⟨g', cap', rfl⟩ := ownsRow_succ hown'; obtain ⟨hv1, hv2, hr2, hk2, hb2⟩ := hv.appended (by decide) (own_weaken hrow (by omega : w.heap.size ≤ w1.heap.size)) (by omega) (Nat.le_refl _) (own_weaken hown' (by omega : w.heap.size ≤ w1.heap.size)) hgrow; have hc1 := hv1.cell; have hf1 := hv1.frozen)
    have hgrow' : (W.alloc (Obj.cells #[Value.int IntKind.i64 x] 3)).grownBy w2 v.ownBlock := hgrow
    refine ⟨hk2.from _, ?_, ⟨⟨_, hv2, ?_, trivial⟩, hB.trans hb2⟩⟩
    · intro k h1 h2
      rw [Below.heap_setCell _ _ _ _ (by simp; omega), hgrow'.block k (by simp; omega) (fun e => by have := HV.out k e.symm; omega)]
      exact Below.heap_alloc _ _ _ (by omega)
    · rw [List.length_append, List.length_singleton, List.map_append]
      exact hown'.kept (grownBy_setCell' w2 w.heap.size _) (.inr (fun e => by
        have h1 := own_base hown' g' rfl
        have h2 : g' = w.heap.size := by simpa [Value.ownBlock] using e
        omega))
  case done =>
    rintro D ys W hD rfl ⟨⟨v, hv, hrow, _⟩, hB⟩ hK
    have hc := hv.cell
    gi_wp2
    refine ⟨by simp, .inl ⟨_, _, rfl, run_takeDeferred hK, ?_⟩⟩
    refine ⟨_, results_tmp rfl _ _ _, v, rfl, ?_, (hB0.trans hB).trans (belowK_b (w := w) (Nat.le_refl _) W D _ _ (by omega) hK rfl rfl)⟩
    rw [← hr.out, ← Elems.from_sh]
    exact Kd.R_of_own (ownsRow_putObj (own_weaken hrow (by omega)) _ hK rfl) (fun _ _ => trivial)
  case stop =>
    rintro D c pre W _ _ h _
    exact h.elim
end Go.Proofs.Ytbmnnmcnmfgbaaa.PB
end
section
/-
  The plain side of layer 5: which set each function of package bits makes, and that the reference makes the same: over the printed functions.
-/
namespace Go.Proofs.Ytbmnnmcnmfgbaaa.PB
open Go.RowKit Go.Proofs.YtbmnnmcnmfgbaaaW.PrintWords Go.Proofs.YtbmnnmcnmfgbaaaW.PrintLast Go.Proofs.YtbmnnmcnmfgbaaaW.PrintMore
open Elems (sh)
set_option linter.unusedVariables false
set_option linter.unusedSimpArgs false

/-! ### rows of words -/
def okW (l : List Int) : Prop := ∀ x ∈ l, 0 ≤ x ∧ x < 18446744073709551616
def tb (l : List Int) (i : Nat) : Bool := (rd l ((i / 64 : Nat) : Int)).toNat.testBit (i % 64)
theorem rd_nat (l : List Int) (j : Nat) : rd l (j : Int) = l.getD j 0 := by simp [rd]
theorem rd_out (l : List Int) (j : Nat) (h : l.length ≤ j) : rd l (j : Int) = 0 := by simp [rd, h]
theorem okW.rd {l : List Int} (h : okW l) (j : Nat) : 0 ≤ rd l (j : Int) ∧ rd l (j : Int) < 18446744073709551616 := by
  rw [rd_nat]
  by_cases hj : j < l.length
  · rw [List.getD_eq_getElem?_getD, List.getElem?_eq_getElem hj]; exact h _ (List.getElem_mem _)
  · rw [List.getD_eq_getElem?_getD, List.getElem?_eq_none (by omega)]; simp
theorem okW.nil : okW [] := fun _ h => by cases h
theorem okW.append {a b : List Int} (ha : okW a) (hb : okW b) : okW (a ++ b) := fun x hx => by
  rcases List.mem_append.1 hx with h | h
  · exact ha x h
  · exact hb x h
theorem okW.zeros (n : Nat) : okW (List.replicate n 0) := fun x hx => by
  have := (List.mem_replicate.1 hx).2; omega
theorem okW.sh {l : List Int} (h : okW l) : okW (sh l) := fun x hx => h x (Elems.sh_mem hx)
theorem okW.set {l : List Int} (h : okW l) (j : Nat) {x : Int} (hx : 0 ≤ x ∧ x < 18446744073709551616) : okW (l.set j x) := fun y hy => by
  rcases List.mem_or_eq_of_mem_set hy with h' | rfl
  · exact h y h'
  · exact hx
theorem sh_zeros (l : List Int) (m : Nat) : sh (l ++ List.replicate m 0) = sh l := by
  induction m with
  | zero => simp
  | succ m ih => rw [List.replicate_succ', ← List.append_assoc, Elems.sh_snoc, if_pos rfl, ih]
theorem sh_idem (l : List Int) : sh (sh l) = sh l := by
  obtain ⟨m, h⟩ := Elems.sh_split l
  have := congrArg sh h
  rw [sh_zeros] at this
  exact this.symm
theorem rd_zeros (l : List Int) (m j : Nat) : rd (l ++ List.replicate m 0) (j : Int) = rd l (j : Int) := by
  rw [rd_nat, rd_nat]
  by_cases h : j < l.length
  · simp [List.getElem?_append_left h]
  · rw [List.getD_eq_getElem?_getD, List.getD_eq_getElem?_getD, List.getElem?_append_right (by omega), List.getElem?_eq_none (l := l) (by omega), List.getElem?_replicate]
    split <;> rfl
theorem rd_sh (l : List Int) (j : Nat) : rd (sh l) (j : Int) = rd l (j : Int) := by
  obtain ⟨m, h⟩ := Elems.sh_split l
  have := congrArg (fun q => rd q (j : Int)) h
  simp only [rd_zeros] at this
  exact this.symm
theorem tb_sh (l : List Int) (i : Nat) : tb (sh l) i = tb l i := by unfold tb; rw [rd_sh]
theorem sh_ext_le {a b : List Int} (hl : a.length ≤ b.length) (h : ∀ j : Nat, rd a (j : Int) = rd b (j : Int)) : sh a = sh b := by
  have e : b = a ++ List.replicate (b.length - a.length) 0 := by
    apply List.ext_getElem
    · simp; omega
    · intro i h1 h2
      have hi := h i
      rw [rd_nat, rd_nat] at hi
      by_cases hia : i < a.length
      · rw [List.getElem_append_left hia]; simp [h1, hia] at hi; exact hi.symm
      · rw [List.getElem_append_right (by omega)]; simp [h1, hia] at hi; simp; exact hi.symm
  have := congrArg sh e
  rw [sh_zeros] at this
  exact this.symm
theorem sh_ext {a b : List Int} (h : ∀ j : Nat, rd a (j : Int) = rd b (j : Int)) : sh a = sh b := by
  rcases Nat.le_total a.length b.length with hl | hl
  · exact sh_ext_le hl h
  · exact (sh_ext_le hl (fun j => (h j).symm)).symm
theorem word_ext {x y : Int} (hx : 0 ≤ x ∧ x < 18446744073709551616) (hy : 0 ≤ y ∧ y < 18446744073709551616) (h : ∀ i, i < 64 → x.toNat.testBit i = y.toNat.testBit i) : x = y := by
  have : x.toNat = y.toNat := by
    apply Nat.eq_of_testBit_eq
    intro i
    by_cases hi : i < 64
    · exact h i hi
    · have h1 : (2 : Nat) ^ 64 ≤ 2 ^ i := Nat.pow_le_pow_right (by omega) (by omega)
      rw [Nat.testBit_lt_two_pow (by omega), Nat.testBit_lt_two_pow (by omega)]
  omega

/-- The short row of just those numbers of which p tells. -/
structure Nrm (r : List Int) (p : Nat → Bool) : Prop where
  ok : okW r
  nz : sh r = r
  tb : ∀ i, tb r i = p i
theorem rd_of_tb {a b : List Int} (ha : okW a) (hb : okW b) (h : ∀ i, tb a i = tb b i) (j : Nat) : rd a (j : Int) = rd b (j : Int) := by
  refine word_ext (ha.rd j) (hb.rd j) (fun i hi => ?_)
  have := h (64 * j + i)
  unfold tb at this
  rw [show (64 * j + i) / 64 = j from by omega, show (64 * j + i) % 64 = i from by omega] at this
  exact this
theorem Nrm.unique {a b : List Int} {p q : Nat → Bool} (ha : Nrm a p) (hb : Nrm b q) (h : ∀ i, p i = q i) : a = b := by
  have := sh_ext (rd_of_tb ha.ok hb.ok (fun i => by rw [ha.tb, hb.tb, h]))
  rw [ha.nz, hb.nz] at this
  exact this
theorem nrm_sh {l : List Int} (h : okW l) : Nrm (sh l) (PB.tb l) := ⟨h.sh, sh_idem l, tb_sh l⟩
theorem Nrm.congr {r : List Int} {p q : Nat → Bool} (h : Nrm r p) (e : ∀ i, p i = q i) : Nrm r q := ⟨h.ok, h.nz, fun i => (h.tb i).trans (e i)⟩
theorem Nrm.len {r : List Int} {p : Nat → Bool} (h : Nrm r p) (n : Nat) (hp : ∀ i, 64 * n ≤ i → p i = false) : r.length ≤ n := by
  rcases Elems.sh_last r with e | ⟨m, x, e, hx⟩
  · rw [h.nz] at e; simp [e]
  · rw [h.nz] at e
    have hx1 : 0 ≤ x ∧ x < 18446744073709551616 := h.ok x (by rw [e]; simp)
    obtain ⟨t, ht, hb, _⟩ := Elems.and_neg x.toNat (by omega) (by omega)
    apply Nat.le_of_not_lt
    intro hlt
    have h1 := h.tb (64 * m.length + t)
    have hl : r.length = m.length + 1 := by rw [e]; simp
    rw [hp _ (by omega)] at h1
    unfold PB.tb at h1
    rw [show (64 * m.length + t) / 64 = m.length from by omega, show (64 * m.length + t) % 64 = t from by omega, e, rd_nat] at h1
    simp [hb] at h1
theorem tb_out {l : List Int} (i : Nat) (h : 64 * l.length ≤ i) : tb l i = false := by
  unfold tb
  rw [rd_out l _ (by omega)]; simp
/-! ### rows that are filled from the front -/
def upto (F : Nat → Int) (n : Nat) : List Int := (List.range n).map F
theorem upto_len (F : Nat → Int) (n : Nat) : (upto F n).length = n := by simp [upto]
theorem rd_upto (F : Nat → Int) (n j : Nat) : rd (upto F n) (j : Int) = if j < n then F j else 0 := by
  rw [rd_nat, upto]
  by_cases h : j < n <;> simp [h]
theorem okW_upto {F : Nat → Int} {n : Nat} (h : ∀ j, j < n → 0 ≤ F j ∧ F j < 18446744073709551616) : okW (upto F n) := fun x hx => by
  simp only [upto, List.mem_map, List.mem_range] at hx
  obtain ⟨j, hj, rfl⟩ := hx
  exact h j hj
theorem tb_upto (F : Nat → Int) (n i : Nat) : tb (upto F n) i = (decide (i / 64 < n) && (F (i / 64)).toNat.testBit (i % 64)) := by
  unfold tb
  rw [rd_upto]
  by_cases h : i / 64 < n <;> simp [h]
theorem set_upto {α : Type} (F : Nat → α) (z : α) (n m : Nat) (h : m < n) : ((List.range m).map F ++ List.replicate (n - m) z).set m (F m) = (List.range (m + 1)).map F ++ List.replicate (n - (m + 1)) z := by
  have e : n - m = (n - (m + 1)) + 1 := by omega
  rw [List.set_append_right _ _ (by simp), e, List.replicate_succ, List.range_succ]
  simp
theorem upto_done {α : Type} (F : Nat → α) (z : α) (n : Nat) : (List.range n).map F ++ List.replicate (n - n) z = (List.range n).map F := by simp

/-! ### the words' operations -/
theorem bit_and {x y : Int} (hx : 0 ≤ x ∧ x < 18446744073709551616) (hy : 0 ≤ y ∧ y < 18446744073709551616) : (0 ≤ bits .and .u64 x y ∧ bits .and .u64 x y < 18446744073709551616) ∧ ∀ i, (bits .and .u64 x y).toNat.testBit i = (x.toNat.testBit i && y.toNat.testBit i) := by
  rw [u64_and x y hx.1 hx.2 hy.1 hy.2]
  refine ⟨⟨by omega, ?_⟩, fun i => by simp [Nat.testBit_and]⟩
  have : x.toNat &&& y.toNat ≤ x.toNat := Nat.and_le_left
  omega
theorem bit_or {x y : Int} (hx : 0 ≤ x ∧ x < 18446744073709551616) (hy : 0 ≤ y ∧ y < 18446744073709551616) : (0 ≤ bits .or .u64 x y ∧ bits .or .u64 x y < 18446744073709551616) ∧ ∀ i, (bits .or .u64 x y).toNat.testBit i = (x.toNat.testBit i || y.toNat.testBit i) := by
  rw [u64_or x y hx.1 hx.2 hy.1 hy.2]
  refine ⟨⟨by omega, ?_⟩, fun i => by simp [Nat.testBit_or]⟩
  have : x.toNat ||| y.toNat < 2 ^ 64 := Nat.or_lt_two_pow (by omega) (by omega)
  omega
theorem shl_one (t : Nat) (ht : t < 64) : shl .u64 1 (t : Int) = ((2 ^ t : Nat) : Int) := by
  unfold shl
  have h1 : min ((t : Int).toNat) IntKind.u64.bits = t := by simp [IntKind.bits]; omega
  have h2 : (2 : Nat) ^ t < 2 ^ 64 := Nat.pow_lt_pow_right (by omega) ht
  rw [h1, IntKind.wrap_u64, Int.one_mul]
  have e : (2 : Int) ^ t = ((2 ^ t : Nat) : Int) := by simp
  rw [e]
  obtain ⟨P, hP⟩ : ∃ P, 2 ^ t = P := ⟨_, rfl⟩
  rw [hP] at h2 ⊢
  omega
theorem two_pow_word (t : Nat) (ht : t < 64) : 0 ≤ ((2 ^ t : Nat) : Int) ∧ ((2 ^ t : Nat) : Int) < 18446744073709551616 := by
  have h2 : (2 : Nat) ^ t < 2 ^ 64 := Nat.pow_lt_pow_right (by omega) ht
  obtain ⟨P, hP⟩ : ∃ P, 2 ^ t = P := ⟨_, rfl⟩
  rw [hP] at h2 ⊢
  omega
theorem div64 (i : Nat) (h : i < 9223372036854775808) : wrap64 (Int.tdiv (i : Int) 64) = ((i / 64 : Nat) : Int) := by
  have : Int.tdiv (i : Int) 64 = ((i / 64 : Nat) : Int) := by rw [Int.tdiv_eq_ediv_of_nonneg (by omega)]; omega
  rw [this]; unfold wrap64; omega
theorem mod64 (i : Nat) : Int.tmod (i : Int) 64 = ((i % 64 : Nat) : Int) := by rw [Int.tmod_eq_emod_of_nonneg (by omega)]; omega

/-! ### Has -/
theorem has_f (l : List Int) (hl : okW l) (i : Int) (hi : i < 9223372036854775808) : bits_Has.f l i = some (decide (0 ≤ i) && tb l i.toNat) := by
  unfold bits_Has.f
  by_cases h0 : 0 ≤ i
  · obtain ⟨n, rfl⟩ := Int.eq_ofNat_of_zero_le h0
    rw [if_pos (by omega), div64 n (by omega), mod64]
    by_cases hlt : n / 64 < l.length
    · rw [if_pos (by omega), if_pos (by omega), if_pos (by omega), shl_one _ (Nat.mod_lt _ (by omega))]
      obtain ⟨h1, h2⟩ := bit_and (hl.rd (n / 64)) (two_pow_word (n % 64) (Nat.mod_lt _ (by omega)))
      obtain ⟨z, hz⟩ : ∃ z, bits .and .u64 (rd l ((n / 64 : Nat) : Int)) ((2 ^ (n % 64) : Nat) : Int) = z := ⟨_, rfl⟩
      rw [hz] at h1 h2 ⊢
      simp only [Int.toNat_natCast, decide_true, Bool.true_and, Int.natCast_nonneg]
      congr 1
      unfold tb
      by_cases hb : (rd l ((n / 64 : Nat) : Int)).toNat.testBit (n % 64) = true
      · rw [hb, bne_iff_ne]
        intro e
        have := h2 (n % 64)
        rw [e, hb, Int.toNat_natCast, Nat.testBit_two_pow_self] at this
        simp at this
      · have hb' : (rd l ((n / 64 : Nat) : Int)).toNat.testBit (n % 64) = false := by simpa using hb
        rw [hb', bne_eq_false_iff_eq]
        have : z.toNat = 0 := by
          apply Nat.eq_of_testBit_eq
          intro j
          rw [h2, Int.toNat_natCast, Nat.testBit_two_pow, Nat.zero_testBit]
          by_cases e : n % 64 = j
          · subst e; rw [hb']; rfl
          · simp [e]
        omega
    · rw [if_neg (by omega)]
      rw [Int.toNat_natCast, tb_out _ (by omega)]; simp
  · rw [if_neg (by omega)]; simp [h0]

/-! ### the functions of package bits -/
theorem short_ev (l : List Int) (hl : l.length ≤ 1000000) : Ev (fun k => bits_short.f k l) (sh l) := ⟨l.length + 1, fun k hk => short_f l (by omega) k (by omega)⟩
theorem at_f (l : List Int) (j : Nat) : bits_at.f l (j : Int) = some (rd l (j : Int)) := by
  unfold bits_at.f
  by_cases h : j < l.length
  · rw [if_pos (by omega), if_pos (by omega)]
  · rw [if_neg (by omega), rd_out l j (by omega)]
theorem wrap_succ (j : Nat) (h : j < 9223372036854775807) : wrap64 ((j : Int) + 1) = ((j + 1 : Nat) : Int) := by unfold wrap64; omega

theorem or_loop (a b : List Int) (n : Nat) (hn : n ≤ 1000000) (F : Nat → Int) (hF : ∀ j : Nat, bits .or .u64 (rd a (j : Int)) (rd b (j : Int)) = F j) (d : Nat) :
    ∀ m, m ≤ n → n - m = d → Ev (fun k => bits_Or.l0 k a b ((List.range m).map F ++ List.replicate (n - m) 0) (n : Int) (m : Int)) (sh (upto F n)) := by
  induction d with
  | zero =>
    intro m hm hd
    obtain rfl : m = n := by omega
    refine Ev.step (f := fun k => (bits_short.f k (upto F m)).bind fun t => some t) (fun k => ?_) (Ev.bind (short_ev _ (by rw [upto_len]; omega)) (Ev.now _))
    simp only [bits_Or.l0]
    rw [if_neg (by omega), upto_done]; rfl
  | succ d ih =>
    intro m hm hd
    refine Ev.step (f := fun k => bits_Or.l0 k a b ((List.range (m + 1)).map F ++ List.replicate (n - (m + 1)) 0) (n : Int) ((m + 1 : Nat) : Int)) (fun k => ?_) (ih (m + 1) (by omega) (by omega))
    simp only [bits_Or.l0]
    rw [if_pos (by omega), at_f, at_f]
    simp only [Option.bind_some]
    rw [if_pos (by omega), if_pos (by simp; omega), hF m, Int.toNat_natCast, set_upto F 0 n m (by omega), wrap_succ m (by omega)]
theorem or_ev (a b : List Int) (ha : okW a) (hb : okW b) (hna : a.length ≤ 1000000) (hnb : b.length ≤ 1000000) : ∃ r, Ev (fun k => bits_Or.f k a b) r ∧ Nrm r (fun i => tb a i || tb b i) ∧ r.length ≤ max a.length b.length := by
  obtain ⟨F, hF⟩ : ∃ F : Nat → Int, ∀ j : Nat, bits .or .u64 (rd a (j : Int)) (rd b (j : Int)) = F j := ⟨_, fun _ => rfl⟩
  have hw : ∀ j, 0 ≤ F j ∧ F j < 18446744073709551616 := fun j => by rw [← hF]; exact (bit_or (ha.rd j) (hb.rd j)).1
  obtain ⟨n, hn⟩ : ∃ n, max a.length b.length = n := ⟨_, rfl⟩
  have hN : Nrm (sh (upto F n)) (fun i => tb a i || tb b i) := (nrm_sh (okW_upto (fun j _ => hw j))).congr (fun i => by
    rw [tb_upto]
    by_cases h : i / 64 < n
    · rw [← hF, (bit_or (ha.rd _) (hb.rd _)).2]; simp [h, tb]
    · rw [tb_out (l := a) i (by omega), tb_out (l := b) i (by omega)]; simp [h])
  refine ⟨_, ?_, hN, by have := Elems.sh_len (upto F n); rw [upto_len] at this; omega⟩
  refine Ev.congr (fun k => ?_) (or_loop a b n (by omega) F hF _ 0 (Nat.zero_le _) rfl)
  have hm : mx (a.length : Int) (b.length : Int) = (n : Int) := by unfold mx; split <;> omega
  unfold bits_Or.f
  rw [hm, if_pos (by omega), if_pos (by omega)]
  simp

theorem tb_set (l : List Int) (j : Nat) (hj : j < l.length) (x : Int) (i : Nat) : tb (l.set j x) i = if i / 64 = j then x.toNat.testBit (i % 64) else tb l i := by
  unfold tb
  rw [rd_nat, rd_nat]
  by_cases h : i / 64 = j
  · rw [if_pos h, h]; simp [hj]
  · rw [if_neg h]
    have : ¬ j = i / 64 := fun e => h e.symm
    simp [List.getElem?_set, this]

/-- A number put into a row of words that reaches so far. -/
theorem put_bit {l : List Int} (hl : okW l) (n : Nat) (hn : n / 64 < l.length) :
    okW (l.set (n / 64) (bits .or .u64 (rd l ((n / 64 : Nat) : Int)) ((2 ^ (n % 64) : Nat) : Int))) ∧ ∀ i, tb (l.set (n / 64) (bits .or .u64 (rd l ((n / 64 : Nat) : Int)) ((2 ^ (n % 64) : Nat) : Int))) i = (tb l i || decide (i = n)) := by
  obtain ⟨h1, h2⟩ := bit_or (hl.rd (n / 64)) (two_pow_word (n % 64) (Nat.mod_lt _ (by omega)))
  refine ⟨hl.set _ h1, fun i => ?_⟩
  rw [tb_set l _ hn]
  by_cases h : i / 64 = n / 64
  · rw [if_pos h, h2, Int.toNat_natCast, Nat.testBit_two_pow]
    have e : decide (n % 64 = i % 64) = decide (i = n) := by congr 1; apply propext; omega
    rw [e]
    unfold tb; rw [h]
  · rw [if_neg h]
    have : ¬ i = n := fun e => h (by rw [e])
    simp [this]
/-- Is the number one of the row's that may be put in? -/
def ins (l : List Int) (i : Nat) : Bool := decide (i < 4096) && l.any fun x => decide (x = (i : Int))
theorem ins_snoc (l : List Int) (x : Int) (i : Nat) : ins (l ++ [x]) i = (ins l i || (decide (i < 4096) && decide (x = (i : Int)))) := by
  unfold ins; rw [List.any_append]; cases decide (i < 4096) <;> simp
theorem of_loop (l : List Int) (hl : l.length ≤ 100000000) (d : Nat) : ∀ (m : Nat) (s : List Int), m ≤ l.length → l.length - m = d → s.length = 64 → okW s → (∀ i, tb s i = ins (l.take m) i) →
    ∃ s', Ev (fun k => bits_Of.l0 k s l (l.length : Int) (m : Int)) (sh s') ∧ s'.length = 64 ∧ okW s' ∧ ∀ i, tb s' i = ins l i := by
  induction d with
  | zero =>
    intro m s hm hd h64 hok ht
    obtain rfl : m = l.length := by omega
    rw [List.take_length] at ht
    refine ⟨s, ?_, h64, hok, ht⟩
    refine Ev.step (f := fun k => (bits_short.f k s).bind fun t => some t) (fun k => ?_) (Ev.bind (short_ev _ (by omega)) (Ev.now _))
    simp only [bits_Of.l0]
    rw [if_neg (by omega)]
  | succ d ih =>
    intro m s hm hd h64 hok ht
    have htk := take_succ_rd l m (by omega)
    have hs := ins_snoc (l.take m) (rd l m)
    rw [← htk] at hs
    obtain ⟨x, hx⟩ : ∃ x, rd l (m : Int) = x := ⟨_, rfl⟩
    rw [hx] at hs
    by_cases hin : 0 ≤ x ∧ x < 4096
    · obtain ⟨n, rfl⟩ := Int.eq_ofNat_of_zero_le hin.1
      have hn : n / 64 < s.length := by omega
      obtain ⟨h1, h2⟩ := put_bit hok n hn
      obtain ⟨s', he, h⟩ := ih (m + 1) _ (by omega) (by omega) (by rw [List.length_set]; exact h64) h1 (fun i => by
        rw [h2, ht, hs]
        congr 1
        by_cases e : i = n
        · subst e
          have : i < 4096 := by omega
          simp [this]
        · have : ¬ (n : Int) = (i : Int) := by omega
          simp [e, this])
      refine ⟨s', Ev.step (fun k => ?_) he, h⟩
      simp only [bits_Of.l0]
      rw [if_pos (by omega), if_pos (by omega), if_pos (by omega), hx, if_pos (by omega), if_pos (by omega), div64 n (by omega), if_pos (by omega), if_pos (by omega), mod64, if_pos (by omega), shl_one _ (Nat.mod_lt _ (by omega)), Int.toNat_natCast, wrap_succ m (by omega)]
    · obtain ⟨s', he, h⟩ := ih (m + 1) s (by omega) (by omega) h64 hok (fun i => by
        rw [ht, hs]
        by_cases e : i < 4096 ∧ x = (i : Int)
        · omega
        · have : (decide (i < 4096) && decide (x = (i : Int))) = false := by
            rw [← Bool.decide_and, decide_eq_false e]
          rw [this, Bool.or_false])
      refine ⟨s', Ev.step (fun k => ?_) he, h⟩
      simp only [bits_Of.l0]
      rw [if_pos (by omega), if_pos (by omega), if_pos (by omega), hx, wrap_succ m (by omega)]
      by_cases h0 : x ≥ 0
      · rw [if_pos h0, if_neg (by omega)]
      · rw [if_neg h0]
theorem of_ev (l : List Int) (hl : l.length ≤ 100000000) : ∃ r, Ev (fun k => bits_Of.f k l) r ∧ Nrm r (ins l) ∧ r.length ≤ 64 := by
  obtain ⟨s, he, h64, hok, ht⟩ := of_loop l hl _ 0 (List.replicate 64 0) (Nat.zero_le _) rfl (by simp) (okW.zeros 64) (fun i => by
    have h1 := rd_zeros [] 64 (i / 64)
    rw [List.nil_append] at h1
    unfold tb; rw [h1]; simp [ins, rd])
  refine ⟨sh s, Ev.congr (fun k => ?_) he, (nrm_sh hok).congr ht, by have := Elems.sh_len s; omega⟩
  unfold bits_Of.f
  rw [if_pos (by omega)]; rfl
theorem with_ev (a : List Int) (ha : okW a) (hn : a.length ≤ 1000000) (x : Int) : ∃ r, Ev (fun k => bits_With.f k a x) r ∧ Nrm r (fun i => tb a i || (decide (i < 4096) && decide (x = (i : Int)))) ∧ r.length ≤ max a.length 64 := by
  obtain ⟨o, ho, hN, hlo⟩ := of_ev [x] (by simp)
  obtain ⟨r, hr, hNr, hlr⟩ := or_ev a o ha hN.ok hn (by omega)
  refine ⟨r, Ev.bind ho (Ev.bind hr (Ev.now _)), hNr.congr (fun i => ?_), by omega⟩
  simp only [hN.tb, ins, List.any_cons, List.any_nil, Bool.or_false]
end Go.Proofs.Ytbmnnmcnmfgbaaa.PB
end
section
/-
  The plain side of layer 5, second part: the reference's functions make the same sets; lists and counts.
-/
namespace Go.Proofs.Ytbmnnmcnmfgbaaa.PB
open Go.RowKit Go.Proofs.YtbmnnmcnmfgbaaaW.PrintWords Go.Proofs.YtbmnnmcnmfgbaaaW.PrintLast Go.Proofs.YtbmnnmcnmfgbaaaW.PrintMore
open Elems (sh)
set_option linter.unusedVariables false
set_option linter.unusedSimpArgs false

/-! ### equal rows -/
theorem rows_loop_spec (L0 : Nat → List Int → List Int → Int → Option Bool) (h : ∀ k x0 x1 x5, L0 (k + 1) x0 x1 x5 = if x5 < (x0.length : Int) then (if 0 ≤ x5 then (if x5 < (x1.length : Int) then (if (rd x0 x5) = (rd x1 x5) then (L0 k x0 x1 (wrap64 (x5 + 1))) else (some false)) else (none)) else (none)) else (some true))
    (a b : List Int) (hl : a.length = b.length) (hn : a.length < 9223372036854775807) (d : Nat) : ∀ m : Nat, m ≤ a.length → a.length - m = d → Ev (fun k => L0 k a b (m : Int)) (decide (a.drop m = b.drop m)) := by
  induction d with
  | zero =>
    intro m hm hd
    obtain rfl : m = a.length := by omega
    have e : decide (a.drop a.length = b.drop a.length) = true := by rw [hl, List.drop_length, ← hl, List.drop_length]; rfl
    rw [e]
    refine Ev.step (f := fun _ => some true) (fun k => ?_) (Ev.now _)
    rw [h, if_neg (by omega)]
  | succ d ih =>
    intro m hm hd
    have ha : a.drop m = rd a m :: a.drop (m + 1) := by rw [List.drop_eq_getElem_cons (by omega)]; simp [rd, show m < a.length from by omega]
    have hb : b.drop m = rd b m :: b.drop (m + 1) := by rw [List.drop_eq_getElem_cons (by omega)]; simp [rd, show m < b.length from by omega]
    rw [ha, hb]
    by_cases he : rd a (m : Int) = rd b (m : Int)
    · have e : decide (rd a (m : Int) :: a.drop (m + 1) = rd b (m : Int) :: b.drop (m + 1)) = decide (a.drop (m + 1) = b.drop (m + 1)) := decide_eq_decide.2 (by rw [he]; simp)
      rw [e]
      refine Ev.step (fun k => ?_) (ih (m + 1) (by omega) (by omega))
      rw [h, if_pos (by omega), if_pos (by omega), if_pos (by omega), if_pos he, wrap_succ m (by omega)]
    · have e : decide (rd a (m : Int) :: a.drop (m + 1) = rd b (m : Int) :: b.drop (m + 1)) = false := decide_eq_false (by simp [he])
      rw [e]
      refine Ev.step (f := fun _ => some false) (fun k => ?_) (Ev.now _)
      rw [h, if_pos (by omega), if_pos (by omega), if_pos (by omega), if_neg he]
theorem ints_ev (a b : List Int) (hn : a.length < 9223372036854775807) : Ev (fun k => horariumref03_Ints.f k a b) (decide (a = b)) := by
  by_cases hl : a.length = b.length
  · refine Ev.congr (fun k => ?_) (rows_loop_spec horariumref03_Ints.l0 (fun k x0 x1 x5 => by simp only [horariumref03_Ints.l0]) a b hl hn _ 0 (Nat.zero_le _) rfl)
    unfold horariumref03_Ints.f
    rw [if_pos (by omega)]; rfl
  · rw [decide_eq_false (fun e => hl (by rw [e]))]
    refine Ev.congr (fun k => ?_) (Ev.now _)
    unfold horariumref03_Ints.f
    rw [if_neg (by omega)]

/-! ### rows of bools -/
/-! ### Made -/
/-! ### lists and counts -/
def els (l : List Int) (n : Nat) : List Int := ((List.range n).filter (tb l)).map (fun (i : Nat) => (i : Int))
theorem range_add (a b : Nat) : List.range (a + b) = List.range a ++ (List.range b).map (fun i => a + i) := by
  apply List.ext_getElem
  · simp
  · intro i h1 h2
    by_cases h : i < a
    · rw [List.getElem_append_left (by simpa using h)]; simp
    · rw [List.getElem_append_right (by simpa using h)]; simp; omega
theorem from_els (l : List Int) (hl : okW l) (k : Nat) : k ≤ l.length → Elems.from_ 0 (l.take k) = els l (64 * k) := by
  induction k with
  | zero => intro _; simp [Elems.from_, els]
  | succ k ih =>
    intro hk
    rw [Elems.from_take_succ l k (by omega), ih (by omega)]
    unfold els
    rw [show 64 * (k + 1) = 64 * k + 64 from by omega, range_add, List.filter_append, List.map_append]
    congr 1
    unfold Elems.wbits
    rw [List.filter_map, List.map_map]
    have : (List.range 64).filter (fun n => (l.getD k 0).toNat.testBit n) = (List.range 64).filter (tb l ∘ fun i => 64 * k + i) := by
      apply List.filter_congr
      intro i hi
      have hi' : i < 64 := by simpa using hi
      simp only [Function.comp, tb]
      rw [show (64 * k + i) / 64 = k from by omega, show (64 * k + i) % 64 = i from by omega, rd_nat]
    rw [this]; rfl
theorem from_all (l : List Int) (hl : okW l) : Elems.from_ 0 l = els l (64 * l.length) := by
  have := from_els l hl l.length (Nat.le_refl _)
  rwa [List.take_length] at this
theorem okWords_of {l : List Int} (h : okW l) (hl : l.length ≤ 1000000) : okWords l = true := okWords_iff.2 ⟨hl, h⟩
theorem list_f (l : List Int) (h : okW l) (hl : l.length ≤ 1000000) : bits_List.f l = some (els l (64 * l.length)) := by
  unfold bits_List.f; rw [if_pos (okWords_of h hl), from_all l h]
theorem els_len (l : List Int) (n : Nat) : (els l n).length ≤ n := by
  unfold els
  rw [List.length_map]
  have := List.length_filter_le (tb l) (List.range n)
  simpa using this
end Go.Proofs.Ytbmnnmcnmfgbaaa.PB
end
section
/-
  Package graph: what a graph is in memory, and the contracts of New, Len, is, Has, Near, Join.
-/
namespace Go.Proofs.Ytbmnnmcnmfgbaaa.PG
open Go.RowKit Go.Shelf Go.Proofs.YtbmnnmcnmfgbaaaW.PrintWords Go.Proofs.YtbmnnmcnmfgbaaaW.PrintLast Go.Proofs.YtbmnnmcnmfgbaaaW.PrintMore
open Go.Proofs.Ytbmnnmcnmfgbaaa.PB
set_option linter.unusedVariables false
set_option linter.unusedSimpArgs false

theorem info22 : (Try.prog.info? 22).map (fun i => (i.zero, i.size, i.bytes)) = some (some (.slice none 0 0), 1, 24) := by kernel_rfl

/-- Blocks of other types than t are as they were; the streams, too. -/
structure Only (t : TypeId) (w w' : World) : Prop where
  os : w'.os = w.os
  tape : w'.tape = w.tape
  output : w'.output = w.output
  size : w.heap.size ≤ w'.heap.size
  block : ∀ k, k < w.heap.size → (∀ c f, w.heap[k]? ≠ some (.cells c t f)) → w'.heap[k]? = w.heap[k]?

/-- The graph at block g: a row of slices, each a row of words of the call's own; all from base on. -/
structure GraphAt (w : World) (base g gr : Nat) (vs : List Value) (nbs : List (List Int)) : Prop where
  g_base : base ≤ g
  gr_base : base ≤ gr
  len : vs.length = nbs.length
  head : w.heap[g]? = some (.cells #[.slice (some ⟨gr, 0, none⟩) nbs.length nbs.length] 55 (0, 0))
  row : w.heap[gr]? = some (.cells vs.toArray 22 (0, 0))
  own : ∀ i, i < nbs.length → w.ownsRow base 37 1 (vs.getD i undef) (nbs.getD i []).length (nums .u64 (nbs.getD i []))

set_option maxRecDepth 100000 in
set_option maxHeartbeats 1000000 in
theorem new_yes (n : Nat) (hn : n ≤ 400) (w : World) :
    Calls Try.prog 62 #[.int .i64 n] w fun e w' => ∃ g gr, e = .returned (.pointer (some ⟨g, 0, none⟩)) ∧ GraphAt w' w.heap.size g gr (List.replicate n (.slice none 0 0)) (List.replicate n []) ∧ Below w.heap.size w w' := by
  obtain ⟨i0, hi, hz0, hz1, hz2⟩ := info_parts info22
  have hmk : ∀ u : World, (Instr.makeSlice 53 (.int .i64 (n : Int)) (.int .i64 (n : Int))).run Try.prog u =
      .ok (.slice (some ⟨u.heap.size, 0, none⟩) n n) (u.alloc (.cells (madeCells #[.slice none 0 0] n) 22)) := fun u => by
    have h := run_make (P := Try.prog) u 53 22 i0 (.slice none 0 0) Try.underlying53 hi hz0 .i64 .i64 (n : Int) (n : Int) (by omega) (Int.le_refl _) (by rw [hz2]; omega) (by omega)
    simpa [hz1, Value.cells] using h
  have h1 : decide ((n : Int) < 0) = false := decide_eq_false (by omega)
  have h2 : decide (400 < (n : Int)) = false := decide_eq_false (by omega)
  go_enter Try.func62, Try.ntmps62
  go_wp2
  go_ret
  have e1 : (w.alloc (Obj.cells (madeCells #[Value.slice none 0 0] n) 22)).heap.size = w.heap.size + 1 := World.size_alloc _ _
  have hmc : madeCells #[Value.slice none 0 0] n = (List.replicate n (Value.slice none 0 0)).toArray := by
    apply Array.ext
    · simp [madeCells]
    · intro i h1 h2; simp [madeCells, Nat.mod_one]
  refine ⟨w.heap.size + 1, w.heap.size, rfl, ⟨by omega, Nat.le_refl _, by simp, ?_, ?_, ?_⟩, below_alloc (below_alloc (Below.refl _ _) _) _⟩
  · have h := World.alloc_heap_new (w.alloc (Obj.cells (madeCells #[Value.slice none 0 0] n) 22)) (Obj.cells #[Value.slice (some ⟨w.heap.size, 0, none⟩) n n] 55)
    rw [e1] at h
    simpa using h
  · rw [Below.heap_alloc _ _ _ (by simp), ← hmc]
    exact World.alloc_heap_new w _
  · intro i hi
    rw [List.length_replicate] at hi
    have a1 : (List.replicate n (Value.slice none 0 0)).getD i undef = .slice none 0 0 := by simp [hi]
    have a2 : (List.replicate n ([] : List Int)).getD i [] = [] := by simp [hi]
    rw [a1, a2]
    exact own_nil _ _ _ _

/-- A graph as a pointer: nil; one that nobody made; one that New made. -/
def IsG (w : World) (base : Nat) (p : Option Addr) (nbs : List (List Int)) : Prop :=
  (p = none ∧ nbs = []) ∨ (∃ g, p = some ⟨g, 0, none⟩ ∧ w.heap[g]? = some (.cells #[.slice none 0 0] 55 (0, 0)) ∧ nbs = []) ∨ ∃ g gr vs, p = some ⟨g, 0, none⟩ ∧ GraphAt w base g gr vs nbs

theorem GraphAt.move {w w' : World} {base g gr : Nat} {vs : List Value} {nbs : List (List Int)} (h : GraphAt w base g gr vs nbs) (hb : ∀ k, base ≤ k → k < w.heap.size → w'.heap[k]? = w.heap[k]?) : GraphAt w' base g gr vs nbs :=
  ⟨h.g_base, h.gr_base, h.len, (hb g h.g_base (lt_of_block h.head)).trans h.head, (hb gr h.gr_base (lt_of_block h.row)).trans h.row,
    fun i hi => own_move (h.own i hi) (fun k hk => hb k (own_base (h.own i hi) k hk) (own_lt (h.own i hi) k hk))⟩
theorem GraphAt.below {w w' : World} {base g gr : Nat} {vs : List Value} {nbs : List (List Int)} (h : GraphAt w base g gr vs nbs) (hb : Below w.heap.size w w') : GraphAt w' base g gr vs nbs := h.move fun k _ hk => hb.block k hk
theorem IsG.below {w w' : World} {base : Nat} {p : Option Addr} {nbs : List (List Int)} (h : IsG w base p nbs) (hb : Below w.heap.size w w') : IsG w' base p nbs := by
  rcases h with h | ⟨g, h1, h2, h3⟩ | ⟨g, gr, vs, h1, h2⟩
  · exact .inl h
  · exact .inr (.inl ⟨g, h1, (hb.block g (lt_of_block h2)).trans h2, h3⟩)
  · exact .inr (.inr ⟨g, gr, vs, h1, h2.below hb⟩)
theorem cell_of_row0 {w : World} {b : Nat} {c : Array Value} {t : TypeId} (h : w.heap[b]? = some (.cells c t (0, 0))) (i : Nat) (hi : i < c.size) : w.cell? ⟨b, i, none⟩ = some (c.getD i undef) := by
  simp [World.cell?, h, hi]
theorem GraphAt.cell {w : World} {base g gr : Nat} {vs : List Value} {nbs : List (List Int)} (h : GraphAt w base g gr vs nbs) : w.cell? ⟨g, 0, none⟩ = some (.slice (some ⟨gr, 0, none⟩) nbs.length nbs.length) := by
  have := cell_of_row0 h.head 0 (by simp); simpa using this
theorem GraphAt.at_ {w : World} {base g gr : Nat} {vs : List Value} {nbs : List (List Int)} (h : GraphAt w base g gr vs nbs) (i : Nat) (hi : i < nbs.length) : w.cell? ⟨gr, i, none⟩ = some (vs.getD i undef) := by
  have := cell_of_row0 h.row i (by simpa using h.len ▸ hi)
  simpa using this
theorem GraphAt.reads {w : World} {base g gr : Nat} {vs : List Value} {nbs : List (List Int)} (h : GraphAt w base g gr vs nbs) (i : Nat) (hi : i < nbs.length) :
    ∃ A c, vs.getD i undef = .slice A (nbs.getD i []).length c ∧ (nbs.getD i []).length ≤ c ∧ Kd.C (Kd.int .u64) w A (nbs.getD i []).length (nbs.getD i []) :=
  Kd.R_reads (Kd.R_of_own (ok := fun _ => True) (h.own i hi) (fun _ _ => trivial))

set_option maxRecDepth 100000 in
theorem len_calls (p : Option Addr) (base : Nat) (nbs : List (List Int)) (w : World) (h : IsG w base p nbs) :
    Calls Try.prog 66 #[.pointer p] w fun e w' => e = .returned (.int .i64 (nbs.length : Int)) ∧ w = w' := by
  rcases h with ⟨rfl, rfl⟩ | ⟨g, rfl, h2, rfl⟩ | ⟨g, gr, vs, rfl, h2⟩
  · go_enter Try.func66, Try.ntmps66
    go_wp2
    go_ret
    exact ⟨rfl, rfl⟩
  · have hc : w.cell? ⟨g, 0, none⟩ = some (.slice none 0 0) := by have := cell_of_row0 h2 0 (by simp); simpa using this
    clear h2
    go_enter Try.func66, Try.ntmps66
    go_wp2
    go_ret
    exact ⟨rfl, rfl⟩
  · have hc := h2.cell
    clear h2
    go_enter Try.func66, Try.ntmps66
    go_wp2
    go_ret
    exact ⟨rfl, rfl⟩

/-- Is a a node? -/
def isB (nbs : List (List Int)) (a : Int) : Bool := decide (0 ≤ a) && decide (a < (nbs.length : Int))
set_option maxRecDepth 100000 in
theorem is_calls (p : Option Addr) (base : Nat) (nbs : List (List Int)) (a : Int) (w : World) (h : IsG w base p nbs) :
    Calls Try.prog 76 #[.pointer p, .int .i64 a] w fun e w' => e = .returned (.bool (isB nbs a)) ∧ w = w' := by
  by_cases h0 : 0 ≤ a
  · have h1 : decide (0 ≤ a) = true := decide_eq_true h0
    have HG := Aside0.mk h
    clear h
    go_enter Try.func76, Try.ntmps76
    go_wp2_with fail
    refine (len_calls p base nbs _ HG.out).mono ?_
    rintro e w1 ⟨rfl, rfl⟩
    go_wp2
    go_ret
    refine ⟨?_, rfl⟩
    show Ending.returned (.bool (decide (a < (nbs.length : Int)))) = _
    rw [isB, h1, Bool.true_and]
  · have h1 : decide (0 ≤ a) = false := decide_eq_false h0
    clear h
    go_enter Try.func76, Try.ntmps76
    go_wp2
    go_ret
    refine ⟨?_, rfl⟩
    rw [isB, h1, Bool.false_and]; rfl

/-- Are a and b joined? -/
def hasB (nbs : List (List Int)) (a b : Int) : Bool := isB nbs a && (decide (0 ≤ b) && tb (nbs.getD a.toNat []) b.toNat)
theorem isB_cases {nbs : List (List Int)} {a : Int} (h : isB nbs a = true) : ∃ n : Nat, a = (n : Int) ∧ n < nbs.length := by
  unfold isB at h
  rw [Bool.and_eq_true, decide_eq_true_eq, decide_eq_true_eq] at h
  obtain ⟨n, rfl⟩ := Int.eq_ofNat_of_zero_le h.1
  exact ⟨n, rfl, by omega⟩
theorem IsG.made {w : World} {base : Nat} {p : Option Addr} {nbs : List (List Int)} (h : IsG w base p nbs) (hn : 0 < nbs.length) : ∃ g gr vs, p = some ⟨g, 0, none⟩ ∧ GraphAt w base g gr vs nbs := by
  rcases h with ⟨_, rfl⟩ | ⟨_, _, _, rfl⟩ | h
  · simp at hn
  · simp at hn
  · exact h
set_option maxRecDepth 100000 in
set_option maxHeartbeats 1000000 in
theorem has_calls (p : Option Addr) (base : Nat) (nbs : List (List Int)) (a b : Int) (w : World) (h : IsG w base p nbs) (hok : ∀ l ∈ nbs, okW l) (hb : b < 9223372036854775808) :
    Calls Try.prog 67 #[.pointer p, .int .i64 a, .int .i64 b] w fun e w' => e = .returned (.bool (hasB nbs a b)) ∧ Drawn0 w w' := by
  by_cases hi : isB nbs a = true
  · obtain ⟨n, rfl, hn⟩ := isB_cases hi
    obtain ⟨g, gr, vs, rfl, hG⟩ := h.made (by omega)
    obtain ⟨A, c, ev, hc, hC⟩ := hG.reads n hn
    have hcell := hG.cell
    have hat := hG.at_ n hn
    rw [ev] at hat
    have hl : okW (nbs.getD n []) := by
      rw [List.getD_eq_getElem?_getD, List.getElem?_eq_getElem hn]; exact hok _ (List.getElem_mem _)
    obtain ⟨x, hx⟩ : ∃ x, nbs.getD n [] = x := ⟨_, rfl⟩
    rw [hx] at hc hC hat hl
    have HX := Aside0.mk hx
    have HF := Aside0.mk (has_f x hl b hb)
    have HG := Aside0.mk h
    have HI := Aside0.mk hi
    have HC := Aside0.mk hC
    have HCC := Aside0.mk hc
    have HOK := Aside0.mk hok
    clear h hi hC hc hok hG ev hx
    go_enter Try.func67, Try.ntmps67
    go_wp2_with fail
    refine (is_calls _ base nbs _ _ HG.out).mono ?_
    rintro e w1 ⟨rfl, rfl⟩
    have hit := HI.out
    go_wp2_with fail
    refine (bits_Has.calls A c x b _ _ HC.out HCC.out HF.out).mono ?_
    rintro e w2 ⟨rfl, hd⟩
    go_wp2
    go_ret
    refine ⟨?_, hd⟩
    unfold hasB
    rw [hit, Int.toNat_natCast, HX.out]; rfl
  · have hi' : isB nbs a = false := by simpa using hi
    have HG := Aside0.mk h
    have HI := Aside0.mk hi'
    clear h hi hi' hok
    go_enter Try.func67, Try.ntmps67
    go_wp2_with fail
    refine (is_calls p base nbs a _ HG.out).mono ?_
    rintro e w1 ⟨rfl, rfl⟩
    have hit := HI.out
    go_wp2
    go_ret
    refine ⟨?_, Drawn0.refl _⟩
    unfold hasB
    rw [hit]; rfl

/-- The nodes that are joined to a. -/
def nearL (nbs : List (List Int)) (a : Int) : List Int := if isB nbs a = true then els (nbs.getD a.toNat []) (64 * (nbs.getD a.toNat []).length) else []
set_option maxRecDepth 100000 in
set_option maxHeartbeats 1000000 in
theorem near_calls (p : Option Addr) (base : Nat) (nbs : List (List Int)) (a : Int) (w : World) (h : IsG w base p nbs) (hok : ∀ l ∈ nbs, okW l ∧ l.length ≤ 1000000) :
    Calls Try.prog 68 #[.pointer p, .int .i64 a] w fun e w' => ∃ v, e = .returned v ∧ Kd.R (Kd.int .i64) 3 w' w.heap.size (fun _ => True) v (nearL nbs a) ∧ Below w.heap.size w w' := by
  by_cases hi : isB nbs a = true
  · obtain ⟨n, rfl, hn⟩ := isB_cases hi
    obtain ⟨g, gr, vs, rfl, hG⟩ := h.made (by omega)
    obtain ⟨A, c, ev, hc, hC⟩ := hG.reads n hn
    have hcell := hG.cell
    have hat := hG.at_ n hn
    rw [ev] at hat
    have hl : okW (nbs.getD n []) ∧ (nbs.getD n []).length ≤ 1000000 := by
      rw [List.getD_eq_getElem?_getD, List.getElem?_eq_getElem hn]; exact hok _ (List.getElem_mem _)
    have HN : Aside0 (els (nbs.getD n []) (64 * (nbs.getD n []).length) = nearL nbs (n : Int)) := ⟨by unfold nearL; rw [if_pos hi]; rfl⟩
    obtain ⟨x, hx⟩ : ∃ x, nbs.getD n [] = x := ⟨_, rfl⟩
    rw [hx] at hc hC hat hl HN
    have HF := Aside0.mk (list_f x hl.1 hl.2)
    have HG := Aside0.mk h
    have HI := Aside0.mk hi
    have HC := Aside0.mk hC
    have HCC := Aside0.mk hc
    clear h hi hC hc hok hG ev hl hx
    go_enter Try.func68, Try.ntmps68
    go_wp2_with fail
    refine (is_calls _ base nbs _ _ HG.out).mono ?_
    rintro e w1 ⟨rfl, rfl⟩
    have hit := HI.out
    go_wp2_with fail
    refine (bits_List.calls A c x _ _ HC.out HCC.out HF.out).mono ?_
    rintro e w2 ⟨v, rfl, hR, hb⟩
    rw [HN.out] at hR
    have HR := Aside0.mk hR
    clear hR
    go_wp2
    go_ret
    exact ⟨v, rfl, HR.out, hb⟩
  · have hi' : isB nbs a = false := by simpa using hi
    have HN : Aside0 (nearL nbs a = []) := ⟨by unfold nearL; rw [if_neg hi]⟩
    have HG := Aside0.mk h
    have HI := Aside0.mk hi'
    clear h hi hi' hok
    go_enter Try.func68, Try.ntmps68
    go_wp2_with fail
    refine (is_calls p base nbs a _ HG.out).mono ?_
    rintro e w1 ⟨rfl, rfl⟩
    have hit := HI.out
    go_wp2
    go_ret
    rw [HN.out]
    exact ⟨_, rfl, Kd.R_nil _ _ _ _ _, Below.refl _ _⟩
/-! ### Join -/
def joinB (nbs : List (List Int)) (a b : Int) : Bool := isB nbs a && (isB nbs b && (!decide (a = b) && !hasB nbs a b))
set_option maxRecDepth 100000 in
set_option maxHeartbeats 1000000 in
theorem join_no (p : Option Addr) (base : Nat) (nbs : List (List Int)) (a b : Int) (w : World) (h : IsG w base p nbs) (hok : ∀ l ∈ nbs, okW l) (hb : b < 9223372036854775808) (hj : joinB nbs a b = false) :
    Calls Try.prog 64 #[.pointer p, .int .i64 a, .int .i64 b] w fun e w' => e = .returned (.bool false) ∧ Drawn0 w w' := by
  have HG := Aside0.mk h
  have HO := Aside0.mk hok
  have HB := Aside0.mk hb
  clear h hok hb
  unfold joinB at hj
  rcases hi : isB nbs a
  · clear hj
    go_enter Try.func64, Try.ntmps64
    go_wp2_with fail
    refine (is_calls p base nbs a _ HG.out).mono ?_
    rintro e w1 ⟨rfl, rfl⟩
    go_wp2
    go_ret
    exact ⟨rfl, Drawn0.refl _⟩
  rw [hi, Bool.true_and] at hj
  rcases hi2 : isB nbs b
  · clear hj
    go_enter Try.func64, Try.ntmps64
    go_wp2_with fail
    refine (is_calls p base nbs a _ HG.out).mono ?_
    rintro e w1 ⟨rfl, rfl⟩
    go_wp2_with fail
    refine (is_calls p base nbs b _ HG.out).mono ?_
    rintro e w1 ⟨rfl, rfl⟩
    go_wp2
    go_ret
    exact ⟨rfl, Drawn0.refl _⟩
  rw [hi2, Bool.true_and] at hj
  by_cases hab : a = b
  · clear hj
    have h1 : (a == b) = true := by simp [hab]
    clear hab
    go_enter Try.func64, Try.ntmps64
    go_wp2_with fail
    refine (is_calls p base nbs a _ HG.out).mono ?_
    rintro e w1 ⟨rfl, rfl⟩
    go_wp2_with fail
    refine (is_calls p base nbs b _ HG.out).mono ?_
    rintro e w1 ⟨rfl, rfl⟩
    go_wp2
    go_ret
    exact ⟨rfl, Drawn0.refl _⟩
  · have h1 : decide (a = b) = false := decide_eq_false hab
    rw [h1, Bool.not_false, Bool.true_and] at hj
    have h1b : (a == b) = false := by simp [hab]
    clear hab h1
    have hj' : hasB nbs a b = true := by simpa using hj
    clear hj
    go_enter Try.func64, Try.ntmps64
    go_wp2_with fail
    refine (is_calls p base nbs a _ HG.out).mono ?_
    rintro e w1 ⟨rfl, rfl⟩
    go_wp2_with fail
    refine (is_calls p base nbs b _ HG.out).mono ?_
    rintro e w1 ⟨rfl, rfl⟩
    go_wp2_with fail
    refine (has_calls p base nbs a b _ HG.out HO.out HB.out).mono ?_
    rintro e w1 ⟨rfl, hd⟩
    go_wp2
    go_ret
    exact ⟨rfl, hd⟩

/-- What is held while two nodes are joined. -/
def JS (w0 : World) (g gr : Nat) (A B : Option Addr) (n a b la ca lb cb : Nat) (w' : World) : Prop :=
  w'.cell? ⟨g, 0, none⟩ = some (.slice (some ⟨gr, 0, none⟩) n n) ∧ w'.cell? ⟨gr, a, none⟩ = some (.slice A la ca) ∧ w'.cell? ⟨gr, b, none⟩ = some (.slice B lb cb) ∧ Aside0 (Below w0.heap.size w0 w')
theorem JS.start {w0 : World} {g gr : Nat} {A B : Option Addr} {n a b la ca lb cb : Nat} (h1 : w0.cell? ⟨g, 0, none⟩ = some (.slice (some ⟨gr, 0, none⟩) n n)) (h2 : w0.cell? ⟨gr, a, none⟩ = some (.slice A la ca)) (h3 : w0.cell? ⟨gr, b, none⟩ = some (.slice B lb cb)) :
    JS w0 g gr A B n a b la ca lb cb w0.drew := ⟨h1, h2, h3, ⟨below_drew (Below.refl _ _)⟩⟩
theorem JS.step {w0 w1 w2 : World} {g gr : Nat} {A B : Option Addr} {n a b la ca lb cb : Nat} (h : JS w0 g gr A B n a b la ca lb cb w1) (hb : Below w1.heap.size w1 w2) : JS w0 g gr A B n a b la ca lb cb w2 :=
  ⟨pw_cell_below hb h.1, pw_cell_below hb h.2.1, pw_cell_below hb h.2.2.1, ⟨below_then h.2.2.2.out h.2.2.2.out.size hb⟩⟩
theorem JS.frozen {w0 w1 : World} {g gr : Nat} {A B : Option Addr} {n a b la ca lb cb : Nat} (h : JS w0 g gr A B n a b la ca lb cb w1) {c : Array Value} (hg : w0.heap[gr]? = some (.cells c 22 (0, 0))) (i : Nat) : w1.frozen? ⟨gr, i, none⟩ = false := by
  have := (h.2.2.2.out.block gr (lt_of_block hg)).trans hg
  simp [World.frozen?, this]
theorem heap_set {w : World} {b : Nat} {c : Array Value} {t : TypeId} (h : w.heap[b]? = some (.cells c t (0, 0))) (i : Nat) (v : Value) : (w.setCell ⟨b, i, none⟩ v).heap[b]? = some (.cells (c.setIfInBounds i v) t (0, 0)) := by
  simp only [World.setCell, Array.getElem?_modify, h]; simp
theorem GraphAt.far {w : World} {base g gr : Nat} {vs : List Value} {nbs : List (List Int)} (h : GraphAt w base g gr vs nbs) (i : Nat) (v : Value) {u : Value} {n : Nat} {xs : List Value} (ho : w.ownsRow base 37 1 u n xs) : (w.setCell ⟨gr, i, none⟩ v).ownsRow base 37 1 u n xs := by
  refine own_move ho (fun k hk => ?_)
  obtain ⟨cells, hc⟩ := own_typed ho k hk
  refine Go.Deep.blk_setCell_other _ _ _ _ (fun e => ?_)
  subst e
  have := hc.symm.trans h.row
  simp at this
theorem GraphAt.store {w : World} {base g gr : Nat} {vs : List Value} {nbs : List (List Int)} (h : GraphAt w base g gr vs nbs) (i : Nat) (hi : i < nbs.length) {v : Value} {x : List Int} (hv : w.ownsRow base 37 1 v x.length (nums .u64 x)) :
    GraphAt (w.setCell ⟨gr, i, none⟩ v) base g gr (vs.set i v) (nbs.set i x) := by
  have far := @GraphAt.far _ _ _ _ _ _ h i v
  have hg : g ≠ gr := fun e => by
    subst e
    have := h.head.symm.trans h.row
    simp at this
  refine ⟨h.g_base, h.gr_base, by simp [h.len], ?_, ?_, ?_⟩
  · rw [Go.Deep.blk_setCell_other _ _ _ _ hg, h.head, List.length_set]
  · rw [heap_set h.row]; simp
  · intro k hk
    rw [List.length_set] at hk
    by_cases e : k = i
    · subst e
      have e1 : (vs.set k v).getD k undef = v := by simp [h.len, hk]
      have e2 : (nbs.set k x).getD k [] = x := by simp [hk]
      rw [e1, e2]
      exact far hv
    · have e1 : (vs.set i v).getD k undef = vs.getD k undef := by simp [List.getD_eq_getElem?_getD, List.getElem?_set_ne (Ne.symm e)]
      have e2 : (nbs.set i x).getD k [] = nbs.getD k [] := by simp [List.getD_eq_getElem?_getD, List.getElem?_set_ne (Ne.symm e)]
      rw [e1, e2]
      exact far (h.own k hk)
theorem below_store {w0 w : World} {base : Nat} (h : Below base w0 w) {gr : Nat} (hg : base ≤ gr) (i : Nat) (v : Value) : Below base w0 (w.setCell ⟨gr, i, none⟩ v) :=
  ⟨h.os, h.tape, h.output, by rw [Go.Deep.nblk_setCell]; exact h.size, fun k hk => (Go.Deep.blk_setCell_other _ _ _ _ (by show k ≠ gr; omega)).trans (h.block k hk)⟩

theorem frozen_set {w : World} {p : Addr} (h : w.frozen? p = false) (b i : Nat) (v : Value) : (w.setCell ⟨b, i, none⟩ v).frozen? p = false := by
  rw [World.frozen?_setCell]; exact h
theorem cell_set_ne {w : World} {g a b : Nat} {u : Value} (h : w.cell? ⟨g, b, none⟩ = some u) (hab : a ≠ b) (v : Value) : (w.setCell ⟨g, a, none⟩ v).cell? ⟨g, b, none⟩ = some u := by
  rw [World.cell?_setCell_other _ _ _ _ (by intro e; injection e with _ e; omega)]; exact h
set_option maxRecDepth 100000 in
set_option maxHeartbeats 8000000 in
theorem join_yes (base g gr : Nat) (vs : List Value) (nbs : List (List Int)) (a b : Nat) (w : World) (hG : GraphAt w base g gr vs nbs) (hbase : base ≤ w.heap.size) (hok : ∀ l ∈ nbs, okW l ∧ l.length ≤ 1000000) (ha : a < nbs.length) (hb : b < nbs.length) (hab : a ≠ b) (hh : hasB nbs a b = false) (hn : nbs.length < 9223372036854775808) :
    Calls Try.prog 64 #[.pointer (some ⟨g, 0, none⟩), .int .i64 a, .int .i64 b] w fun e w' => e = .returned (.bool true) ∧ ∃ vs' ra rb, GraphAt w' base g gr vs' ((nbs.set a ra).set b rb) ∧
      Nrm ra (fun i => tb (nbs.getD a []) i || (decide (i < 4096) && decide ((b : Int) = (i : Int)))) ∧ ra.length ≤ max (nbs.getD a []).length 64 ∧ Nrm rb (fun i => tb (nbs.getD b []) i || (decide (i < 4096) && decide ((a : Int) = (i : Int)))) ∧ rb.length ≤ max (nbs.getD b []).length 64 ∧ Below base w w' ∧ w.grownBy w' (some gr) := by
  have hia : isB nbs (a : Int) = true := by simp [isB]; omega
  have hib : isB nbs (b : Int) = true := by simp [isB]; omega
  have h1 : ((a : Int) == (b : Int)) = false := by simp; omega
  obtain ⟨A, ca, eva, hca, hCA⟩ := hG.reads a ha
  obtain ⟨B, cb, evb, hcb, hCB⟩ := hG.reads b hb
  have hat0 := hG.at_ a ha
  have hbt0 := hG.at_ b hb
  rw [eva] at hat0
  rw [evb] at hbt0
  have hla : okW (nbs.getD a []) ∧ (nbs.getD a []).length ≤ 1000000 := by
    rw [List.getD_eq_getElem?_getD, List.getElem?_eq_getElem ha]; exact hok _ (List.getElem_mem _)
  have hlb : okW (nbs.getD b []) ∧ (nbs.getD b []).length ≤ 1000000 := by
    rw [List.getD_eq_getElem?_getD, List.getElem?_eq_getElem hb]; exact hok _ (List.getElem_mem _)
  obtain ⟨xa, hxa⟩ : ∃ x, nbs.getD a [] = x := ⟨_, rfl⟩
  obtain ⟨xb, hxb⟩ : ∃ x, nbs.getD b [] = x := ⟨_, rfl⟩
  rw [hxa] at hat0 hCA hca hla eva
  rw [hxb] at hbt0 hCB hcb hlb evb
  obtain ⟨ra, hEa, hNa, hLa⟩ := with_ev xa hla.1 hla.2 (b : Int)
  obtain ⟨rb, hEb, hNb, hLb⟩ := with_ev xb hlb.1 hlb.2 (a : Int)
  obtain ⟨kf, hFA⟩ := hEa.rounds
  obtain ⟨kg, hFB⟩ := hEb.rounds
  have HFA := Aside0.mk hFA
  have HFB := Aside0.mk hFB
  have HCA0 := Aside0.mk hCA
  have HCB0 := Aside0.mk hCB
  have HCCA := Aside0.mk hca
  have HCCB := Aside0.mk hcb
  have HG := Aside0.mk hG
  have HOK := Aside0.mk (fun l hl => (hok l hl).1)
  have HBI := Aside0.mk (show (b : Int) < 9223372036854775808 by omega)
  have HN := Aside0.mk (And.intro hNa (And.intro hLa (And.intro hNb hLb)))
  have HAT := Aside0.mk (And.intro hat0 hbt0)
  have HAB := Aside0.mk (And.intro ha (And.intro hb (And.intro hab hbase)))
  have HX := Aside0.mk (And.intro hxa hxb)
  clear hFA hFB hCA hCB hca hcb hG hok hNa hLa hNb hLb hEa hEb hat0 hbt0 hla hlb eva evb ha hb hab hn hbase hxa hxb
  go_enter Try.func64, Try.ntmps64
  go_wp2_with fail
  refine (is_calls _ base nbs _ _ (.inr (.inr ⟨g, gr, vs, rfl, HG.out⟩))).mono ?_
  rintro e w1 ⟨rfl, rfl⟩
  go_wp2_with fail
  refine (is_calls _ base nbs _ _ (.inr (.inr ⟨g, gr, vs, rfl, HG.out⟩))).mono ?_
  rintro e w1 ⟨rfl, rfl⟩
  go_wp2_with fail
  refine (has_calls _ base nbs _ _ _ (.inr (.inr ⟨g, gr, vs, rfl, HG.out⟩)) HOK.out HBI.out).mono ?_
  rintro e w0 ⟨rfl, hd⟩
  have HD := Aside0.mk hd
  clear hd
  go_wp2_with fail
  have hcell := pw_cell_below HD.out.below HG.out.cell
  have hat := pw_cell_below HD.out.below HAT.out.1
  have hbt := pw_cell_below HD.out.below HAT.out.2
  have HCA := Aside0.mk (Kd.C_below HCA0.out HD.out.below)
  have HCB := Aside0.mk (Kd.C_below HCB0.out HD.out.below)
  have ha := HAB.out.1
  have hb := HAB.out.2.1
  have hgr := (HD.out.below.block gr (lt_of_block HG.out.row)).trans HG.out.row
  refine start_ (n := 32) (S := (JS w0 g gr A B nbs.length a b xa.length ca xb.length cb)) (ds := [29, 31]) #[false, false, false, false, false, false, false, false, false, false, false, false, false, false, false, false, false, false, false, false, false, false, false, false, false, false, false, false, false, false, false, false] (by kernel_rfl) rfl rfl (JS.start hcell hat hbt) (fun hHeld => ?_)
  refine pure_ (i := 0) (N := some 28) (v := ?_) (a' := ?_) #[true, false, false, false, false, false, false, false, false, false, false, false, false, false, false, false, false, false, false, false, false, false, false, false, false, false, false, false, false, false, false, false] rfl rfl (by kernel_rfl) (fun _ _ _ h => h) (Or.inl ⟨by rfl, ?_⟩) ?_ ?_
  rotate_left
  · intro w'
    go_simp
    with_reducible rfl
  rotate_left
  · simp only [Act.put, List.setIfInBounds_toArray, List.set_cons_zero, List.set_cons_succ, i64_w, i32_w]
    rfl
  refine pure_ (i := 1) (N := some 29) (v := ?_) (a' := ?_) #[true, true, false, false, false, false, false, false, false, false, false, false, false, false, false, false, false, false, false, false, false, false, false, false, false, false, false, false, false, false, false, false] rfl rfl (by kernel_rfl) (fun _ _ _ h => h) (Or.inl ⟨by rfl, ?_⟩) ?_ ?_
  rotate_left
  · intro w'
    go_simp
    with_reducible rfl
  rotate_left
  · simp only [Act.put, List.setIfInBounds_toArray, List.set_cons_zero, List.set_cons_succ, i64_w, i32_w]
    rfl
  refine pure_ (i := 2) (N := some 30) (v := ?_) (a' := ?_) #[true, true, true, false, false, false, false, false, false, false, false, false, false, false, false, false, false, false, false, false, false, false, false, false, false, false, false, false, false, false, false, false] rfl rfl (by kernel_rfl) (fun _ _ _ h => h) (Or.inl ⟨by rfl, ?_⟩) ?_ ?_
  rotate_left
  · intro w'
    go_simp
    with_reducible rfl
  rotate_left
  · simp only [Act.put, List.setIfInBounds_toArray, List.set_cons_zero, List.set_cons_succ, i64_w, i32_w]
    rfl
  refine take_ (i := 3) (N := some 31) (v := ?_) (a' := ?_) #[true, true, true, true, false, false, false, false, false, false, false, false, false, false, false, false, false, false, false, false, false, false, false, false, false, false, false, false, false, false, false, false] rfl rfl (by kernel_rfl) (fun _ _ _ h => h) (Or.inl ⟨by rfl, ?_⟩) hHeld ?_ ?_
  rotate_left
  · rintro w' ⟨s0, s1, s2, s3⟩
    go_simp
    with_reducible rfl
  rotate_left
  · simp only [Act.put, List.setIfInBounds_toArray, List.set_cons_zero, List.set_cons_succ, i64_w, i32_w]
    rfl
  refine pure_ (i := 4) (N := some 32) (v := ?_) (a' := ?_) #[true, true, true, true, true, false, false, false, false, false, false, false, false, false, false, false, false, false, false, false, false, false, false, false, false, false, false, false, false, false, false, false] rfl rfl (by kernel_rfl) (fun _ _ _ h => h) (Or.inl ⟨by rfl, ?_⟩) ?_ ?_
  rotate_left
  · intro w'
    go_simp
    with_reducible rfl
  rotate_left
  · simp only [Act.put, List.setIfInBounds_toArray, List.set_cons_zero, List.set_cons_succ, i64_w, i32_w]
    rfl
  refine pure_ (i := 5) (N := some 33) (v := ?_) (a' := ?_) #[true, true, true, true, true, true, false, false, false, false, false, false, false, false, false, false, false, false, false, false, false, false, false, false, false, false, false, false, false, false, false, false] rfl rfl (by kernel_rfl) (fun _ _ _ h => h) (Or.inl ⟨by rfl, ?_⟩) ?_ ?_
  rotate_left
  · intro w'
    go_simp
    with_reducible rfl
  rotate_left
  · simp only [Act.put, List.setIfInBounds_toArray, List.set_cons_zero, List.set_cons_succ, i64_w, i32_w]
    rfl
  refine pure_ (i := 6) (N := some 34) (v := ?_) (a' := ?_) #[true, true, true, true, true, true, true, false, false, false, false, false, false, false, false, false, false, false, false, false, false, false, false, false, false, false, false, false, false, false, false, false] rfl rfl (by kernel_rfl) (fun _ _ _ h => h) (Or.inl ⟨by rfl, ?_⟩) ?_ ?_
  rotate_left
  · intro w'
    go_simp
    with_reducible rfl
  rotate_left
  · simp only [Act.put, List.setIfInBounds_toArray, List.set_cons_zero, List.set_cons_succ, i64_w, i32_w]
    rfl
  refine pure_ (i := 7) (N := some 35) (v := ?_) (a' := ?_) #[true, true, true, true, true, true, true, true, false, false, false, false, false, false, false, false, false, false, false, false, false, false, false, false, false, false, false, false, false, false, false, false] rfl rfl (by kernel_rfl) (fun _ _ _ h => h) (Or.inl ⟨by rfl, ?_⟩) ?_ ?_
  rotate_left
  · intro w'
    go_simp
    with_reducible rfl
  rotate_left
  · simp only [Act.put, List.setIfInBounds_toArray, List.set_cons_zero, List.set_cons_succ, i64_w, i32_w]
    rfl
  refine take_ (i := 8) (N := some 36) (v := ?_) (a' := ?_) #[true, true, true, true, true, true, true, true, true, false, false, false, false, false, false, false, false, false, false, false, false, false, false, false, false, false, false, false, false, false, false, false] rfl rfl (by kernel_rfl) (fun _ _ _ h => h) (Or.inl ⟨by rfl, ?_⟩) hHeld ?_ ?_
  rotate_left
  · rintro w' ⟨s0, s1, s2, s3⟩
    go_simp
    with_reducible rfl
  rotate_left
  · simp only [Act.put, List.setIfInBounds_toArray, List.set_cons_zero, List.set_cons_succ, i64_w, i32_w]
    rfl
  refine pure_ (i := 9) (N := some 37) (v := ?_) (a' := ?_) #[true, true, true, true, true, true, true, true, true, true, false, false, false, false, false, false, false, false, false, false, false, false, false, false, false, false, false, false, false, false, false, false] rfl rfl (by kernel_rfl) (fun _ _ _ h => h) (Or.inl ⟨by rfl, ?_⟩) ?_ ?_
  rotate_left
  · intro w'
    go_simp
    with_reducible rfl
  rotate_left
  · simp only [Act.put, List.setIfInBounds_toArray, List.set_cons_zero, List.set_cons_succ, i64_w, i32_w]
    rfl
  refine pure_ (i := 10) (N := some 38) (v := ?_) (a' := ?_) #[true, true, true, true, true, true, true, true, true, true, true, false, false, false, false, false, false, false, false, false, false, false, false, false, false, false, false, false, false, false, false, false] rfl rfl (by kernel_rfl) (fun _ _ _ h => h) (Or.inl ⟨by rfl, ?_⟩) ?_ ?_
  rotate_left
  · intro w'
    go_simp
    with_reducible rfl
  rotate_left
  · simp only [Act.put, List.setIfInBounds_toArray, List.set_cons_zero, List.set_cons_succ, i64_w, i32_w]
    rfl
  refine pure_ (i := 11) (N := some 39) (v := ?_) (a' := ?_) #[true, true, true, true, true, true, true, true, true, true, true, true, false, false, false, false, false, false, false, false, false, false, false, false, false, false, false, false, false, false, false, false] rfl rfl (by kernel_rfl) (fun _ _ _ h => h) (Or.inl ⟨by rfl, ?_⟩) ?_ ?_
  rotate_left
  · intro w'
    go_simp
    with_reducible rfl
  rotate_left
  · simp only [Act.put, List.setIfInBounds_toArray, List.set_cons_zero, List.set_cons_succ, i64_w, i32_w]
    rfl
  refine pure_ (i := 12) (N := some 40) (v := ?_) (a' := ?_) #[true, true, true, true, true, true, true, true, true, true, true, true, true, false, false, false, false, false, false, false, false, false, false, false, false, false, false, false, false, false, false, false] rfl rfl (by kernel_rfl) (fun _ _ _ h => h) (Or.inl ⟨by rfl, ?_⟩) ?_ ?_
  rotate_left
  · intro w'
    go_simp
    with_reducible rfl
  rotate_left
  · simp only [Act.put, List.setIfInBounds_toArray, List.set_cons_zero, List.set_cons_succ, i64_w, i32_w]
    rfl
  refine take_ (i := 13) (N := some 41) (v := ?_) (a' := ?_) #[true, true, true, true, true, true, true, true, true, true, true, true, true, true, false, false, false, false, false, false, false, false, false, false, false, false, false, false, false, false, false, false] rfl rfl (by kernel_rfl) (fun _ _ _ h => h) (Or.inl ⟨by rfl, ?_⟩) hHeld ?_ ?_
  rotate_left
  · rintro w' ⟨s0, s1, s2, s3⟩
    go_simp
    with_reducible rfl
  rotate_left
  · simp only [Act.put, List.setIfInBounds_toArray, List.set_cons_zero, List.set_cons_succ, i64_w, i32_w]
    rfl
  refine pure_ (i := 14) (N := some 42) (v := ?_) (a' := ?_) #[true, true, true, true, true, true, true, true, true, true, true, true, true, true, true, false, false, false, false, false, false, false, false, false, false, false, false, false, false, false, false, false] rfl rfl (by kernel_rfl) (fun _ _ _ h => h) (Or.inl ⟨by rfl, ?_⟩) ?_ ?_
  rotate_left
  · intro w'
    go_simp
    with_reducible rfl
  rotate_left
  · simp only [Act.put, List.setIfInBounds_toArray, List.set_cons_zero, List.set_cons_succ, i64_w, i32_w]
    rfl
  refine pure_ (i := 15) (N := some 43) (v := ?_) (a' := ?_) #[true, true, true, true, true, true, true, true, true, true, true, true, true, true, true, true, false, false, false, false, false, false, false, false, false, false, false, false, false, false, false, false] rfl rfl (by kernel_rfl) (fun _ _ _ h => h) (Or.inl ⟨by rfl, ?_⟩) ?_ ?_
  rotate_left
  · intro w'
    go_simp
    with_reducible rfl
  rotate_left
  · simp only [Act.put, List.setIfInBounds_toArray, List.set_cons_zero, List.set_cons_succ, i64_w, i32_w]
    rfl
  refine take_ (i := 16) (N := some 44) (v := ?_) (a' := ?_) #[true, true, true, true, true, true, true, true, true, true, true, true, true, true, true, true, true, false, false, false, false, false, false, false, false, false, false, false, false, false, false, false] rfl rfl (by kernel_rfl) (fun _ _ _ h => h) (Or.inl ⟨by rfl, ?_⟩) hHeld ?_ ?_
  rotate_left
  · rintro w' ⟨s0, s1, s2, s3⟩
    go_simp
    with_reducible rfl
  rotate_left
  · simp only [Act.put, List.setIfInBounds_toArray, List.set_cons_zero, List.set_cons_succ, i64_w, i32_w]
    rfl
  refine pure_ (i := 17) (N := some 45) (v := ?_) (a' := ?_) #[true, true, true, true, true, true, true, true, true, true, true, true, true, true, true, true, true, true, false, false, false, false, false, false, false, false, false, false, false, false, false, false] rfl rfl (by kernel_rfl) (fun _ _ _ h => h) (Or.inl ⟨by rfl, ?_⟩) ?_ ?_
  rotate_left
  · intro w'
    go_simp
    with_reducible rfl
  rotate_left
  · simp only [Act.put, List.setIfInBounds_toArray, List.set_cons_zero, List.set_cons_succ, i64_w, i32_w]
    rfl
  refine pure_ (i := 19) (N := some 47) (v := ?_) (a' := ?_) #[true, true, true, true, true, true, true, true, true, true, true, true, true, true, true, true, true, true, false, true, false, false, false, false, false, false, false, false, false, false, false, false] rfl rfl (by kernel_rfl) (fun _ _ _ h => h) (Or.inl ⟨by rfl, ?_⟩) ?_ ?_
  rotate_left
  · intro w'
    go_simp
    with_reducible rfl
  rotate_left
  · simp only [Act.put, List.setIfInBounds_toArray, List.set_cons_zero, List.set_cons_succ, i64_w, i32_w]
    rfl
  refine pure_ (i := 20) (N := some 48) (v := ?_) (a' := ?_) #[true, true, true, true, true, true, true, true, true, true, true, true, true, true, true, true, true, true, false, true, true, false, false, false, false, false, false, false, false, false, false, false] rfl rfl (by kernel_rfl) (fun _ _ _ h => h) (Or.inl ⟨by rfl, ?_⟩) ?_ ?_
  rotate_left
  · intro w'
    go_simp
    with_reducible rfl
  rotate_left
  · simp only [Act.put, List.setIfInBounds_toArray, List.set_cons_zero, List.set_cons_succ, i64_w, i32_w]
    rfl
  refine pure_ (i := 21) (N := some 49) (v := ?_) (a' := ?_) #[true, true, true, true, true, true, true, true, true, true, true, true, true, true, true, true, true, true, false, true, true, true, false, false, false, false, false, false, false, false, false, false] rfl rfl (by kernel_rfl) (fun _ _ _ h => h) (Or.inl ⟨by rfl, ?_⟩) ?_ ?_
  rotate_left
  · intro w'
    go_simp
    with_reducible rfl
  rotate_left
  · simp only [Act.put, List.setIfInBounds_toArray, List.set_cons_zero, List.set_cons_succ, i64_w, i32_w]
    rfl
  refine take_ (i := 22) (N := some 50) (v := ?_) (a' := ?_) #[true, true, true, true, true, true, true, true, true, true, true, true, true, true, true, true, true, true, false, true, true, true, true, false, false, false, false, false, false, false, false, false] rfl rfl (by kernel_rfl) (fun _ _ _ h => h) (Or.inl ⟨by rfl, ?_⟩) hHeld ?_ ?_
  rotate_left
  · rintro w' ⟨s0, s1, s2, s3⟩
    go_simp
    with_reducible rfl
  rotate_left
  · simp only [Act.put, List.setIfInBounds_toArray, List.set_cons_zero, List.set_cons_succ, i64_w, i32_w]
    rfl
  refine pure_ (i := 23) (N := some 51) (v := ?_) (a' := ?_) #[true, true, true, true, true, true, true, true, true, true, true, true, true, true, true, true, true, true, false, true, true, true, true, true, false, false, false, false, false, false, false, false] rfl rfl (by kernel_rfl) (fun _ _ _ h => h) (Or.inl ⟨by rfl, ?_⟩) ?_ ?_
  rotate_left
  · intro w'
    go_simp
    with_reducible rfl
  rotate_left
  · simp only [Act.put, List.setIfInBounds_toArray, List.set_cons_zero, List.set_cons_succ, i64_w, i32_w]
    rfl
  refine pure_ (i := 24) (N := some 52) (v := ?_) (a' := ?_) #[true, true, true, true, true, true, true, true, true, true, true, true, true, true, true, true, true, true, false, true, true, true, true, true, true, false, false, false, false, false, false, false] rfl rfl (by kernel_rfl) (fun _ _ _ h => h) (Or.inl ⟨by rfl, ?_⟩) ?_ ?_
  rotate_left
  · intro w'
    go_simp
    with_reducible rfl
  rotate_left
  · simp only [Act.put, List.setIfInBounds_toArray, List.set_cons_zero, List.set_cons_succ, i64_w, i32_w]
    rfl
  refine take_ (i := 25) (N := some 53) (v := ?_) (a' := ?_) #[true, true, true, true, true, true, true, true, true, true, true, true, true, true, true, true, true, true, false, true, true, true, true, true, true, true, false, false, false, false, false, false] rfl rfl (by kernel_rfl) (fun _ _ _ h => h) (Or.inl ⟨by rfl, ?_⟩) hHeld ?_ ?_
  rotate_left
  · rintro w' ⟨s0, s1, s2, s3⟩
    go_simp
    with_reducible rfl
  rotate_left
  · simp only [Act.put, List.setIfInBounds_toArray, List.set_cons_zero, List.set_cons_succ, i64_w, i32_w]
    rfl
  refine pure_ (i := 26) (N := some 54) (v := ?_) (a' := ?_) #[true, true, true, true, true, true, true, true, true, true, true, true, true, true, true, true, true, true, false, true, true, true, true, true, true, true, true, false, false, false, false, false] rfl rfl (by kernel_rfl) (fun _ _ _ h => h) (Or.inl ⟨by rfl, ?_⟩) ?_ ?_
  rotate_left
  · intro w'
    go_simp
    with_reducible rfl
  rotate_left
  · simp only [Act.put, List.setIfInBounds_toArray, List.set_cons_zero, List.set_cons_succ, i64_w, i32_w]
    rfl
  refine one_ (i := 18) (N := some 46) #[true, true, true, true, true, true, true, true, true, true, true, true, true, true, true, true, true, true, true, true, true, true, true, true, true, true, true, false, false, false, false, false] rfl rfl (by kernel_rfl) (by decide) (fun K hK => ?_)
  have HS1 := Aside0.mk hHeld.2.2.2.out.size
  refine goes_ Try.func25 (by kernel_rfl) rfl #[.slice A xa.length ca, .int .i64 (b : Int)] (by rfl) rfl rfl (by simp only [List.map_toArray, List.map_cons, List.map_nil]; rfl) ?_
  refine (bits_With.calls kf A ca xa (b : Int) ra _ (Kd.C_below HCA.out hHeld.2.2.2.out) HCCA.out HFA.out).mono ?_
  rintro e w1 ⟨v1, rfl, hR1, hb1⟩
  obtain ⟨B1, q1, rfl⟩ := own_slice (Kd.own_of_R hR1)
  refine ⟨_, rfl, ?_⟩
  refine hK.out _ _ (hHeld.step hb1) (fun hHeld => ?_)
  clear hK K
  refine norm_ (a' := ?_) ?_ ?_
  rotate_left
  · show Act.put _ (some 46) _ = _
    simp only [Act.put, List.setIfInBounds_toArray, List.set_cons_zero, List.set_cons_succ, i64_w, i32_w]
    rfl
  refine one_ (i := 27) (N := some 55) #[true, true, true, true, true, true, true, true, true, true, true, true, true, true, true, true, true, true, true, true, true, true, true, true, true, true, true, true, false, false, false, false] rfl rfl (by kernel_rfl) (by decide) (fun K hK => ?_)
  have HS2 := Aside0.mk hHeld.2.2.2.out.size
  refine goes_ Try.func25 (by kernel_rfl) rfl #[.slice B xb.length cb, .int .i64 (a : Int)] (by rfl) rfl rfl (by simp only [List.map_toArray, List.map_cons, List.map_nil]; rfl) ?_
  refine (bits_With.calls kg B cb xb (a : Int) rb _ (Kd.C_below HCB.out hHeld.2.2.2.out) HCCB.out HFB.out).mono ?_
  rintro e w2 ⟨v2, rfl, hR2, hb2⟩
  obtain ⟨B2, q2, rfl⟩ := own_slice (Kd.own_of_R hR2)
  refine ⟨_, rfl, ?_⟩
  refine hK.out _ _ (hHeld.step hb2) (fun hHeld => ?_)
  clear hK K
  refine norm_ (a' := ?_) ?_ ?_
  rotate_left
  · show Act.put _ (some 55) _ = _
    simp only [Act.put, List.setIfInBounds_toArray, List.set_cons_zero, List.set_cons_succ, i64_w, i32_w]
    rfl
  refine pure_ (i := 28) (N := some 56) (v := ?_) (a' := ?_) #[true, true, true, true, true, true, true, true, true, true, true, true, true, true, true, true, true, true, true, true, true, true, true, true, true, true, true, true, true, false, false, false] rfl rfl (by kernel_rfl) (fun _ _ _ h => h) (Or.inl ⟨by rfl, ?_⟩) ?_ ?_
  rotate_left
  · intro w'
    go_simp
    with_reducible rfl
  rotate_left
  · simp only [Act.put, List.setIfInBounds_toArray, List.set_cons_zero, List.set_cons_succ, i64_w, i32_w]
    rfl
  refine last_ (i := 29) (N := none) #[true, true, true, true, true, true, true, true, true, true, true, true, true, true, true, true, true, true, true, true, true, true, true, true, true, true, true, true, true, true, false, false] rfl rfl (by kernel_rfl) (by decide) (fun K hK => ?_)
  have e29 := hHeld.frozen hgr a
  have c29 := hHeld.2.1
  have HZ := Aside0.mk (And.intro hR1 (And.intro hR2 (And.intro hb1 (And.intro hb2 hHeld))))
  clear hR1 hR2 hb1 hb2 hHeld
  go_simp
  refine hK.out _ _ ?_
  clear hK K
  refine pure_ (i := 30) (N := some 57) (v := ?_) (a' := ?_) #[true, true, true, true, true, true, true, true, true, true, true, true, true, true, true, true, true, true, true, true, true, true, true, true, true, true, true, true, true, true, true, false] rfl rfl (by kernel_rfl) (fun _ _ _ h => h) (Or.inl ⟨by rfl, ?_⟩) ?_ ?_
  rotate_left
  · intro w'
    go_simp
    with_reducible rfl
  rotate_left
  · simp only [Act.put, List.setIfInBounds_toArray, List.set_cons_zero, List.set_cons_succ, i64_w, i32_w]
    rfl
  refine last_ (i := 31) (N := none) #[true, true, true, true, true, true, true, true, true, true, true, true, true, true, true, true, true, true, true, true, true, true, true, true, true, true, true, true, true, true, true, true] rfl rfl (by kernel_rfl) (by decide) (fun K hK => ?_)
  have e31 := frozen_set (HZ.out.2.2.2.2.frozen hgr b) gr a (.slice B1 ra.length q1)
  have c31 := cell_set_ne HZ.out.2.2.2.2.2.2.1 HAB.out.2.2.1 (.slice B1 ra.length q1)
  go_simp
  refine hK.out _ _ ?_
  clear hK K
  refine done_ (by kernel_rfl) ?_
  go_wp2
  go_ret
  obtain ⟨hR1, hR2, hb1, hb2, hJ⟩ := HZ.out
  have hBW := HD.out.below
  have hB0 : Below w.heap.size w w2 := below_then hBW hBW.size hJ.2.2.2.out
  have hG2 := HG.out.below hB0
  have hs0 : base ≤ w0.drew.heap.size := Nat.le_trans HAB.out.2.2.2 hBW.size
  have hs1 : base ≤ w1.heap.size := Nat.le_trans hs0 hb1.size
  have o1 := own_weaken (pw_own_below (Kd.own_of_R hR1) hb2) hs0
  have o2 := own_weaken (Kd.own_of_R hR2) hs1
  have G1 := hG2.store a HAB.out.1 o1
  have G2 := G1.store b (by rw [List.length_set]; exact HAB.out.2.1) (hG2.far a _ o2)
  refine ⟨rfl, _, ra, rb, G2, ?_, ?_, ?_, ?_, ?_, ?_⟩
  · rw [HX.out.1]; exact HN.out.1
  · rw [HX.out.1]; exact HN.out.2.1
  · rw [HX.out.2]; exact HN.out.2.2.1
  · rw [HX.out.2]; exact HN.out.2.2.2
  · exact below_store (below_store ⟨hB0.os, hB0.tape, hB0.output, hB0.size, fun k hk => hB0.block k (Nat.lt_of_lt_of_le hk HAB.out.2.2.2)⟩ HG.out.gr_base _ _) HG.out.gr_base _ _
  · exact ⟨hB0.os, hB0.tape, hB0.output, by rw [Go.Deep.nblk_setCell, Go.Deep.nblk_setCell]; exact hB0.size, fun k hk hne => (Go.Deep.blk_setCell_other _ _ _ _ (fun e => hne (congrArg some e))).trans ((Go.Deep.blk_setCell_other _ _ _ _ (fun e => hne (congrArg some e))).trans (hB0.block k hk))⟩

end Go.Proofs.Ytbmnnmcnmfgbaaa.PG
end
section
/-
  A graph as the printed texts speak of it: what is read at a pointer; Len, Has, Near in the printed form.
-/
namespace Go.Proofs.Ytbmnnmcnmfgbaaa.PG
open Go.RowKit Go.Shelf Go.Proofs.YtbmnnmcnmfgbaaaW.PrintWords Go.Proofs.YtbmnnmcnmfgbaaaW.PrintLast Go.Proofs.YtbmnnmcnmfgbaaaW.PrintMore
open Go.Proofs.Ytbmnnmcnmfgbaaa.PB
set_option linter.unusedVariables false
set_option linter.unusedSimpArgs false

/-- What lies at a pointer to a graph. -/
def IsGr (w : World) (A : Option Addr) (l : List (List Int)) : Prop := ∃ base, IsG w base A l ∧ ∀ x ∈ l, okW x ∧ x.length ≤ 1000000
theorem IsGr.below {w w1 : World} {A : Option Addr} {l : List (List Int)} (h : IsGr w A l) (hb : Below w.heap.size w w1) : IsGr w1 A l := by
  obtain ⟨base, h1, h2⟩ := h
  exact ⟨base, h1.below hb, h2⟩
theorem IsGr.alloc {w : World} {A : Option Addr} {l : List (List Int)} (h : IsGr w A l) (o : Obj) : IsGr (w.alloc o) A l := h.below (below_alloc (Below.refl _ _) o)
theorem IsGr.drewN {w : World} {A : Option Addr} {l : List (List Int)} (h : IsGr w A l) (n : Nat) : IsGr (w.drewN n) A l := h.below (pw_below_drewN (Below.refl _ _) n)
theorem IsGr.drew {w : World} {A : Option Addr} {l : List (List Int)} (h : IsGr w A l) : IsGr w.drew A l := h.below (below_drew (Below.refl _ _))
theorem IsGr.drawn {w w1 : World} {A : Option Addr} {l : List (List Int)} (h : IsGr w A l) (hd : Drawn0 w w1) : IsGr w1 A l := h.below hd.below

def graph_Graph_Len.f (l0 : List (List Int)) : Option Int := some (l0.length : Int)
theorem graph_Graph_Len.calls (A0 : Option Addr) (c0 : Nat) (l0 : List (List Int)) (r : Int) (w : World) (hr0 : IsGr w A0 l0) (hc0 : l0.length ≤ c0) (h : graph_Graph_Len.f l0 = some r) :
    Calls Try.prog 66 #[.pointer A0] w fun e w' => e = .returned (.int .i64 r) ∧ Drawn0 w w' := by
  obtain ⟨base, h1, _⟩ := hr0
  obtain rfl : (l0.length : Int) = r := Option.some.inj h
  exact (len_calls A0 base l0 w h1).mono (fun e w' hh => ⟨hh.1, hh.2 ▸ Drawn0.refl _⟩)
def graph_Graph_Has.f (l0 : List (List Int)) (a1 a2 : Int) : Option Bool := if a2 < 9223372036854775808 then some (hasB l0 a1 a2) else none
theorem graph_Graph_Has.calls (A0 : Option Addr) (c0 : Nat) (l0 : List (List Int)) (a1 a2 : Int) (r : Bool) (w : World) (hr0 : IsGr w A0 l0) (hc0 : l0.length ≤ c0) (h : graph_Graph_Has.f l0 a1 a2 = some r) :
    Calls Try.prog 67 #[.pointer A0, .int .i64 a1, .int .i64 a2] w fun e w' => e = .returned (.bool r) ∧ Drawn0 w w' := by
  obtain ⟨base, h1, h2⟩ := hr0
  unfold graph_Graph_Has.f at h
  by_cases hb : a2 < 9223372036854775808
  · rw [if_pos hb] at h
    obtain rfl := Option.some.inj h
    exact has_calls A0 base l0 a1 a2 w h1 (fun l hl => (h2 l hl).1) hb
  · rw [if_neg hb] at h; cases h
def graph_Graph_Near.f (l0 : List (List Int)) (a1 : Int) : Option (List Int) := some (nearL l0 a1)
theorem graph_Graph_Near.calls (A0 : Option Addr) (c0 : Nat) (l0 : List (List Int)) (a1 : Int) (r : List Int) (w : World) (hr0 : IsGr w A0 l0) (hc0 : l0.length ≤ c0) (h : graph_Graph_Near.f l0 a1 = some r) :
    Calls Try.prog 68 #[.pointer A0, .int .i64 a1] w fun e w' => ∃ v0_ : Value, e = .returned v0_ ∧ Kd.R (Kd.int .i64) 3 w' w.heap.size (fun _ => True) v0_ r ∧ Below w.heap.size w w' := by
  obtain ⟨base, h1, h2⟩ := hr0
  obtain rfl := Option.some.inj h
  exact near_calls A0 base l0 a1 w h1 h2
end Go.Proofs.Ytbmnnmcnmfgbaaa.PG
end
