/-
  bits.All and what ranges over it: bits.Count, bits.List: contracts in the printed form.
-/
import Derived.RangeFuncNested
import Derived.RangeFuncBox
import Derived.RangeFuncBound
import Derived.RangeFuncCalls
import Derived.RangeFuncLeaves
import Derived.Shelf.Abstract
import Derived.WalkKit
import Derived.OwnWalkIn
import Derived.TacticsInMore
import Derived.LoopNIn
import Derived.LoopIn
import Derived.Maps.AppendAt
import Derived.Test.YtbmnnmcnmfgbaaaPBx1
import Derived.Test.YtbmnnmcnmfgbaaaElems
namespace Go.Proofs.Ytbmnnmcnmfgbaaa.PB
open Go.RowKit Go.Shelf Go.Proofs.YtbmnnmcnmfgbaaaW.PrintWords Go.Proofs.YtbmnnmcnmfgbaaaW.PrintLast Go.Proofs.YtbmnnmcnmfgbaaaW.PrintMore
attribute [local go_sem] Oper.semAt_some
set_option linter.unusedVariables false

/-- The blocks from lo to hi hold what they held. -/
def Keeps (lo hi : Nat) (W W' : World) : Prop := ∀ k, lo ≤ k → k < hi → W'.heap[k]? = W.heap[k]?
theorem Keeps.refl (lo hi : Nat) (W : World) : Keeps lo hi W W := fun _ _ _ => rfl
theorem Keeps.trans {lo hi : Nat} {A B C : World} (h : Keeps lo hi A B) (h' : Keeps lo hi B C) : Keeps lo hi A C := fun k h1 h2 => (h' k h1 h2).trans (h k h1 h2)
theorem Keeps.of_below {lo hi n : Nat} {A B : World} (h : Below n A B) (hn : hi ≤ n) : Keeps lo hi A B := fun k _ h2 => h.block k (by omega)
/-- The row (A, ..) holds the words ws, in a block from lo to hi. -/
def HasWords (lo hi : Nat) (W : World) (A : Option Addr) (ws : List Int) : Prop :=
  ws.length ≤ 1000000 ∧ (∀ x ∈ ws, 0 ≤ x ∧ x < 18446744073709551616) ∧ ∀ k, k < ws.length → ∃ ad, A = some ad ∧ lo ≤ ad.block ∧ ad.block < hi ∧ W.cell? (ad.add k) = some (.int .u64 (ws.getD k 0))
theorem HasWords.keeps {lo hi : Nat} {W W' : World} {A : Option Addr} {ws : List Int} (h : HasWords lo hi W A ws) (hb : Keeps lo hi W W') : HasWords lo hi W' A ws :=
  ⟨h.1, h.2.1, fun k hk => by
    obtain ⟨ad, e, h1, h2, hc⟩ := h.2.2 k hk
    refine ⟨ad, e, h1, h2, ?_⟩
    have hl : (ad.add k).block = ad.block := by unfold Addr.add; split <;> rfl
    exact (World.cell?_of_block (w := W) (by rw [hl]; exact hb _ h1 h2)).trans hc⟩

set_option maxRecDepth 100000 in
set_option maxHeartbeats 2000000 in
theorem all1_in (F : Fence) (n : Nat) (h6 : F.fn 58) (hro : F.round = none) (hn : 1 ≤ n) (l Bs lo hi len cap : Nat) (A : Option Addr) (ws : List Int) (hlen : ws.length = len) (J Jx : List Int → World → Prop)
    (hY : ∀ pre x W, J pre W → pre.length < 64000000 → YieldAt F (n - 1) Try.prog l #[.int .i64 x] W fun e W' =>
      (e = .returned (.bool true) ∧ J (pre ++ [x]) W' ∧ Keeps lo hi W W') ∨ (e = .returned (.bool false) ∧ Jx (pre ++ [x]) W'))
    (W : World) (hBs : W.cell? ⟨Bs, 0, none⟩ = some (.slice A len cap)) (hc : HasWords lo hi W A ws) (h0 : J [] W) :
    CallsIn F n Try.prog 58 #[.func (.yield l) #[] #[], .pointer (some ⟨Bs, 0, none⟩)] W fun e W' => (∃ v, e = .returned v) ∧
      ((∃ ys, ys = Elems.from_ 0 ws ∧ J ys W') ∨ (∃ pre, pre <+: Elems.from_ 0 ws ∧ Jx pre W')) := by
  refine callsIn_of_wp Try.func58 rfl h6 ?_ hro
  simp only [Try.ntmps58, List.size_toArray, List.length_cons, List.length_nil, Nat.reduceAdd, Nat.reduceSub, Array.replicate_succ, Array.replicate_zero, List.push_toArray, List.append_toArray, List.nil_append, List.cons_append]
  gi_wp2
  gi_loopw [9] (fun i wr => ∃ k : Nat, k ≤ len ∧ i = .int .i64 k ∧ J (Elems.from_ 0 (ws.take k)) wr ∧ Keeps lo hi W wr)
    (fun i _ => len - (intOf i).toNat)
  case atStart => exact ⟨0, Nat.zero_le _, rfl, h0, Keeps.refl _ _ _⟩
  case round =>
    obtain ⟨k, hk, rfl, hJs, hnx⟩ := hrel
    by_cases hlt : k < len
    · obtain ⟨ad, rfl, had0, had, hcell⟩ := (hc.keeps hnx).2.2 k (by omega)
      obtain ⟨x, hx⟩ : ∃ x, ws.getD k 0 = x := ⟨_, rfl⟩
      rw [hx] at hcell
      have Hx := Aside0.mk hx
      clear hx
      have hx0 : 0 ≤ x ∧ x < 18446744073709551616 := by
        have := hc.2.1 (ws.getD k 0) (by rw [List.getD_eq_getElem?_getD, List.getElem?_eq_getElem (by omega)]; exact List.getElem_mem _)
        rw [Hx.out] at this; exact this
      obtain ⟨xn, rfl⟩ := Int.eq_ofNat_of_zero_le hx0.1
      have Hlen := Aside0.mk hlen
      have hk6 : k < 1000000 := by have := hc.1; omega
      clear hlen
      gi_wp2
      gi_loopw [4] (fun v w' => ∃ (q : Nat) (done : List Nat), q < 18446744073709551616 ∧ v = .int .u64 q ∧ Aside0 (Elems.wbits xn = done ++ Elems.wbits q) ∧ J (Elems.from_ 0 (ws.take k) ++ done.map (fun n => ((64 * k + n : Nat) : Int))) w' ∧ Keeps lo hi W w')
        (fun v _ => (Elems.wbits (intOf v).toNat).length)
      case atStart => exact ⟨xn, [], by omega, rfl, ⟨by simp⟩, by simpa using hJs, hnx⟩
      case round =>
        obtain ⟨q, done, hq, rfl, HW, hJ2, hB2⟩ := hrel
        by_cases h0q : q = 0
        · subst h0q
          have h0q' : (((0 : Nat) : Int) != 0) = false := rfl
          gi_wp2
          refine ⟨⟨k + 1, by omega, by simp, ?_, hB2⟩, ?_⟩
          · rw [Elems.from_take_succ ws k (by rw [Hlen.out]; exact hlt), Hx.out]
            have hd : done = Elems.wbits xn := by rw [HW.out, Elems.wbits_zero, List.append_nil]
            rw [hd] at hJ2
            exact hJ2
          · simp [intOf]; omega
        · have h0q' : ((q : Int) != 0) = true := by rw [bne_iff_ne]; omega
          obtain ⟨t, ht, hlow, hwb, hlt2⟩ := Elems.wbits_step q (by omega) hq
          obtain ⟨P, hP⟩ : ∃ P, 2 ^ t = P := ⟨_, rfl⟩
          obtain ⟨q2, hq2⟩ : ∃ q2, q ^^^ P = q2 := ⟨_, rfl⟩
          rw [hP] at hlow hwb hlt2
          rw [hq2] at hwb hlt2
          have hP64 : P < 18446744073709551616 := by
            rw [← hP]; exact Nat.lt_of_lt_of_le (Nat.pow_lt_pow_right (by omega) ht) (Nat.le_refl _)
          have hlow' : bits BinOp.and IntKind.u64 (q : Int) (IntKind.u64.wrap (-(q : Int))) = (P : Int) := by
            have e : IntKind.u64.wrap (-(q : Int)) = ((18446744073709551616 - q : Nat) : Int) := by rw [IntKind.wrap_u64]; omega
            rw [e, u64_and_nat _ _ hq (by omega), ← hlow]
          have hxor : bits BinOp.xor IntKind.u64 (q : Int) (P : Int) = (q2 : Int) := by
            rw [u64_xor_nat _ _ hq hP64, hq2]
          have HP := Aside0.mk hP
          have HWB := Aside0.mk hwb
          clear hP hlow hwb hq2
          have hlen1 : (Elems.from_ 0 (ws.take k) ++ done.map (fun n => ((64 * k + n : Nat) : Int))).length < 64000000 := by
            have h1 := Elems.from_len (ws.take k) 0
            have h2 : done.length + (t :: Elems.wbits q2).length ≤ 64 := by
              have := Elems.wbits_len xn
              rw [HW.out, HWB.out, List.length_append] at this
              exact this
            have h3 := hc.1
            have h4 := Hlen.out
            simp only [List.length_append, List.length_map, List.length_take, List.length_cons] at h1 h2 ⊢
            omega
          gi_wp2
          gi_loopw [6] (fun v w' => ∃ m : Nat, m ≤ t ∧ v = .int .i64 m ∧ w' = wr) (fun v _ => t - (intOf v).toNat)
          case atStart => exact ⟨0, Nat.zero_le _, rfl, rfl⟩
          case round =>
            obtain ⟨m, hm, rfl, rfl⟩ := hrel
            by_cases hmt : m < t
            · have hne : ((P : Int) / 2 ^ m != 1) = true := by
                rw [bne_iff_ne, ← HP.out, Elems.pow_quot t m hm]
                have h1 : 2 ^ (t - m) = 2 * 2 ^ (t - m - 1) := by rw [← Nat.pow_succ']; congr 1; omega
                omega
              gi_wp2
              refine ⟨⟨m + 1, by omega, by simp, trivial⟩, by simp [intOf]; omega⟩
            · obtain rfl : m = t := by omega
              have hne : ((P : Int) / 2 ^ m != 1) = false := by
                rw [bne_eq_false_iff_eq, ← HP.out, Elems.pow_quot m m hm]
                simp
              obtain ⟨fn, tmps, assign, body, hy, hR⟩ := hY _ (64 * (k : Int) + (m : Int)) wr hJ2 hlen1
              gi_wp2
              refine hR.mono ?_
              rintro e W3 (⟨rfl, hJ3, hk3⟩ | ⟨rfl, hJx3⟩)
              · gi_wp2
                refine ⟨⟨q2, done ++ [m], hlt2, rfl, ⟨by rw [HW.out, HWB.out]; simp⟩, ?_, hB2.trans hk3⟩, ?_⟩
                · have e : ((64 * k + m : Nat) : Int) = 64 * (k : Int) + (m : Int) := by omega
                  rw [List.map_append, List.map_cons, List.map_nil, e, ← List.append_assoc]
                  exact hJ3
                · simp only [intOf, Int.toNat_natCast, HWB.out, List.length_cons]; omega
              · gi_wp2
                refine bodyPost_ret (results_none rfl _ _ _) rfl ?_
                refine ⟨⟨_, rfl⟩, .inr ⟨_, ?_, hJx3⟩⟩
                have e : ((64 * k + m : Nat) : Int) = 64 * (k : Int) + (m : Int) := by omega
                have h1 := Elems.from_take_succ ws k (by rw [Hlen.out]; exact hlt)
                rw [Hx.out] at h1
                simp only [Int.toNat_natCast] at h1
                rw [HW.out, HWB.out, List.map_append, List.map_cons, e] at h1
                have h2 : Elems.from_ 0 (ws.take (k + 1)) <+: Elems.from_ 0 ws := by
                  have h3 : ws.take (k + 1) ++ ws.drop (k + 1) = ws := List.take_append_drop _ _
                  have h4 := Elems.from_append (ws.take (k + 1)) 0 (ws.drop (k + 1))
                  rw [h3] at h4
                  exact ⟨_, h4.symm⟩
                refine List.IsPrefix.trans ?_ h2
                rw [h1]
                refine ⟨List.map (fun n => ((64 * k + n : Nat) : Int)) (Elems.wbits q2), ?_⟩
                simp
    · obtain rfl : k = len := by omega
      gi_wp2
      go_end0
      exact ⟨⟨_, rfl⟩, .inl ⟨_, rfl, by rw [← hlen] at hJs; simpa using hJs⟩⟩

theorem take_succ_rd (l : List Int) (k : Nat) (h : k < l.length) : l.take (k + 1) = l.take k ++ [rd l k] := by
  rw [List.take_succ_eq_append_getElem h]; simp [rd, h]

theorem short_loop (l : List Int) (hl : l.length < 17592186044416) (n : Nat) : ∀ k, n < k → n ≤ l.length → bits_short.l0 k l (n : Int) = some (Elems.sh (l.take n)) := by
  induction n with
  | zero =>
    intro k hk _
    obtain ⟨k, rfl⟩ : ∃ m, k = m + 1 := ⟨k - 1, by omega⟩
    simp only [bits_short.l0]
    rw [if_neg (by omega)]
    simp [Elems.sh]
  | succ n ih =>
    intro k hk hn
    obtain ⟨k, rfl⟩ : ∃ m, k = m + 1 := ⟨k - 1, by omega⟩
    have e : wrap64 (((n + 1 : Nat) : Int) - 1) = (n : Int) := by unfold wrap64; omega
    simp only [bits_short.l0]
    rw [if_pos (by omega), e, if_pos (by omega), if_pos (by omega)]
    rw [take_succ_rd l n (by omega), Elems.sh_snoc]
    by_cases h0 : rd l n = 0
    · rw [if_pos h0, if_pos h0]; exact ih k (by omega) (by omega)
    · rw [if_neg h0, if_neg h0]
      simp only [Option.bind_some, List.nil_append, List.length_nil, Nat.zero_add, Int.toNat_natCast]
      rw [if_pos (by omega), if_pos (by omega), if_pos (by rw [List.length_take]; omega), take_succ_rd l n (by omega)]

theorem short_f (l : List Int) (hl : l.length < 17592186044416) (k : Nat) (hk : l.length < k) : bits_short.f k l = some (Elems.sh l) := by
  unfold bits_short.f
  rw [short_loop l hl l.length k hk (Nat.le_refl _), List.take_length]

/-- The words are words, and not too many. -/
def okWords (l : List Int) : Bool := decide (l.length ≤ 1000000) && l.all fun x => decide (0 ≤ x) && decide (x < 18446744073709551616)
theorem okWords_iff {l : List Int} : okWords l = true ↔ l.length ≤ 1000000 ∧ ∀ x ∈ l, 0 ≤ x ∧ x < 18446744073709551616 := by
  simp [okWords]

set_option maxHeartbeats 1000000 in
theorem all_calls (A0 : Option Addr) (c0 : Nat) (l0 : List Int) (w : World) (hr0 : Kd.C (Kd.int .u64) w A0 l0.length l0) (hc0 : l0.length ≤ c0) (hok : okWords l0 = true) :
    Calls Try.prog 18 #[.slice A0 l0.length c0] w fun e w' => ∃ A c B, e = .returned (.func (.func 58) #[] #[.pointer (some ⟨B, 0, none⟩)]) ∧ B < w'.heap.size ∧
      w'.cell? ⟨B, 0, none⟩ = some (.slice A (Elems.sh l0).length c) ∧ HasWords w.heap.size w'.heap.size w' A (Elems.sh l0) ∧ Below w.heap.size w w' := by
  obtain ⟨hl, hwf⟩ := okWords_iff.1 hok
  have HS := Aside0.mk (short_f l0 (by omega) (l0.length + 1) (by omega))
  obtain ⟨ws, hws⟩ : ∃ ws, Elems.sh l0 = ws := ⟨_, rfl⟩
  rw [hws] at HS
  have HW := Aside0.mk hws
  rw [hws]
  clear hws
  have HR0 := Aside0.mk hr0
  have HC0 := Aside0.mk hc0
  clear hr0 hc0
  go_enter Try.func18, Try.ntmps18
  go_wp2_with fail
  refine (bits_short.calls (l0.length + 1) _ _ l0 ws _ HR0.out HC0.out HS.out).mono ?_
  rintro e w4 ⟨v, rfl, hR, hb⟩
  obtain ⟨A, c, rfl, hcc, hC⟩ := Kd.R_reads hR
  obtain ⟨inner, hown⟩ := Kd.R_own hR
  have hbase : ∀ ad, A = some ad → w.heap.size ≤ ad.block := fun ad e => by
    subst e
    exact own_base hown _ rfl
  have HO := Aside0.mk hown
  clear hown
  have HR := Aside0.mk hR
  have HCC := Aside0.mk hC
  clear hR hC
  go_wp2
  go_ret
  have hb2 : Below w.heap.size w (w4.alloc (.cells #[.slice A ws.length c] 22)) := below_alloc hb _
  have hw4 : Below w4.heap.size w4 (w4.alloc (.cells #[.slice A ws.length c] 22)) := below_alloc (Below.refl _ _) _
  refine ⟨A, c, w4.heap.size, rfl, by simp, ?_, ⟨?_, ?_, ?_⟩, hb2⟩
  · exact (Boxed.new w4 22 _).cell
  · have := Elems.sh_len l0; rw [HW.out] at this; omega
  · intro x hx; exact hwf x (Elems.sh_mem (by rw [HW.out]; exact hx))
  · intro k hk
    obtain ⟨ad, e, hcell⟩ := Kd.at_int HCC.out k (by omega) (by omega)
    have hlt := World.block_lt_of_cell? _ _ hcell
    have hlt2 : ad.block < w4.heap.size := by unfold Addr.add at hlt; split at hlt <;> exact hlt
    refine ⟨ad, e, hbase ad e, by simp; omega, ?_⟩
    have := pw_cell_below hw4 hcell
    simpa [rd] using this

theorem all_stops (F : Fence) (n : Nat) (h6 : F.fn 58) (hro : F.round = none) (hn : 1 ≤ n) (Bs lo cap : Nat) (A : Option Addr) (ws : List Int) (w : World) (hBs : Bs < w.heap.size)
    (hc : w.cell? ⟨Bs, 0, none⟩ = some (.slice A ws.length cap)) (hI : HasWords lo w.heap.size w A ws) :
    SeqStopsK F n Try.prog 58 #[.pointer (some ⟨Bs, 0, none⟩)] (fun x : Int => #[Value.int .i64 x]) (Keeps lo w.heap.size) (fun ys => ys = Elems.from_ 0 ws) (fun pre => pre <+: Elems.from_ 0 ws) 64000000 w := fun l J Jx W hW _ _ hY h0 =>
  all1_in F n h6 hro hn l Bs lo w.heap.size ws.length cap A ws rfl J Jx hY W ((hW.cell (p := ⟨Bs, 0, none⟩) hBs).trans hc) (hI.keeps (Keeps.of_below hW (Nat.le_refl _))) h0
theorem keepsK_t {lo hi : Nat} : ∀ {A B C : World}, Keeps lo hi A B → Keeps lo hi B C → Keeps lo hi A C := fun h h' => h.trans h'
theorem keepsK_b {lo hi : Nat} {w : World} (hh : hi ≤ w.heap.size) : ∀ (W : World) (l : Nat) (o o' : Obj), w.heap.size ≤ l → W.heap[l]? = some o → o.isCells = false → o.isWalk = false → Keeps lo hi W (W.putObj l o') := fun W l o o' hl _ _ _ k _ hk => by
  have : ¬ l = k := by omega
  simp [World.putObj, this]

/-- How many numbers a set has. -/
def bits_Count.f (l0 : List Int) : Option Int := if okWords l0 = true then some (Elems.from_ 0 l0).length else none
/-- The numbers of a set. -/
def bits_List.f (l0 : List Int) : Option (List Int) := if okWords l0 = true then some (Elems.from_ 0 l0) else none

set_option maxRecDepth 100000 in
set_option maxHeartbeats 2000000 in
theorem bits_Count.calls (A0 : Option Addr) (c0 : Nat) (l0 : List Int) (r : Int) (w : World) (hr0 : Kd.C (Kd.int .u64) w A0 l0.length l0) (hc0 : l0.length ≤ c0) (h : bits_Count.f l0 = some r) :
    Calls Try.prog 22 #[.slice A0 l0.length c0] w fun e w' => e = .returned (.int .i64 r) ∧ Below w.heap.size w w' := by
  unfold bits_Count.f at h
  have hok : okWords l0 = true := by
    by_cases hx : okWords l0 = true
    · exact hx
    · rw [if_neg hx] at h; cases h
  rw [if_pos hok] at h
  have hr := Aside0.mk (Option.some.inj h)
  clear h
  have HR0 := Aside0.mk hr0
  have HC0 := Aside0.mk hc0
  have HOK := Aside0.mk hok
  clear hr0 hc0 hok
  refine (callsIn_wide (n := 5)).1 ?_
  refine callsIn_of_wp_marks Try.func22 rfl trivial ?_ rfl
  simp only [Try.ntmps22, List.size_toArray, List.length_cons, List.length_nil, Nat.reduceAdd, Nat.reduceSub, Array.replicate_succ, Array.replicate_zero, List.push_toArray, List.append_toArray, List.nil_append, List.cons_append]
  gi_wp2_with fail
  refine ⟨trivial, callsIn_wide.2 ((all_calls A0 c0 l0 _ (Kd.C_alloc HR0.out _) HC0.out HOK.out).mono ?_)⟩
  rintro e w1 ⟨A, c, B, rfl, hB1, hB2, hW, hbel⟩
  have bN := Boxed.new w 3 (.int .i64 0)
  have hB0 : Below w.heap.size w w1 := (below_alloc (Below.refl _ _) _).trans (hbel.mono (by simp))
  have hlt : w.heap.size < w1.heap.size := by have := hbel.size; simp at this; omega
  have hcell : w1.cell? ⟨w.heap.size, 0, none⟩ = some (.int .i64 0) := (hbel.cell (p := ⟨w.heap.size, 0, none⟩) (by simp)).trans bN.cell
  have hfro : w1.frozen? ⟨w.heap.size, 0, none⟩ = false := (hbel.frozen (p := ⟨w.heap.size, 0, none⟩) (by simp)).trans bN.frozen
  rw [World.size_alloc] at hW
  have hlen : ∀ pre : List Int, pre.length < 64000000 → wrap64 ((pre.length : Int) + 1) = (pre.length : Int) + 1 := fun pre h => by unfold wrap64; omega
  gi_wp2
  refine wpIn_rangeFunc_ownG rfl (by omega) (gf := 58) (lb := #[.pointer (some ⟨B, 0, none⟩)]) rfl trivial (enters_of Try.func58 (by kernel_rfl) rfl)
    (all_stops Fence.wide (5 - 1) trivial rfl (by omega) B (w.heap.size + 1) c A _ w1 hB1 hB2 hW) keepsK_t (keepsK_b (Nat.le_refl _)) (Below.refl _ _) (fun _ => rfl)
    (fun pre W => (W.cell? ⟨w.heap.size, 0, none⟩ = some (.int .i64 (pre.length : Int)) ∧ W.frozen? ⟨w.heap.size, 0, none⟩ = false) ∧ Below w.heap.size w W)
    (fun _ _ _ => False)
    (OwnFrom.and (Own.from (fun s A B row hs hg hr => ⟨cell_kept hs.1 hg hr, (frozen_kept hs.1 hg hr).trans hs.2⟩) _) (ownFrom_below (Nat.le_refl _) (by omega)))
    (fun _ _ _ _ _ hs _ _ => hs)
    ⟨⟨by simpa using hcell, hfro⟩, hB0⟩
    (fun x => { tmps := #[.slice A0 l0.length c0, undef, .int .i64 0, .pointer (some ⟨w.heap.size, 0, none⟩), .slice A0 l0.length c0, .func (.func 58) #[] #[.pointer (some ⟨B, 0, none⟩)], .int .i64 x, undef, undef, undef], defers := [] }) ?assign ?body ?done ?stop
  case assign =>
    intro l x W K hK
    gi_wp2
    simpa using hK
  case body =>
    rintro l pre x W ⟨⟨hc, hf⟩, hB⟩ hl
    have hw := hlen pre hl
    gi_wp2
    refine ⟨(KeepsOthers.setCell _ _ _).from _, ?_, ⟨?_, ?_⟩, ?_⟩
    · intro k h1 _
      exact Below.heap_setCell _ _ _ _ (by simp; omega)
    · rw [List.length_append, List.length_singleton]
      exact World.cell?_setCell_same' _ _ _ (by rw [hc]; rfl)
    · rw [World.frozen?_setCell]; exact hf
    · exact hB.setCell (by simp) _
  case done =>
    rintro D ys W hD rfl ⟨⟨hc, _⟩, hB⟩ hK
    gi_wp2
    refine ⟨by simp, .inl ⟨_, _, rfl, run_takeDeferred hK, ?_⟩⟩
    refine ⟨_, results_tmp rfl _ _ _, ?_, hB.trans (belowK_b (w := w) (Nat.le_refl _) W D _ _ (by omega) hK rfl rfl)⟩
    show Ending.returned (.int .i64 _) = _
    rw [← hr.out, Elems.from_sh]
  case stop =>
    rintro D c pre W _ _ h _
    exact h.elim

set_option maxRecDepth 100000 in
set_option maxHeartbeats 2000000 in
theorem bits_List.calls (A0 : Option Addr) (c0 : Nat) (l0 : List Int) (r : List Int) (w : World) (hr0 : Kd.C (Kd.int .u64) w A0 l0.length l0) (hc0 : l0.length ≤ c0) (h : bits_List.f l0 = some r) :
    Calls Try.prog 21 #[.slice A0 l0.length c0] w fun e w' => ∃ v0_ : Value, e = .returned (v0_) ∧ Kd.R (Kd.int .i64) 3 w' w.heap.size (fun _ => True) v0_ r ∧ Below w.heap.size w w' := by
  unfold bits_List.f at h
  have hok : okWords l0 = true := by
    by_cases hx : okWords l0 = true
    · exact hx
    · rw [if_neg hx] at h; cases h
  rw [if_pos hok] at h
  have hr := Aside0.mk (Option.some.inj h)
  clear h
  have HR0 := Aside0.mk hr0
  have HC0 := Aside0.mk hc0
  have HOK := Aside0.mk hok
  clear hr0 hc0 hok
  obtain ⟨i0, hi, hz0, hz1, hz2⟩ := info_parts info3
  refine (callsIn_wide (n := 5)).1 ?_
  refine callsIn_of_wp_marks Try.func21 rfl trivial ?_ rfl
  simp only [Try.ntmps21, List.size_toArray, List.length_cons, List.length_nil, Nat.reduceAdd, Nat.reduceSub, Array.replicate_succ, Array.replicate_zero, List.push_toArray, List.append_toArray, List.nil_append, List.cons_append]
  gi_wp2_with fail
  refine ⟨trivial, callsIn_wide.2 ((all_calls A0 c0 l0 _ (Kd.C_alloc HR0.out _) HC0.out HOK.out).mono ?_)⟩
  rintro e w1 ⟨A, c, B, rfl, hB1, hB2, hW, hbel⟩
  have bO : Boxed w1 w.heap.size 25 (.slice none 0 0) := (hbel.block w.heap.size (by simp)).trans (Boxed.new w 25 (.slice none 0 0))
  have hB0 : Below w.heap.size w w1 := (below_alloc (Below.refl _ _) _).trans (hbel.mono (by simp))
  have hlt : w.heap.size < w1.heap.size := by have := hbel.size; simp at this; omega
  rw [World.size_alloc] at hW
  gi_wp2
  refine wpIn_rangeFunc_ownG rfl (by omega) (gf := 58) (lb := #[.pointer (some ⟨B, 0, none⟩)]) rfl trivial (enters_of Try.func58 (by kernel_rfl) rfl)
    (all_stops Fence.wide (5 - 1) trivial rfl (by omega) B (w.heap.size + 1) c A _ w1 hB1 hB2 hW) keepsK_t (keepsK_b (Nat.le_refl _)) (Below.refl _ _) (fun _ => rfl)
    (fun pre W => (∃ v, Boxed W w.heap.size 25 v ∧ W.ownsRow w1.heap.size 3 1 v pre.length (pre.map (Value.int .i64)) ∧ True) ∧ Below w.heap.size w1 W)
    (fun _ _ _ => False)
    (OwnFrom.and (Own.from (holdsRow_own w1.heap.size w.heap.size 25 3 1 (fun pre : List Int => pre.length) (fun pre => pre.map (Value.int .i64)) (fun _ _ => True)) _) (ownFrom_below (by omega) (by omega)))
    (fun _ _ _ _ _ hs _ _ => hs)
    ⟨⟨_, bO, World.ownsRow_nil _ _ _ _, trivial⟩, Below.refl _ _⟩
    (fun x => { tmps := #[.slice A0 l0.length c0, undef, .slice none 0 0, .pointer (some ⟨w.heap.size, 0, none⟩), .int .i64 x, .slice A0 l0.length c0, .func (.func 58) #[] #[.pointer (some ⟨B, 0, none⟩)], .int .i64 x, undef, undef, undef, undef, undef], defers := [] }) ?assign ?body ?done ?stop
  case assign =>
    intro l x W K hK
    gi_wp2
    simpa using hK
  case body =>
    rintro l pre x W ⟨⟨v, hv, hrow, _⟩, hB⟩ hl
    have hc := hv.cell
    have hsz := hB.size
    have hvb : ∀ k, v.ownBlock = some k → w1.heap.size ≤ k := fun k hk => own_base hrow k hk
    have HV := Aside0.mk hvb
    clear hvb
    gi_wp2_with (gi_at_builtin; refine wpListIn_append_own _ rfl _ _ 25 rfl w1.heap.size 3 i0 (.int .i64 0) 1 8 Try.underlying25 hi hz0 hz1 hz2 rfl (by decide) _ _ _ rfl (hrow.alloc _) ⟨W.heap.size, 0, none⟩ 1 1 [.int .i64 x] rfl rfl (cell_one_new _ _ _) (by simp [Value.oneCell']) (by unfold maxLen; omega) (by omega) (by simp; omega) ?_; intro v' w2 hown' hgrow _; obtain ⟨g', cap', rfl⟩ := ownsRow_succ hown'; obtain ⟨hv1, hv2, hr2, hk2, hb2⟩ := hv.appended (by decide) (own_weaken hrow (by omega : w.heap.size ≤ w1.heap.size)) (by omega) (Nat.le_refl _) (own_weaken hown' (by omega : w.heap.size ≤ w1.heap.size)) hgrow; have hc1 := hv1.cell; have hf1 := hv1.frozen)
    have hgrow' : (W.alloc (Obj.cells #[Value.int IntKind.i64 x] 3)).grownBy w2 v.ownBlock := hgrow
    refine ⟨hk2.from _, ?_, ⟨⟨_, hv2, ?_, trivial⟩, hB.trans hb2⟩⟩
    · intro k h1 h2
      rw [Below.heap_setCell _ _ _ _ (by simp; omega), hgrow'.block k (by simp; omega) (fun e => by have := HV.out k e.symm; omega)]
      exact Below.heap_alloc _ _ _ (by omega)
    · rw [List.length_append, List.length_singleton, List.map_append]
      exact hown'.kept (grownBy_setCell' w2 w.heap.size _) (.inr (fun e => by
        have h1 := own_base hown' g' rfl
        have h2 : g' = w.heap.size := by simpa [Value.ownBlock] using e
        omega))
  case done =>
    rintro D ys W hD rfl ⟨⟨v, hv, hrow, _⟩, hB⟩ hK
    have hc := hv.cell
    gi_wp2
    refine ⟨by simp, .inl ⟨_, _, rfl, run_takeDeferred hK, ?_⟩⟩
    refine ⟨_, results_tmp rfl _ _ _, v, rfl, ?_, (hB0.trans hB).trans (belowK_b (w := w) (Nat.le_refl _) W D _ _ (by omega) hK rfl rfl)⟩
    rw [← hr.out, ← Elems.from_sh]
    exact Kd.R_of_own (ownsRow_putObj (own_weaken hrow (by omega)) _ hK rfl) (fun _ _ => trivial)
  case stop =>
    rintro D c pre W _ _ h _
    exact h.elim
end Go.Proofs.Ytbmnnmcnmfgbaaa.PB
