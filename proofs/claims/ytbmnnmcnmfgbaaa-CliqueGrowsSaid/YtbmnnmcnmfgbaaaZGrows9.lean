/-
  Put together by slim.py of this session out of the session's own texts (YtbmnnmcnmfgbaaaLawCliqueGrows and what it reaches): declarations that nothing kept names are left out. Conditions: none beyond those of the law's row.
-/
import Derived.WalkMore
import Derived.Laws.StructEq
import Derived.Test.YtbmnnmcnmfgbaaaZGrows4
import Derived.Test.YtbmnnmcnmfgbaaaZGrows8
import Derived.Test.YtbmnnmcnmfgbaaaZGrows5
import Derived.Test.YtbmnnmcnmfgbaaaZGrows7
import Derived.Test.YtbmnnmcnmfgbaaaZGrows0
import Derived.Test.YtbmnnmcnmfgbaaaZGrows3
import Derived.Test.YtbmnnmcnmfgbaaaZGrows2
section
/-
  clique.Grow: what is taken along an order.
-/
namespace Go.Proofs.Ytbmnnmcnmfgbaaa.PG
open Go.RowKit Go.Shelf Go.Proofs.YtbmnnmcnmfgbaaaW.PrintWords Go.Proofs.YtbmnnmcnmfgbaaaW.PrintLast Go.Proofs.YtbmnnmcnmfgbaaaW.PrintMore
open Go.Proofs.Ytbmnnmcnmfgbaaa.PB
set_option linter.unusedVariables false
set_option linter.unusedSimpArgs false

def okC (nbs : List (List Int)) (a : Int) (l : List Int) : Bool := l.all fun b => hasB nbs a b
def growStep (nbs : List (List Int)) (l : List Int) (a : Int) : List Int := if isB nbs a = true ∧ okC nbs a l = true then l ++ [a] else l
/-- The clique that is taken along an order. -/
def growL (nbs : List (List Int)) (order : List Int) : List Int := order.foldl (growStep nbs) []
def growK (nbs : List (List Int)) (order : List Int) (k : Nat) : List Int := growL nbs (order.take k)
theorem growK_succ (nbs : List (List Int)) (order : List Int) (k : Nat) (hk : k < order.length) : growK nbs order (k + 1) = growStep nbs (growK nbs order k) (rd order (k : Int)) := by
  unfold growK growL
  rw [take_snoc order k hk, List.foldl_append]; rfl
theorem growK_len (nbs : List (List Int)) (order : List Int) (k : Nat) : (growK nbs order k).length ≤ k := by
  induction k with
  | zero => simp [growK, growL]
  | succ k ih =>
    by_cases hk : k < order.length
    · rw [growK_succ nbs order k hk, growStep]
      split
      · simp; omega
      · omega
    · have : growK nbs order (k + 1) = growK nbs order k := by
        unfold growK; rw [List.take_of_length_le (by omega), List.take_of_length_le (by omega)]
      rw [this]; omega
theorem growK_node (nbs : List (List Int)) (order : List Int) (k : Nat) : ∀ b ∈ growK nbs order k, isB nbs b = true := by
  induction k with
  | zero => intro b hb; simp [growK, growL] at hb
  | succ k ih =>
    by_cases hk : k < order.length
    · rw [growK_succ nbs order k hk, growStep]
      split
      · rename_i h
        intro b hb
        rcases List.mem_append.1 hb with hb | hb
        · exact ih b hb
        · obtain rfl := List.mem_singleton.1 hb; exact h.1
      · exact ih
    · have : growK nbs order (k + 1) = growK nbs order k := by
        unfold growK; rw [List.take_of_length_le (by omega), List.take_of_length_le (by omega)]
      rw [this]; exact ih
theorem isB_lt {nbs : List (List Int)} {a : Int} (h : isB nbs a = true) : 0 ≤ a ∧ a < (nbs.length : Int) := by
  unfold isB at h
  rwa [Bool.and_eq_true, decide_eq_true_eq, decide_eq_true_eq] at h
theorem okC_take (nbs : List (List Int)) (a : Int) (l : List Int) (j : Nat) (hj : j < l.length) (h : okC nbs a (l.take j) = true) (hb : hasB nbs a (rd l (j : Int)) = true) : okC nbs a (l.take (j + 1)) = true := by
  rw [take_snoc l j hj, okC, List.all_append, Bool.and_eq_true]
  exact ⟨h, by simp [hb]⟩
theorem okC_no (nbs : List (List Int)) (a : Int) (l : List Int) (j : Nat) (hj : j < l.length) (hb : hasB nbs a (rd l (j : Int)) = false) : okC nbs a l = false := by
  rw [okC, List.all_eq_false]
  have e : rd l (j : Int) = l[j] := by simp [rd, hj]
  exact ⟨l[j], List.getElem_mem hj, by rw [← e, hb]; simp⟩
def clique_Grow.f (l0 : List (List Int)) (l1 : List Int) : Option (List Int) := if l0.length < 9223372036854775808 ∧ l1.length ≤ 17592186043904 then some (growL l0 l1) else none

set_option maxRecDepth 100000 in
set_option maxHeartbeats 400000 in
theorem clique_Grow.calls (A0 : Option Addr) (c0 : Nat) (l0 : List (List Int)) (A1 : Option Addr) (c1 : Nat) (l1 : List Int) (r : List Int) (w : World) (hr0 : IsGr w A0 l0) (hc0 : l0.length ≤ c0) (hr1 : Kd.C (Kd.int .i64) w A1 l1.length l1) (hc1 : l1.length ≤ c1) (h : clique_Grow.f l0 l1 = some r) :
    Calls Try.prog 35 #[.pointer A0, .slice A1 l1.length c1] w fun e w' => ∃ v0_ : Value, e = .returned v0_ ∧ Kd.R (Kd.int .i64) 3 w' w.heap.size (fun _ => True) v0_ r ∧ Below w.heap.size w w' := by
  unfold clique_Grow.f at h
  by_cases hw : l0.length < 9223372036854775808 ∧ l1.length ≤ 17592186043904
  rotate_left
  · rw [if_neg hw] at h; cases h
  rw [if_pos hw] at h
  obtain rfl := Option.some.inj h
  have HW := Aside0.mk hw
  have HG := Aside0.mk hr0
  have HR := Aside0.mk hr1
  have HM := Aside0.mk (show l1.length ≤ 9223372036854775807 by omega)
  clear h hr0 hc0 hr1 hc1 hw
  go_enter Try.func35, Try.ntmps35
  go_wp2
  go_step3
  go_wp2
  go_step3
  go_wp2
  go_loopg [12, 5] l1.length (fun m i v wr => ∃ k : Nat, Aside0 (k + m = l1.length) ∧ i = .int .i64 k ∧ Aside0 (wr.ownsRow w.heap.size 3 1 v (growK l0 l1 k).length (nums .i64 (growK l0 l1 k))) ∧ Aside0 (Below w.heap.size w wr))
  case atStart => exact ⟨0, ⟨by omega⟩, rfl, ⟨own_nil _ _ _ _⟩, ⟨Below.refl _ _⟩⟩
  case round =>
    obtain ⟨k, HK, rfl, HO, HB⟩ := hrel
    by_cases hlt : k < l1.length
    · obtain ⟨ad, rfl, hcell0⟩ := Kd.at_int HR.out (k : Int) (by omega) (by omega)
      have hcell := pw_cell_below HB.out hcell0
      clear hcell0
      rw [Int.toNat_natCast] at hcell
      have hw1 := wrap_succ HM.out hlt
      obtain ⟨a, ha⟩ : ∃ a, rd l1 (k : Int) = a := ⟨_, rfl⟩
      have HA := Aside0.mk ha
      rw [ha] at hcell
      obtain ⟨l, hl⟩ : ∃ l, growK l0 l1 k = l := ⟨_, rfl⟩
      rw [hl] at HO
      have HL := Aside0.mk hl
      clear hl ha
      have hno : (isB l0 a = true ∧ okC l0 a l = true → False) → growK l0 l1 (k + 1) = l := fun hh => by
        rw [growK_succ l0 l1 k hlt, HA.out, HL.out, growStep, if_neg hh]
      have HNO := Aside0.mk hno
      have HBN : Aside0 (∀ b ∈ l, 0 ≤ b ∧ b < 9223372036854775808) := ⟨fun b hb => by
        rw [← HL.out] at hb
        have h2 := isB_lt (growK_node l0 l1 k b hb)
        have h3 := HW.out.1
        omega⟩
      clear hno
      by_cases ha0 : a < 0
      · have h0 : decide (a < 0) = true := decide_eq_true ha0
        have HI : Aside0 (isB l0 a = false) := ⟨by simp [isB]; omega⟩
        clear ha0
        go_wp2
        go_roundg (gk - 1)
        case measure => have := HK.out; omega
        case rel => exact ⟨k + 1, ⟨by have := HK.out; omega⟩, by first | rfl | go_num, ⟨by rw [HNO.out (by rw [HI.out]; simp)]; exact HO.out⟩, HB⟩
      · by_cases ha1 : a < (l0.length : Int)
        · have h0 : decide (a < 0) = false := decide_eq_false ha0
          have h1 : decide (a ≥ (l0.length : Int)) = false := decide_eq_false (by omega)
          have HI : Aside0 (isB l0 a = true) := ⟨by simp [isB]; omega⟩
          clear ha0 ha1
          obtain ⟨A5, c5, rfl, hRd⟩ := own_reads HO.out
          have HRD := Aside0.mk hRd
          clear hRd
          go_wp2_with fail
          refine (graph_Graph_Len.calls A0 l0.length l0 _ _ (HG.out.below HB.out) (Nat.le_refl _) rfl).mono ?_
          rintro e w1 ⟨rfl, hd1⟩
          have HD1 := Aside0.mk hd1
          clear hd1
          go_wp2
          go_loopg [26] l.length (fun m i w2 => ∃ j : Nat, Aside0 (j + m = l.length) ∧ i = .int .i64 j ∧ Aside0 (okC l0 a (l.take j) = true) ∧ Aside0 (Below wr.heap.size wr w2))
          case atStart => exact ⟨0, ⟨by omega⟩, rfl, ⟨by simp [okC]⟩, ⟨HD1.out.below⟩⟩
          case round =>
            obtain ⟨j, HJ, rfl, HC, HB2⟩ := hrel
            by_cases hj : j < l.length
            · obtain ⟨ad5, rfl, hc5⟩ := (HRD.out.below HB2.out).at_ (j : Int) (by omega) (by omega)
              rw [Int.toNat_natCast] at hc5
              have hw2 : wrap64 ((j : Int) + 1) = ((j + 1 : Nat) : Int) := wrap_succ (HRD.out.2.1) hj
              obtain ⟨b, hb⟩ : ∃ b, rd l (j : Int) = b := ⟨_, rfl⟩
              rw [hb] at hc5
              have HBJ := Aside0.mk hb
              have HBB : Aside0 (b < 9223372036854775808) := ⟨(HBN.out b (by rw [← hb]; simp [rd, hj])).2⟩
              clear hb
              obtain ⟨t, ht⟩ : ∃ t, hasB l0 a b = t := ⟨_, rfl⟩
              have HT := Aside0.mk ht
              clear ht
              go_wp2_with fail
              refine (graph_Graph_Has.calls A0 l0.length l0 a b t _ ((HG.out.below HB.out).below HB2.out) (Nat.le_refl _) (by unfold graph_Graph_Has.f; rw [if_pos HBB.out, HT.out])).mono ?_
              rintro e w3 ⟨rfl, hd3⟩
              have HB3 := Aside0.mk (below_then HB2.out HB2.out.size hd3.below)
              clear hd3
              cases t
              · go_wp2
                go_roundg (l1.length - k - 1)
                case measure => have := HK.out; omega
                case rel => exact ⟨k + 1, ⟨by have := HK.out; omega⟩, by first | rfl | go_num, ⟨by rw [HNO.out (by rw [okC_no l0 a l j hj (by rw [HBJ.out]; exact HT.out)]; simp)]; exact pw_own_below HO.out HB3.out⟩, ⟨below_then HB.out HB.out.size HB3.out⟩⟩
              · go_wp2
                go_roundg (gk - 1)
                case measure => have := HJ.out; omega
                case rel => exact ⟨j + 1, ⟨by have := HJ.out; omega⟩, by first | rfl | go_num, ⟨okC_take l0 a l j hj HC.out (by rw [HBJ.out]; exact HT.out)⟩, HB3⟩
            · obtain rfl : j = l.length := by have := HJ.out; omega
              have HO2 := Aside0.mk (pw_own_below HO.out HB2.out)
              have hle := growK_len l0 l1 k
              rw [HL.out] at hle
              have HLE := Aside0.mk hle
              clear hle
              go_wp2_with (first
                | (at_builtin; go_loud (refine print_append_num (w0 := w) w.heap.size rfl _ _ 25 3 .i64 8 rfl Try.underlying25 info3 (by decide) (.slice A5 l.length c5) l a rfl rfl HO2.out (below_then HB.out HB.out.size HB2.out) (Nat.le_trans HB.out.size HB2.out.size) (by have := HLE.out; have := HW.out.2; omega) ?_); intro v1 w1 ho1 hb1 hg1 hat1)
                | go_in)
              have HO1 := Aside0.mk ho1
              have HB1 := Aside0.mk hb1
              go_roundg (l1.length - k - 1)
              case measure => have := HK.out; omega
              case rel =>
                have e : growK l0 l1 (k + 1) = l ++ [a] := by
                  have := HC.out
                  rw [List.take_length] at this
                  rw [growK_succ l0 l1 k hlt, HA.out, HL.out, growStep, if_pos ⟨HI.out, this⟩]
                exact ⟨k + 1, ⟨by have := HK.out; omega⟩, by first | rfl | go_num, ⟨by rw [e]; exact HO1.out⟩, HB1⟩
        · have h0 : decide (a < 0) = false := decide_eq_false ha0
          have h1 : decide (a ≥ (l0.length : Int)) = true := decide_eq_true (by omega)
          have HI : Aside0 (isB l0 a = false) := ⟨by simp [isB]; omega⟩
          clear ha0 ha1
          go_wp2_with fail
          refine (graph_Graph_Len.calls A0 l0.length l0 _ _ (HG.out.below HB.out) (Nat.le_refl _) rfl).mono ?_
          rintro e w1 ⟨rfl, hd1⟩
          have HD1 := Aside0.mk hd1
          clear hd1
          go_wp2
          go_roundg (gk - 1)
          case measure => have := HK.out; omega
          case rel => exact ⟨k + 1, ⟨by have := HK.out; omega⟩, by first | rfl | go_num, ⟨by rw [HNO.out (by rw [HI.out]; simp)]; exact pw_own_below HO.out HD1.out.below⟩, ⟨below_then HB.out HB.out.size HD1.out.below⟩⟩
    · obtain rfl : k = l1.length := by have := HK.out; omega
      go_wp2
      rw [Exit.noGoto_ret]
      go_ret
      refine ⟨_, rfl, ?_, HB.out⟩
      have := HO.out
      unfold growK at this
      rw [List.take_length] at this
      exact Kd.R_of_own this (fun _ _ => trivial)
end Go.Proofs.Ytbmnnmcnmfgbaaa.PG
end
