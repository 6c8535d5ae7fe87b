/-
  Put together by slim.py of this session out of the session's own texts (YtbmnnmcnmfgbaaaLawCliqueMost and what it reaches): declarations that nothing kept names are left out. Conditions: none beyond those of the law's row.
-/
import Derived.Maps.OwnSet
import Derived.Laws.StructEq
import Derived.Test.YtbmnnmcnmfgbaaaZMost2
import Derived.Test.YtbmnnmcnmfgbaaaZMost0
import Derived.Test.YtbmnnmcnmfgbaaaZMost3
import Derived.Test.YtbmnnmcnmfgbaaaZMost4
import Derived.Test.YtbmnnmcnmfgbaaaZMost6
import Derived.Test.YtbmnnmcnmfgbaaaZMost1
section
/-
  clique.Colours: how many different colours: a set that the call makes.
-/
namespace Go.Proofs.Ytbmnnmcnmfgbaaa.PG
open Go.RowKit Go.Shelf Go.Maps Go.Proofs.YtbmnnmcnmfgbaaaW.PrintWords Go.Proofs.YtbmnnmcnmfgbaaaW.PrintLast Go.Proofs.YtbmnnmcnmfgbaaaW.PrintMore
open Go.Proofs.Ytbmnnmcnmfgbaaa.PB
set_option linter.unusedVariables false
set_option linter.unusedSimpArgs false

def i64b (l : List Int) : Bool := l.all fun x => decide (-9223372036854775808 ≤ x) && decide (x < 9223372036854775808)
theorem i64b_at {l : List Int} (h : i64b l = true) (i : Nat) : (Lit.int .i64 (rd l (i : Int))).wf = true := by
  have : -9223372036854775808 ≤ rd l (i : Int) ∧ rd l (i : Int) < 9223372036854775808 := by
    by_cases hi : i < l.length
    · have h1 := List.all_eq_true.1 h l[i] (List.getElem_mem hi)
      have e : rd l (i : Int) = l[i] := by simp [rd, hi]
      rw [e]; simpa using h1
    · rw [rd_out l i (by omega)]; omega
  exact WalkArith.wf_i64 (by omega)
def addI (acc : List Int) (x : Int) : List Int := if acc.contains x then acc else acc ++ [x]
/-- How many different colours. -/
def nCol (l : List Int) : Nat := ((l.filter fun x => decide (0 ≤ x)).foldl addI []).length
def clique_Colours.f (l0 : List Int) : Option Int := if i64b l0 = true then some (nCol l0 : Int) else none

def lits (l : List Int) : List Lit := l.map fun x => .int .i64 x
def pos (l : List Int) : List Int := l.filter fun x => decide (0 ≤ x)
theorem isKey (l : List Int) : ∀ x ∈ lits l, WideAt.IsKeyLit x := fun x hx => by
  obtain ⟨a, _, rfl⟩ := List.mem_map.1 hx
  trivial
theorem addKey_lits (acc : List Int) (x : Int) : addKey (lits acc) (.int .i64 x) = lits (addI acc x) := by
  unfold addKey addI
  have e : (lits acc).any (fun y => y.sameKey (.int .i64 x)) = acc.contains x := by
    induction acc with
    | nil => rfl
    | cons a r ih =>
      rw [List.contains_cons, ← ih]
      show ((Lit.int .i64 a).sameKey (.int .i64 x) || _) = _
      congr 1
      show decide (IntKind.i64 = IntKind.i64 ∧ a = x) = (x == a)
      rw [Bool.eq_iff_iff]; simp; exact eq_comm
  rw [e]
  split
  · rfl
  · simp [lits]
theorem fold_lits (l : List Int) : ∀ acc : List Int, (lits l).foldl addKey (lits acc) = lits (l.foldl addI acc) := by
  induction l with
  | nil => intro acc; rfl
  | cons a r ih =>
    intro acc
    show (lits r).foldl addKey (addKey (lits acc) (.int .i64 a)) = _
    rw [addKey_lits, ih]; rfl
def Sn (l : List Int) (k : Nat) : DataW Unit := setOf (.lit (.bool true)) (lits (pos (l.take k)))
theorem Sn_zero (l : List Int) : Sn l 0 = .map [] := rfl
theorem take_snoc (l : List Int) (k : Nat) (hk : k < l.length) : l.take (k + 1) = l.take k ++ [rd l (k : Int)] := by
  rw [List.take_add_one, List.getElem?_eq_getElem hk]
  simp [rd, hk]
theorem Sn_yes (l : List Int) (k : Nat) (hk : k < l.length) (h : 0 ≤ rd l (k : Int)) : Sn l (k + 1) = (Sn l k).put (.int .i64 (rd l (k : Int))) (.lit (.bool true)) := by
  unfold Sn
  rw [take_snoc l k hk, pos, List.filter_append, lits, List.map_append]
  have : (List.filter (fun x => decide (0 ≤ x)) [rd l (k : Int)]) = [rd l (k : Int)] := by simp [h]
  rw [this]
  exact setOf_snoc _ _ _
theorem Sn_no (l : List Int) (k : Nat) (hk : k < l.length) (h : ¬ 0 ≤ rd l (k : Int)) : Sn l (k + 1) = Sn l k := by
  unfold Sn
  rw [take_snoc l k hk, pos, List.filter_append]
  have : (List.filter (fun x => decide (0 ≤ x)) [rd l (k : Int)]) = [] := by simp [h]
  rw [this, List.append_nil]; rfl
theorem Sn_size (l : List Int) : Maps.size (Sn l l.length) = nCol l := by
  unfold Sn
  rw [size_setOf _ _ (isKey _), List.take_length]
  have := fold_lits (pos l) []
  rw [show (lits [] : List Lit) = [] from rfl] at this
  rw [this, lits, List.length_map]; rfl
theorem lt_maxLen {k n : Nat} (h : n ≤ 9223372036854775807) (hk : k < n) : k < maxLen := Nat.lt_of_lt_of_le hk h
theorem wrap_succ {k n : Nat} (h : n ≤ 9223372036854775807) (hk : k < n) : wrap64 ((k : Int) + 1) = ((k + 1 : Nat) : Int) := by
  unfold wrap64; omega
theorem law3 : Keyed Try.prog 3 := int_keyed Try.underlying3

set_option maxRecDepth 100000 in
set_option maxHeartbeats 1000000 in
theorem clique_Colours.calls (A0 : Option Addr) (c0 : Nat) (l0 : List Int) (r : Int) (w : World) (hr0 : Kd.C (Kd.int .i64) w A0 l0.length l0) (hc0 : l0.length ≤ c0) (h : clique_Colours.f l0 = some r) :
    Calls Try.prog 40 #[.slice A0 l0.length c0] w fun e w' => e = .returned (.int .i64 r) ∧ Below w.heap.size w w' := by
  unfold clique_Colours.f at h
  by_cases hw : i64b l0 = true
  rotate_left
  · rw [if_neg hw] at h; cases h
  rw [if_pos hw] at h
  obtain rfl := Option.some.inj h
  have HM := Aside0.mk hr0.2.1
  have HR := Aside0.mk hr0
  have HW := Aside0.mk hw
  clear h hr0 hc0 hw
  have hmm := @run_makeMap Try.prog
  go_enter Try.func40, Try.ntmps40
  go_wp2
  go_loopg [9] l0.length (fun m i wr => ∃ k : Nat, Aside0 (k + m = l0.length) ∧ i = .int .i64 k ∧ Aside0 (wr.ownsMap Try.prog 3 (plainElem Try.prog 4) w.heap.size k (Sn l0 k)) ∧ Aside0 (Below w.heap.size w wr))
  case atStart => exact ⟨0, ⟨by omega⟩, rfl, ⟨by rw [Sn_zero]; exact World.ownsMap_made _ _ _ _⟩, ⟨(Below.refl _ _).alloc (Nat.le_refl _) _⟩⟩
  case round =>
    obtain ⟨k, HK, rfl, HO, HB⟩ := hrel
    by_cases hlt : k < l0.length
    · obtain ⟨ad, rfl, hcell0⟩ := Kd.at_int HR.out (k : Int) (by omega) (by omega)
      have hcell := pw_cell_below HB.out hcell0
      rw [Int.toNat_natCast] at hcell
      have hw1 := wrap_succ HM.out hlt
      by_cases h0 : 0 ≤ rd l0 (k : Int)
      · have hz := Aside0.mk h0
        go_wp2_with (first
          | (at_mapUpdate; refine wpList_mapUpdate_own _ rfl _ _ _ 82 rfl 3 4 law3 Try.underlying82 (plainElem (H := Unit) Try.prog 4) w.heap.size k _ rfl HO.out (lt_maxLen HM.out hlt) _ _ _ rfl rfl (keyOf_int_mk Try.underlying3 (i64b_at HW.out k)) _ [] (plainElem_bool Try.underlying4 true) ?_; intro w1 hown1 hgrow1)
          | go_in)
        go_roundg (gk - 1)
        case measure => have := HK.out; omega
        case rel => exact ⟨k + 1, ⟨by have := HK.out; omega⟩, by first | rfl | go_num, ⟨(Sn_yes l0 k hlt (by have := hz.out; omega)).symm ▸ hown1⟩, ⟨HB.out.grown hgrow1 HB.out.size (fun j hj => by cases hj; exact Nat.le_refl _)⟩⟩
      · have hz := Aside0.mk h0
        go_wp2
        go_roundg (gk - 1)
        case measure => have := HK.out; omega
        case rel => exact ⟨k + 1, ⟨by have := HK.out; omega⟩, by first | rfl | go_num, ⟨by rw [Sn_no l0 k hlt (by have := hz.out; omega)]; exact HO.out.mono (by omega)⟩, HB⟩
    · obtain rfl : k = l0.length := by have := HK.out; omega
      go_wp2_with (first
        | (at_len; refine wpList_len_own _ rfl _ 82 rfl 3 4 Try.underlying82 _ w.heap.size l0.length _ rfl HO.out ?_)
        | go_in)
      go_ret
      exact ⟨by rw [Sn_size]; rfl, HB.out⟩
end Go.Proofs.Ytbmnnmcnmfgbaaa.PG
end
