/-
  Put together by slim.py of this session out of the session's own texts (YtbmnnmcnmfgbaaaLawCliqueMost and what it reaches): declarations that nothing kept names are left out. Conditions: none beyond those of the law's row.
-/
import Derived.Maps.OwnOps
import Derived.Laws.StructEq
import Derived.Test.YtbmnnmcnmfgbaaaProg
import Derived.Below
import Derived.Deep.Draws
import Derived.Deep.AppendLies
import Derived.Maps.AppendAt
import Derived.OwnWalk
import Derived.Laws.BytesArg
import Derived.Laws.MakeOwn
import Derived.Laws.OwnMore
import Derived.Deep.OwnRows
import Derived.Tactics
import Derived.Lib.ConvBytes
import Derived.Laws.Slices
import Derived.WalkKit
import Derived.KernelRfl
import Derived.RowKit3
import Derived.Deep.LoopGhost
import Derived.Deep.QuietTactic
import Derived.BigQuiet
import Derived.WideLaws
import Derived.Deep.DeepCutAuto
import Derived.Deep.CutBlock
import Derived.Deep.RegionHeld3
import Derived.Laws.Rows
import Derived.Lib.AppendStr
import Derived.ArgAppend
import Derived.Laws.IdiomCopy
import Derived.OrdersHeld
import Derived.Laws.BitsLemmas
import Derived.RowKit
import Derived.Test.YtbmnnmcnmfgbaaaZMost2
import Derived.Test.YtbmnnmcnmfgbaaaZMost0
import Derived.Test.YtbmnnmcnmfgbaaaZMost3
import Derived.Test.YtbmnnmcnmfgbaaaZMost4
import Derived.Test.YtbmnnmcnmfgbaaaZMost6
import Derived.Test.YtbmnnmcnmfgbaaaZMost1
import Derived.Test.YtbmnnmcnmfgbaaaZMost7
import Derived.Test.YtbmnnmcnmfgbaaaZMost8
section
/-
  clique.Colour: the colours that are given along an order.
-/
namespace Go.Proofs.Ytbmnnmcnmfgbaaa.PG
open Go.RowKit Go.Shelf Go.Maps Go.Proofs.YtbmnnmcnmfgbaaaW.PrintWords Go.Proofs.YtbmnnmcnmfgbaaaW.PrintLast Go.Proofs.YtbmnnmcnmfgbaaaW.PrintMore
open Go.Proofs.Ytbmnnmcnmfgbaaa.PB
set_option linter.unusedVariables false
set_option linter.unusedSimpArgs false

/-! ### a map of bools that the call makes: the look-up -/
theorem plainElem_bool_inv {H : Type} {P : Program} {e : TypeId} (he : P.underlying e = some .bool) {v : Value} {z : DataW H × List MemPlace} (h : plainElem P e v = some z) : ∃ a, v = .bool a ∧ z = (.lit (.bool a), []) := by
  unfold plainElem at h
  rw [he] at h
  cases v <;> simp at h
  obtain rfl := h
  exact ⟨_, rfl, rfl⟩
theorem wpList_lookup_own_bool {H : Type} {P : Program} (w : World) {ops : Array Oper} {rest : List Oper} {o : Oper} {a : Act} {Q : Exit → Act → World → Prop}
    (hg : o.guard = none) (m x : Operand) (t : TypeId) (hop : o.op = Op.lookup t m x false)
    (k e : TypeId) (K : Keyed P k) (ht : P.underlying t = some (.map k e)) (he : P.underlying e = some .bool) (hz : (zeroValue e).run P w = .ok (.bool false) w) (b n : Nat) (D : DataW H)
    (hm : a.eval m = .map (some b)) (hown : w.ownsMap P k (plainElem P e) b n D) (key : Value) (kl : Lit) (hx : a.eval x = key) (hkey : keyOf P k key = some kl)
    (c : Bool) (hc : D.atKey kl (.lit (.bool false)) = .lit (.bool c))
    (hK : wpList P ops Q rest (a.put o.dst (.bool c)) w) :
    wpList P ops Q (o :: rest) a w := by
  refine wpList_plain hg fun K' hK' => ?_
  obtain ⟨v, ps, hrun, hv⟩ := hown.lookup K ht hz (plainElem_bool he false) hkey
  obtain ⟨c', rfl, hc'⟩ := plainElem_bool_inv he hv
  simp only [Prod.mk.injEq] at hc'
  have e := hc.symm.trans hc'.1
  injection e with e
  injection e with e
  subst e
  unfold Oper.wp
  simp [execOp, hop, hm, hx, hrun, Result.andThen]
  exact hK' _ _ hK
def setI (l : List Int) : DataW Unit := setOf (.lit (.bool true)) (lits l)
theorem setI_snoc (l : List Int) (x : Int) : setI (l ++ [x]) = (setI l).put (.int .i64 x) (.lit (.bool true)) := by
  unfold setI
  rw [lits, List.map_append]; exact setOf_snoc _ _ _
theorem at_fold (x : Int) : ∀ (l : List Int) (m : DataW Unit), IsMap m → ((lits l).foldl (fun m x => m.put x (.lit (.bool true))) m).atKey (.int .i64 x) (.lit (.bool false)) = if l.contains x = true then .lit (.bool true) else m.atKey (.int .i64 x) (.lit (.bool false)) := by
  intro l
  induction l with
  | nil => intro m _; rfl
  | cons a r ih =>
    intro m hm
    show ((lits r).foldl _ (m.put (.int .i64 a) _)).atKey _ _ = _
    rw [ih _ (hm.put _ _), List.contains_cons]
    by_cases h : r.contains x = true
    · rw [if_pos h, if_pos (by rw [h, Bool.or_true])]
    · rw [if_neg h]
      by_cases e : x = a
      · subst e
        rw [if_pos (by simp), atKey_put_same hm (show WideAt.IsKeyLit (.int .i64 x) from trivial)]
      · rw [if_neg (by simp [e]; simpa using h), atKey_put_other (fun e' => e (by injection e'))]
theorem setI_at (l : List Int) (x : Int) : (setI l).atKey (.int .i64 x) (.lit (.bool false)) = .lit (.bool (l.contains x)) := by
  unfold setI setOf
  rw [at_fold x l _ isMap_empty]
  cases h : l.contains x
  · rw [if_neg (by simp)]; rfl
  · rw [if_pos rfl]
theorem zero4 (w : World) : (zeroValue 4).run Try.prog w = .ok (.bool false) w := by kernel_rfl

/-! ### the least number that is not taken -/
def mexF (l : List Int) : Nat → Nat → Nat
  | 0, n => n
  | d + 1, n => if l.contains (n : Int) = true then mexF l d (n + 1) else n
def mex (l : List Int) : Nat := mexF l (l.length + 1) 0
theorem mexF_spec (l : List Int) : ∀ d n, n ≤ mexF l d n ∧ mexF l d n ≤ n + d ∧ (∀ i : Nat, n ≤ i → i < mexF l d n → l.contains (i : Int) = true) ∧ (mexF l d n < n + d → l.contains (mexF l d n : Int) = false) := by
  intro d
  induction d with
  | zero => intro n; exact ⟨Nat.le_refl _, Nat.le_refl _, fun i h1 h2 => by simp [mexF] at h2; omega, fun h => by simp [mexF] at h⟩
  | succ d ih =>
    intro n
    rw [mexF]
    by_cases h : l.contains (n : Int) = true
    · rw [if_pos h]
      obtain ⟨h1, h2, h3, h4⟩ := ih (n + 1)
      refine ⟨by omega, by omega, fun i hi1 hi2 => ?_, fun hh => h4 (by omega)⟩
      by_cases e : i = n
      · rw [e]; exact h
      · exact h3 i (by omega) hi2
    · rw [if_neg h]
      exact ⟨Nat.le_refl _, by omega, fun i h1 h2 => by omega, fun _ => by simpa using h⟩
theorem holes : ∀ (n : Nat) (l : List Int), (∀ i : Nat, i < n → (i : Int) ∈ l) → n ≤ l.length := by
  intro n
  induction n with
  | zero => intro l _; omega
  | succ n ih =>
    intro l h
    have h1 := ih (l.erase (n : Int)) (fun i hi => (List.mem_erase_of_ne (by omega)).2 (h i (by omega)))
    rw [List.length_erase_of_mem (h n (by omega))] at h1
    have := List.length_pos_of_mem (h n (by omega))
    omega
theorem mex_spec (l : List Int) : mex l ≤ l.length ∧ (∀ i : Nat, i < mex l → l.contains (i : Int) = true) ∧ l.contains (mex l : Int) = false := by
  obtain ⟨h1, h2, h3, h4⟩ := mexF_spec l (l.length + 1) 0
  have hle : mexF l (l.length + 1) 0 ≤ l.length := holes _ l (fun i hi => by simpa using h3 i (Nat.zero_le _) hi)
  exact ⟨hle, fun i hi => h3 i (Nat.zero_le _) hi, h4 (by omega)⟩

/-! ### the colours -/
def colourStep (nbs : List (List Int)) (c : List Int) (a : Int) : List Int := if (0 ≤ a ∧ a < (c.length : Int)) ∧ rd c a < 0 then c.set a.toNat (mex ((nearL nbs a).map (rd c)) : Int) else c
def colourL (nbs : List (List Int)) (order : List Int) : List Int := order.foldl (colourStep nbs) (List.replicate nbs.length (-1))
def colourK (nbs : List (List Int)) (order : List Int) (k : Nat) : List Int := colourL nbs (order.take k)
theorem colourK_succ (nbs : List (List Int)) (order : List Int) (k : Nat) (hk : k < order.length) : colourK nbs order (k + 1) = colourStep nbs (colourK nbs order k) (rd order (k : Int)) := by
  unfold colourK colourL
  rw [take_snoc order k hk, List.foldl_append]; rfl
/-- A graph's rows: bits that are nodes. -/
structure Gok (nbs : List (List Int)) : Prop where
  le : nbs.length ≤ 400
  lt : ∀ a b, tb (nbs.getD a []) b = true → b < nbs.length
  len : ∀ l ∈ nbs, l.length ≤ 1000000
theorem near_mem {nbs : List (List Int)} (h : Gok nbs) {a b : Int} (hb : b ∈ nearL nbs a) : 0 ≤ b ∧ b < (nbs.length : Int) := by
  unfold nearL at hb
  split at hb
  · obtain ⟨i, hi, rfl⟩ := List.mem_map.1 hb
    have := h.lt _ _ (List.mem_filter.1 hi).2
    omega
  · cases hb
theorem near_len {nbs : List (List Int)} (h : Gok nbs) (a : Int) : (nearL nbs a).length ≤ 64000000 := by
  unfold nearL
  split
  · rename_i hi
    obtain ⟨n, rfl, hn⟩ := isB_cases hi
    have h1 := els_len (nbs.getD (n : Int).toNat []) (64 * (nbs.getD (n : Int).toNat []).length)
    have h2 : (nbs.getD (n : Int).toNat []).length ≤ 1000000 := by
      rw [Int.toNat_natCast, List.getD_eq_getElem?_getD, List.getElem?_eq_getElem hn]; exact h.len _ (List.getElem_mem _)
    omega
  · simp
/-- What holds of the colours at all times. -/
def Cok (n : Nat) (c : List Int) : Prop := c.length = n ∧ ∀ x ∈ c, -1 ≤ x ∧ x ≤ 64000000
theorem colourStep_ok {nbs : List (List Int)} (h : Gok nbs) {c : List Int} (hc : Cok nbs.length c) (a : Int) : Cok nbs.length (colourStep nbs c a) := by
  unfold colourStep
  split
  · refine ⟨by rw [List.length_set]; exact hc.1, fun x hx => ?_⟩
    rcases List.mem_or_eq_of_mem_set hx with hx | rfl
    · exact hc.2 x hx
    · have h1 := (mex_spec ((nearL nbs a).map (rd c))).1
      have h2 := near_len h a
      rw [List.length_map] at h1
      omega
  · exact hc
theorem colour_fold_ok {nbs : List (List Int)} (h : Gok nbs) : ∀ (o c : List Int), Cok nbs.length c → Cok nbs.length (o.foldl (colourStep nbs) c)
  | [], _, hc => hc
  | a :: r, c, hc => colour_fold_ok h r _ (colourStep_ok h hc a)
theorem colourL_ok {nbs : List (List Int)} (h : Gok nbs) (o : List Int) : Cok nbs.length (colourL nbs o) :=
  colour_fold_ok h o _ ⟨by simp, fun x hx => by have := (List.mem_replicate.1 hx).2; omega⟩
theorem Cok.wf {n : Nat} {c : List Int} (h : Cok n c) (i : Int) : (Lit.int .i64 (rd c i)).wf = true := by
  refine WalkArith.wf_i64 ?_
  unfold rd
  by_cases hi : i.toNat < c.length
  · rw [List.getD_eq_getElem?_getD, List.getElem?_eq_getElem hi]
    have := h.2 _ (List.getElem_mem hi)
    simp; omega
  · rw [List.getD_eq_getElem?_getD, List.getElem?_eq_none (by omega)]; simp
open Classical in
noncomputable def clique_Colour.f (l0 : List (List Int)) (l1 : List Int) : Option (List Int) := if Gok l0 ∧ l1.length ≤ 9223372036854775807 then some (colourL l0 l1) else none

theorem fill_step (n k : Nat) (hk : k < n) : (List.replicate k (-1 : Int) ++ List.replicate (n - k) 0).set k (-1) = List.replicate (k + 1) (-1) ++ List.replicate (n - (k + 1)) 0 := by
  rw [List.set_append_right _ _ (by simp)]
  rw [show n - k = (n - (k + 1)) + 1 from by omega, List.replicate_succ, List.replicate_succ']
  simp
theorem own_num {w : World} {base n : Nat} {v : Value} {xs : List Int} (h : w.ownsRow base 3 1 v n (nums .i64 xs)) : xs.length = n := by have := h.1; simpa [nums] using this

set_option maxRecDepth 100000 in
set_option maxHeartbeats 1000000 in
theorem clique_Colour.calls (A0 : Option Addr) (c0 : Nat) (l0 : List (List Int)) (A1 : Option Addr) (c1 : Nat) (l1 : List Int) (r : List Int) (w : World) (hr0 : IsGr w A0 l0) (hc0 : l0.length ≤ c0) (hr1 : Kd.C (Kd.int .i64) w A1 l1.length l1) (hc1 : l1.length ≤ c1) (h : clique_Colour.f l0 l1 = some r) :
    Calls Try.prog 36 #[.pointer A0, .slice A1 l1.length c1] w fun e w' => ∃ v0_ : Value, e = .returned v0_ ∧ Kd.R (Kd.int .i64) 3 w' w.heap.size (fun _ => True) v0_ r ∧ Below w.heap.size w w' := by
  unfold clique_Colour.f at h
  by_cases hw : Gok l0 ∧ l1.length ≤ 9223372036854775807
  rotate_left
  · rw [if_neg hw] at h; cases h
  rw [if_pos hw] at h
  obtain rfl := Option.some.inj h
  obtain ⟨n, hn⟩ : ∃ n, l0.length = n := ⟨_, rfl⟩
  have HN := Aside0.mk hn
  have HN4 : Aside0 (n ≤ 400) := ⟨hn ▸ hw.1.le⟩
  have HG := Aside0.mk hr0
  have HR := Aside0.mk hr1
  have HM := Aside0.mk hw.2
  have HO := Aside0.mk hw.1
  have HF : Aside0 (graph_Graph_Len.f l0 = some (n : Int)) := ⟨by unfold graph_Graph_Len.f; rw [hn]⟩
  have hmk := print_make (P := Try.prog) 25 3 .i64 8 Try.underlying25 info3 (by decide) n (by have := HN4.out; omega)
  have hmm := @run_makeMap Try.prog
  clear h hr0 hc0 hr1 hc1 hw hn
  go_enter Try.func36, Try.ntmps36
  go_wp2_with fail
  refine (graph_Graph_Len.calls A0 l0.length l0 _ _ HG.out (Nat.le_refl _) HF.out).mono ?_
  rintro e w1 ⟨rfl, hd1⟩
  have HD1 := Aside0.mk hd1
  clear hd1
  go_wp2
  go_loopg [18] n (fun m i wr => ∃ k : Nat, Aside0 (k + m = n) ∧ i = .int .i64 k ∧ Aside0 (wr.ownsRow w.heap.size 3 1 (.slice (some ⟨w1.heap.size, 0, none⟩) n n) n (nums .i64 (List.replicate k (-1 : Int) ++ List.replicate (n - k) 0))) ∧ Aside0 (Below w.heap.size w wr))
  case atStart =>
    refine ⟨0, ⟨by omega⟩, rfl, ⟨?_⟩, ⟨?_⟩⟩
    · have := own_made w1 w.heap.size 3 .i64 n HD1.out.below.size (by have := HN4.out; omega)
      simpa using this
    · exact below_alloc HD1.out.below _
  case round =>
    obtain ⟨k, HK, rfl, HC, HB⟩ := hrel
    by_cases hlt : k < n
    · obtain ⟨hcell, hfr⟩ := own_at HC.out (k : Int) (by omega) (by omega)
      rw [Int.toNat_natCast] at hcell hfr
      have hst := own_store HC.out (k : Int) (-1)
      rw [Int.toNat_natCast, fill_step n k hlt] at hst
      have HST := Aside0.mk hst
      clear hst
      have hw1 := wrap_succ (n := n) (by have := HN4.out; omega) hlt
      go_wp2
      go_roundg (gk - 1)
      case measure => have := HK.out; omega
      case rel => exact ⟨k + 1, ⟨by have := HK.out; omega⟩, by first | rfl | go_num, ⟨HST.out.1⟩, ⟨HB.out.grown HST.out.2 HB.out.size (fun j hj => by cases hj; exact HD1.out.below.size)⟩⟩
    · obtain rfl : k = n := by have := HK.out; omega
      have HC' : Aside0 (wr.ownsRow w.heap.size 3 1 (.slice (some ⟨w1.heap.size, 0, none⟩) k k) k (nums .i64 (colourK l0 l1 0))) := ⟨by
        have := HC.out
        rw [Nat.sub_self, List.replicate_zero, List.append_nil] at this
        unfold colourK colourL
        rw [HN.out]; exact this⟩
      clear HC HK hlt
      go_wp2
      go_loopg [27] l1.length (fun m i wr => ∃ q : Nat, Aside0 (q + m = l1.length) ∧ i = .int .i64 q ∧ Aside0 (wr.ownsRow w.heap.size 3 1 (.slice (some ⟨w1.heap.size, 0, none⟩) k k) k (nums .i64 (colourK l0 l1 q))) ∧ Aside0 (Below w.heap.size w wr))
      case atStart => exact ⟨0, ⟨by omega⟩, rfl, HC', HB⟩
      case round =>
        clear HC' HB
        obtain ⟨q, HQ, rfl, HC, HB⟩ := hrel
        by_cases hlt : q < l1.length
        · obtain ⟨ad, rfl, hcell0⟩ := Kd.at_int HR.out (q : Int) (by omega) (by omega)
          have hcell := pw_cell_below HB.out hcell0
          clear hcell0
          rw [Int.toNat_natCast] at hcell
          have hw1 := wrap_succ HM.out hlt
          obtain ⟨a, ha⟩ : ∃ a, rd l1 (q : Int) = a := ⟨_, rfl⟩
          have HA := Aside0.mk ha
          rw [ha] at hcell
          obtain ⟨c, hc⟩ : ∃ c, colourK l0 l1 q = c := ⟨_, rfl⟩
          rw [hc] at HC
          have HOK : Aside0 (Cok k c) := ⟨by rw [← hc, ← HN.out]; exact colourL_ok HO.out _⟩
          have HCC := Aside0.mk hc
          clear hc ha
          have hno : ¬ ((0 ≤ a ∧ a < (k : Int)) ∧ rd c a < 0) → colourK l0 l1 (q + 1) = c := fun hh => by
            rw [colourK_succ l0 l1 q hlt, HA.out, HCC.out, colourStep, HOK.out.1, if_neg hh]
          have HNO := Aside0.mk hno
          clear hno
          by_cases ha0 : a < 0
          · have h0 : decide (a < 0) = true := decide_eq_true ha0
            have HI := Aside0.mk ha0
            clear ha0
            go_wp2
            go_roundg (gk - 1)
            case measure => have := HQ.out; omega
            case rel => exact ⟨q + 1, ⟨by have := HQ.out; omega⟩, by first | rfl | go_num, ⟨by rw [HNO.out (by have := HI.out; omega)]; exact HC.out⟩, HB⟩
          by_cases ha1 : a < (k : Int)
          rotate_left
          · have h0 : decide (a < 0) = false := decide_eq_false ha0
            have h1 : decide (a ≥ (k : Int)) = true := decide_eq_true (by omega)
            have HI := Aside0.mk ha1
            clear ha0 ha1
            go_wp2
            go_roundg (gk - 1)
            case measure => have := HQ.out; omega
            case rel => exact ⟨q + 1, ⟨by have := HQ.out; omega⟩, by first | rfl | go_num, ⟨by rw [HNO.out (by have := HI.out; omega)]; exact HC.out⟩, HB⟩
          have h0 : decide (a < 0) = false := decide_eq_false ha0
          have h1 : decide (a ≥ (k : Int)) = false := decide_eq_false (by omega)
          obtain ⟨an, rfl⟩ := Int.eq_ofNat_of_zero_le (show 0 ≤ a by omega)
          have hak : an < k := by omega
          obtain ⟨hca, hfa⟩ := own_at HC.out (an : Int) (by omega) (by omega)
          rw [Int.toNat_natCast] at hca hfa
          by_cases ha2 : rd c (an : Int) < 0
          rotate_left
          · obtain ⟨y, hy⟩ : ∃ y, rd c (an : Int) = y := ⟨_, rfl⟩
            rw [hy] at hca ha2
            have h2 : decide (y ≥ 0) = true := decide_eq_true (by omega)
            have HI : Aside0 (¬ rd c (an : Int) < 0) := ⟨by omega⟩
            clear ha0 ha1 ha2 hy
            go_wp2
            go_roundg (gk - 1)
            case measure => have := HQ.out; omega
            case rel => exact ⟨q + 1, ⟨by have := HQ.out; omega⟩, by first | rfl | go_num, ⟨by rw [HNO.out (by have := HI.out; omega)]; exact HC.out⟩, HB⟩
          have hyes : colourK l0 l1 (q + 1) = c.set an (mex ((nearL l0 (an : Int)).map (rd c)) : Int) := by
            rw [colourK_succ l0 l1 q hlt, HA.out, HCC.out, colourStep, HOK.out.1, if_pos ⟨⟨by omega, by omega⟩, ha2⟩, Int.toNat_natCast]
          have HY := Aside0.mk hyes
          obtain ⟨y, hy⟩ : ∃ y, rd c (an : Int) = y := ⟨_, rfl⟩
          rw [hy] at hca ha2
          have h2 : decide (y ≥ 0) = false := decide_eq_false (by omega)
          clear ha0 ha1 ha2 hy hyes HNO
          obtain ⟨near, hne⟩ : ∃ x, nearL l0 (an : Int) = x := ⟨_, rfl⟩
          have HNE := Aside0.mk hne
          have HNM : Aside0 (∀ b ∈ near, 0 ≤ b ∧ b < (k : Int)) := ⟨fun b hb => by rw [← HN.out]; exact near_mem HO.out (hne ▸ hb)⟩
          clear hne
          go_wp2_with fail
          refine (graph_Graph_Near.calls A0 l0.length l0 _ near _ (((HG.out.below HB.out)).below (below_alloc (Below.refl _ _) _)) (Nat.le_refl _) (by unfold graph_Graph_Near.f; rw [HNE.out])).mono ?_
          rintro e w2 ⟨v9, rfl, hR9, hb9⟩
          have hes : (wr.alloc (Obj.map #[] 0)).heap.size = wr.heap.size + 1 := World.size_alloc _ _
          have ho9 := Kd.own_of_R hR9
          rw [hes] at ho9
          obtain ⟨A9, c9, rfl, _⟩ := own_reads ho9
          have HB9 : Aside0 (Below w.heap.size w w2) := ⟨below_then (below_then HB.out HB.out.size (below_alloc (Below.refl _ _) (Obj.map #[] 0))) (by rw [hes]; have := HB.out.size; omega) hb9⟩
          have HC9 := Aside0.mk (pw_own_below (pw_own_below HC.out (below_alloc (Below.refl _ _) (Obj.map #[] 0))) hb9)
          have HM9 : Aside0 (w2.ownsMap Try.prog 3 (plainElem Try.prog 4) wr.heap.size 0 (setI (near.map (rd c) |>.take 0))) := ⟨(World.ownsMap_made wr Try.prog 3 (plainElem Try.prog 4)).kept (grown_of_below hb9 none) (by simp)⟩
          have HO9 := Aside0.mk ho9
          have HGM : Aside0 (w1.heap.size < wr.heap.size ∧ w.heap.size ≤ wr.heap.size) := ⟨⟨own_lt HC.out _ rfl, HB.out.size⟩⟩
          clear hR9 hb9 ho9 hes
          go_wp2
          go_loopg [51] near.length (fun m i w3 => ∃ j : Nat, Aside0 (j + m = near.length) ∧ i = .int .i64 j ∧ Aside0 (w3.ownsMap Try.prog 3 (plainElem Try.prog 4) wr.heap.size j (setI ((near.map (rd c)).take j))) ∧ Aside0 (w3.ownsRow w.heap.size 3 1 (.slice (some ⟨w1.heap.size, 0, none⟩) k k) k (nums .i64 c)) ∧
            Aside0 (w3.ownsRow (wr.heap.size + 1) 3 1 (.slice A9 near.length c9) near.length (nums .i64 near)) ∧ Aside0 (Below w.heap.size w w3))
          case atStart => exact ⟨0, ⟨by omega⟩, rfl, HM9, HC9, HO9, HB9⟩
          case round =>
            clear HB9 HC9 HM9 HO9
            obtain ⟨j, HJ, rfl, HM9, HC9, HO9, HB9⟩ := hrel
            by_cases hj : j < near.length
            · obtain ⟨A9', c9', e9, hRd⟩ := own_reads HO9.out
              obtain ⟨ad9, e9', hc9⟩ := hRd.at_ (j : Int) (by omega) (by omega)
              rw [Int.toNat_natCast] at hc9
              injection e9 with e9 _ e9c
              subst e9
              subst e9c
              subst e9'
              have hw2 : wrap64 ((j : Int) + 1) = ((j + 1 : Nat) : Int) := wrap_succ hRd.2.1 hj
              have HRL := Aside0.mk hRd.2.1
              obtain ⟨b, hb⟩ : ∃ b, rd near (j : Int) = b := ⟨_, rfl⟩
              rw [hb] at hc9
              have hbb := HNM.out b (by rw [← hb]; simp [rd, hj])
              obtain ⟨bn, rfl⟩ := Int.eq_ofNat_of_zero_le hbb.1
              have hbk : bn < k := by omega
              obtain ⟨hcb, _⟩ := own_at HC9.out (bn : Int) (by omega) (by omega)
              rw [Int.toNat_natCast] at hcb
              have HBJ := Aside0.mk hb
              clear hb hbb hRd
              go_wp2_with (first
                | (at_mapUpdate; refine wpList_mapUpdate_own _ rfl _ _ _ 82 rfl 3 4 law3 Try.underlying82 (plainElem (H := Unit) Try.prog 4) _ j _ rfl HM9.out (lt_maxLen HRL.out hj) _ _ _ rfl rfl (keyOf_int_mk Try.underlying3 (HOK.out.wf (bn : Int))) _ [] (plainElem_bool Try.underlying4 true) ?_; intro w4 hown4 hgrow4)
                | go_in)
              have HM4 := Aside0.mk hown4
              have HG4 := Aside0.mk hgrow4
              clear hown4 hgrow4
              go_roundg (gk - 1)
              case measure => have := HJ.out; omega
              case rel =>
                refine ⟨j + 1, ⟨by have := HJ.out; omega⟩, by first | rfl | go_num, ⟨?_⟩, ⟨own_other HC9.out HG4.out (.inr ?_)⟩, ⟨own_other HO9.out HG4.out (.inr ?_)⟩, ⟨HB9.out.grown HG4.out HB9.out.size (fun i hi => by cases hi; exact HGM.out.2)⟩⟩
                · have e : (near.map (rd c)).take (j + 1) = (near.map (rd c)).take j ++ [rd c (bn : Int)] := by
                    rw [List.take_add_one, List.getElem?_map, List.getElem?_eq_getElem hj]
                    have := HBJ.out
                    have e2 : rd near (j : Int) = near[j] := by simp [rd, hj]
                    rw [e2] at this
                    simp [this]
                  rw [e, setI_snoc]
                  exact HM4.out
                · intro hh; have := HGM.out.1; simp [Value.ownBlock] at hh; omega
                · intro hh
                  have := own_base HO9.out _ hh
                  omega
            · obtain rfl : j = near.length := by have := HJ.out; omega
              have hm5 := HM9.out
              rw [show (near.map (rd c)).take near.length = near.map (rd c) from List.take_of_length_le (by simp)] at hm5
              have HM5 := Aside0.mk hm5
              have hms := mex_spec (near.map (rd c))
              obtain ⟨M, hM⟩ : ∃ M, mex (near.map (rd c)) = M := ⟨_, rfl⟩
              rw [hM, List.length_map] at hms
              have HMS := Aside0.mk hms
              have HML : Aside0 (near.length ≤ 64000000) := ⟨HNE.out ▸ near_len HO.out _⟩
              have HMM := Aside0.mk hM
              clear hm5 hms hM HM9 hj HJ
              go_wp2
              go_loopg [12] M (fun m i w5 => ∃ z : Nat, Aside0 (z + m = M) ∧ i = .int .i64 z ∧ Aside0 (wr = w5))
              case atStart => exact ⟨0, ⟨by omega⟩, rfl, ⟨rfl⟩⟩
              case round =>
                obtain ⟨z, HZ, rfl, HWW⟩ := hrel
                have hww := HWW.out
                subst hww
                by_cases hz : z < M
                · have hw3 : wrap64 ((z : Int) + 1) = ((z + 1 : Nat) : Int) := wrap_succ (n := M) (by have := HML.out; have := HMS.out.1; omega) hz
                  have HC1 := Aside0.mk (HMS.out.2.1 z hz)
                  go_wp2_with (first
                    | (at_lookup; refine wpList_lookup_own_bool _ rfl _ _ 82 rfl 3 4 law3 Try.underlying82 Try.underlying4 (zero4 _) _ _ _ rfl HM5.out _ _ rfl (keyOf_int_mk Try.underlying3 (WalkArith.wf_i64 (by have := HML.out; have := HMS.out.1; omega))) true (by rw [setI_at, HC1.out]) ?_)
                    | go_in)
                  go_roundg (gk - 1)
                  case measure => have := HZ.out; omega
                  case rel => exact ⟨z + 1, ⟨by have := HZ.out; omega⟩, by first | rfl | go_num, ⟨rfl⟩⟩
                · obtain rfl : z = M := by have := HZ.out; omega
                  have hst := own_store HC9.out (an : Int) (z : Int)
                  obtain ⟨_, hfa2⟩ := own_at HC9.out (an : Int) (by omega) (by omega)
                  obtain ⟨hca2, _⟩ := own_at HC9.out (an : Int) (by omega) (by omega)
                  rw [Int.toNat_natCast] at hst hfa2 hca2
                  have HST := Aside0.mk hst
                  clear hst
                  go_wp2_with (first
                    | (at_lookup; refine wpList_lookup_own_bool _ rfl _ _ 82 rfl 3 4 law3 Try.underlying82 Try.underlying4 (zero4 _) _ _ _ rfl HM5.out _ _ rfl (keyOf_int_mk Try.underlying3 (WalkArith.wf_i64 (by have := HML.out; have := HMS.out.1; omega))) false (by rw [setI_at, HMS.out.2.2]) ?_)
                    | go_in)
                  go_roundg (l1.length - q - 1)
                  case measure => have := HQ.out; omega
                  case rel =>
                    refine ⟨q + 1, ⟨by have := HQ.out; omega⟩, by first | rfl | go_num, ⟨?_⟩, ⟨HB9.out.grown HST.out.2 HB9.out.size (fun i hi => by cases hi; exact HD1.out.below.size)⟩⟩
                    have e := HY.out
                    rw [HNE.out, HMM.out] at e
                    rw [e]
                    exact HST.out.1
        · obtain rfl : q = l1.length := by have := HQ.out; omega
          go_wp2
          go_ret
          refine ⟨_, rfl, ?_, HB.out⟩
          have := HC.out
          unfold colourK at this
          rw [List.take_length] at this
          have e := own_num this
          exact Kd.R_of_own (by rw [e]; exact this) (fun _ _ => trivial)
end Go.Proofs.Ytbmnnmcnmfgbaaa.PG
end
section
/-
  graph.Shell: the nodes, the one of the fewest joins first.
-/
namespace Go.Proofs.Ytbmnnmcnmfgbaaa.PG
open Go.RowKit Go.Shelf Go.Maps Go.Proofs.YtbmnnmcnmfgbaaaW.PrintWords Go.Proofs.YtbmnnmcnmfgbaaaW.PrintLast Go.Proofs.YtbmnnmcnmfgbaaaW.PrintMore
open Go.Proofs.Ytbmnnmcnmfgbaaa.PB
set_option linter.unusedVariables false
set_option linter.unusedSimpArgs false

/-! ### a map of integers that the call makes, as a function -/
theorem zero3 (w : World) : (zeroValue 3).run Try.prog w = .ok (.int .i64 0) w := by kernel_rfl
structure OwnD (w : World) (b : Nat) (F : Int → Option Int) (s : Nat) (D : DataW Unit) : Prop where
  owns : w.ownsMap Try.prog 3 (plainElem Try.prog 3) b s D
  has : ∀ x, Maps.has D (.int .i64 x) = (F x).isSome
  at_ : ∀ x v, F x = some v → D.atKey (.int .i64 x) (.lit (.int .i64 0)) = .lit (.int .i64 v)
  size : Maps.size D = s
/-- Block b is a map that the call made: F tells what stands at each key, s how many keys there are. -/
def OwnI (w : World) (b : Nat) (F : Int → Option Int) (s : Nat) : Prop := ∃ D, OwnD w b F s D
theorem owns_size {w : World} {P : Program} {k : TypeId} {R : Value → Option (DataW Unit × List MemPlace)} {b n : Nat} {D : DataW Unit} (h : w.ownsMap P k R b n D) : w.ownsMap P k R b (Maps.size D) D := by
  obtain ⟨es, clock, h1, h2, h3, rfl⟩ := h
  refine ⟨es, clock, h1, h2, ?_, rfl⟩
  simp [Maps.size, length_sorted]
theorem OwnI.made (w : World) : OwnI (w.alloc (.map #[] 0)) w.heap.size (fun _ => none) 0 :=
  ⟨.map [], World.ownsMap_made _ _ _ _, fun _ => rfl, fun x v (h : none = some v) => (nomatch h), rfl⟩
theorem OwnI.kept {w w' : World} {b : Nat} {F : Int → Option Int} {s : Nat} (h : OwnI w b F s) {row : Option Nat} (hg : w.grownBy w' row) (hne : some b ≠ row) : OwnI w' b F s := by
  obtain ⟨D, h⟩ := h
  exact ⟨D, h.owns.kept hg hne, h.has, h.at_, h.size⟩
theorem OwnI.congr {w : World} {b : Nat} {F G : Int → Option Int} {s : Nat} (h : OwnI w b F s) (e : ∀ x, F x = G x) : OwnI w b G s := by
  obtain rfl : F = G := funext e
  exact h
theorem OwnI.lt {w : World} {b : Nat} {F : Int → Option Int} {s : Nat} (h : OwnI w b F s) : b < w.heap.size := by
  obtain ⟨D, h⟩ := h
  exact h.owns.lt
theorem OwnD.get {w : World} {b : Nat} {F : Int → Option Int} {s : Nat} {D : DataW Unit} (h : OwnD w b F s D) (x : Int) : D.atKey (.int .i64 x) (.lit (.int .i64 0)) = .lit (.int .i64 ((F x).getD 0)) := by
  cases hx : F x with
  | none => exact atKey_of_not_has (by rw [h.has, hx]; rfl) _
  | some v => exact h.at_ x v hx
theorem OwnI.look {w : World} {b : Nat} {F : Int → Option Int} {s : Nat} (h : OwnI w b F s) (x : Int) (hx : (Lit.int .i64 x).wf = true) :
    (Instr.lookup 92 (.map (some b)) (.int .i64 x) false).run Try.prog w = .ok (.int .i64 ((F x).getD 0)) w := by
  obtain ⟨D, h⟩ := h
  obtain ⟨c, hrun, hat, _⟩ := h.owns.lookup_int law3 Try.underlying92 Try.underlying3 (zero3 _) (keyOf_int_mk Try.underlying3 hx)
  have e := (h.get x).symm.trans hat
  injection e with e
  injection e with _ e
  rw [hrun, e]
theorem OwnI.look_ok {w : World} {b : Nat} {F : Int → Option Int} {s : Nat} (h : OwnI w b F s) (x : Int) (hx : (Lit.int .i64 x).wf = true) :
    (Instr.lookup 92 (.map (some b)) (.int .i64 x) true).run Try.prog w = .ok (.tuple #[.int .i64 ((F x).getD 0), .bool (F x).isSome]) w := by
  obtain ⟨D, h⟩ := h
  obtain ⟨v, ps, hrun, hv⟩ := h.owns.look_ok law3 Try.underlying92 (zero3 _) (plainElem_int Try.underlying3 (by decide)) (keyOf_int_mk Try.underlying3 hx)
  obtain ⟨c, rfl, hc, _⟩ := plainElem_int_inv Try.underlying3 hv
  have e := (h.get x).symm.trans (congrArg Prod.fst hc)
  injection e with e
  injection e with _ e
  rw [hrun, e, h.has]
theorem OwnI.len {w : World} {b : Nat} {F : Int → Option Int} {s : Nat} (h : OwnI w b F s) (ty : TypeId) : (Builtin.len_ #[92] ty #[.map (some b)]).run Try.prog w = .ok (.int .i64 s) w := by
  obtain ⟨D, h⟩ := h
  have := h.owns.len Try.underlying92 ty
  rwa [h.size] at this
theorem OwnI.update {w : World} {b : Nat} {F : Int → Option Int} {s : Nat} (h : OwnI w b F s) (hs : s < maxLen) (x v : Int) (hx : (Lit.int .i64 x).wf = true) (hv : (Lit.int .i64 v).wf = true) :
    ∃ w', (Instr.mapUpdate 92 (.map (some b)) (.int .i64 x) (.int .i64 v)).run Try.prog w = .ok () w' ∧ OwnI w' b (fun y => if y = x then some v else F y) (if (F x).isSome = true then s else s + 1) ∧ w.grownBy w' (some b) := by
  obtain ⟨D, h⟩ := h
  obtain ⟨w', hrun, ho, hg⟩ := h.owns.update law3 Try.underlying92 hs (keyOf_int_mk Try.underlying3 hx) (plainElem_int Try.underlying3 hv)
  have hT := h.owns.tidy law3
  have hk : WideAt.IsKeyLit (.int .i64 x) := trivial
  have hsz : Maps.size (D.put (.int .i64 x) (.lit (.int .i64 v))) = if (F x).isSome = true then s else s + 1 := by
    rw [size_put hT, h.has, h.size]
  refine ⟨w', hrun, ⟨_, hsz ▸ owns_size ho, fun y => ?_, fun y u hy => ?_, hsz⟩, hg⟩
  · by_cases e : y = x
    · subst e
      rw [has_put_same hT.isMap hk]; simp
    · rw [has_put_other (fun e' => e (by injection e')), h.has, if_neg e]
  · by_cases e : y = x
    · subst e
      rw [if_pos rfl] at hy
      rw [atKey_put_same hT.isMap hk, Option.some.inj hy]
    · rw [if_neg e] at hy
      rw [atKey_put_other (fun e' => e (by injection e'))]
      exact h.at_ y u hy
theorem wpList_update_I {w : World} {ops : Array Oper} {rest : List Oper} {o : Oper} {a : Act} {Q : Exit → Act → World → Prop}
    (hg : o.guard = none) (m x v : Operand) (hop : o.op = Op.mapUpdate 92 m x v) (b : Nat) (F : Int → Option Int) (s : Nat) (hm : a.eval m = .map (some b)) (h : OwnI w b F s) (hs : s < maxLen) (xi vi : Int) (hx : a.eval x = .int .i64 xi) (hv : a.eval v = .int .i64 vi)
    (hxw : (Lit.int .i64 xi).wf = true) (hvw : (Lit.int .i64 vi).wf = true)
    (hK : ∀ w', OwnI w' b (fun y => if y = xi then some vi else F y) (if (F xi).isSome = true then s else s + 1) → w.grownBy w' (some b) → wpList Try.prog ops Q rest (a.put o.dst undef) w') :
    wpList Try.prog ops Q (o :: rest) a w := by
  refine wpList_plain hg fun K' hK' => ?_
  obtain ⟨w', hrun, r1, r2⟩ := h.update hs xi vi hxw hvw
  unfold Oper.wp
  simp [execOp, hop, hm, hx, hv, hrun, Result.andThen]
  exact hK' _ _ (hK w' r1 r2)
theorem wpList_delete_I {w : World} {ops : Array Oper} {rest : List Oper} {o : Oper} {a : Act} {Q : Exit → Act → World → Prop}
    (hg : o.guard = none) (m x : Operand) (hop : o.op = Op.call { callee := Callee.builtin Builtin.delete, args := #[m, x], argTypes := #[92, 3] }) (b : Nat) (F : Int → Option Int) (s : Nat) (hm : a.eval m = .map (some b)) (h : OwnI w b F s) (xi : Int) (hx : a.eval x = .int .i64 xi)
    (hxw : (Lit.int .i64 xi).wf = true)
    (hK : ∀ w', OwnI w' b (fun y => if y = xi then none else F y) (s - if (F xi).isSome = true then 1 else 0) → w.grownBy w' (some b) → wpList Try.prog ops Q rest (a.put o.dst (.tuple #[])) w') :
    wpList Try.prog ops Q (o :: rest) a w := by
  obtain ⟨D, h⟩ := h
  refine wpList_delete_own w hg m x 92 3 hop 3 law3 Try.underlying92 _ b s D hm h.owns _ _ hx (keyOf_int_mk Try.underlying3 hxw) (fun w' ho ht => ?_)
  have hT := h.owns.tidy law3
  have hsz : Maps.size (D.del (.int .i64 xi)) = s - if (F xi).isSome = true then 1 else 0 := by
    have := size_del (k := .int .i64 xi) hT
    rw [h.has, h.size] at this
    omega
  refine hK w' ⟨_, hsz ▸ owns_size ho, fun y => ?_, fun y u hy => ?_, hsz⟩ ht.grown
  · by_cases e : y = xi
    · subst e
      rw [has_del_same]; simp
    · rw [has_del_other (fun e' => e (by injection e')), h.has, if_neg e]
  · by_cases e : y = xi
    · rw [if_pos e] at hy; cases hy
    · rw [if_neg e] at hy
      rw [atKey_del_other (fun e' => e (by injection e'))]
      exact h.at_ y u hy

/-! ### what Shell does, in plain words -/
theorem near_nodup (nbs : List (List Int)) (a : Int) : (nearL nbs a).Nodup := by
  unfold nearL
  split
  · unfold els
    refine List.Pairwise.map _ (fun x y h e => h (by omega)) (List.nodup_range.filter _)
  · exact List.nodup_nil
theorem mem_near (nbs : List (List Int)) (a b : Int) : b ∈ nearL nbs a ↔ isB nbs a = true ∧ 0 ≤ b ∧ tb (nbs.getD a.toNat []) b.toNat = true := by
  unfold nearL
  split
  · rename_i h
    unfold els
    rw [List.mem_map]
    constructor
    · rintro ⟨i, hi, rfl⟩
      exact ⟨h, by omega, by simpa using (List.mem_filter.1 hi).2⟩
    · rintro ⟨_, h1, h2⟩
      obtain ⟨n, rfl⟩ := Int.eq_ofNat_of_zero_le h1
      refine ⟨n, List.mem_filter.2 ⟨List.mem_range.2 ?_, h2⟩, rfl⟩
      apply Nat.lt_of_not_le
      intro hle
      rw [Int.toNat_natCast, tb_out n hle] at h2
      cases h2
  · rename_i h
    constructor
    · intro hb; cases hb
    · intro hb; exact absurd hb.1 h
/-- Joins of a that are not on a list. -/
def degN (nbs : List (List Int)) (out : List Int) (a : Int) : Nat := ((nearL nbs a).filter fun b => !out.contains b).length
theorem strike_len (l : List Int) (hl : l.Nodup) (b : Int) : (l.filter fun x => !(x == b)).length = l.length - if b ∈ l then 1 else 0 := by
  induction l with
  | nil => rfl
  | cons x r ih =>
    have hx := List.nodup_cons.1 hl
    by_cases e : x = b
    · subst e
      rw [List.filter_cons_of_neg (by simp), if_pos (by simp)]
      have : (r.filter fun y => !(y == x)) = r := List.filter_eq_self.2 (fun y hy => by
        have : y ≠ x := fun e => hx.1 (e ▸ hy)
        simp [this])
      rw [this]; simp
    · rw [List.filter_cons_of_pos (by simp [e]), List.length_cons, ih hx.2, List.length_cons]
      have e2 : (b ∈ x :: r) ↔ b ∈ r := by simp [Ne.symm e]
      by_cases hb : b ∈ r
      · have := List.length_pos_of_mem hb
        rw [if_pos hb, if_pos (e2.2 hb)]; omega
      · rw [if_neg hb, if_neg (fun h => hb (e2.1 h))]; omega
theorem degN_snoc (nbs : List (List Int)) (out : List Int) (best : Int) (hb : best ∉ out) (x : Int) : degN nbs (out ++ [best]) x = degN nbs out x - if best ∈ nearL nbs x then 1 else 0 := by
  unfold degN
  have e : ((nearL nbs x).filter fun b => !(out ++ [best]).contains b) = (((nearL nbs x).filter fun b => !out.contains b).filter fun b => !(b == best)) := by
    rw [List.filter_filter]
    congr 1
    funext b
    by_cases h1 : b = best <;> by_cases h2 : b ∈ out <;> simp [h1, h2]
  rw [e, strike_len _ ((near_nodup nbs x).filter _)]
  congr 1
  have : (best ∈ (nearL nbs x).filter fun b => !out.contains b) ↔ best ∈ nearL nbs x := by simp [hb]
  by_cases h : best ∈ nearL nbs x
  · rw [if_pos h, if_pos (this.2 h)]
  · rw [if_neg h, if_neg (fun hh => h (this.1 hh))]
def bestStep (nbs : List (List Int)) (out : List Int) (best a : Int) : Int := if out.contains a = false ∧ (best < 0 ∨ degN nbs out a < degN nbs out best) then a else best
def ints (n : Nat) : List Int := (List.range n).map fun (i : Nat) => (i : Int)
def bestK (nbs : List (List Int)) (out : List Int) (k : Nat) : Int := (ints k).foldl (bestStep nbs out) (-1)
def shellN (nbs : List (List Int)) : Nat → List Int
  | 0 => []
  | k + 1 => shellN nbs k ++ [bestK nbs (shellN nbs k) nbs.length]
theorem ints_succ (k : Nat) : ints (k + 1) = ints k ++ [(k : Int)] := by simp [ints, List.range_succ]
theorem bestK_succ (nbs : List (List Int)) (out : List Int) (k : Nat) : bestK nbs out (k + 1) = bestStep nbs out (bestK nbs out k) (k : Int) := by
  unfold bestK
  rw [ints_succ, List.foldl_append]; rfl
/-- The best among the first k: none of them is left, or it is one of them that is left. -/
theorem bestK_spec (nbs : List (List Int)) (out : List Int) (k : Nat) : (bestK nbs out k = -1 ∧ ∀ i : Nat, i < k → (i : Int) ∈ out) ∨ ∃ i : Nat, i < k ∧ bestK nbs out k = (i : Int) ∧ (i : Int) ∉ out := by
  induction k with
  | zero => exact .inl ⟨rfl, fun i h => by omega⟩
  | succ k ih =>
    rw [bestK_succ, bestStep]
    by_cases h : out.contains (k : Int) = false ∧ (bestK nbs out k < 0 ∨ degN nbs out k < degN nbs out (bestK nbs out k))
    · rw [if_pos h]
      exact .inr ⟨k, by omega, rfl, by simpa using h.1⟩
    · rw [if_neg h]
      rcases ih with ⟨h1, h2⟩ | ⟨i, hi, h1, h2⟩
      · refine .inl ⟨h1, fun i hi => ?_⟩
        by_cases e : i = k
        · subst e
          apply Classical.byContradiction
          intro hn
          exact h ⟨by simpa using hn, .inl (by omega)⟩
        · exact h2 i (by omega)
      · exact .inr ⟨i, by omega, h1, h2⟩
theorem shellN_spec (nbs : List (List Int)) (k : Nat) (hk : k ≤ nbs.length) : (shellN nbs k).length = k ∧ (shellN nbs k).Nodup ∧ ∀ x ∈ shellN nbs k, 0 ≤ x ∧ x < (nbs.length : Int) := by
  induction k with
  | zero => exact ⟨rfl, List.nodup_nil, fun x h => by cases h⟩
  | succ k ih =>
    obtain ⟨h1, h2, h3⟩ := ih (by omega)
    have hb : ∃ i : Nat, i < nbs.length ∧ bestK nbs (shellN nbs k) nbs.length = (i : Int) ∧ (i : Int) ∉ shellN nbs k := by
      rcases bestK_spec nbs (shellN nbs k) nbs.length with ⟨_, h⟩ | h
      · have := holes nbs.length (shellN nbs k) h
        omega
      · exact h
    obtain ⟨i, hi, e, hn⟩ := hb
    rw [shellN, e]
    refine ⟨by simp [h1], List.nodup_append.2 ⟨h2, by simp, ?_⟩, fun x hx => ?_⟩
    · intro a ha b hb
      obtain rfl := List.mem_singleton.1 hb
      exact fun e => hn (e ▸ ha)
    · rcases List.mem_append.1 hx with hx | hx
      · exact h3 x hx
      · obtain rfl := List.mem_singleton.1 hx; omega
theorem shellN_best (nbs : List (List Int)) (k : Nat) (hk : k < nbs.length) : ∃ i : Nat, i < nbs.length ∧ bestK nbs (shellN nbs k) nbs.length = (i : Int) ∧ (i : Int) ∉ shellN nbs k := by
  rcases bestK_spec nbs (shellN nbs k) nbs.length with ⟨_, h⟩ | h
  · have := holes nbs.length (shellN nbs k) h
    have := (shellN_spec nbs k (by omega)).1
    omega
  · exact h
/-- Joined is joined from both sides. -/
def Gsym (nbs : List (List Int)) : Prop := ∀ a b : Nat, a < nbs.length → b < nbs.length → tb (nbs.getD a []) b = tb (nbs.getD b []) a
theorem near_sym {nbs : List (List Int)} (h : Gsym nbs) {a b : Nat} (ha : a < nbs.length) (hb : b < nbs.length) : ((a : Int) ∈ nearL nbs (b : Int)) ↔ (b : Int) ∈ nearL nbs (a : Int) := by
  rw [mem_near, mem_near]
  have h1 : isB nbs (a : Int) = true := by simp [isB]; omega
  have h2 : isB nbs (b : Int) = true := by simp [isB]; omega
  simp only [h1, h2, Int.toNat_natCast, true_and, h a b ha hb]
  simp
open Classical in
noncomputable def graph_Graph_Shell.f (l0 : List (List Int)) : Option (List Int) := if Gok l0 ∧ Gsym l0 then some (shellN l0 l0.length) else none
/-! ### the walk -/
theorem wpList_len_I {w : World} {ops : Array Oper} {rest : List Oper} {o : Oper} {a : Act} {Q : Exit → Act → World → Prop}
    (hg : o.guard = none) (m : Operand) (hop : o.op = Op.call { callee := Callee.builtin Builtin.len, args := #[m], argTypes := #[92] }) (b : Nat) (F : Int → Option Int) (s : Nat) (hm : a.eval m = .map (some b)) (h : OwnI w b F s)
    (hK : wpList Try.prog ops Q rest (a.put o.dst (.int .i64 s)) w) : wpList Try.prog ops Q (o :: rest) a w := by
  obtain ⟨D, h⟩ := h
  exact wpList_len_own w hg m 92 hop 3 3 Try.underlying92 _ b s D hm h.owns (by rw [h.size]; exact hK)
def FA (nbs : List (List Int)) (k : Nat) (x : Int) : Option Int := if 0 ≤ x ∧ x < (k : Int) then some (degN nbs [] x : Int) else none
def FB (nbs : List (List Int)) (out : List Int) (x : Int) : Option Int := if (0 ≤ x ∧ x < (nbs.length : Int)) ∧ out.contains x = false then some (degN nbs out x : Int) else none
def FJ (nbs : List (List Int)) (out : List Int) (best : Int) (l : List Int) (x : Int) : Option Int := if ((0 ≤ x ∧ x < (nbs.length : Int)) ∧ out.contains x = false) ∧ x ≠ best then some ((degN nbs out x : Int) - if x ∈ l then 1 else 0) else none
theorem degN_nil (nbs : List (List Int)) (x : Int) : degN nbs [] x = (nearL nbs x).length := by
  unfold degN
  rw [List.filter_eq_self.2 (fun y _ => by simp)]
theorem FA_succ (nbs : List (List Int)) (k : Nat) (x : Int) : (if x = (k : Int) then some ((nearL nbs (k : Int)).length : Int) else FA nbs k x) = FA nbs (k + 1) x := by
  unfold FA
  by_cases e : x = (k : Int)
  · subst e
    rw [if_pos rfl, if_pos (by omega), degN_nil]
  · rw [if_neg e]
    by_cases h : 0 ≤ x ∧ x < (k : Int)
    · rw [if_pos h, if_pos (by omega)]
    · rw [if_neg h, if_neg (by omega)]
theorem FA_new (nbs : List (List Int)) (k : Nat) : (FA nbs k (k : Int)).isSome = false := by
  unfold FA
  rw [if_neg (by omega)]; rfl
theorem FA_all (nbs : List (List Int)) (x : Int) : FA nbs nbs.length x = FB nbs [] x := by simp [FA, FB]
theorem FB_strike (nbs : List (List Int)) (out : List Int) (best : Int) (x : Int) : (if x = best then none else FB nbs out x) = FJ nbs out best [] x := by
  unfold FB FJ
  by_cases e : x = best
  · rw [if_pos e, if_neg (fun h => h.2 e)]
  · rw [if_neg e]
    by_cases h : (0 ≤ x ∧ x < (nbs.length : Int)) ∧ out.contains x = false
    · rw [if_pos h, if_pos ⟨h, e⟩]; simp
    · rw [if_neg h, if_neg (fun hh => h hh.1)]
theorem FJ_no (nbs : List (List Int)) (out : List Int) (best : Int) (l : List Int) (b : Int) (hb : (FJ nbs out best l b).isSome = false) (x : Int) : FJ nbs out best l x = FJ nbs out best (l ++ [b]) x := by
  unfold FJ at hb ⊢
  by_cases h : ((0 ≤ x ∧ x < (nbs.length : Int)) ∧ out.contains x = false) ∧ x ≠ best
  · rw [if_pos h, if_pos h]
    have : x ≠ b := fun e => by
      subst e
      rw [if_pos h] at hb; cases hb
    simp [this]
  · rw [if_neg h, if_neg h]
theorem FJ_yes (nbs : List (List Int)) (out : List Int) (best : Int) (l : List Int) (b : Int) (hb : (FJ nbs out best l b).isSome = true) (hl : b ∉ l) (x : Int) :
    (if x = b then some (((FJ nbs out best l b).getD 0) - 1) else FJ nbs out best l x) = FJ nbs out best (l ++ [b]) x := by
  unfold FJ at hb ⊢
  by_cases e : x = b
  · subst e
    rw [if_pos rfl]
    by_cases h : ((0 ≤ x ∧ x < (nbs.length : Int)) ∧ out.contains x = false) ∧ x ≠ best
    · rw [if_pos h, if_pos h, if_neg hl, if_pos (by simp)]; simp
    · rw [if_neg h] at hb; cases hb
  · rw [if_neg e]
    by_cases h : ((0 ≤ x ∧ x < (nbs.length : Int)) ∧ out.contains x = false) ∧ x ≠ best
    · rw [if_pos h, if_pos h]; simp [e]
    · rw [if_neg h, if_neg h]
theorem FJ_end {nbs : List (List Int)} (hs : Gsym nbs) (out : List Int) (i : Nat) (hi : i < nbs.length) (hn : (i : Int) ∉ out) (x : Int) : FJ nbs out (i : Int) (nearL nbs (i : Int)) x = FB nbs (out ++ [(i : Int)]) x := by
  unfold FJ FB
  by_cases h : ((0 ≤ x ∧ x < (nbs.length : Int)) ∧ out.contains x = false) ∧ x ≠ (i : Int)
  · have h2 : (out ++ [(i : Int)]).contains x = false := by
      have h1 := h.1.2
      have h3 := h.2
      rw [← Bool.not_eq_true, List.contains_iff_mem] at h1 ⊢
      rw [List.mem_append, List.mem_singleton]
      exact fun hh => hh.elim h1 h3
    have e2 : (if (0 ≤ x ∧ x < (nbs.length : Int)) ∧ (out ++ [(i : Int)]).contains x = false then some (degN nbs (out ++ [(i : Int)]) x : Int) else none) = some (degN nbs (out ++ [(i : Int)]) x : Int) := if_pos ⟨h.1.1, h2⟩
    rw [e2, if_pos h, degN_snoc nbs out _ hn]
    obtain ⟨n, rfl⟩ := Int.eq_ofNat_of_zero_le h.1.1.1
    have hx : n < nbs.length := by omega
    by_cases hm : (n : Int) ∈ nearL nbs (i : Int)
    · have hm2 := (near_sym hs hi hx).2 hm
      rw [if_pos hm, if_pos hm2]
      have : 0 < degN nbs out (n : Int) := by
        unfold degN
        exact List.length_pos_of_mem (List.mem_filter.2 ⟨hm2, by simpa using hn⟩)
      congr 1; omega
    · have hm2 : ¬ (i : Int) ∈ nearL nbs (n : Int) := fun hh => hm ((near_sym hs hi hx).1 hh)
      rw [if_neg hm, if_neg hm2]
      congr 1
  · rw [if_neg h, if_neg (fun hh => h ⟨⟨hh.1, by have := hh.2; simp at this; simpa using this.1⟩, fun e => by have := hh.2; simp [e] at this⟩)]
theorem degN_le {nbs : List (List Int)} (h : Gok nbs) (out : List Int) (x : Int) : degN nbs out x ≤ 64000000 :=
  Nat.le_trans (List.length_filter_le _ _) (near_len h x)
theorem wf_small {x : Int} (h : -1000000000 ≤ x ∧ x ≤ 1000000000) : (Lit.int .i64 x).wf = true := WalkArith.wf_i64 (by omega)
theorem bestK_rng (nbs : List (List Int)) (out : List Int) (k : Nat) : -1 ≤ bestK nbs out k ∧ bestK nbs out k < (k : Int) ∨ bestK nbs out k = -1 := by
  rcases bestK_spec nbs out k with ⟨h, _⟩ | ⟨i, hi, h, _⟩
  · exact .inr h
  · exact .inl (by omega)

theorem own_ne_map {w : World} {b : Nat} {F : Int → Option Int} {s : Nat} {base : Nat} {e : TypeId} {size n : Nat} {v : Value} {xs : List Value} (h : w.ownsRow base e size v n xs) (hm : OwnI w b F s) : v.ownBlock ≠ some b := fun hk => by
  obtain ⟨cells, hc⟩ := own_typed h b hk
  obtain ⟨D, hD⟩ := hm
  obtain ⟨es, clock, h1, _⟩ := hD.owns
  rw [hc] at h1
  simp at h1
theorem FB_in {nbs : List (List Int)} {out : List Int} {x : Int} (h1 : 0 ≤ x ∧ x < (nbs.length : Int)) (h2 : out.contains x = false) : FB nbs out x = some (degN nbs out x : Int) := if_pos ⟨h1, h2⟩
theorem FB_out {nbs : List (List Int)} {out : List Int} {x : Int} (h2 : out.contains x = true) : FB nbs out x = none := if_neg (fun h => by rw [h2] at h; exact absurd h.2 (by simp))
theorem FJ_small {nbs : List (List Int)} (h : Gok nbs) (out : List Int) (best : Int) (l : List Int) (x : Int) : -1 ≤ (FJ nbs out best l x).getD 0 ∧ (FJ nbs out best l x).getD 0 ≤ 64000000 := by
  have := degN_le h out x
  unfold FJ
  split
  · show -1 ≤ (_ : Int) ∧ _
    simp only [Option.getD_some]
    split <;> omega
  · simp

set_option maxRecDepth 100000 in
set_option maxHeartbeats 1000000 in
theorem graph_Graph_Shell.calls (A0 : Option Addr) (c0 : Nat) (l0 : List (List Int)) (r : List Int) (w : World) (hr0 : IsGr w A0 l0) (hc0 : l0.length ≤ c0) (h : graph_Graph_Shell.f l0 = some r) :
    Calls Try.prog 69 #[.pointer A0] w fun e w' => ∃ v0_ : Value, e = .returned v0_ ∧ Kd.R (Kd.int .i64) 3 w' w.heap.size (fun _ => True) v0_ r ∧ Below w.heap.size w w' := by
  unfold graph_Graph_Shell.f at h
  by_cases hw : Gok l0 ∧ Gsym l0
  rotate_left
  · rw [if_neg hw] at h; cases h
  rw [if_pos hw] at h
  obtain rfl := Option.some.inj h
  obtain ⟨n, hn⟩ : ∃ n, l0.length = n := ⟨_, rfl⟩
  have HN := Aside0.mk hn
  have HN4 : Aside0 (n ≤ 400) := ⟨hn ▸ hw.1.le⟩
  have HG := Aside0.mk hr0
  have HO := Aside0.mk hw.1
  have HS := Aside0.mk hw.2
  have HF : Aside0 (graph_Graph_Len.f l0 = some (n : Int)) := ⟨by unfold graph_Graph_Len.f; rw [hn]⟩
  have hmm := @run_makeMap Try.prog
  clear h hr0 hc0 hw hn
  go_enter Try.func69, Try.ntmps69
  go_wp2_with fail
  have HBm : Aside0 (Below w.heap.size w (w.alloc (Obj.map #[] 0))) := ⟨below_alloc (Below.refl _ _) _⟩
  refine (graph_Graph_Len.calls A0 l0.length l0 _ _ (HG.out.below HBm.out) (Nat.le_refl _) HF.out).mono ?_
  rintro e w1 ⟨rfl, hd1⟩
  have HB1 : Aside0 (Below w.heap.size w w1) := ⟨below_then HBm.out HBm.out.size hd1.below⟩
  have HM1 : Aside0 (OwnI w1 w.heap.size (FA l0 0) 0) := ⟨((OwnI.made w).kept (grown_of_below hd1.below none) (by simp)).congr (fun x => by unfold FA; rw [if_neg (by omega)])⟩
  clear hd1
  go_wp2
  go_loopg [17] n (fun m i wr => ∃ k : Nat, Aside0 (k + m = n) ∧ i = .int .i64 k ∧ Aside0 (OwnI wr w.heap.size (FA l0 k) k) ∧ Aside0 (Below w.heap.size w wr))
  case atStart => exact ⟨0, ⟨by omega⟩, rfl, HM1, HB1⟩
  case round =>
    clear HM1 HB1
    obtain ⟨k, HK, rfl, HM, HB⟩ := hrel
    by_cases hlt : k < n
    · have hw1 := wrap_succ (n := n) (by have := HN4.out; omega) hlt
      obtain ⟨near, hne⟩ : ∃ x, nearL l0 (k : Int) = x := ⟨_, rfl⟩
      have HNE := Aside0.mk hne
      have HNL : Aside0 (near.length ≤ 64000000) := ⟨hne ▸ near_len HO.out _⟩
      clear hne
      go_wp2_with fail
      refine (graph_Graph_Near.calls A0 l0.length l0 _ near _ (HG.out.below HB.out) (Nat.le_refl _) (by unfold graph_Graph_Near.f; rw [HNE.out])).mono ?_
      rintro e w2 ⟨v9, rfl, hR9, hb9⟩
      obtain ⟨A9, c9, rfl, _⟩ := own_reads (Kd.own_of_R hR9)
      have HM2 := Aside0.mk (HM.out.kept (grown_of_below hb9 none) (by simp))
      have HB2 := Aside0.mk (below_then HB.out HB.out.size hb9)
      clear hR9 hb9
      go_wp2_with (first
        | (at_mapUpdate; refine wpList_update_I rfl _ _ _ rfl _ _ k rfl HM2.out (lt_maxLen (n := n) (by have := HN4.out; omega) hlt) (k : Int) (near.length : Int) rfl rfl (wf_small (by have := HN4.out; omega)) (wf_small (by have := HNL.out; omega)) ?_; intro w4 hm4 hg4)
        | go_in)
      have HM4 := Aside0.mk hm4
      have HG4 := Aside0.mk hg4
      clear hm4 hg4
      go_roundg (gk - 1)
      case measure => have := HK.out; omega
      case rel =>
        refine ⟨k + 1, ⟨by have := HK.out; omega⟩, by first | rfl | go_num, ⟨?_⟩, ⟨HB2.out.grown HG4.out HB2.out.size (fun i hi => by cases hi; exact Nat.le_refl _)⟩⟩
        have := HM4.out
        rw [FA_new, if_neg (by simp)] at this
        exact this.congr (fun x => by rw [← FA_succ, HNE.out])
    · obtain rfl : k = n := by have := HK.out; omega
      have HM0 : Aside0 (OwnI wr w.heap.size (FB l0 (shellN l0 0)) (k - 0)) := ⟨HM.out.congr (fun x => by rw [← HN.out]; exact FA_all l0 x)⟩
      clear HK HM hlt
      go_wp2
      go_loopg [5] k (fun m v wr => ∃ q : Nat, Aside0 (q + m = k) ∧ Aside0 (wr.ownsRow w.heap.size 3 1 v (shellN l0 q).length (nums .i64 (shellN l0 q))) ∧ Aside0 (OwnI wr w.heap.size (FB l0 (shellN l0 q)) (k - q)) ∧ Aside0 (Below w.heap.size w wr))
      case atStart => exact ⟨0, ⟨by omega⟩, ⟨own_nil _ _ _ _⟩, HM0, HB⟩
      case round =>
        clear HM0 HB
        obtain ⟨q, HQ, HL, HM, HB⟩ := hrel
        by_cases hlt : q < k
        · obtain ⟨iB, hiB, hbest, hnot⟩ := shellN_best l0 q (by rw [HN.out]; exact hlt)
          have hsp := shellN_spec l0 q (by rw [HN.out]; omega)
          have hnext : shellN l0 (q + 1) = shellN l0 q ++ [bestK l0 (shellN l0 q) l0.length] := rfl
          rw [hbest] at hnext
          obtain ⟨out, ho⟩ : ∃ out, shellN l0 q = out := ⟨_, rfl⟩
          rw [ho] at HL HM hbest hnot hsp hnext
          rw [HN.out] at hbest hiB
          obtain ⟨s, hs⟩ : ∃ s, k - q = s := ⟨_, rfl⟩
          rw [hs] at HM
          have hs0 : 0 < s := by omega
          have hdec : decide ((s : Int) > 0) = true := decide_eq_true (by omega)
          have HQS := Aside0.mk (And.intro hs (And.intro hlt hs0))
          have HSP := Aside0.mk hsp
          have HBE := Aside0.mk (And.intro hbest (And.intro hnot hiB))
          have HNX := Aside0.mk hnext
          clear hbest hnot hsp hnext ho hs hlt hiB
          obtain ⟨A5, c5, rfl, _⟩ := own_reads HL.out
          go_wp2_with (at_len; refine wpList_len_I rfl _ rfl _ _ _ rfl HM.out ?_)
          refine (graph_Graph_Len.calls A0 l0.length l0 _ _ (HG.out.below HB.out) (Nat.le_refl _) HF.out).mono ?_
          rintro e w3 ⟨rfl, hd3⟩
          have HL3 := Aside0.mk (pw_own_below HL.out hd3.below)
          have HM3 := Aside0.mk (HM.out.kept (grown_of_below hd3.below none) (by simp))
          have HB3 := Aside0.mk (below_then HB.out HB.out.size hd3.below)
          clear hd3 HL HM HB
          go_wp2
          go_loopg [32, 6] k (fun m i v w4 => ∃ a : Nat, Aside0 (a + m = k) ∧ i = .int .i64 a ∧ v = .int .i64 (bestK l0 out a) ∧ Aside0 (w3 = w4))
          case atStart => exact ⟨0, ⟨by omega⟩, rfl, rfl, ⟨rfl⟩⟩
          case round =>
            obtain ⟨a, HA, rfl, rfl, HWW⟩ := hrel
            have hww := HWW.out
            subst hww
            obtain ⟨b, hb⟩ : ∃ b, bestK l0 out a = b := ⟨_, rfl⟩
            have hbs := bestK_spec l0 out a
            have hbr := bestK_rng l0 out a
            have hbn := bestK_succ l0 out a
            rw [hb] at hbs hbr hbn ⊢
            by_cases hlt : a < k
            · have hw1 := wrap_succ (n := k) (by have := HN4.out; omega) hlt
              have haw : (Lit.int .i64 (a : Int)).wf = true := wf_small (by have := HN4.out; omega)
              have hl1 := HM3.out.look_ok (a : Int) haw
              have han : 0 ≤ (a : Int) ∧ (a : Int) < (l0.length : Int) := by rw [HN.out]; omega
              unfold bestStep at hbn
              by_cases hin : out.contains (a : Int) = true
              · rw [FB_out hin] at hl1
                rw [if_neg (by rw [hin]; simp)] at hbn
                have HBN := Aside0.mk hbn
                clear hbn hbs hbr hb hin haw
                go_wp2
                go_roundg (gk - 1)
                case measure => have := HA.out; omega
                case rel => exact ⟨a + 1, ⟨by have := HA.out; omega⟩, by first | rfl | go_num, by rw [HBN.out], ⟨rfl⟩⟩
              · have hin' : out.contains (a : Int) = false := by simpa using hin
                rw [FB_in han hin'] at hl1
                by_cases hb0 : b < 0
                · have h0 : decide (b < 0) = true := decide_eq_true hb0
                  rw [if_pos ⟨hin', .inl hb0⟩] at hbn
                  have HBN := Aside0.mk hbn
                  clear hbn hbs hbr hb hin haw hin' hb0
                  go_wp2
                  go_roundg (gk - 1)
                  case measure => have := HA.out; omega
                  case rel => exact ⟨a + 1, ⟨by have := HA.out; omega⟩, by first | rfl | go_num, by rw [HBN.out], ⟨rfl⟩⟩
                · have h0 : decide (b < 0) = false := decide_eq_false hb0
                  have hbo : ∃ j : Nat, j < a ∧ b = (j : Int) ∧ out.contains b = false := by
                    rcases hbs with ⟨e, _⟩ | ⟨j, hj, e, hn⟩
                    · omega
                    · exact ⟨j, hj, e, by rw [e]; simpa using hn⟩
                  obtain ⟨j, hj, hbj, hbc⟩ := hbo
                  have hl2 := HM3.out.look b (wf_small (by have := HN4.out; omega))
                  rw [FB_in (by rw [HN.out]; omega) hbc] at hl2
                  simp only [Option.getD_some, Option.isSome_some] at hl1 hl2
                  obtain ⟨d, hd⟩ : ∃ d : Int, (degN l0 out (a : Int) : Int) = d := ⟨_, rfl⟩
                  obtain ⟨d2, hd2⟩ : ∃ d : Int, (degN l0 out b : Int) = d := ⟨_, rfl⟩
                  rw [hd] at hl1
                  rw [hd2] at hl2
                  by_cases hdd : d < d2
                  · have h1 : decide (d < d2) = true := decide_eq_true hdd
                    rw [if_pos ⟨hin', .inr (by omega)⟩] at hbn
                    have HBN := Aside0.mk hbn
                    clear hbn hbs hbr hb hin haw hin' hb0 hbj hbc hd hd2 hdd
                    go_wp2
                    go_roundg (gk - 1)
                    case measure => have := HA.out; omega
                    case rel => exact ⟨a + 1, ⟨by have := HA.out; omega⟩, by first | rfl | go_num, by rw [HBN.out], ⟨rfl⟩⟩
                  · have h1 : decide (d < d2) = false := decide_eq_false hdd
                    rw [if_neg (fun hh => by rcases hh.2 with h | h <;> omega)] at hbn
                    have HBN := Aside0.mk hbn
                    clear hbn hbs hbr hb hin haw hin' hb0 hbj hbc hd hd2 hdd
                    go_wp2
                    go_roundg (gk - 1)
                    case measure => have := HA.out; omega
                    case rel => exact ⟨a + 1, ⟨by have := HA.out; omega⟩, by first | rfl | go_num, by rw [HBN.out], ⟨rfl⟩⟩
            · obtain rfl : a = k := by have := HA.out; omega
              obtain rfl : b = (iB : Int) := hb.symm.trans HBE.out.1
              clear hbs hbr hbn hb hlt HA
              have HI4 : Aside0 (iB < a ∧ a ≤ 400) := ⟨HBE.out.2.2, HN4.out⟩
              have HSZ : Aside0 (out.length ≤ 400) := ⟨by rw [HSP.out.1]; have := HQS.out.2.1; have := HN4.out; omega⟩
              have hFi : (FB l0 out (iB : Int)).isSome = true := by
                rw [FB_in (by rw [HN.out]; have := HBE.out.2.2; omega) (by rw [← Bool.not_eq_true, List.contains_iff_mem]; exact HBE.out.2.1)]; rfl
              have HFI := Aside0.mk hFi
              clear hFi
              go_wp2_with (first
                | (at_delete; refine wpList_delete_I rfl _ _ rfl _ _ s rfl HM3.out (iB : Int) rfl (wf_small (by have := HI4.out; omega)) ?_; intro w4 hm4 hg4
                   have HL4 := Aside0.mk (own_other HL3.out hg4 (.inr (own_ne_map HL3.out HM3.out)))
                   have HB4 := Aside0.mk (HB3.out.grown hg4 HB3.out.size (fun i hi => by cases hi; exact Nat.le_refl _))
                   have HM4 := Aside0.mk hm4
                   clear hm4 hg4)
                | (at_builtin; go_loud (refine print_append_num (w0 := w) w.heap.size rfl _ _ 25 3 .i64 8 rfl Try.underlying25 info3 (by decide) (.slice A5 out.length c5) out (iB : Int) rfl rfl HL4.out HB4.out HB4.out.size (by have := HSZ.out; omega) ?_); intro v1 w5 ho5 hb5 hg5 hat5
                   have HM5 := Aside0.mk (HM4.out.kept hg5 (own_ne_map HL4.out HM4.out).symm)
                   have HB5 := Aside0.mk hb5
                   have HL5 := Aside0.mk ho5
                   clear ho5 hb5 hg5 hat5))
              obtain ⟨near, hne⟩ : ∃ x, nearL l0 (iB : Int) = x := ⟨_, rfl⟩
              have HNE := Aside0.mk hne
              have HNL : Aside0 (near.length ≤ 64000000) := ⟨hne ▸ near_len HO.out _⟩
              have HNM : Aside0 (∀ b ∈ near, 0 ≤ b ∧ b < (a : Int)) := ⟨fun b hb => by rw [← HN.out]; exact near_mem HO.out (hne ▸ hb)⟩
              have HND : Aside0 near.Nodup := ⟨hne ▸ near_nodup _ _⟩
              clear hne
              refine (graph_Graph_Near.calls A0 l0.length l0 _ near _ (HG.out.below HB5.out) (Nat.le_refl _) (by unfold graph_Graph_Near.f; rw [HNE.out])).mono ?_
              rintro e w6 ⟨v9, rfl, hR9, hb9⟩
              have ho9 := Kd.own_of_R hR9
              obtain ⟨A9, c9, rfl, _⟩ := own_reads ho9
              have HM6 : Aside0 (OwnI w6 w.heap.size (FJ l0 out (iB : Int) (near.take 0)) (s - 1)) := ⟨by
                have := (HM5.out.kept (grown_of_below hb9 none) (by simp)).congr (FB_strike l0 out (iB : Int))
                rw [HFI.out, if_pos rfl] at this
                exact this⟩
              have HB6 := Aside0.mk (below_then HB5.out HB5.out.size hb9)
              have HL6 := Aside0.mk (pw_own_below HL5.out hb9)
              have HO6 := Aside0.mk (own_weaken ho9 HB5.out.size)
              clear hR9 hb9 ho9 HM5 HB5 HL5 HM4 HB4 HL4 HM3 HB3 HL3 HFI
              go_wp2
              go_loopg [65] near.length (fun m i w7 => ∃ j : Nat, Aside0 (j + m = near.length) ∧ i = .int .i64 j ∧ Aside0 (OwnI w7 w.heap.size (FJ l0 out (iB : Int) (near.take j)) (s - 1)) ∧ Aside0 (w7.ownsRow w.heap.size 3 1 v1 (out ++ [(iB : Int)]).length (nums .i64 (out ++ [(iB : Int)]))) ∧
                Aside0 (w7.ownsRow w.heap.size 3 1 (.slice A9 near.length c9) near.length (nums .i64 near)) ∧ Aside0 (Below w.heap.size w w7))
              case atStart => exact ⟨0, ⟨by omega⟩, rfl, HM6, HL6, HO6, HB6⟩
              case round =>
                clear HM6 HL6 HO6 HB6
                obtain ⟨j, HJ, rfl, HM6, HL6, HO6, HB6⟩ := hrel
                by_cases hj : j < near.length
                · obtain ⟨A9', c9', e9, hRd⟩ := own_reads HO6.out
                  obtain ⟨ad9, e9', hc9⟩ := hRd.at_ (j : Int) (by omega) (by omega)
                  rw [Int.toNat_natCast] at hc9
                  injection e9 with e9 _ e9c
                  subst e9
                  subst e9c
                  subst e9'
                  have hw2 : wrap64 ((j : Int) + 1) = ((j + 1 : Nat) : Int) := wrap_succ hRd.2.1 hj
                  obtain ⟨b, hb⟩ : ∃ b, rd near (j : Int) = b := ⟨_, rfl⟩
                  rw [hb] at hc9
                  have hbj : near[j] = b := by rw [← hb]; simp [rd, hj]
                  have htk : near.take (j + 1) = near.take j ++ [b] := by rw [take_snoc near j hj, hb]
                  have hnt : b ∉ near.take j := by
                    intro hm
                    have hnd := HND.out
                    rw [← List.take_append_drop (j + 1) near, htk] at hnd
                    have := (List.nodup_append.1 (List.nodup_append.1 hnd).1).2.2 b hm b (by simp)
                    exact this rfl
                  have hbb := HNM.out b (by rw [← hbj]; exact List.getElem_mem hj)
                  have hbw : (Lit.int .i64 b).wf = true := wf_small (by have := HN4.out; omega)
                  have hl1 := HM6.out.look_ok b hbw
                  have hsm := FJ_small HO.out out (iB : Int) (near.take j) b
                  have HTK := Aside0.mk (And.intro htk hnt)
                  have HBW := Aside0.mk hbw
                  clear hb hbj hbb hRd htk hnt
                  by_cases hs : (FJ l0 out (iB : Int) (near.take j) b).isSome = true
                  · have hl2 := HM6.out.look b hbw
                    rw [hs] at hl1
                    have HJS := Aside0.mk hs
                    obtain ⟨c, hc⟩ : ∃ c, (FJ l0 out (iB : Int) (near.take j) b).getD 0 = c := ⟨_, rfl⟩
                    rw [hc] at hl1 hl2 hsm
                    have HCC := Aside0.mk hc
                    have hw3 : wrap64 (c - 1) = c - 1 := by unfold wrap64; omega
                    have HW3 := Aside0.mk hw3
                    clear hs hc hsm hbw hw3
                    go_wp2_with (at_mapUpdate; go_loud (refine wpList_update_I rfl _ _ _ rfl _ _ (s - 1) rfl HM6.out (lt_maxLen (n := 400) (by omega) (by have := HQS.out; have := HN4.out; omega)) b (wrap64 (c - 1)) rfl rfl HBW.out (wrap64_wf _) ?_); intro w8 hm8 hg8)
                    have HM8 := Aside0.mk hm8
                    have HG8 := Aside0.mk hg8
                    clear hm8 hg8
                    go_roundg (gk - 1)
                    case measure => have := HJ.out; omega
                    case rel =>
                      refine ⟨j + 1, ⟨by have := HJ.out; omega⟩, by first | rfl | go_num, ⟨?_⟩, ⟨own_other HL6.out HG8.out (.inr (own_ne_map HL6.out HM6.out))⟩, ⟨own_other HO6.out HG8.out (.inr (own_ne_map HO6.out HM6.out))⟩, ⟨HB6.out.grown HG8.out HB6.out.size (fun i hi => by cases hi; exact Nat.le_refl _)⟩⟩
                      have := HM8.out
                      rw [HJS.out, if_pos rfl, HW3.out] at this
                      refine this.congr (fun x => ?_)
                      rw [HTK.out.1, ← FJ_yes l0 out (iB : Int) (near.take j) b HJS.out HTK.out.2 x, HCC.out]
                  · have hs' : (FJ l0 out (iB : Int) (near.take j) b).isSome = false := by simpa using hs
                    rw [hs'] at hl1
                    have HJS := Aside0.mk hs'
                    obtain ⟨c, hc⟩ : ∃ c, (FJ l0 out (iB : Int) (near.take j) b).getD 0 = c := ⟨_, rfl⟩
                    rw [hc] at hl1
                    clear hs hs' hc hsm hbw
                    go_wp2
                    go_roundg (gk - 1)
                    case measure => have := HJ.out; omega
                    case rel =>
                      refine ⟨j + 1, ⟨by have := HJ.out; omega⟩, by first | rfl | go_num, ⟨HM6.out.congr (fun x => ?_)⟩, HL6, HO6, HB6⟩
                      rw [HTK.out.1]
                      exact FJ_no l0 out (iB : Int) (near.take j) b HJS.out x
                · obtain rfl : j = near.length := by have := HJ.out; omega
                  go_wp2
                  go_roundg (a - q - 1)
                  case measure => have := HQ.out; have := HQS.out.2.1; omega
                  case rel =>
                    refine ⟨q + 1, ⟨by have := HQ.out; have := HQS.out.2.1; omega⟩, ⟨by rw [HNX.out]; exact HL6.out⟩, ⟨?_⟩, HB6⟩
                    rw [HNX.out]
                    have := HM6.out
                    rw [List.take_length] at this
                    have e : a - (q + 1) = s - 1 := by have := HQS.out.1; omega
                    rw [e]
                    refine this.congr (fun x => ?_)
                    rw [← HNE.out]
                    exact FJ_end HS.out out iB (by rw [HN.out]; exact HI4.out.1) HBE.out.2.1 x
        · obtain rfl : q = k := by have := HQ.out; omega
          go_wp2_with (first
            | (at_len; refine wpList_len_I rfl _ rfl _ _ _ rfl HM.out ?_)
            | go_in)
          go_ret
          refine ⟨_, rfl, ?_, HB.out⟩
          rw [HN.out]
          exact Kd.R_of_own HL.out (fun _ _ => trivial)
end Go.Proofs.Ytbmnnmcnmfgbaaa.PG
end
section
-- Printed by wip/printbase.py (the session's caller of the kit's printer) out of the translation. Not trusted: Lean checks it.
namespace Go.Proofs.Ytbmnnmcnmfgbaaa.PK
open Go.RowKit Go.Proofs.YtbmnnmcnmfgbaaaW.PrintWords Go.Proofs.YtbmnnmcnmfgbaaaW.PrintLast Go.Proofs.YtbmnnmcnmfgbaaaW.PrintMore
attribute [local go_sem] max2_int min2_int max_two min_two max_three min_three max_four min_four   -- for this text's walks alone
open Go.Proofs.Ytbmnnmcnmfgbaaa.PB
open Go.Proofs.Ytbmnnmcnmfgbaaa.PG
set_option linter.unusedVariables false
set_option linter.unusedSimpArgs false



def errW : Option Int → Value
  | none => .nilIface
  | some c => .iface 0 (.int .i64 c)
theorem errW_none : errW none = .nilIface := rfl
theorem errW_some (c : Int) : errW (some c) = .iface 0 (.int .i64 c) := rfl

theorem info3 : (Try.prog.info? 3).map (fun i => (i.zero, i.size, i.bytes)) = some (some (.int .i64 0), 1, 8) := by kernel_rfl
theorem info37 : (Try.prog.info? 37).map (fun i => (i.zero, i.size, i.bytes)) = some (some (.int .u64 0), 1, 8) := by kernel_rfl
theorem rows_len_ {α : Type} {Rr : α → List Value → Prop} {sz : Nat} {W : World} {A : Option Addr} {n m : Nat} {ys : List α} (h : n = m) (hr : ReadsRow Rr sz W A n ys) : ReadsRow Rr sz W A m ys := h ▸ hr
-- the values' own types
end Go.Proofs.Ytbmnnmcnmfgbaaa.PK
end
section
-- Printed by wip/printbase.py (the session's caller of the kit's printer) out of the translation. Not trusted: Lean checks it.
namespace Go.Proofs.Ytbmnnmcnmfgbaaa.PK
open Go.RowKit Go.Proofs.YtbmnnmcnmfgbaaaW.PrintWords Go.Proofs.YtbmnnmcnmfgbaaaW.PrintLast Go.Proofs.YtbmnnmcnmfgbaaaW.PrintMore
attribute [local go_sem] max2_int min2_int max_two min_two max_three min_three max_four min_four   -- for this text's walks alone
open Go.Proofs.Ytbmnnmcnmfgbaaa.PB
open Go.Proofs.Ytbmnnmcnmfgbaaa.PG
set_option linter.unusedVariables false
set_option linter.unusedSimpArgs false

-- given: function 66 (graph_Graph_Len)

-- printed before: function 27 (bits_Has)

/-! ### graph_Graph_is: function 76 -/
-- given: function 67 (graph_Graph_Has)

/-! ### clique_Is: function 37 -/
mutual
def clique_Is.l0 : Nat → List (List Int) → List Int → List Int → Int → Int → Option (Bool)
  | 0, _, _, _, _, _ => none
  | k + 1, x0, x1, x9, x10, x11 => if x11 < x10 then (if 0 ≤ x11 then (if x11 < (x9.length : Int) then (if (rd x9 x11) < 0 then (clique_Is.j1 k x0 x1 x11 (rd x9 x11) x9 x10 x11 true) else ((graph_Graph_Len.f x0).bind fun t104 => (clique_Is.j1 k x0 x1 x11 (rd x9 x11) x9 x10 x11 (decide ((rd x9 x11) ≥ t104))))) else (none)) else (none)) else (some true)
def clique_Is.j1 : Nat → List (List Int) → List Int → Int → Int → List Int → Int → Int → Bool → Option (Bool)
  | 0, _, _, _, _, _, _, _, _ => none
  | k + 1, x0, x1, x5, x6, x9, x10, x11, x23 => if x23 = true then (some false) else (if 0 ≤ x5 then (if x5 ≤ (x1.length : Int) then (clique_Is.l1 k x0 x1 x6 x9 x10 x11 (x1.take (x5 : Int).toNat) ((x1.take (x5 : Int).toNat).length : Int) 0) else (none)) else (none))
def clique_Is.l1 : Nat → List (List Int) → List Int → Int → List Int → Int → Int → List Int → Int → Int → Option (Bool)
  | 0, _, _, _, _, _, _, _, _, _ => none
  | k + 1, x0, x1, x6, x9, x10, x11, x26, x27, x28 => if x28 < x27 then (if 0 ≤ x28 then (if x28 < (x26.length : Int) then ((graph_Graph_Has.f x0 x6 (rd x26 x28)).bind fun t107 => (if t107 = true then (clique_Is.l1 k x0 x1 x6 x9 x10 x11 x26 x27 (wrap64 (x28 + 1))) else (some false))) else (none)) else (none)) else (clique_Is.l0 k x0 x1 x9 x10 (wrap64 (x11 + 1)))
end
def clique_Is.f (k : Nat) (l0 : List (List Int)) (l1 : List Int) : Option (Bool) := clique_Is.l0 k l0 l1 l1 (l1.length : Int) 0
set_option maxHeartbeats 8000000 in
set_option maxRecDepth 100000 in
theorem clique_Is.calls (k : Nat) (A0 : Option Addr) (c0 : Nat) (l0 : List (List Int)) (A1 : Option Addr) (c1 : Nat) (l1 : List Int) (r : Bool) (w : World) (hr0 : IsGr w A0 l0) (hc0 : l0.length ≤ c0) (hr1 : Kd.C (Kd.int .i64) w A1 l1.length l1) (hc1 : l1.length ≤ c1) (h : clique_Is.f k l0 l1 = some r) :
    Calls Try.prog 37 #[.pointer A0, .slice A1 l1.length c1] w fun e w' => e = .returned (.bool r) ∧ Drawn0 w w' := by
  have HR0 := Aside0.mk hr0
  have HC0 := Aside0.mk hc0
  clear hr0 hc0
  have HR1 := Aside0.mk hr1
  have HC1 := Aside0.mk hc1
  clear hr1 hc1
  have H : (clique_Is.l0 k l0 l1 l1 (l1.length : Int) 0) = some r := h
  clear h
  have H' := Aside0.mk H
  clear H
  go_enter Try.func37, Try.ntmps37
  go_wp2
  go_loopg [11] k (fun kq v11 w' => ∃ (x11_1 : Int), v11 = .int .i64 x11_1 ∧ Aside0 (clique_Is.l0 kq l0 l1 l1 (l1.length : Int) x11_1 = some r) ∧ Aside0 (kq ≤ k) ∧ Drawn0 w w')
  case atStart => exact ⟨(0), (by first | rfl | (simp; done) | (simp [*]; done)), H', ⟨Nat.le_refl _⟩, by repeat (first | exact Drawn0.refl _ | apply Drawn0.step)⟩
  case round =>
    clear H'
    try clear c1
    try clear p2
    obtain ⟨x11_1, rfl, HA, HK1, ⟨m1, rfl⟩⟩ := hrel
    cases gk with
    | zero => exact absurd HA.out (by simp [clique_Is.l0])
    | succ k1 =>
      have H := HA.out
      clear HA
      simp only [clique_Is.l0] at H
      by_cases c3 : x11_1 < (l1.length : Int)
      · rw [if_pos c3] at H
        have c3b0 : decide (x11_1 < (l1.length : Int)) = true := decide_eq_true c3
        clear c3
        by_cases c4 : 0 ≤ x11_1
        · rw [if_pos c4] at H
          have c4b0 : decide (0 ≤ x11_1) = true := decide_eq_true c4
          clear c4
          by_cases c5 : x11_1 < (l1.length : Int)
          · rw [if_pos c5] at H
            have c5b0 : decide (x11_1 < (l1.length : Int)) = true := decide_eq_true c5
            clear c5
            have HC6 := Aside0.mk H
            clear H
            have p103 : 0 ≤ (x11_1 : Int) := of_decide_eq_true (by first | (with_reducible assumption) | assumption)
            have q103 : x11_1 < (l1.length : Int) := of_decide_eq_true (by first | (with_reducible assumption) | assumption)
            obtain ⟨ad103, e103, hx103_0⟩ := Kd.at_int HR1.out x11_1 p103 q103
            cases e103
            replace p103 := eq_true p103
            replace q103 := eq_true q103
            go_upto_region 4 with (fail)
            go_cut [23] (fun v23 wc => ∃ (kq : Nat) (x23_5 : Bool), v23 = .bool x23_5 ∧ Aside0 (clique_Is.j1 kq l0 l1 x11_1 (rd l1 x11_1) l1 (l1.length : Int) x11_1 x23_5 = some r) ∧ Aside0 (kq ≤ k1) ∧ Drawn0 w wc)
            case first =>
              have H := HC6.out
              clear HC6
              by_cases c7 : (rd l1 x11_1) < 0
              · rw [if_pos c7] at H
                have c7b0 : decide ((rd l1 x11_1) < 0) = true := decide_eq_true c7
                clear c7
                (first | rw [c7b0] | (simp only [i64_w, i32_w]; rw [c7b0]) | skip)
                have H' := Aside0.mk H
                clear H
                go_wp2
                go_meet
                case rel => exact ⟨_, (true), (by first | rfl | (simp; done) | (simp [*]; done)), H', ⟨by have := HK1.out; first | omega | exact Nat.le_refl _⟩, by repeat (first | exact Drawn0.refl _ | apply Drawn0.step)⟩
              · rw [if_neg c7] at H
                have c7b0 : decide ((rd l1 x11_1) < 0) = false := decide_eq_false c7
                clear c7
                (first | rw [c7b0] | (simp only [i64_w, i32_w]; rw [c7b0]) | skip)
                replace H := Option.bind_eq_some_iff.mp H
                obtain ⟨t104, A80, H⟩ := H
                replace H : (clique_Is.j1 k1 l0 l1 x11_1 (rd l1 x11_1) l1 (l1.length : Int) x11_1 (decide ((rd l1 x11_1) ≥ t104))) = some r := H
                have A8 := Aside0.mk A80
                clear A80
                have H' := Aside0.mk H
                clear H
                go_wp2_with (first | (go_at_call 66; (with_reducible refine (graph_Graph_Len.calls _ c0 l0 t104 _ ?side1 ?side2 A8.out).mono ?_); (case side1 => repeat (first | exact HR0.out | (with_reducible refine IsGr.alloc ?_ _) | (with_reducible refine IsGr.drewN ?_ _) | (with_reducible refine IsGr.drew ?_) | (with_reducible refine Kd.C_alloc ?_ _) | (with_reducible refine Kd.C_drewN ?_ _) | (with_reducible refine Kd.C_drew ?_))); (case side2 => exact HC0.out); rintro e w' ⟨rfl, ⟨nd, rfl⟩⟩))
                go_meet
                case rel => exact ⟨_, (decide ((rd l1 x11_1) ≥ t104)), (by first | rfl | (simp; done) | (simp [*]; done)), H', ⟨by have := HK1.out; first | omega | exact Nat.le_refl _⟩, by repeat (first | exact Drawn0.refl _ | apply Drawn0.step)⟩
            case rest =>
              clear HC6
              try clear c1
              try clear p1
              try clear q1
              try clear hx1
              try clear p2
              try clear c3
              try clear c3b0
              try clear c4
              try clear c4b0
              try clear c5
              try clear c5b0
              try clear c7
              try clear c7b0
              try clear hx103_0
              try clear p103
              try clear p2
              try clear q103
              obtain ⟨kq, x23_5, rfl, HA, HJ5, ⟨mc5, rfl⟩⟩ := hcut
              cases kq with
              | zero => exact absurd HA.out (by simp [clique_Is.j1])
              | succ kj5 =>
                have H := HA.out
                clear HA
                simp only [clique_Is.j1] at H
                by_cases c9 : x23_5 = true
                · subst c9
                  have H1 : (some false) = some r := by rw [if_pos rfl] at H; exact H
                  clear H
                  have H := H1
                  clear H1
                  obtain rfl := Option.some.inj H
                  go_wp2
                  go_ret
                  exact ⟨by first | rfl | (simp; done) | (simp [*]; done), by repeat (first | exact Drawn0.refl _ | apply Drawn0.step)⟩
                · replace c9 := Bool.eq_false_iff.mpr c9
                  subst c9
                  have H1 : (if 0 ≤ x11_1 then (if x11_1 ≤ (l1.length : Int) then (clique_Is.l1 kj5 l0 l1 (rd l1 x11_1) l1 (l1.length : Int) x11_1 (l1.take (x11_1 : Int).toNat) ((l1.take (x11_1 : Int).toNat).length : Int) 0) else (none)) else (none)) = some r := by rw [if_neg (show ¬ (false = true) by decide)] at H; exact H
                  clear H
                  have H := H1
                  clear H1
                  by_cases c10 : 0 ≤ x11_1
                  · rw [if_pos c10] at H
                    have c10b0 := eq_true c10
                    have c10b1 : decide (0 ≤ x11_1) = true := decide_eq_true c10
                    clear c10
                    by_cases c11 : x11_1 ≤ (l1.length : Int)
                    · rw [if_pos c11] at H
                      have c11b0 := eq_true c11
                      have c11b1 : decide (x11_1 ≤ (l1.length : Int)) = true := decide_eq_true c11
                      clear c11
                      have H' := Aside0.mk H
                      clear H
                      obtain ⟨i012, hi012, _, hsz12, _⟩ := info_parts info3
                      have LT12_ : Aside0 (((l1.take (x11_1 : Int).toNat).length : Int) = max x11_1 0) := by
                        have hp_ : 0 ≤ (x11_1 : Int) := of_decide_eq_true (by first | (with_reducible assumption) | assumption)
                        have hq_ : x11_1 ≤ (l1.length : Int) := by first | exact of_decide_eq_true (by first | (with_reducible assumption) | assumption) | exact Int.le_of_lt (of_decide_eq_true (by first | (with_reducible assumption) | assumption))
                        exact ⟨by rw [List.length_take]; omega⟩
                      obtain ⟨hcut12, hA12, hC12⟩ := print_take_of (P := Try.prog) (Value.int .i64) 0 25 3 .i64 Try.underlying25 hi012 hsz12 (some ad103) c1 l1 x11_1 (of_decide_eq_true (by first | (with_reducible assumption) | assumption)) (of_decide_eq_true (by first | (with_reducible assumption) | assumption)) HC1.out
                      have HR105 := Aside0.mk (Kd.C_of_reads (h1 := fun _ => rfl) (hA12 _ (Kd.reads_of_C HR1.out)))
                      have HC105 := Aside0.mk hC12
                      clear hA12 hC12 hi012 hsz12
                      go_wp2
                      go_loopg [28] kj5 (fun kq v28 w' => ∃ (x28_3 : Int), v28 = .int .i64 x28_3 ∧ Aside0 (clique_Is.l1 kq l0 l1 (rd l1 x11_1) l1 (l1.length : Int) x11_1 (l1.take (x11_1 : Int).toNat) ((l1.take (x11_1 : Int).toNat).length : Int) x28_3 = some r) ∧ Aside0 (kq ≤ kj5) ∧ Drawn0 w w')
                      case atStart => exact ⟨(0), (by first | rfl | (simp; done) | (simp [*]; done)), H', ⟨Nat.le_refl _⟩, by repeat (first | exact Drawn0.refl _ | apply Drawn0.step)⟩
                      case round =>
                        clear H'
                        try clear c1
                        try clear p1
                        try clear q1
                        try clear hx1
                        try clear p2
                        try clear c3
                        try clear c3b0
                        try clear c4
                        try clear c4b0
                        try clear c5
                        try clear c5b0
                        try clear c7
                        try clear c7b0
                        try clear c9
                        try clear c10
                        try clear c10b0
                        try clear c10b1
                        try clear p10
                        try clear q10
                        try clear hx10
                        try clear c11
                        try clear c11b0
                        try clear c11b1
                        try clear hx103_0
                        try clear p1
                        try clear p103
                        try clear p2
                        try clear q1
                        try clear q103
                        obtain ⟨x28_3, rfl, HA, HK3, ⟨m3, rfl⟩⟩ := hrel
                        cases gk with
                        | zero => exact absurd HA.out (by simp [clique_Is.l1])
                        | succ k3 =>
                          have H := HA.out
                          clear HA
                          simp only [clique_Is.l1] at H
                          by_cases c13 : x28_3 < ((l1.take (x11_1 : Int).toNat).length : Int)
                          · rw [if_pos c13] at H
                            have c13b0 : decide (x28_3 < ((l1.take (x11_1 : Int).toNat).length : Int)) = true := decide_eq_true c13
                            have c13b0x_ : decide (x28_3 < max x11_1 0) = true := by rw [← LT12_.out]; exact c13b0
                            clear c13
                            by_cases c14 : 0 ≤ x28_3
                            · rw [if_pos c14] at H
                              have c14b0 : decide (0 ≤ x28_3) = true := decide_eq_true c14
                              clear c14
                              by_cases c15 : x28_3 < ((l1.take (x11_1 : Int).toNat).length : Int)
                              · rw [if_pos c15] at H
                                have c15b0 : decide (x28_3 < ((l1.take (x11_1 : Int).toNat).length : Int)) = true := decide_eq_true c15
                                have c15b0x_ : decide (x28_3 < max x11_1 0) = true := by rw [← LT12_.out]; exact c15b0
                                clear c15
                                replace H := Option.bind_eq_some_iff.mp H
                                obtain ⟨t107, A160, H⟩ := H
                                replace H : (if t107 = true then (clique_Is.l1 k3 l0 l1 (rd l1 x11_1) l1 (l1.length : Int) x11_1 (l1.take (x11_1 : Int).toNat) ((l1.take (x11_1 : Int).toNat).length : Int) (wrap64 (x28_3 + 1))) else (some false)) = some r := H
                                have A16 := Aside0.mk A160
                                clear A160
                                by_cases c17 : t107 = true
                                · subst c17
                                  have H1 : (clique_Is.l1 k3 l0 l1 (rd l1 x11_1) l1 (l1.length : Int) x11_1 (l1.take (x11_1 : Int).toNat) ((l1.take (x11_1 : Int).toNat).length : Int) (wrap64 (x28_3 + 1))) = some r := by rw [if_pos rfl] at H; exact H
                                  clear H
                                  have H := H1
                                  clear H1
                                  have H' := Aside0.mk H
                                  clear H
                                  have p106 : 0 ≤ (x28_3 : Int) := of_decide_eq_true (by first | (with_reducible assumption) | assumption)
                                  have q106 : x28_3 < ((l1.take (x11_1 : Int).toNat).length : Int) := of_decide_eq_true (by first | (with_reducible assumption) | assumption)
                                  have q106x_ : (x28_3 < max x11_1 0) = True := eq_true (by rw [← LT12_.out]; exact q106)
                                  obtain ⟨ad106, e106, hx106_0⟩ := Kd.at_int HR105.out x28_3 p106 q106
                                  obtain rfl : ad103 = ad106 := (by injection e106)
                                  replace p106 := eq_true p106
                                  replace q106 := eq_true q106
                                  go_wp2_with (first | ((with_reducible refine gate_callee (f := 67) rfl ?_); refine goesL_ (some 35) rfl rfl Try.func67 (by kernel_rfl) rfl #[.pointer A0, .int .i64 (rd l1 x11_1), .int .i64 (rd (l1.take (x11_1 : Int).toNat) x28_3)] rfl (by (try simp only [List.map_toArray, List.map_cons, List.map_nil]); first | done | rfl | (simp only [List.length_drop, List.length_take]; rfl)) ?_; (with_reducible refine (graph_Graph_Has.calls _ c0 l0 (rd l1 x11_1) (rd (l1.take (x11_1 : Int).toNat) x28_3) true _ ?side1 ?side2 A16.out).mono ?_); (case side1 => repeat (first | exact HR0.out | (with_reducible refine IsGr.alloc ?_ _) | (with_reducible refine IsGr.drewN ?_ _) | (with_reducible refine IsGr.drew ?_) | (with_reducible refine Kd.C_alloc ?_ _) | (with_reducible refine Kd.C_drewN ?_ _) | (with_reducible refine Kd.C_drew ?_))); (case side2 => exact HC0.out); rintro e w' ⟨rfl, ⟨nd, rfl⟩⟩; refine ⟨_, rfl, ?_⟩))
                                  go_roundg k3
                                  case measure => have := HK1.out; have := HJ5.out; have := HK3.out; omega
                                  case rel => exact ⟨(wrap64 (x28_3 + 1)), (by first | rfl | (simp; done) | (simp [*]; done)), H', ⟨by have := HK1.out; have := HJ5.out; have := HK3.out; omega⟩, by repeat (first | exact Drawn0.refl _ | apply Drawn0.step)⟩
                                · replace c17 := Bool.eq_false_iff.mpr c17
                                  subst c17
                                  have H1 : (some false) = some r := by rw [if_neg (show ¬ (false = true) by decide)] at H; exact H
                                  clear H
                                  have H := H1
                                  clear H1
                                  obtain rfl := Option.some.inj H
                                  have p106 : 0 ≤ (x28_3 : Int) := of_decide_eq_true (by first | (with_reducible assumption) | assumption)
                                  have q106 : x28_3 < ((l1.take (x11_1 : Int).toNat).length : Int) := of_decide_eq_true (by first | (with_reducible assumption) | assumption)
                                  have q106x_ : (x28_3 < max x11_1 0) = True := eq_true (by rw [← LT12_.out]; exact q106)
                                  obtain ⟨ad106, e106, hx106_0⟩ := Kd.at_int HR105.out x28_3 p106 q106
                                  obtain rfl : ad103 = ad106 := (by injection e106)
                                  replace p106 := eq_true p106
                                  replace q106 := eq_true q106
                                  go_wp2_with (first | ((with_reducible refine gate_callee (f := 67) rfl ?_); refine goesL_ (some 35) rfl rfl Try.func67 (by kernel_rfl) rfl #[.pointer A0, .int .i64 (rd l1 x11_1), .int .i64 (rd (l1.take (x11_1 : Int).toNat) x28_3)] rfl (by (try simp only [List.map_toArray, List.map_cons, List.map_nil]); first | done | rfl | (simp only [List.length_drop, List.length_take]; rfl)) ?_; (with_reducible refine (graph_Graph_Has.calls _ c0 l0 (rd l1 x11_1) (rd (l1.take (x11_1 : Int).toNat) x28_3) false _ ?side1 ?side2 A16.out).mono ?_); (case side1 => repeat (first | exact HR0.out | (with_reducible refine IsGr.alloc ?_ _) | (with_reducible refine IsGr.drewN ?_ _) | (with_reducible refine IsGr.drew ?_) | (with_reducible refine Kd.C_alloc ?_ _) | (with_reducible refine Kd.C_drewN ?_ _) | (with_reducible refine Kd.C_drew ?_))); (case side2 => exact HC0.out); rintro e w' ⟨rfl, ⟨nd, rfl⟩⟩; refine ⟨_, rfl, ?_⟩))
                                  go_ret
                                  exact ⟨by first | rfl | (simp; done) | (simp [*]; done), by repeat (first | exact Drawn0.refl _ | apply Drawn0.step)⟩
                              · rw [if_neg c15] at H
                                exact absurd H (by simp)
                            · rw [if_neg c14] at H
                              exact absurd H (by simp)
                          · rw [if_neg c13] at H
                            have c13b0 : decide (x28_3 < ((l1.take (x11_1 : Int).toNat).length : Int)) = false := decide_eq_false c13
                            have c13b0x_ : decide (x28_3 < max x11_1 0) = false := by rw [← LT12_.out]; exact c13b0
                            clear c13
                            have H' := Aside0.mk H
                            clear H
                            go_wp2
                            go_roundg k3
                            case measure => have := HK1.out; have := HJ5.out; have := HK3.out; omega
                            case rel => exact ⟨(wrap64 (x11_1 + 1)), (by first | rfl | (simp; done) | (simp [*]; done)), H', ⟨by have := HK1.out; have := HJ5.out; have := HK3.out; omega⟩, by repeat (first | exact Drawn0.refl _ | apply Drawn0.step)⟩
                    · rw [if_neg c11] at H
                      exact absurd H (by simp)
                  · rw [if_neg c10] at H
                    exact absurd H (by simp)
          · rw [if_neg c5] at H
            exact absurd H (by simp)
        · rw [if_neg c4] at H
          exact absurd H (by simp)
      · rw [if_neg c3] at H
        have c3b0 : decide (x11_1 < (l1.length : Int)) = false := decide_eq_false c3
        clear c3
        obtain rfl := Option.some.inj H
        go_wp2
        go_ret
        exact ⟨by first | rfl | (simp; done) | (simp [*]; done), by repeat (first | exact Drawn0.refl _ | apply Drawn0.step)⟩

-- printed before: function 57 (bits_short)

-- NOT PRINTED: function 18 (bits_All)

-- NOT PRINTED: function 21 (bits_List)

-- given: function 68 (graph_Graph_Near)

/-! ### clique_Right: function 38 -/
-- given: function 35 (clique_Grow)

-- given: function 36 (clique_Colour)

-- given: function 40 (clique_Colours)

-- given: function 69 (graph_Graph_Shell)

end Go.Proofs.Ytbmnnmcnmfgbaaa.PK
end
section
-- Printed by wip/printbase.py (the session's caller of the kit's printer) out of the translation. Not trusted: Lean checks it.
namespace Go.Proofs.Ytbmnnmcnmfgbaaa.PK
open Go.RowKit Go.Proofs.YtbmnnmcnmfgbaaaW.PrintWords Go.Proofs.YtbmnnmcnmfgbaaaW.PrintLast Go.Proofs.YtbmnnmcnmfgbaaaW.PrintMore
attribute [local go_sem] max2_int min2_int max_two min_two max_three min_three max_four min_four   -- for this text's walks alone
open Go.Proofs.Ytbmnnmcnmfgbaaa.PB
open Go.Proofs.Ytbmnnmcnmfgbaaa.PG
set_option linter.unusedVariables false
set_option linter.unusedSimpArgs false

/-! ### slices_Reverse_int_int: function 70 -/
def slices_Reverse_int_int.l0 : Nat → List Int → Int → Int → Option (List Int)
  | 0, _, _, _ => none
  | k + 1, x0, x2, x3 => if x2 < x3 then (if 0 ≤ x3 then (if x3 < (x0.length : Int) then (if 0 ≤ x2 then (if x2 < (x0.length : Int) then (slices_Reverse_int_int.l0 k ((x0.set (x2 : Int).toNat (rd x0 x3)).set (x3 : Int).toNat (rd x0 x2)) (wrap64 (x2 + 1)) (wrap64 (x3 - 1))) else (none)) else (none)) else (none)) else (none)) else (some x0)
def slices_Reverse_int_int.f (k : Nat) (l0 : List Int) : Option (List Int) := slices_Reverse_int_int.l0 k l0 0 (wrap64 ((l0.length : Int) - 1))
def slices_Reverse_int_int.T3 : Bool × List (List Nat × List Nat) := (true, [([], []), ([], []), ([], []), ([], []), ([], []), ([], []), ([4, 5], [4, 5]), ([6], [6]), ([], []), ([], []), ([8, 9], [8, 9]), ([10], [10]), ([0, 1, 0, 1, 4, 5, 6, 7, 11], [0, 1]), ([12, 7, 0, 1, 4, 5, 6, 7, 11], [7, 12]), ([2, 3, 0, 1, 2, 3, 4, 5, 6, 7, 8, 9, 10, 11, 12, 13], [2, 3]), ([14, 11, 13, 0, 1, 2, 3, 4, 5, 6, 7, 8, 9, 10, 11, 12, 13], [11, 14])])
def slices_Reverse_int_int.B3 : List Nat := [0, 0, 0, 0, 0, 0, 48, 112, 0, 0, 768, 1792, 4083, 8179, 16383, 32767]
theorem slices_Reverse_int_int.tab3 : rtab .any (opsOf Try.f70 3) = slices_Reverse_int_int.T3 := by kernel_rfl
theorem slices_Reverse_int_int.bits3 : waitsOk slices_Reverse_int_int.T3.2 slices_Reverse_int_int.B3 = true := by kernel_rfl
set_option maxHeartbeats 8000000 in
set_option maxRecDepth 100000 in
theorem slices_Reverse_int_int.calls (k : Nat) (P0_ : Nat → Prop) (u9000_ : Value) (l0 : List Int) (r : List Int) (w0 w : World) (hB : Below w0.heap.size w0 w) (ho0 : Kd.R (Kd.int .i64) 3 w w0.heap.size P0_ u9000_ l0) (h : slices_Reverse_int_int.f k l0 = some r) :
    Calls Try.prog 70 #[u9000_] w fun e w' => e = .returned (.tuple #[]) ∧ Kd.R (Kd.int .i64) 3 w' w0.heap.size (fun k_ => (P0_ k_ ∨ w.heap.size ≤ k_)) u9000_ r ∧ Below w0.heap.size w0 w' ∧ Kept w w' (fun k_ => P0_ k_) := by
  have HO0 := Aside0.mk (show Kd.R (Kd.int .i64) 3 w w0.heap.size (fun k_ => (P0_ k_ ∨ w.heap.size ≤ k_)) u9000_ l0 from Kd.R_mono ho0 (fun k_ hk => (.inl hk)))
  have HK := Aside0.mk (Kept.refl w (fun k_ => P0_ k_))
  have HW0 := Aside0.mk hB.size
  have HB := Aside0.mk hB
  clear hB
  have H : (slices_Reverse_int_int.l0 k l0 0 (wrap64 ((l0.length : Int) - 1))) = some r := h
  clear h
  have H' := Aside0.mk H
  clear H
  obtain ⟨Ao2, co2, eo2⟩ := Kd.R_slice HO0.out
  subst eo2
  go_enter Try.func70, Try.ntmps70
  go_wp2
  go_loopg [2, 3] k (fun kq v2 v3 w' => ∃ (x0_1 : List Int) (x2_1 : Int) (x3_1 : Int), v2 = .int .i64 x2_1 ∧ v3 = .int .i64 x3_1 ∧ Aside0 (slices_Reverse_int_int.l0 kq x0_1 x2_1 x3_1 = some r) ∧ Aside0 (kq ≤ k) ∧ Aside0 (Kd.R (Kd.int .i64) 3 w' w0.heap.size (fun k_ => (P0_ k_ ∨ w.heap.size ≤ k_)) (.slice Ao2 l0.length co2) x0_1) ∧ Aside0 (Kept w w' (fun k_ => P0_ k_)) ∧ Aside0 (Below w0.heap.size w0 w'))
  case atStart => exact ⟨(l0), (0), (wrap64 ((l0.length : Int) - 1)), (by first | rfl | (simp; done) | (simp [*]; done)), (by first | rfl | (simp; done) | (simp [*]; done)), H', ⟨Nat.le_refl _⟩, ⟨by (with_reducible repeat (first | apply Kd.R_alloc | apply Kd.R_drewN | apply Kd.R_drew)); exact HO0.out⟩, ⟨by repeat (first | (with_reducible first | exact HK.out | apply Kept.alloc | apply Kept.drewN | apply Kept.drew) | exact HK.out)⟩, ⟨by repeat (first | (with_reducible first | exact HB.out | apply below_alloc | apply pw_below_drewN | apply below_drew1) | exact HB.out)⟩⟩
  case round =>
    clear H'
    try clear p2
    obtain ⟨x0_1, x2_1, x3_1, rfl, rfl, HA, HK1, HO_0, HK, HB⟩ := hrel
    have hl0_1 := (Kd.R_reads' HO_0.out).1
    rw [hl0_1] at HO_0
    (try simp only [hl0_1])
    cases gk with
    | zero => exact absurd HA.out (by simp [slices_Reverse_int_int.l0])
    | succ k1 =>
      have H := HA.out
      clear HA
      simp only [slices_Reverse_int_int.l0] at H
      by_cases c3 : x2_1 < x3_1
      · rw [if_pos c3] at H
        have c3b0 : decide (x2_1 < x3_1) = true := decide_eq_true c3
        clear c3
        by_cases c4 : 0 ≤ x3_1
        · rw [if_pos c4] at H
          have c4b0 : decide (0 ≤ x3_1) = true := decide_eq_true c4
          clear c4
          by_cases c5 : x3_1 < (x0_1.length : Int)
          · rw [if_pos c5] at H
            have c5b0 : decide (x3_1 < (x0_1.length : Int)) = true := decide_eq_true c5
            clear c5
            by_cases c6 : 0 ≤ x2_1
            · rw [if_pos c6] at H
              have c6b0 : decide (0 ≤ x2_1) = true := decide_eq_true c6
              clear c6
              by_cases c7 : x2_1 < (x0_1.length : Int)
              · rw [if_pos c7] at H
                have c7b0 : decide (x2_1 < (x0_1.length : Int)) = true := decide_eq_true c7
                clear c7
                obtain ⟨y132, hy132⟩ : ∃ y_ : List Int, y_ = (x0_1.set (x2_1 : Int).toNat (rd x0_1 x3_1)) := ⟨_, rfl⟩
                replace H : (slices_Reverse_int_int.l0 k1 (y132.set (x3_1 : Int).toNat (rd x0_1 x2_1)) (wrap64 (x2_1 + 1)) (wrap64 (x3_1 - 1))) = some r := by first | (rw [hy132]; with_reducible exact H) | (have H2_ := (Option.bind_some _ _).symm.trans H; rw [hy132]; with_reducible exact H2_) | (have H2_ := (Option.bind_some _ _).symm.trans H; with_reducible exact H2_) | with_reducible exact H | (rw [hy132]; exact H) | exact H
                have Ny132 := Aside0.mk hy132
                clear hy132
                obtain ⟨y133, hy133⟩ : ∃ y_ : List Int, y_ = (y132.set (x3_1 : Int).toNat (rd x0_1 x2_1)) := ⟨_, rfl⟩
                replace H : (slices_Reverse_int_int.l0 k1 y133 (wrap64 (x2_1 + 1)) (wrap64 (x3_1 - 1))) = some r := by first | (rw [hy133]; with_reducible exact H) | (have H2_ := (Option.bind_some _ _).symm.trans H; rw [hy133]; with_reducible exact H2_) | (have H2_ := (Option.bind_some _ _).symm.trans H; with_reducible exact H2_) | with_reducible exact H | (rw [hy133]; exact H) | exact H
                have Ny133 := Aside0.mk hy133
                clear hy133
                have H' := Aside0.mk H
                clear H
                try go_wp2
                have n0_ := Aside0.mk (Kd.R_drew HO_0.out)
                have n1_ := Aside0.mk (Kept.drew HK.out)
                have n2_ := Aside0.mk (below_drew1 HB.out)
                clear HO_0
                clear HK
                clear HB
                have HO_0 := n0_
                have HK := n1_
                have HB := n2_
                clear n0_ n1_ n2_
                have p130 : 0 ≤ (x3_1 : Int) := of_decide_eq_true (by first | (with_reducible assumption) | assumption)
                have q130 : x3_1 < (x0_1.length : Int) := of_decide_eq_true (by first | (with_reducible assumption) | assumption)
                obtain ⟨ad130, e130, hx130_0⟩ := Kd.at_int (Kd.R_reads' HO_0.out).2.2 x3_1 p130 q130
                cases e130
                replace p130 := eq_true p130
                replace q130 := eq_true q130
                have p131 : 0 ≤ (x2_1 : Int) := of_decide_eq_true (by first | (with_reducible assumption) | assumption)
                have q131 : x2_1 < (x0_1.length : Int) := of_decide_eq_true (by first | (with_reducible assumption) | assumption)
                obtain ⟨ad131, e131, hx131_0⟩ := Kd.at_int (Kd.R_reads' HO_0.out).2.2 x2_1 p131 q131
                obtain rfl : ad130 = ad131 := (by injection e131)
                replace p131 := eq_true p131
                replace q131 := eq_true q131
                have p8 : 0 ≤ (x2_1 : Int) := of_decide_eq_true (by first | (with_reducible assumption) | assumption)
                have q8 : (x2_1 : Int) < ((x0_1.length : Int) : Int) := of_decide_eq_true (by first | (with_reducible assumption) | assumption)
                obtain ⟨go8, co8, eo8, gb8, gl8, cl8, HG8⟩ := Kd.R_form HO_0.out (by omega)
                (first | cases eo8 | (injection eo8 with ea_ en_ ec_; (first | subst ea_ | (injection ea_ with ea_; subst ea_)); subst ec_; clear en_))
                have GB8 := Aside0.mk gb8
                have GG8 := Aside0.mk HG8
                clear gb8 gl8 HG8
                have HMgo8 := Aside0.mk (show (P0_ go8 ∨ w.heap.size ≤ go8) from (HO_0.out.1 _ rfl))
                (first | simp only [add_plain] at hx130_0 | skip)
                (first | simp only [add_plain] at hx131_0 | skip)
                obtain ⟨hx8_0, hf8_0⟩ := Kd.R_celln 0 HO_0.out (x2_1 : Int) p8 q8
                replace p8 := eq_true p8
                replace q8 := eq_true q8
                have HP11 := Kd.R_putn HO_0.out (x2_1 : Int) (rd x0_1 x3_1)
                rw [← Ny132.out] at HP11
                have HQ11 := Aside0.mk HP11
                clear HP11
                have p9 : 0 ≤ (x3_1 : Int) := of_decide_eq_true (by first | (with_reducible assumption) | assumption)
                have q9 : (x3_1 : Int) < ((x0_1.length : Int) : Int) := of_decide_eq_true (by first | (with_reducible assumption) | assumption)
                obtain ⟨hx9_0, hf9_0⟩ := Kd.R_celln 0 HQ11.out (x3_1 : Int) p9 q9
                replace p9 := eq_true p9
                replace q9 := eq_true q9
                have HP12 := Kd.R_putn HQ11.out (x3_1 : Int) (rd x0_1 x2_1)
                rw [← Ny133.out] at HP12
                have HQ12 := Aside0.mk HP12
                clear HP12
                refine start_ (n := 16) (S := fun w' => w'.cell? ⟨go8, (x3_1).toNat, none⟩ = some (.int .i64 (rd x0_1 x3_1)) ∧ w'.cell? ⟨go8, (x2_1).toNat, none⟩ = some (.int .i64 (rd x0_1 x2_1))) (ds := [13, 15]) #[false, false, false, false, false, false, false, false, false, false, false, false, false, false, false, false] (by kernel_rfl) rfl rfl ⟨hx130_0, hx131_0⟩ (fun hHeld => ?_); refine with_tabW slices_Reverse_int_int.tab3 slices_Reverse_int_int.bits3 (fun HT_ HW_ => ?_)
                generalize wr.drew = w10 at HO_0 HK HB GG8 HQ11 HQ12 hf8_0 hf9_0 hx130_0 hx131_0 hx8_0 hx9_0 hHeld ⊢
                refine pure_ (i := 0) (N := some 14) (v := ?_) (a' := ?_) #[true, false, false, false, false, false, false, false, false, false, false, false, false, false, false, false] rfl rfl (any_of HT_.out (by kernel_rfl)) (fun _ _ _ h => h) (Or.inl ⟨by rfl, ?_⟩) ?_ ?_
                rotate_left
                · intro w'
                  go_simp
                  with_reducible rfl
                rotate_left
                · simp only [Act.put, List.setIfInBounds_toArray, List.set_cons_zero, List.set_cons_succ, i64_w, i32_w]
                  rfl
                refine pure_ (i := 1) (N := some 15) (v := ?_) (a' := ?_) #[true, true, false, false, false, false, false, false, false, false, false, false, false, false, false, false] rfl rfl (any_of HT_.out (by kernel_rfl)) (fun _ _ _ h => h) (Or.inl ⟨by rfl, ?_⟩) ?_ ?_
                rotate_left
                · intro w'
                  go_simp
                  with_reducible rfl
                rotate_left
                · simp only [Act.put, List.setIfInBounds_toArray, List.set_cons_zero, List.set_cons_succ, i64_w, i32_w]
                  rfl
                refine pure_ (i := 2) (N := some 16) (v := ?_) (a' := ?_) #[true, true, true, false, false, false, false, false, false, false, false, false, false, false, false, false] rfl rfl (any_of HT_.out (by kernel_rfl)) (fun _ _ _ h => h) (Or.inl ⟨by rfl, ?_⟩) ?_ ?_
                rotate_left
                · intro w'
                  go_simp
                  with_reducible rfl
                rotate_left
                · simp only [Act.put, List.setIfInBounds_toArray, List.set_cons_zero, List.set_cons_succ, i64_w, i32_w]
                  rfl
                refine pure_ (i := 3) (N := some 17) (v := ?_) (a' := ?_) #[true, true, true, true, false, false, false, false, false, false, false, false, false, false, false, false] rfl rfl (any_of HT_.out (by kernel_rfl)) (fun _ _ _ h => h) (Or.inl ⟨by rfl, ?_⟩) ?_ ?_
                rotate_left
                · intro w'
                  go_simp
                  with_reducible rfl
                rotate_left
                · simp only [Act.put, List.setIfInBounds_toArray, List.set_cons_zero, List.set_cons_succ, i64_w, i32_w]
                  rfl
                refine pure_ (i := 4) (N := some 18) (v := ?_) (a' := ?_) #[true, true, true, true, true, false, false, false, false, false, false, false, false, false, false, false] rfl rfl (any_of HT_.out (by kernel_rfl)) (fun _ _ _ h => h) (Or.inl ⟨by rfl, ?_⟩) ?_ ?_
                rotate_left
                · intro w'
                  go_simp
                  with_reducible rfl
                rotate_left
                · simp only [Act.put, List.setIfInBounds_toArray, List.set_cons_zero, List.set_cons_succ, i64_w, i32_w]
                  rfl
                refine pure_ (i := 5) (N := some 19) (v := ?_) (a' := ?_) #[true, true, true, true, true, true, false, false, false, false, false, false, false, false, false, false] rfl rfl (any_of HT_.out (by kernel_rfl)) (fun _ _ _ h => h) (Or.inl ⟨by rfl, ?_⟩) ?_ ?_
                rotate_left
                · intro w'
                  go_simp
                  with_reducible rfl
                rotate_left
                · simp only [Act.put, List.setIfInBounds_toArray, List.set_cons_zero, List.set_cons_succ, i64_w, i32_w]
                  rfl
                refine pure_ (i := 6) (N := some 20) (v := ?_) (a' := ?_) #[true, true, true, true, true, true, true, false, false, false, false, false, false, false, false, false] rfl rfl (any_of HT_.out (by kernel_rfl)) (fun _ _ _ h => h) (Or.inl ⟨by rfl, ?_⟩) ?_ ?_
                rotate_left
                · intro w'
                  go_simp
                  with_reducible rfl
                rotate_left
                · simp only [Act.put, List.setIfInBounds_toArray, List.set_cons_zero, List.set_cons_succ, i64_w, i32_w]
                  rfl
                refine pure_ (i := 8) (N := some 22) (v := ?_) (a' := ?_) #[true, true, true, true, true, true, true, false, true, false, false, false, false, false, false, false] rfl rfl (any_of HT_.out (by kernel_rfl)) (fun _ _ _ h => h) (Or.inl ⟨by rfl, ?_⟩) ?_ ?_
                rotate_left
                · intro w'
                  go_simp
                  with_reducible rfl
                rotate_left
                · simp only [Act.put, List.setIfInBounds_toArray, List.set_cons_zero, List.set_cons_succ, i64_w, i32_w]
                  rfl
                refine pure_ (i := 9) (N := some 23) (v := ?_) (a' := ?_) #[true, true, true, true, true, true, true, false, true, true, false, false, false, false, false, false] rfl rfl (any_of HT_.out (by kernel_rfl)) (fun _ _ _ h => h) (Or.inl ⟨by rfl, ?_⟩) ?_ ?_
                rotate_left
                · intro w'
                  go_simp
                  with_reducible rfl
                rotate_left
                · simp only [Act.put, List.setIfInBounds_toArray, List.set_cons_zero, List.set_cons_succ, i64_w, i32_w]
                  rfl
                refine pure_ (i := 10) (N := some 24) (v := ?_) (a' := ?_) #[true, true, true, true, true, true, true, false, true, true, true, false, false, false, false, false] rfl rfl (any_of HT_.out (by kernel_rfl)) (fun _ _ _ h => h) (Or.inl ⟨by rfl, ?_⟩) ?_ ?_
                rotate_left
                · intro w'
                  go_simp
                  with_reducible rfl
                rotate_left
                · simp only [Act.put, List.setIfInBounds_toArray, List.set_cons_zero, List.set_cons_succ, i64_w, i32_w]
                  rfl
                refine take_ (i := 7) (N := some 21) (v := ?_) (a' := ?_) #[true, true, true, true, true, true, true, true, true, true, true, false, false, false, false, false] rfl rfl (take_ofW HT_.out HW_.out (by kernel_rfl)) (fun _ _ _ h => h) (Or.inl ⟨by rfl, ?_⟩) hHeld ?_ ?_
                rotate_left
                · rintro w' ⟨s0, s1⟩
                  go_simp
                  with_reducible rfl
                rotate_left
                · simp only [Act.put, List.setIfInBounds_toArray, List.set_cons_zero, List.set_cons_succ, i64_w, i32_w]
                  rfl
                refine take_ (i := 11) (N := some 25) (v := ?_) (a' := ?_) #[true, true, true, true, true, true, true, true, true, true, true, true, false, false, false, false] rfl rfl (take_ofW HT_.out HW_.out (by kernel_rfl)) (fun _ _ _ h => h) (Or.inl ⟨by rfl, ?_⟩) hHeld ?_ ?_
                rotate_left
                · rintro w' ⟨s0, s1⟩
                  go_simp
                  with_reducible rfl
                rotate_left
                · simp only [Act.put, List.setIfInBounds_toArray, List.set_cons_zero, List.set_cons_succ, i64_w, i32_w]
                  rfl
                refine pure_ (i := 12) (N := some 26) (v := ?_) (a' := ?_) #[true, true, true, true, true, true, true, true, true, true, true, true, true, false, false, false] rfl rfl (any_of HT_.out (by kernel_rfl)) (fun _ _ _ h => h) (Or.inl ⟨by rfl, ?_⟩) ?_ ?_
                rotate_left
                · intro w'
                  go_simp
                  with_reducible rfl
                rotate_left
                · simp only [Act.put, List.setIfInBounds_toArray, List.set_cons_zero, List.set_cons_succ, i64_w, i32_w]
                  rfl
                refine last_ (i := 13) (N := none) #[true, true, true, true, true, true, true, true, true, true, true, true, true, true, false, false] rfl rfl (one_of HT_.out (by kernel_rfl)) (by decide) (fun K hK => ?_)
                refine skip_ (w1 := ?_) (by rfl) rfl ?_ ?_
                rotate_left
                · go_simp
                  rfl
                refine hK.out _ _ ?_
                clear hK K
                refine pure_ (i := 14) (N := some 27) (v := ?_) (a' := ?_) #[true, true, true, true, true, true, true, true, true, true, true, true, true, true, true, false] rfl rfl (any_of HT_.out (by kernel_rfl)) (fun _ _ _ h => h) (Or.inl ⟨by rfl, ?_⟩) ?_ ?_
                rotate_left
                · intro w'
                  go_simp
                  with_reducible rfl
                rotate_left
                · simp only [Act.put, List.setIfInBounds_toArray, List.set_cons_zero, List.set_cons_succ, i64_w, i32_w]
                  rfl
                refine last_ (i := 15) (N := none) #[true, true, true, true, true, true, true, true, true, true, true, true, true, true, true, true] rfl rfl (one_of HT_.out (by kernel_rfl)) (by decide) (fun K hK => ?_)
                refine skip_ (w1 := ?_) (by rfl) rfl ?_ ?_
                rotate_left
                · go_simp
                  rfl
                refine hK.out _ _ ?_
                clear hK K
                refine done_ (done_of HT_.out (by kernel_rfl)) ?_
                try go_wp2
                (try simp only [← hl0_1])
                go_roundg k1
                case measure => have := HK1.out; omega
                case rel => exact ⟨(y133), (wrap64 (x2_1 + 1)), (wrap64 (x3_1 - 1)), (by first | rfl | (simp; done) | (simp [*]; done)), (by first | rfl | (simp; done) | (simp [*]; done)), H', ⟨by have := HK1.out; omega⟩, ⟨by (try simp only [hl0_1]); (with_reducible repeat (first | apply Kd.R_alloc | apply Kd.R_drewN | apply Kd.R_drew)); exact HQ12.out⟩, ⟨by repeat (first | (with_reducible first | exact HK.out | apply Kept.alloc | apply Kept.drewN | apply Kept.drew | refine Kept.setCell ?_ HMgo8.out _ | refine Kept.setCell ?_ HMgo8.out _) | exact HK.out)⟩, ⟨by repeat (first | (with_reducible first | exact HB.out | apply below_alloc | apply pw_below_drewN | apply below_drew1 | refine below_set ?_ GB8.out | refine below_set ?_ GB8.out) | exact HB.out)⟩⟩
              · rw [if_neg c7] at H
                exact absurd H (by simp)
            · rw [if_neg c6] at H
              exact absurd H (by simp)
          · rw [if_neg c5] at H
            exact absurd H (by simp)
        · rw [if_neg c4] at H
          exact absurd H (by simp)
      · rw [if_neg c3] at H
        have c3b0 : decide (x2_1 < x3_1) = false := decide_eq_false c3
        clear c3
        obtain rfl := Option.some.inj H
        go_wp2
        first | go_end0 | ((try simp only [Exit.inBlock, Exit.then]); refine bodyPost_ret (results_none rfl _ _ _) rfl ?_)
        exact ⟨by first | rfl | (simp [errW_none, errW_some] <;> rfl) | (simp [*, errW_none, errW_some] <;> rfl), (by first | exact (by (with_reducible repeat (first | apply Kd.R_alloc | apply Kd.R_drewN | apply Kd.R_drew)); exact HO_0.out) | (simp only [hl0_1]; exact (by (with_reducible repeat (first | apply Kd.R_alloc | apply Kd.R_drewN | apply Kd.R_drew)); exact HO_0.out))), by repeat (first | (with_reducible first | exact HB.out | apply below_alloc | apply pw_below_drewN | apply below_drew1) | exact HB.out), by repeat (first | (with_reducible first | exact HK.out | apply Kept.alloc | apply Kept.drewN | apply Kept.drew) | exact HK.out)⟩

/-! ### clique_Bounds: function 42 -/
noncomputable def clique_Bounds.f (k : Nat) (l0 : List (List Int)) : Option (Int × Int) := (graph_Graph_Shell.f l0).bind fun t134 => ((slices_Reverse_int_int.f k t134).bind fun t137 => ((clique_Grow.f l0 t137).bind fun t138 => ((clique_Colour.f l0 t137).bind fun t141 => ((clique_Colours.f t141).bind fun t144 => (some ((t138.length : Int), t144))))))
set_option maxHeartbeats 8000000 in
set_option maxRecDepth 100000 in
theorem clique_Bounds.calls (k : Nat) (A0 : Option Addr) (c0 : Nat) (l0 : List (List Int)) (r1 : Int) (r2 : Int) (w : World) (hr0 : IsGr w A0 l0) (hc0 : l0.length ≤ c0) (h : clique_Bounds.f k l0 = some (r1, r2)) :
    Calls Try.prog 42 #[.pointer A0] w fun e w' => e = .returned (.tuple #[.int .i64 r1, .int .i64 r2]) ∧ Below w.heap.size w w' := by
  have HR0 := Aside0.mk hr0
  have HC0 := Aside0.mk hc0
  clear hr0 hc0
  have HB := Aside0.mk (Below.refl w.heap.size w)
  have H : ((graph_Graph_Shell.f l0).bind fun t134 => ((slices_Reverse_int_int.f k t134).bind fun t137 => ((clique_Grow.f l0 t137).bind fun t138 => ((clique_Colour.f l0 t137).bind fun t141 => ((clique_Colours.f t141).bind fun t144 => (some ((t138.length : Int), t144))))))) = some (r1, r2) := h
  clear h
  replace H := Option.bind_eq_some_iff.mp H
  obtain ⟨t134, A20, H⟩ := H
  replace H : ((slices_Reverse_int_int.f k t134).bind fun t137 => ((clique_Grow.f l0 t137).bind fun t138 => ((clique_Colour.f l0 t137).bind fun t141 => ((clique_Colours.f t141).bind fun t144 => (some ((t138.length : Int), t144)))))) = some (r1, r2) := H
  have A2 := Aside0.mk A20
  clear A20
  replace H := Option.bind_eq_some_iff.mp H
  obtain ⟨t137, A30, H⟩ := H
  replace H : ((clique_Grow.f l0 t137).bind fun t138 => ((clique_Colour.f l0 t137).bind fun t141 => ((clique_Colours.f t141).bind fun t144 => (some ((t138.length : Int), t144))))) = some (r1, r2) := H
  have A3 := Aside0.mk A30
  clear A30
  replace H := Option.bind_eq_some_iff.mp H
  obtain ⟨t138, A40, H⟩ := H
  replace H : ((clique_Colour.f l0 t137).bind fun t141 => ((clique_Colours.f t141).bind fun t144 => (some ((t138.length : Int), t144)))) = some (r1, r2) := H
  have A4 := Aside0.mk A40
  clear A40
  replace H := Option.bind_eq_some_iff.mp H
  obtain ⟨t141, A50, H⟩ := H
  replace H : ((clique_Colours.f t141).bind fun t144 => (some ((t138.length : Int), t144))) = some (r1, r2) := H
  have A5 := Aside0.mk A50
  clear A50
  replace H := Option.bind_eq_some_iff.mp H
  obtain ⟨t144, A60, H⟩ := H
  replace H : (some ((t138.length : Int), t144)) = some (r1, r2) := H
  have A6 := Aside0.mk A60
  clear A60
  simp only [Option.some.injEq, Prod.mk.injEq] at H
  obtain ⟨rfl, rfl⟩ := H
  go_enter Try.func42, Try.ntmps42
  go_wp2_with (first | ((with_reducible refine gate_callee (f := 69) rfl ?_); refine goesL_ (some 6) rfl rfl Try.func69 (by kernel_rfl) rfl #[.pointer A0] rfl (by (try simp only [List.map_toArray, List.map_cons, List.map_nil]); first | done | rfl | (simp only [List.length_drop, List.length_take]; rfl)) ?_; (with_reducible refine (graph_Graph_Shell.calls _ c0 l0 t134 _ ?side1 ?side2 A2.out).mono ?_); (case side1 => repeat (first | exact HR0.out | (with_reducible refine IsGr.alloc ?_ _) | (with_reducible refine IsGr.drewN ?_ _) | (with_reducible refine IsGr.drew ?_) | (with_reducible refine Kd.C_alloc ?_ _) | (with_reducible refine Kd.C_drewN ?_ _) | (with_reducible refine Kd.C_drew ?_))); (case side2 => exact HC0.out); rintro e w7 ⟨v135, rfl, ho0, hb⟩; refine ⟨_, rfl, ?_⟩; have n0_ := Aside0.mk (Kd.R_lower ho0 (below_size (by repeat (first | (with_reducible first | exact HB.out | apply below_alloc | apply pw_below_drewN | apply below_drew1) | exact HB.out)))); have n1_ := Aside0.mk (below_step (by repeat (first | (with_reducible first | exact HB.out | apply below_alloc | apply pw_below_drewN | apply below_drew1) | exact HB.out)) hb); clear HB; have HO136 := n0_; have HB := n1_; clear n0_ n1_; (try clear hb); (try clear hb2); (try clear hk); (try clear hi); (try clear ho0); obtain ⟨Ao8, co8, eo8⟩ := Kd.R_slice HO136.out; subst eo8) | ((with_reducible refine gate_callee (f := 70) rfl ?_); refine goesL_ (some 8) rfl rfl Try.func70 (by kernel_rfl) rfl #[.slice Ao8 t134.length co8] rfl (by (try simp only [List.map_toArray, List.map_cons, List.map_nil]); first | done | rfl | (simp only [List.length_drop, List.length_take]; rfl)) ?_; (with_reducible refine (slices_Reverse_int_int.calls k (fun k_ => some k_ = (.slice Ao8 t134.length co8 : Value).ownBlock) (.slice Ao8 t134.length co8) t134 t137 w _ ?side1 ?side2 A3.out).mono ?_); (case side1 => repeat (first | (with_reducible first | exact HB.out | apply below_alloc | apply pw_below_drewN | apply below_drew1) | exact HB.out)); (case side2 => exact Kd.R_tight rfl HO136.out); rintro e w9 ⟨rfl, hy0, hb, hkp⟩; refine ⟨_, rfl, ?_⟩; have n0_ := Aside0.mk (Kd.R_reok rfl hy0 (fun k_ e_ => HO136.out.1 k_ e_)); have n1_ := Aside0.mk (hb); clear HO136; clear HB; have HO136 := n0_; have HB := n1_; clear n0_ n1_; (try clear hb); (try clear hkp); (try clear hy0)) | ((with_reducible refine gate_callee (f := 35) rfl ?_); refine goesL_ (some 11) rfl rfl Try.func35 (by kernel_rfl) rfl #[.pointer A0, .slice Ao8 t137.length co8] rfl (by (try simp only [List.map_toArray, List.map_cons, List.map_nil]); first | done | (rw [show t137.length = t134.length from (Kd.R_reads' HO136.out).1.symm] <;> rfl) | rfl | (simp only [List.length_drop, List.length_take]; rfl)) ?_; (with_reducible refine (clique_Grow.calls _ c0 l0 _ _ t137 t138 _ ?side1 ?side2 ?side3 ?side4 A4.out).mono ?_); (case side1 => repeat (first | exact (IsGr.below HR0.out HB.out) | (with_reducible refine IsGr.alloc ?_ _) | (with_reducible refine IsGr.drewN ?_ _) | (with_reducible refine IsGr.drew ?_) | (with_reducible refine Kd.C_alloc ?_ _) | (with_reducible refine Kd.C_drewN ?_ _) | (with_reducible refine Kd.C_drew ?_))); (case side2 => exact HC0.out); (case side3 => repeat (first | exact (Kd.R_reads' HO136.out).2.2 | (with_reducible refine Kd.C_alloc ?_ _) | (with_reducible refine Kd.C_drewN ?_ _) | (with_reducible refine Kd.C_drew ?_))); (case side4 => rw [show t137.length = t134.length from (Kd.R_reads' HO136.out).1.symm]; exact (Kd.R_reads' HO136.out).2.1); rintro e w10 ⟨v139, rfl, ho0, hb⟩; refine ⟨_, rfl, ?_⟩; have n0_ := Aside0.mk (Kd.R_elder' (by (with_reducible repeat (first | apply Kd.R_alloc | apply Kd.R_drewN | apply Kd.R_drew)); exact HO136.out) (Kd.R_base ho0) hb); have n1_ := Aside0.mk (Kd.R_lower (Kd.R_new' ho0 (Kd.R_lt (by (with_reducible repeat (first | apply Kd.R_alloc | apply Kd.R_drewN | apply Kd.R_drew)); exact HO136.out))) (below_size (by repeat (first | (with_reducible first | exact HB.out | apply below_alloc | apply pw_below_drewN | apply below_drew1) | exact HB.out)))); have n2_ := Aside0.mk (below_step (by repeat (first | (with_reducible first | exact HB.out | apply below_alloc | apply pw_below_drewN | apply below_drew1) | exact HB.out)) hb); clear HO136; clear HB; have HO136 := n0_; have HO140 := n1_; have HB := n2_; clear n0_ n1_ n2_; (try clear hb); (try clear hb2); (try clear hk); (try clear hi); (try clear ho0); obtain ⟨Ao11, co11, eo11⟩ := Kd.R_slice HO140.out; subst eo11) | ((with_reducible refine gate_callee (f := 36) rfl ?_); refine goesL_ (some 15) rfl rfl Try.func36 (by kernel_rfl) rfl #[.pointer A0, .slice Ao8 t137.length co8] rfl (by (try simp only [List.map_toArray, List.map_cons, List.map_nil]); first | done | (rw [show t137.length = t134.length from (Kd.R_reads' HO136.out).1.symm] <;> rfl) | rfl | (simp only [List.length_drop, List.length_take]; rfl)) ?_; (with_reducible refine (clique_Colour.calls _ c0 l0 _ _ t137 t141 _ ?side1 ?side2 ?side3 ?side4 A5.out).mono ?_); (case side1 => repeat (first | exact (IsGr.below HR0.out HB.out) | (with_reducible refine IsGr.alloc ?_ _) | (with_reducible refine IsGr.drewN ?_ _) | (with_reducible refine IsGr.drew ?_) | (with_reducible refine Kd.C_alloc ?_ _) | (with_reducible refine Kd.C_drewN ?_ _) | (with_reducible refine Kd.C_drew ?_))); (case side2 => exact HC0.out); (case side3 => repeat (first | exact (Kd.R_reads' HO136.out).2.2 | (with_reducible refine Kd.C_alloc ?_ _) | (with_reducible refine Kd.C_drewN ?_ _) | (with_reducible refine Kd.C_drew ?_))); (case side4 => rw [show t137.length = t134.length from (Kd.R_reads' HO136.out).1.symm]; exact (Kd.R_reads' HO136.out).2.1); rintro e w12 ⟨v142, rfl, ho0, hb⟩; refine ⟨_, rfl, ?_⟩; have n0_ := Aside0.mk (Kd.R_elder' (by (with_reducible repeat (first | apply Kd.R_alloc | apply Kd.R_drewN | apply Kd.R_drew)); exact HO136.out) (Kd.R_base ho0) hb); have n1_ := Aside0.mk (Kd.R_elder' (by (with_reducible repeat (first | apply Kd.R_alloc | apply Kd.R_drewN | apply Kd.R_drew)); exact HO140.out) (Kd.R_base ho0) hb); have n2_ := Aside0.mk (Kd.R_lower (Kd.R_new' (Kd.R_new' ho0 (Kd.R_lt (by (with_reducible repeat (first | apply Kd.R_alloc | apply Kd.R_drewN | apply Kd.R_drew)); exact HO136.out))) (Kd.R_lt (by (with_reducible repeat (first | apply Kd.R_alloc | apply Kd.R_drewN | apply Kd.R_drew)); exact HO140.out))) (below_size (by repeat (first | (with_reducible first | exact HB.out | apply below_alloc | apply pw_below_drewN | apply below_drew1) | exact HB.out)))); have n3_ := Aside0.mk (below_step (by repeat (first | (with_reducible first | exact HB.out | apply below_alloc | apply pw_below_drewN | apply below_drew1) | exact HB.out)) hb); clear HO136; clear HO140; clear HB; have HO136 := n0_; have HO140 := n1_; have HO143 := n2_; have HB := n3_; clear n0_ n1_ n2_ n3_; (try clear hb); (try clear hb2); (try clear hk); (try clear hi); (try clear ho0); obtain ⟨Ao13, co13, eo13⟩ := Kd.R_slice HO143.out; subst eo13) | ((with_reducible refine gate_callee (f := 40) rfl ?_); refine goesL_ (some 16) rfl rfl Try.func40 (by kernel_rfl) rfl #[.slice Ao13 t141.length co13] rfl (by (try simp only [List.map_toArray, List.map_cons, List.map_nil]); first | done | rfl | (simp only [List.length_drop, List.length_take]; rfl)) ?_; (with_reducible refine (clique_Colours.calls _ _ t141 t144 _ ?side1 ?side2 A6.out).mono ?_); (case side1 => repeat (first | exact (Kd.R_reads' HO143.out).2.2 | (with_reducible refine Kd.C_alloc ?_ _) | (with_reducible refine Kd.C_drewN ?_ _) | (with_reducible refine Kd.C_drew ?_))); (case side2 => exact (Kd.R_reads' HO143.out).2.1); rintro e w14 ⟨rfl, hb⟩; refine ⟨_, rfl, ?_⟩; have n0_ := Aside0.mk (Kd.R_below (by (with_reducible repeat (first | apply Kd.R_alloc | apply Kd.R_drewN | apply Kd.R_drew)); exact HO136.out) hb); have n1_ := Aside0.mk (Kd.R_below (by (with_reducible repeat (first | apply Kd.R_alloc | apply Kd.R_drewN | apply Kd.R_drew)); exact HO140.out) hb); have n2_ := Aside0.mk (Kd.R_below (by (with_reducible repeat (first | apply Kd.R_alloc | apply Kd.R_drewN | apply Kd.R_drew)); exact HO143.out) hb); have n3_ := Aside0.mk (below_step (by repeat (first | (with_reducible first | exact HB.out | apply below_alloc | apply pw_below_drewN | apply below_drew1) | exact HB.out)) hb); clear HO136; clear HO140; clear HO143; clear HB; have HO136 := n0_; have HO140 := n1_; have HO143 := n2_; have HB := n3_; clear n0_ n1_ n2_ n3_; (try clear hb); (try clear hb2); (try clear hk); (try clear hi)))
  go_ret2
  exact ⟨by first | rfl | (simp [errW_none, errW_some] <;> rfl) | (simp [*, errW_none, errW_some] <;> rfl), by repeat (first | (with_reducible first | exact HB.out | apply below_alloc | apply pw_below_drewN | apply below_drew1) | exact HB.out)⟩

end Go.Proofs.Ytbmnnmcnmfgbaaa.PK
end
section
/-
  What clique.Is, clique.Right and ref14.Has compute, as plain conditions.
-/
namespace Go.Proofs.Ytbmnnmcnmfgbaaa.PG
open Go.RowKit Go.Shelf Go.Proofs.YtbmnnmcnmfgbaaaW.PrintWords Go.Proofs.YtbmnnmcnmfgbaaaW.PrintLast Go.Proofs.YtbmnnmcnmfgbaaaW.PrintMore
open Go.Proofs.Ytbmnnmcnmfgbaaa.PB Go.Proofs.Ytbmnnmcnmfgbaaa.PC Go.Proofs.Ytbmnnmcnmfgbaaa.PK
set_option linter.unusedVariables false
set_option linter.unusedSimpArgs false
theorem wrap_nat (i n : Nat) (h : i < n) (hn : n < 4611686018427387904) : wrap64 ((i : Int) + 1) = ((i + 1 : Nat) : Int) := by
  unfold wrap64; omega
theorem rd_mem (l : List Int) (i : Nat) (h : i < l.length) : rd l (i : Int) ∈ l := by
  rw [rd_nat, List.getD_eq_getElem?_getD, List.getElem?_eq_getElem h]; exact List.getElem_mem h
def isL (nbs : List (List Int)) (l : List Int) : Bool := (List.range' 0 l.length).all fun i => isB nbs (rd l (i : Int)) && (List.range' 0 i).all fun j => hasB nbs (rd l (i : Int)) (rd l (j : Int))
theorem has14_l0 (l : List Int) (x : Int) (hl : l.length < 4611686018427387904) : ∀ m i, i + m = l.length → ∃ k, horariumref14_Has.l0 k l x (i : Int) = some ((l.drop i).any fun y => decide (y = x))
  | 0, i, hi => by
    refine ⟨1, ?_⟩
    simp only [horariumref14_Has.l0]
    rw [if_neg (by omega), List.drop_of_length_le (by omega)]; rfl
  | m + 1, i, hi => by
    obtain ⟨k, hk⟩ := has14_l0 l x hl m (i + 1) (by omega)
    refine ⟨k + 1, ?_⟩
    have hlt : i < l.length := by omega
    have e : l.drop i = rd l (i : Int) :: l.drop (i + 1) := by
      rw [List.drop_eq_getElem_cons hlt, rd_nat, List.getD_eq_getElem?_getD, List.getElem?_eq_getElem hlt]; rfl
    simp only [horariumref14_Has.l0]
    rw [if_pos (by omega), if_pos (Int.natCast_nonneg i), e, List.any_cons]
    by_cases c : rd l (i : Int) = x
    · rw [if_pos c]; simp [c]
    · rw [if_neg c, wrap_nat i l.length hlt hl, hk]; simp [c]
theorem has14_f (l : List Int) (x : Int) (hl : l.length < 4611686018427387904) : ∃ k, horariumref14_Has.f k l x = some (decide (x ∈ l)) := by
  obtain ⟨k, hk⟩ := has14_l0 l x hl l.length 0 (by omega)
  refine ⟨k, hk.trans ?_⟩
  congr 1
  rw [List.drop_zero, Bool.eq_iff_iff]; simp
end Go.Proofs.Ytbmnnmcnmfgbaaa.PG
end
