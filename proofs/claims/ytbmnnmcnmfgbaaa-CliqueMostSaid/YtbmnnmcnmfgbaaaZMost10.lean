/-
  Put together by slim.py of this session out of the session's own texts (YtbmnnmcnmfgbaaaLawCliqueMost and what it reaches): declarations that nothing kept names are left out. Conditions: none beyond those of the law's row.
-/
import Derived.Lib.SliceRun
import Derived.Laws.StructEq
import Derived.Test.YtbmnnmcnmfgbaaaZMost9
import Derived.Test.YtbmnnmcnmfgbaaaZMost2
import Derived.Test.YtbmnnmcnmfgbaaaZMost0
import Derived.Test.YtbmnnmcnmfgbaaaZMost3
import Derived.Test.YtbmnnmcnmfgbaaaZMost4
import Derived.Test.YtbmnnmcnmfgbaaaZMost6
import Derived.Test.YtbmnnmcnmfgbaaaZMost1
import Derived.Test.YtbmnnmcnmfgbaaaZMost7
import Derived.Test.YtbmnnmcnmfgbaaaZMost8
section
/-
  clique's search for the greatest clique: Clone, from, Greatest.
-/
namespace Go.Proofs.Ytbmnnmcnmfgbaaa.PG
open Go.RowKit Go.Shelf Go.Proofs.YtbmnnmcnmfgbaaaW.PrintWords Go.Proofs.YtbmnnmcnmfgbaaaW.PrintLast Go.Proofs.YtbmnnmcnmfgbaaaW.PrintMore
open Go.Proofs.Ytbmnnmcnmfgbaaa.PB
set_option linter.unusedVariables false
set_option linter.unusedSimpArgs false

theorem reads_int {w : World} {A : Option Addr} {n : Nat} {xs : List Int} (h : Kd.C (Kd.int .i64) w A n xs) : ReadsInt w .i64 A n xs := by
  refine ⟨h.1, h.2.1, fun h0 => ?_⟩
  obtain ⟨ad, e, _⟩ := Kd.at_int h 0 (by omega) (by omega)
  refine ⟨ad, e, fun j hj => ?_⟩
  obtain ⟨ad', e', hc⟩ := Kd.at_int h (j : Int) (by omega) (by omega)
  rw [e] at e'
  injection e' with e'
  subst e'
  rw [Int.toNat_natCast] at hc
  rw [hc]
  simp [rd]

set_option maxRecDepth 100000 in
set_option maxHeartbeats 1000000 in
theorem clone_calls (A : Option Addr) (c : Nat) (l : List Int) (w : World) (hr : Kd.C (Kd.int .i64) w A l.length l) (hl : l.length ≤ 1000000) :
    Calls Try.prog 77 #[.slice A l.length c] w fun e w' => ∃ v, e = .returned v ∧ w'.ownsRow w.heap.size 3 1 v l.length (nums .i64 l) ∧ Below w.heap.size w w' := by
  rcases A with _ | ad
  · have h0 : l = [] := by
      rcases l with _ | ⟨x, r⟩
      · rfl
      · obtain ⟨ad, e, _⟩ := Kd.at_int hr 0 (by omega) (by simp)
        cases e
    subst h0
    have he := fun w => Lib.run_eql_slice_nil (P := Try.prog) w 25 3 none 0 c 0 0 Try.underlying25
    clear hr hl
    go_enter Try.func77, Try.ntmps77
    go_wp2
    go_ret
    exact ⟨_, rfl, own_nil _ _ _ _, Below.refl _ _⟩
  · have HR := Aside0.mk hr
    have HL := Aside0.mk hl
    have HE : Aside0 ((w.alloc (.cells #[] 3)).ownsRow w.heap.size 3 1 (.slice (some ⟨w.heap.size, 0, none⟩) 0 0) ([] : List Int).length (nums .i64 [])) := ⟨by
      have := own_lit w w.heap.size 3 .i64 [] (Nat.le_refl _) (by simp)
      simpa [nums] using this⟩
    have HBe := Aside0.mk (below_alloc (Below.refl w.heap.size w) (.cells #[] 3))
    have he := fun w => Lib.run_eql_slice_nil (P := Try.prog) w 25 3 (some ad) l.length c 0 0 Try.underlying25
    clear hr hl
    go_enter Try.func77, Try.ntmps77
    go_wp2_with (at_builtin; go_loud (refine print_append_row (w0 := w) w.heap.size rfl _ _ 25 3 .i64 8 rfl Try.underlying25 info3 (by decide) _ [] l (some ad) l.length c rfl rfl HE.out (reads_int (Kd.C_below HR.out HBe.out)) HBe.out HBe.out.size (by have := HL.out; simp; omega) ?_); intro v1 w1 ho1 hb1 hg1 hat1)
    go_ret
    exact ⟨_, rfl, ho1, hb1⟩
/-! ### from -/
/-- The round of from: f is the search one step deeper. -/
def goL (nbs : List (List Int)) (f : List Int → List Int → List Int → List Int) (l : List Int) : List Int → List Int → List Int
  | [], best => best
  | a :: rest, best => if l.length + (rest.length + 1) ≤ best.length then best else goL nbs f l rest (f best (l ++ [a]) (rest.filter fun b => hasB nbs a b))
/-- The search: d is more than the number of those that may come. -/
def fromL (nbs : List (List Int)) : Nat → List Int → List Int → List Int → List Int
  | 0, best, _, _ => best
  | d + 1, best, l, may => goL nbs (fromL nbs d) l may (if best.length < l.length then l else best)
/-- The search's variable. -/
structure SAt (w : World) (base sb : Nat) (A0 : Option Addr) (best : List Int) (vb : Value) : Prop where
  head : w.heap[sb]? = some (.cells #[.pointer A0, vb] 88 (0, 0))
  own : w.ownsRow base 3 1 vb best.length (nums .i64 best)
theorem pred_lt {j m n : Nat} (h : Aside0 (j + m = n)) (hj : j < n) : m - 1 < m := by
  have := h.out; omega
theorem next_eq {j m n : Nat} (h : Aside0 (j + m = n)) (hj : j < n) : Aside0 (j + 1 + (m - 1) = n) := ⟨by have := h.out; omega⟩
theorem pred_lt' {j m n : Nat} (h : Aside0 (j + m = n)) (hj : j < n) : n - j - 1 < m := by
  have := h.out; omega
theorem next_eq' {j m n : Nat} (h : Aside0 (j + m = n)) (hj : j < n) : Aside0 (j + 1 + (n - j - 1) = n) := ⟨by omega⟩
theorem goL_len (nbs : List (List Int)) (f : List Int → List Int → List Int → List Int) (l : List Int) (hf : ∀ best a next, (f best (l ++ [a]) next).length ≤ max best.length (l.length + 1 + next.length)) : ∀ (may best : List Int), (goL nbs f l may best).length ≤ max best.length (l.length + may.length)
  | [], best => by rw [goL]; omega
  | a :: rest, best => by
    rw [goL]
    split
    · omega
    · have h1 := goL_len nbs f l hf rest (f best (l ++ [a]) (rest.filter fun b => hasB nbs a b))
      have h2 := hf best a (rest.filter fun b => hasB nbs a b)
      have h3 := List.length_filter_le (fun b => hasB nbs a b) rest
      rw [List.length_cons]; omega
theorem fromL_len (nbs : List (List Int)) : ∀ (d : Nat) (best l may : List Int), (fromL nbs d best l may).length ≤ max best.length (l.length + may.length)
  | 0, best, l, may => by rw [fromL]; omega
  | d + 1, best, l, may => by
    rw [fromL]
    have h := goL_len nbs (fromL nbs d) l (fun best a next => by
      have := fromL_len nbs d best (l ++ [a]) next
      rw [List.length_append, List.length_singleton] at this
      exact this) may (if best.length < l.length then l else best)
    split at h <;> split <;> omega
theorem own_cap {w : World} {base n c : Nat} {e : TypeId} {A : Option Addr} {xs : List Value} (h : w.ownsRow base e 1 (.slice A n c) n xs) : n ≤ c := by
  rcases h.2 with ⟨h', h0⟩ | ⟨g, cap, cur, h', _, _, h1, _⟩
  · omega
  · injection h' with _ _ h'
    omega
theorem grown_type {w w' : World} {sb : Nat} (hg : w.grownBy w' (some sb)) {k : Nat} {c : Array Value} {t : TypeId} {c' : Array Value} {t' : TypeId} (hs : w.heap[sb]? = some (.cells c' t' (0, 0))) (h : w.heap[k]? = some (.cells c t (0, 0))) (hne : t ≠ t') : w'.heap[k]? = some (.cells c t (0, 0)) := by
  have hk : k ≠ sb := fun e => by
    subst e
    rw [hs] at h
    injection h with h
    injection h with _ h _
    exact hne h.symm
  exact (hg.block k (lt_of_block h) (fun e => hk (Option.some.inj e))).trans h
theorem own_grown {w w' : World} {sb : Nat} (hg : w.grownBy w' (some sb)) {c' : Array Value} {t' : TypeId} (hs : w.heap[sb]? = some (.cells c' t' (0, 0))) {base n : Nat} {e : TypeId} {v : Value} {xs : List Value} (h : w.ownsRow base e 1 v n xs) (hne : e ≠ t') : w'.ownsRow base e 1 v n xs := by
  refine own_move h (fun k hk => ?_)
  obtain ⟨cells, hc⟩ := own_typed h k hk
  exact (grown_type hg hs hc hne).trans hc.symm
theorem IsGr.grown {w w' : World} {sb : Nat} {A : Option Addr} {l : List (List Int)} (h : IsGr w A l) (hg : w.grownBy w' (some sb)) {c' : Array Value} (hs : w.heap[sb]? = some (.cells c' 88 (0, 0))) : IsGr w' A l := by
  obtain ⟨base, h1, h2⟩ := h
  refine ⟨base, ?_, h2⟩
  rcases h1 with h1 | ⟨g, h1, h3, h4⟩ | ⟨g, gr, vs, h1, h3⟩
  · exact .inl h1
  · exact .inr (.inl ⟨g, h1, grown_type hg hs h3 (by decide), h4⟩)
  · exact .inr (.inr ⟨g, gr, vs, h1, h3.g_base, h3.gr_base, h3.len, grown_type hg hs h3.head (by decide), grown_type hg hs h3.row (by decide), fun i hi => own_grown hg hs (h3.own i hi) (by decide)⟩)

theorem SAt.store {w w1 : World} {base sb : Nat} {A0 : Option Addr} {best l : List Int} {vb v : Value} (hS : SAt w base sb A0 best vb) (hb : Below w.heap.size w w1) (ho : w1.ownsRow base 3 1 v l.length (nums .i64 l)) :
    SAt (w1.setCell ⟨sb, 1, none⟩ v) base sb A0 l v ∧ w.grownBy (w1.setCell ⟨sb, 1, none⟩ v) (some sb) := by
  have hh := (hb.block sb (lt_of_block hS.head)).trans hS.head
  refine ⟨⟨?_, ?_⟩, hb.os, hb.tape, hb.output, by rw [Go.Deep.nblk_setCell]; exact hb.size, fun k hk hne => ?_⟩
  · rw [heap_set hh]; rfl
  · refine own_move ho (fun k hk => Go.Deep.blk_setCell_other _ _ _ _ (fun e => ?_))
    obtain ⟨cells, hc⟩ := own_typed ho k hk
    have e' : k = sb := e
    subst e'
    rw [hh] at hc
    injection hc with hc
    injection hc with _ hc _
    exact absurd hc (by decide)
  · exact (Go.Deep.blk_setCell_other _ _ _ _ (fun e => hne (congrArg some e))).trans (hb.block k hk)
def FromPost (w : World) (base sb : Nat) (A0 : Option Addr) (R : List Int) : Ending → World → Prop := fun e w' => e = .returned (.tuple #[]) ∧ (∃ vb, SAt w' base sb A0 R vb) ∧ w.grownBy w' (some sb)
def FromAt (nbs : List (List Int)) (d : Nat) : Prop := ∀ (base sb : Nat) (A0 : Option Addr) (best : List Int) (vb : Value) (l may : List Int) (vl vm : Value) (w : World), IsGr w A0 nbs → SAt w base sb A0 best vb → base ≤ w.heap.size →
  w.ownsRow base 3 1 vl l.length (nums .i64 l) → w.ownsRow base 3 1 vm may.length (nums .i64 may) → may.length < d → l.length + may.length ≤ 1000 → best.length ≤ 1000 → (∀ b ∈ may, 0 ≤ b ∧ b < 9223372036854775808) →
  Calls Try.prog 71 #[.pointer (some ⟨sb, 0, none⟩), vl, vm] w (FromPost w base sb A0 (fromL nbs d best l may))

set_option maxRecDepth 100000 in
set_option maxHeartbeats 1000000 in
theorem from_calls (nbs : List (List Int)) : ∀ d, FromAt nbs d := by
  intro d
  induction d with
  | zero => intro base sb A0 best vb l may vl vm w _ _ _ _ _ h; omega
  | succ d ih =>
    intro base sb A0 best vb l may vl vm w hG hS hbase hl hm hd hlen hbl hmay
    obtain ⟨Ab, cb, rfl, _⟩ := own_reads hS.own
    obtain ⟨Al, cl, rfl, hrl⟩ := own_reads hl
    obtain ⟨Am, cm, rfl, hrm⟩ := own_reads hm
    have HG := Aside0.mk hG
    have HS := Aside0.mk hS
    have HL := Aside0.mk hl
    have HMY := Aside0.mk hm
    have HLEN := Aside0.mk (And.intro hlen (And.intro hbl (And.intro hd hbase)))
    have HBN := Aside0.mk hmay
    have IH := Aside0.mk ih
    have hc0 : w.cell? ⟨sb, 0, none⟩ = some (.pointer A0) := by have := cell_of_row0 hS.head 0 (by simp); simpa using this
    have hc1 : w.cell? ⟨sb, 1, none⟩ = some (.slice Ab best.length cb) := by have := cell_of_row0 hS.head 1 (by simp); simpa using this
    have hf1 : w.frozen? ⟨sb, 1, none⟩ = false := by simp [World.frozen?, hS.head]
    clear hG hS hl hm hlen hbl hd hbase hmay ih hrl hrm
    by_cases hlt : best.length < l.length
    · have hR : goL nbs (fromL nbs d) l may l = fromL nbs (d + 1) best l may := by rw [fromL, if_pos hlt]
      have HRR := Aside0.mk hR
      clear hR
      obtain ⟨A2, c2, el2, hl2, hC2⟩ := Kd.R_reads (Kd.R_of_own (ok := fun _ => True) HL.out (fun _ _ => trivial))
      injection el2 with el2 _ elc2
      subst el2
      subst elc2
      have HCC := Aside0.mk hC2
      clear hC2
      go_enter Try.func71, Try.ntmps71
      go_wp2_with fail
      refine (clone_calls _ _ l _ HCC.out (by have := HLEN.out; omega)).mono ?_
      rintro e w1 ⟨v1, rfl, ho1, hb1⟩
      obtain ⟨A1', c1', rfl, _⟩ := own_reads ho1
      have hc1' := pw_cell_below hb1 hc1
      have hf1' : w1.frozen? ⟨sb, 1, none⟩ = false := by
        have := (hb1.block sb (lt_of_block HS.out.head)).trans HS.out.head
        simp [World.frozen?, this]
      have HST := Aside0.mk (HS.out.store hb1 (own_weaken ho1 HLEN.out.2.2.2))
      clear ho1 hb1 hc0 hc1 hf1
      go_wp2
      go_loopg [26] may.length (fun m i wr => ∃ (q : Nat) (bq : List Int) (vq : Value), Aside0 (q + m = may.length) ∧ i = .int .i64 q ∧ Aside0 (SAt wr base sb A0 bq vq) ∧ Aside0 (w.grownBy wr (some sb)) ∧ Aside0 (goL nbs (fromL nbs d) l (may.drop q) bq = fromL nbs (d + 1) best l may) ∧ Aside0 (bq.length ≤ 1000))
      case atStart => exact ⟨0, l, _, ⟨by omega⟩, rfl, ⟨HST.out.1⟩, ⟨HST.out.2⟩, ⟨by rw [List.drop_zero]; exact HRR.out⟩, ⟨by have := HLEN.out.1; omega⟩⟩
      case round =>
        obtain ⟨q, bq, vq, HQ, rfl, HSQ, HGQ, HRQ, HBQ⟩ := hrel
        have HMQ := Aside0.mk (own_grown HGQ.out HS.out.head HMY.out (by decide))
        have HLQ := Aside0.mk (own_grown HGQ.out HS.out.head HL.out (by decide))
        have HIQ := Aside0.mk (HG.out.grown HGQ.out HS.out.head)
        obtain ⟨Aq, cq, rfl, _⟩ := own_reads HSQ.out.own
        have hq0 : wr.cell? ⟨sb, 0, none⟩ = some (.pointer A0) := by have := cell_of_row0 HSQ.out.head 0 (by simp); simpa using this
        have hq1 : wr.cell? ⟨sb, 1, none⟩ = some (.slice Aq bq.length cq) := by have := cell_of_row0 HSQ.out.head 1 (by simp); simpa using this
        have HQ0 := Aside0.mk (And.intro hq0 hq1)
        by_cases hqn : q < may.length
        · obtain ⟨Am', cm', em, hrm⟩ := own_reads HMQ.out
          obtain ⟨adm, em', hcm⟩ := hrm.at_ (q : Int) (by omega) (by omega)
          rw [Int.toNat_natCast] at hcm
          have hcap := own_cap HMQ.out
          obtain ⟨a, ha⟩ : ∃ a, rd may (q : Int) = a := ⟨_, rfl⟩
          rw [ha] at hcm
          injection em with em _ emc
          subst em
          subst emc
          subst em'
          have hdrop : may.drop q = a :: may.drop (q + 1) := by
            rw [List.drop_eq_getElem_cons hqn]
            congr 1
            rw [← ha]; simp [rd, hqn]
          have HDR := Aside0.mk hdrop
          have HWQ : Aside0 (wrap64 ((q : Int) + 1) = ((q + 1 : Nat) : Int)) := ⟨by have := HLEN.out; unfold wrap64; omega⟩
          have hwA : wrap64 ((l.length : Int) + (may.length : Int)) = (l.length : Int) + (may.length : Int) := by have := HLEN.out; unfold wrap64; omega
          have hwB : wrap64 ((l.length : Int) + (may.length : Int) - (q : Int)) = (l.length : Int) + (may.length : Int) - (q : Int) := by have := HLEN.out; unfold wrap64; omega
          obtain ⟨p, hp⟩ : ∃ p, q + 1 = p := ⟨_, rfl⟩
          have hw1 : wrap64 ((q : Int) + 1) = (p : Int) := by have := HLEN.out; unfold wrap64; omega
          have HP := Aside0.mk hp
          have HCAP := Aside0.mk hcap
          have HA := Aside0.mk ha
          clear hdrop ha hcap hrm hp
          by_cases hc : l.length + (may.length - q) ≤ bq.length
          · have hdec : decide ((l.length : Int) + (may.length : Int) - (q : Int) ≤ (bq.length : Int)) = true := decide_eq_true (by omega)
            have HC := Aside0.mk hc
            clear hc
            go_wp2
            (try simp only [Exit.inBlock, Exit.then])
            refine bodyPost_ret (results_none rfl _ _ _) rfl ?_
            have e := HRQ.out
            rw [HDR.out, goL, if_pos (by have := HC.out; rw [List.length_drop]; omega)] at e
            have hfin := HSQ.out
            rw [e] at hfin
            exact ⟨rfl, ⟨_, hfin⟩, HGQ.out⟩
          · have hdec : decide ((l.length : Int) + (may.length : Int) - (q : Int) ≤ (bq.length : Int)) = false := decide_eq_false (by omega)
            have HC := Aside0.mk hc
            obtain ⟨i0, hi, _, hsz, _⟩ := info_parts info3
            obtain ⟨A1, hcut, hA1⟩ := print_cut (P := Try.prog) 25 3 .i64 Try.underlying25 hi hsz (some adm) may.length cm p (by have := HP.out; omega)
            obtain ⟨nl, hnl⟩ : ∃ x, may.length - p = x := ⟨_, rfl⟩
            rw [hnl] at hcut hA1
            obtain ⟨rest, hrest⟩ : ∃ x, may.drop p = x := ⟨_, rfl⟩
            have hrl : rest.length = nl := by rw [← hrest, List.length_drop]; exact hnl
            have HA1 := Aside0.mk hA1
            have HRS := Aside0.mk (And.intro hrest hrl)
            have HNL := Aside0.mk hnl
            clear hc hA1 hi hsz hnl hrest hrl
            go_wp2
            go_loopg [49, 8] nl (fun m i v w2 => ∃ j : Nat, Aside0 (j + m = nl) ∧ i = .int .i64 j ∧ Aside0 (w2.ownsRow wr.heap.size 3 1 v ((rest.take j).filter fun b => hasB nbs a b).length (nums .i64 ((rest.take j).filter fun b => hasB nbs a b))) ∧ Aside0 (Below wr.heap.size wr w2))
            case atStart => exact ⟨0, ⟨by omega⟩, rfl, ⟨own_nil _ _ _ _⟩, ⟨Below.refl _ _⟩⟩
            case round =>
              obtain ⟨j, HJ, rfl, H8, HB8⟩ := hrel
              by_cases hj : j < nl
              · have hrd := HA1.out wr .i64 may HCAP.out ((own_reads (pw_own_below HMQ.out HB8.out)).elim fun _ h => h.elim fun _ h => by obtain ⟨e, h⟩ := h; injection e with e _ _; subst e; exact h)
                have hrst := HRS.out.1
                have HRL := HRS.out.2
                have HPP := HP.out
                rw [hrst] at hrd
                obtain ⟨ad8, e8, hc8⟩ := hrd.at_ (j : Int) (by omega) (by omega)
                subst e8
                rw [Int.toNat_natCast] at hc8
                obtain ⟨b, hb⟩ : ∃ b, rd rest (j : Int) = b := ⟨_, rfl⟩
                rw [hb] at hc8
                have htk : rest.take (j + 1) = rest.take j ++ [b] := by rw [take_snoc rest j (by omega), hb]
                have hbm : b ∈ may := by
                  have : b ∈ rest := by rw [← hb, show rd rest (j : Int) = rest[j]'(by omega) from by simp [rd, show j < rest.length by omega]]; exact List.getElem_mem _
                  rw [← hrst] at this
                  exact List.mem_of_mem_drop this
                have HBB := Aside0.mk (HBN.out b hbm)
                have HTK := Aside0.mk htk
                have hw2 : wrap64 ((j : Int) + 1) = ((j + 1 : Nat) : Int) := wrap_succ (n := nl) (by have := HLEN.out; have := HNL.out; ((try clear hwA); (try clear hwB); (try clear hw1); (try clear hw2); (try clear hdec); omega)) hj
                obtain ⟨t, ht⟩ : ∃ t, hasB nbs a b = t := ⟨_, rfl⟩
                have HT := Aside0.mk ht
                have hq0' := pw_cell_below HB8.out HQ0.out.1
                clear hrd hrst HRL HPP hb htk hbm ht hq0 hq1
                go_wp2_with fail
                refine (graph_Graph_Has.calls A0 nbs.length nbs a b t _ (HIQ.out.below HB8.out) (Nat.le_refl _) (by unfold graph_Graph_Has.f; rw [if_pos HBB.out.2, HT.out])).mono ?_
                rintro e w3 ⟨rfl, hd3⟩
                have HB3 := Aside0.mk (below_then HB8.out HB8.out.size hd3.below)
                have H83 := Aside0.mk (pw_own_below H8.out hd3.below)
                clear hd3 H8 HB8 hq0'
                cases t
                · go_wp2
                  go_roundg (gk - 1)
                  case measure => exact pred_lt HJ hj
                  case rel =>
                    have e : (rest.take (j + 1)).filter (fun b => hasB nbs a b) = (rest.take j).filter fun b => hasB nbs a b := by rw [HTK.out, List.filter_append]; simp [HT.out]
                    exact ⟨j + 1, next_eq HJ hj, by first | rfl | go_num, ⟨by rw [e]; exact H83.out⟩, HB3⟩
                · have hle : ((rest.take j).filter fun b => hasB nbs a b).length ≤ 1000 := by
                    have h1 := List.length_filter_le (fun b => hasB nbs a b) (rest.take j)
                    have := HLEN.out; have := HRS.out.2; have := HNL.out
                    rw [List.length_take] at h1; ((try clear hwA); (try clear hwB); (try clear hw1); (try clear hw2); (try clear hdec); omega)
                  have HLE := Aside0.mk hle
                  clear hle
                  obtain ⟨f8, hf8⟩ : ∃ x, ((rest.take j).filter fun b => hasB nbs a b) = x := ⟨_, rfl⟩
                  rw [hf8] at H83 HLE
                  have HF8 := Aside0.mk hf8
                  clear hf8
                  obtain ⟨A8, c8, rfl, _⟩ := own_reads H83.out
                  go_wp2_with (at_builtin; go_loud (refine print_append_num (w0 := _) _ rfl _ _ 25 3 .i64 8 rfl Try.underlying25 info3 (by decide) (.slice A8 f8.length c8) f8 b rfl rfl H83.out HB3.out HB3.out.size (by have := HLE.out; ((try clear hwA); (try clear hwB); (try clear hw1); (try clear hw2); (try clear hdec); omega)) ?_); intro v1 w5 ho5 hb5 hg5 hat5)
                  have HO5 := Aside0.mk ho5
                  have HB5 := Aside0.mk hb5
                  clear ho5 hb5 hg5 hat5
                  go_roundg (gk - 1)
                  case measure => exact pred_lt HJ hj
                  case rel =>
                    have e : (rest.take (j + 1)).filter (fun b => hasB nbs a b) = f8 ++ [b] := by rw [HTK.out, List.filter_append, HF8.out]; simp [HT.out]
                    exact ⟨j + 1, next_eq HJ hj, by first | rfl | go_num, ⟨by rw [e]; exact HO5.out⟩, HB5⟩
              · obtain rfl : j = nl := by have := HJ.out; ((try clear hwA); (try clear hwB); (try clear hw1); (try clear hw2); (try clear hdec); omega)
                obtain ⟨next, hnx⟩ : ∃ x, (rest.filter fun b => hasB nbs a b) = x := ⟨_, rfl⟩
                have H8' := H8.out
                rw [show rest.take j = rest from List.take_of_length_le (by rw [HRS.out.2]; exact Nat.le_refl _), hnx] at H8'
                have H9 := Aside0.mk H8'
                have HNX := Aside0.mk hnx
                clear H8' H8 hnx hj HJ hq0 hq1
                obtain ⟨A2, c2, el2, hl2, hC2⟩ := Kd.R_reads (Kd.R_of_own (ok := fun _ => True) (pw_own_below HLQ.out HB8.out) (fun _ _ => trivial))
                injection el2 with el2 _ elc2
                subst el2
                subst elc2
                have HCC := Aside0.mk hC2
                clear hC2
                go_wp2_with fail
                refine (clone_calls _ _ l _ HCC.out (by have := HLEN.out; ((try clear hwA); (try clear hwB); (try clear hw1); (try clear hw2); (try clear hdec); omega))).mono ?_
                rintro e w3 ⟨v3, rfl, ho3, hb3⟩
                obtain ⟨A3, c3, rfl, _⟩ := own_reads ho3
                have HO3 := Aside0.mk ho3
                have HB3 := Aside0.mk hb3
                clear ho3 hb3
                go_wp2_with (at_builtin; go_loud (refine print_append_num (w0 := _) _ rfl _ _ 25 3 .i64 8 rfl Try.underlying25 info3 (by decide) (.slice A3 l.length c3) l a rfl rfl HO3.out HB3.out HB3.out.size (by have := HLEN.out; ((try clear hwA); (try clear hwB); (try clear hw1); (try clear hw2); (try clear hdec); omega)) ?_); intro v1 w5 ho5 hb5 hg5 hat5)
                have HB5 := Aside0.mk (below_then HB8.out HB8.out.size hb5)
                have hbw : base ≤ wr.heap.size := by have := HLEN.out.2.2.2; have := HGQ.out.size; have := HB8.out.size; ((try clear hwA); (try clear hwB); (try clear hw1); (try clear hw2); (try clear hdec); omega)
                have HO5 := Aside0.mk (own_weaken ho5 hbw)
                have HN5 := Aside0.mk (own_weaken (base' := base) (pw_own_below (own_weaken H9.out (by exact Nat.le_refl _)) hb5) (by have := HLEN.out.2.2.2; have := HGQ.out.size; ((try clear hwA); (try clear hwB); (try clear hw1); (try clear hw2); (try clear hdec); omega)))
                clear ho5 hb5 hg5 hat5 hbw
                have HG5 := Aside0.mk (HIQ.out.below HB5.out)
                have HS5 : Aside0 (SAt _ base sb A0 bq (.slice Aq bq.length cq)) := ⟨⟨(HB5.out.block sb (lt_of_block HSQ.out.head)).trans HSQ.out.head, pw_own_below HSQ.out.own HB5.out⟩⟩
                have hnl : next.length ≤ may.length - p := by rw [HNL.out, ← HRS.out.2, ← HNX.out]; exact List.length_filter_le _ _
                have HNN := Aside0.mk hnl
                have HMEM : Aside0 (∀ b ∈ next, 0 ≤ b ∧ b < 9223372036854775808) := ⟨fun b hb => HBN.out b (List.mem_of_mem_drop (HRS.out.1 ▸ (List.mem_filter.1 (HNX.out ▸ hb)).1))⟩
                clear hnl
                refine (IH.out base sb A0 bq (.slice Aq bq.length cq) (l ++ [a]) next _ _ _ HG5.out HS5.out (by have := HLEN.out.2.2.2; have := HGQ.out.size; have := HB5.out.size; ((try clear hwA); (try clear hwB); (try clear hw1); (try clear hw2); (try clear hdec); omega)) HO5.out HN5.out (by have := HLEN.out; have := HNN.out; have := HNL.out; have := HP.out; ((try clear hwA); (try clear hwB); (try clear hw1); (try clear hw2); (try clear hdec); omega)) (by have := HLEN.out; have := HNN.out; have := HNL.out; have := HP.out; rw [List.length_append, List.length_singleton]; ((try clear hwA); (try clear hwB); (try clear hw1); (try clear hw2); (try clear hdec); omega)) HBQ.out HMEM.out).mono ?_
                rintro e w6 ⟨rfl, ⟨vb6, hS6⟩, hg6⟩
                have HS6 := Aside0.mk hS6
                have HG6 := Aside0.mk (World.grownBy.trans (World.grownBy.trans HGQ.out (grown_of_below HB5.out (some sb))) hg6)
                clear hS6 hg6
                go_wp2
                go_roundg (may.length - q - 1)
                case measure => exact pred_lt' HQ hqn
                case rel =>
                  refine ⟨q + 1, fromL nbs d bq (l ++ [a]) next, vb6, next_eq' HQ hqn, ?_, HS6, HG6, ⟨?_⟩, ⟨?_⟩⟩
                  · first | (rw [HWQ.out]) | (rw [← HP.out]; rfl)
                  · have e := HRQ.out
                    rw [HDR.out, goL, if_neg (by have := HC.out; rw [List.length_drop]; ((try clear hwA); (try clear hwB); (try clear hw1); (try clear hw2); (try clear hdec); omega)), HP.out, HRS.out.1, HNX.out, ← HRS.out.1] at e
                    rw [HP.out]; exact e
                  · have h1 := fromL_len nbs d bq (l ++ [a]) next
                    rw [List.length_append, List.length_singleton] at h1
                    have := HLEN.out; have := HNN.out; have := HNL.out; have := HP.out; have := HBQ.out; ((try clear hwA); (try clear hwB); (try clear hw1); (try clear hw2); (try clear hdec); omega)
        · obtain rfl : q = may.length := by have := HQ.out; omega
          go_wp2
          go_end0
          have e := HRQ.out
          rw [List.drop_length, goL] at e
          have hfin := HSQ.out
          rw [e] at hfin
          exact ⟨rfl, ⟨_, hfin⟩, HGQ.out⟩
    · have hR : goL nbs (fromL nbs d) l may best = fromL nbs (d + 1) best l may := by rw [fromL, if_neg hlt]
      have HRR := Aside0.mk hR
      clear hR
      go_enter Try.func71, Try.ntmps71
      go_wp2
      go_loopg [26] may.length (fun m i wr => ∃ (q : Nat) (bq : List Int) (vq : Value), Aside0 (q + m = may.length) ∧ i = .int .i64 q ∧ Aside0 (SAt wr base sb A0 bq vq) ∧ Aside0 (w.grownBy wr (some sb)) ∧ Aside0 (goL nbs (fromL nbs d) l (may.drop q) bq = fromL nbs (d + 1) best l may) ∧ Aside0 (bq.length ≤ 1000))
      case atStart => exact ⟨0, best, _, ⟨by omega⟩, rfl, HS, ⟨World.grownBy.refl _ _⟩, ⟨by rw [List.drop_zero]; exact HRR.out⟩, ⟨HLEN.out.2.1⟩⟩
      case round =>
        obtain ⟨q, bq, vq, HQ, rfl, HSQ, HGQ, HRQ, HBQ⟩ := hrel
        have HMQ := Aside0.mk (own_grown HGQ.out HS.out.head HMY.out (by decide))
        have HLQ := Aside0.mk (own_grown HGQ.out HS.out.head HL.out (by decide))
        have HIQ := Aside0.mk (HG.out.grown HGQ.out HS.out.head)
        obtain ⟨Aq, cq, rfl, _⟩ := own_reads HSQ.out.own
        have hq0 : wr.cell? ⟨sb, 0, none⟩ = some (.pointer A0) := by have := cell_of_row0 HSQ.out.head 0 (by simp); simpa using this
        have hq1 : wr.cell? ⟨sb, 1, none⟩ = some (.slice Aq bq.length cq) := by have := cell_of_row0 HSQ.out.head 1 (by simp); simpa using this
        have HQ0 := Aside0.mk (And.intro hq0 hq1)
        by_cases hqn : q < may.length
        · obtain ⟨Am', cm', em, hrm⟩ := own_reads HMQ.out
          obtain ⟨adm, em', hcm⟩ := hrm.at_ (q : Int) (by omega) (by omega)
          rw [Int.toNat_natCast] at hcm
          have hcap := own_cap HMQ.out
          obtain ⟨a, ha⟩ : ∃ a, rd may (q : Int) = a := ⟨_, rfl⟩
          rw [ha] at hcm
          injection em with em _ emc
          subst em
          subst emc
          subst em'
          have hdrop : may.drop q = a :: may.drop (q + 1) := by
            rw [List.drop_eq_getElem_cons hqn]
            congr 1
            rw [← ha]; simp [rd, hqn]
          have HDR := Aside0.mk hdrop
          have HWQ : Aside0 (wrap64 ((q : Int) + 1) = ((q + 1 : Nat) : Int)) := ⟨by have := HLEN.out; unfold wrap64; omega⟩
          have hwA : wrap64 ((l.length : Int) + (may.length : Int)) = (l.length : Int) + (may.length : Int) := by have := HLEN.out; unfold wrap64; omega
          have hwB : wrap64 ((l.length : Int) + (may.length : Int) - (q : Int)) = (l.length : Int) + (may.length : Int) - (q : Int) := by have := HLEN.out; unfold wrap64; omega
          obtain ⟨p, hp⟩ : ∃ p, q + 1 = p := ⟨_, rfl⟩
          have hw1 : wrap64 ((q : Int) + 1) = (p : Int) := by have := HLEN.out; unfold wrap64; omega
          have HP := Aside0.mk hp
          have HCAP := Aside0.mk hcap
          have HA := Aside0.mk ha
          clear hdrop ha hcap hrm hp
          by_cases hc : l.length + (may.length - q) ≤ bq.length
          · have hdec : decide ((l.length : Int) + (may.length : Int) - (q : Int) ≤ (bq.length : Int)) = true := decide_eq_true (by omega)
            have HC := Aside0.mk hc
            clear hc
            go_wp2
            (try simp only [Exit.inBlock, Exit.then])
            refine bodyPost_ret (results_none rfl _ _ _) rfl ?_
            have e := HRQ.out
            rw [HDR.out, goL, if_pos (by have := HC.out; rw [List.length_drop]; omega)] at e
            have hfin := HSQ.out
            rw [e] at hfin
            exact ⟨rfl, ⟨_, hfin⟩, HGQ.out⟩
          · have hdec : decide ((l.length : Int) + (may.length : Int) - (q : Int) ≤ (bq.length : Int)) = false := decide_eq_false (by omega)
            have HC := Aside0.mk hc
            obtain ⟨i0, hi, _, hsz, _⟩ := info_parts info3
            obtain ⟨A1, hcut, hA1⟩ := print_cut (P := Try.prog) 25 3 .i64 Try.underlying25 hi hsz (some adm) may.length cm p (by have := HP.out; omega)
            obtain ⟨nl, hnl⟩ : ∃ x, may.length - p = x := ⟨_, rfl⟩
            rw [hnl] at hcut hA1
            obtain ⟨rest, hrest⟩ : ∃ x, may.drop p = x := ⟨_, rfl⟩
            have hrl : rest.length = nl := by rw [← hrest, List.length_drop]; exact hnl
            have HA1 := Aside0.mk hA1
            have HRS := Aside0.mk (And.intro hrest hrl)
            have HNL := Aside0.mk hnl
            clear hc hA1 hi hsz hnl hrest hrl
            go_wp2
            go_loopg [49, 8] nl (fun m i v w2 => ∃ j : Nat, Aside0 (j + m = nl) ∧ i = .int .i64 j ∧ Aside0 (w2.ownsRow wr.heap.size 3 1 v ((rest.take j).filter fun b => hasB nbs a b).length (nums .i64 ((rest.take j).filter fun b => hasB nbs a b))) ∧ Aside0 (Below wr.heap.size wr w2))
            case atStart => exact ⟨0, ⟨by omega⟩, rfl, ⟨own_nil _ _ _ _⟩, ⟨Below.refl _ _⟩⟩
            case round =>
              obtain ⟨j, HJ, rfl, H8, HB8⟩ := hrel
              by_cases hj : j < nl
              · have hrd := HA1.out wr .i64 may HCAP.out ((own_reads (pw_own_below HMQ.out HB8.out)).elim fun _ h => h.elim fun _ h => by obtain ⟨e, h⟩ := h; injection e with e _ _; subst e; exact h)
                have hrst := HRS.out.1
                have HRL := HRS.out.2
                have HPP := HP.out
                rw [hrst] at hrd
                obtain ⟨ad8, e8, hc8⟩ := hrd.at_ (j : Int) (by omega) (by omega)
                subst e8
                rw [Int.toNat_natCast] at hc8
                obtain ⟨b, hb⟩ : ∃ b, rd rest (j : Int) = b := ⟨_, rfl⟩
                rw [hb] at hc8
                have htk : rest.take (j + 1) = rest.take j ++ [b] := by rw [take_snoc rest j (by omega), hb]
                have hbm : b ∈ may := by
                  have : b ∈ rest := by rw [← hb, show rd rest (j : Int) = rest[j]'(by omega) from by simp [rd, show j < rest.length by omega]]; exact List.getElem_mem _
                  rw [← hrst] at this
                  exact List.mem_of_mem_drop this
                have HBB := Aside0.mk (HBN.out b hbm)
                have HTK := Aside0.mk htk
                have hw2 : wrap64 ((j : Int) + 1) = ((j + 1 : Nat) : Int) := wrap_succ (n := nl) (by have := HLEN.out; have := HNL.out; ((try clear hwA); (try clear hwB); (try clear hw1); (try clear hw2); (try clear hdec); omega)) hj
                obtain ⟨t, ht⟩ : ∃ t, hasB nbs a b = t := ⟨_, rfl⟩
                have HT := Aside0.mk ht
                have hq0' := pw_cell_below HB8.out HQ0.out.1
                clear hrd hrst HRL HPP hb htk hbm ht hq0 hq1
                go_wp2_with fail
                refine (graph_Graph_Has.calls A0 nbs.length nbs a b t _ (HIQ.out.below HB8.out) (Nat.le_refl _) (by unfold graph_Graph_Has.f; rw [if_pos HBB.out.2, HT.out])).mono ?_
                rintro e w3 ⟨rfl, hd3⟩
                have HB3 := Aside0.mk (below_then HB8.out HB8.out.size hd3.below)
                have H83 := Aside0.mk (pw_own_below H8.out hd3.below)
                clear hd3 H8 HB8 hq0'
                cases t
                · go_wp2
                  go_roundg (gk - 1)
                  case measure => exact pred_lt HJ hj
                  case rel =>
                    have e : (rest.take (j + 1)).filter (fun b => hasB nbs a b) = (rest.take j).filter fun b => hasB nbs a b := by rw [HTK.out, List.filter_append]; simp [HT.out]
                    exact ⟨j + 1, next_eq HJ hj, by first | rfl | go_num, ⟨by rw [e]; exact H83.out⟩, HB3⟩
                · have hle : ((rest.take j).filter fun b => hasB nbs a b).length ≤ 1000 := by
                    have h1 := List.length_filter_le (fun b => hasB nbs a b) (rest.take j)
                    have := HLEN.out; have := HRS.out.2; have := HNL.out
                    rw [List.length_take] at h1; ((try clear hwA); (try clear hwB); (try clear hw1); (try clear hw2); (try clear hdec); omega)
                  have HLE := Aside0.mk hle
                  clear hle
                  obtain ⟨f8, hf8⟩ : ∃ x, ((rest.take j).filter fun b => hasB nbs a b) = x := ⟨_, rfl⟩
                  rw [hf8] at H83 HLE
                  have HF8 := Aside0.mk hf8
                  clear hf8
                  obtain ⟨A8, c8, rfl, _⟩ := own_reads H83.out
                  go_wp2_with (at_builtin; go_loud (refine print_append_num (w0 := _) _ rfl _ _ 25 3 .i64 8 rfl Try.underlying25 info3 (by decide) (.slice A8 f8.length c8) f8 b rfl rfl H83.out HB3.out HB3.out.size (by have := HLE.out; ((try clear hwA); (try clear hwB); (try clear hw1); (try clear hw2); (try clear hdec); omega)) ?_); intro v1 w5 ho5 hb5 hg5 hat5)
                  have HO5 := Aside0.mk ho5
                  have HB5 := Aside0.mk hb5
                  clear ho5 hb5 hg5 hat5
                  go_roundg (gk - 1)
                  case measure => exact pred_lt HJ hj
                  case rel =>
                    have e : (rest.take (j + 1)).filter (fun b => hasB nbs a b) = f8 ++ [b] := by rw [HTK.out, List.filter_append, HF8.out]; simp [HT.out]
                    exact ⟨j + 1, next_eq HJ hj, by first | rfl | go_num, ⟨by rw [e]; exact HO5.out⟩, HB5⟩
              · obtain rfl : j = nl := by have := HJ.out; ((try clear hwA); (try clear hwB); (try clear hw1); (try clear hw2); (try clear hdec); omega)
                obtain ⟨next, hnx⟩ : ∃ x, (rest.filter fun b => hasB nbs a b) = x := ⟨_, rfl⟩
                have H8' := H8.out
                rw [show rest.take j = rest from List.take_of_length_le (by rw [HRS.out.2]; exact Nat.le_refl _), hnx] at H8'
                have H9 := Aside0.mk H8'
                have HNX := Aside0.mk hnx
                clear H8' H8 hnx hj HJ hq0 hq1
                obtain ⟨A2, c2, el2, hl2, hC2⟩ := Kd.R_reads (Kd.R_of_own (ok := fun _ => True) (pw_own_below HLQ.out HB8.out) (fun _ _ => trivial))
                injection el2 with el2 _ elc2
                subst el2
                subst elc2
                have HCC := Aside0.mk hC2
                clear hC2
                go_wp2_with fail
                refine (clone_calls _ _ l _ HCC.out (by have := HLEN.out; ((try clear hwA); (try clear hwB); (try clear hw1); (try clear hw2); (try clear hdec); omega))).mono ?_
                rintro e w3 ⟨v3, rfl, ho3, hb3⟩
                obtain ⟨A3, c3, rfl, _⟩ := own_reads ho3
                have HO3 := Aside0.mk ho3
                have HB3 := Aside0.mk hb3
                clear ho3 hb3
                go_wp2_with (at_builtin; go_loud (refine print_append_num (w0 := _) _ rfl _ _ 25 3 .i64 8 rfl Try.underlying25 info3 (by decide) (.slice A3 l.length c3) l a rfl rfl HO3.out HB3.out HB3.out.size (by have := HLEN.out; ((try clear hwA); (try clear hwB); (try clear hw1); (try clear hw2); (try clear hdec); omega)) ?_); intro v1 w5 ho5 hb5 hg5 hat5)
                have HB5 := Aside0.mk (below_then HB8.out HB8.out.size hb5)
                have hbw : base ≤ wr.heap.size := by have := HLEN.out.2.2.2; have := HGQ.out.size; have := HB8.out.size; ((try clear hwA); (try clear hwB); (try clear hw1); (try clear hw2); (try clear hdec); omega)
                have HO5 := Aside0.mk (own_weaken ho5 hbw)
                have HN5 := Aside0.mk (own_weaken (base' := base) (pw_own_below (own_weaken H9.out (by exact Nat.le_refl _)) hb5) (by have := HLEN.out.2.2.2; have := HGQ.out.size; ((try clear hwA); (try clear hwB); (try clear hw1); (try clear hw2); (try clear hdec); omega)))
                clear ho5 hb5 hg5 hat5 hbw
                have HG5 := Aside0.mk (HIQ.out.below HB5.out)
                have HS5 : Aside0 (SAt _ base sb A0 bq (.slice Aq bq.length cq)) := ⟨⟨(HB5.out.block sb (lt_of_block HSQ.out.head)).trans HSQ.out.head, pw_own_below HSQ.out.own HB5.out⟩⟩
                have hnl : next.length ≤ may.length - p := by rw [HNL.out, ← HRS.out.2, ← HNX.out]; exact List.length_filter_le _ _
                have HNN := Aside0.mk hnl
                have HMEM : Aside0 (∀ b ∈ next, 0 ≤ b ∧ b < 9223372036854775808) := ⟨fun b hb => HBN.out b (List.mem_of_mem_drop (HRS.out.1 ▸ (List.mem_filter.1 (HNX.out ▸ hb)).1))⟩
                clear hnl
                refine (IH.out base sb A0 bq (.slice Aq bq.length cq) (l ++ [a]) next _ _ _ HG5.out HS5.out (by have := HLEN.out.2.2.2; have := HGQ.out.size; have := HB5.out.size; ((try clear hwA); (try clear hwB); (try clear hw1); (try clear hw2); (try clear hdec); omega)) HO5.out HN5.out (by have := HLEN.out; have := HNN.out; have := HNL.out; have := HP.out; ((try clear hwA); (try clear hwB); (try clear hw1); (try clear hw2); (try clear hdec); omega)) (by have := HLEN.out; have := HNN.out; have := HNL.out; have := HP.out; rw [List.length_append, List.length_singleton]; ((try clear hwA); (try clear hwB); (try clear hw1); (try clear hw2); (try clear hdec); omega)) HBQ.out HMEM.out).mono ?_
                rintro e w6 ⟨rfl, ⟨vb6, hS6⟩, hg6⟩
                have HS6 := Aside0.mk hS6
                have HG6 := Aside0.mk (World.grownBy.trans (World.grownBy.trans HGQ.out (grown_of_below HB5.out (some sb))) hg6)
                clear hS6 hg6
                go_wp2
                go_roundg (may.length - q - 1)
                case measure => exact pred_lt' HQ hqn
                case rel =>
                  refine ⟨q + 1, fromL nbs d bq (l ++ [a]) next, vb6, next_eq' HQ hqn, ?_, HS6, HG6, ⟨?_⟩, ⟨?_⟩⟩
                  · first | (rw [HWQ.out]) | (rw [← HP.out]; rfl)
                  · have e := HRQ.out
                    rw [HDR.out, goL, if_neg (by have := HC.out; rw [List.length_drop]; ((try clear hwA); (try clear hwB); (try clear hw1); (try clear hw2); (try clear hdec); omega)), HP.out, HRS.out.1, HNX.out, ← HRS.out.1] at e
                    rw [HP.out]; exact e
                  · have h1 := fromL_len nbs d bq (l ++ [a]) next
                    rw [List.length_append, List.length_singleton] at h1
                    have := HLEN.out; have := HNN.out; have := HNL.out; have := HP.out; have := HBQ.out; ((try clear hwA); (try clear hwB); (try clear hw1); (try clear hw2); (try clear hdec); omega)
        · obtain rfl : q = may.length := by have := HQ.out; omega
          go_wp2
          go_end0
          have e := HRQ.out
          rw [List.drop_length, goL] at e
          have hfin := HSQ.out
          rw [e] at hfin
          exact ⟨rfl, ⟨_, hfin⟩, HGQ.out⟩
end Go.Proofs.Ytbmnnmcnmfgbaaa.PG
end
section
/-
  clique.Greatest.
-/
namespace Go.Proofs.Ytbmnnmcnmfgbaaa.PG
open Go.RowKit Go.Shelf Go.Proofs.YtbmnnmcnmfgbaaaW.PrintWords Go.Proofs.YtbmnnmcnmfgbaaaW.PrintLast Go.Proofs.YtbmnnmcnmfgbaaaW.PrintMore
open Go.Proofs.Ytbmnnmcnmfgbaaa.PB
set_option linter.unusedVariables false
set_option linter.unusedSimpArgs false

/-- The greatest clique of few nodes. -/
def greatL (nbs : List (List Int)) : List Int := if nbs.length ≤ 16 then fromL nbs (nbs.length + 1) [] [] (ints nbs.length) else []
def clique_Greatest.f (l0 : List (List Int)) : Option (List Int) := if l0.length ≤ 400 then some (greatL l0) else none
theorem ints_len (n : Nat) : (ints n).length = n := by simp [ints]

set_option maxRecDepth 100000 in
set_option maxHeartbeats 1000000 in
theorem clique_Greatest.calls (A0 : Option Addr) (c0 : Nat) (l0 : List (List Int)) (r : List Int) (w : World) (hr0 : IsGr w A0 l0) (hc0 : l0.length ≤ c0) (h : clique_Greatest.f l0 = some r) :
    Calls Try.prog 43 #[.pointer A0] w fun e w' => ∃ v0_ : Value, e = .returned v0_ ∧ Kd.R (Kd.int .i64) 3 w' w.heap.size (fun _ => True) v0_ r ∧ Below w.heap.size w w' := by
  unfold clique_Greatest.f at h
  by_cases hw : l0.length ≤ 400
  rotate_left
  · rw [if_neg hw] at h; cases h
  rw [if_pos hw] at h
  obtain rfl := Option.some.inj h
  obtain ⟨n, hn⟩ : ∃ n, l0.length = n := ⟨_, rfl⟩
  have HN := Aside0.mk hn
  have HG := Aside0.mk hr0
  have HF : Aside0 (graph_Graph_Len.f l0 = some (n : Int)) := ⟨by unfold graph_Graph_Len.f; rw [hn]⟩
  clear h hr0 hc0 hw hn
  by_cases hb : n ≤ 16
  rotate_left
  · have hd : decide ((n : Int) > 16) = true := decide_eq_true (by omega)
    have HGR : Aside0 (greatL l0 = []) := ⟨by unfold greatL; rw [HN.out, if_neg hb]⟩
    go_enter Try.func43, Try.ntmps43
    go_wp2_with fail
    refine (graph_Graph_Len.calls A0 l0.length l0 _ _ HG.out (Nat.le_refl _) HF.out).mono ?_
    rintro e w1 ⟨rfl, hd1⟩
    have HD1 := Aside0.mk hd1
    clear hd1
    go_wp2
    go_ret
    refine ⟨_, rfl, ?_, HD1.out.below⟩
    rw [HGR.out]
    exact Kd.R_nil _ _ _ _ _
  · have hd : decide ((n : Int) > 16) = false := decide_eq_false (by omega)
    have HGR : Aside0 (greatL l0 = fromL l0 (n + 1) [] [] (ints n)) := ⟨by unfold greatL; rw [HN.out, if_pos hb]⟩
    have HB := Aside0.mk hb
    go_enter Try.func43, Try.ntmps43
    go_wp2_with fail
    refine (graph_Graph_Len.calls A0 l0.length l0 _ _ HG.out (Nat.le_refl _) HF.out).mono ?_
    rintro e w1 ⟨rfl, hd1⟩
    have HD1 := Aside0.mk hd1
    clear hd1
    go_wp2_with fail
    have HS0 : Aside0 (SAt (w1.alloc (Obj.cells #[Value.pointer A0, Value.slice none 0 0] 88)) (w1.heap.size + 1) w1.heap.size A0 [] (Value.slice none 0 0)) := ⟨⟨World.alloc_heap_new _ _, own_nil _ _ _ _⟩⟩
    have HB1 : Aside0 (Below w.heap.size w (w1.alloc (Obj.cells #[Value.pointer A0, Value.slice none 0 0] 88))) := ⟨below_alloc HD1.out.below _⟩
    have HSZ : Aside0 ((w1.alloc (Obj.cells #[Value.pointer A0, Value.slice none 0 0] 88)).heap.size = w1.heap.size + 1) := ⟨World.size_alloc _ _⟩
    obtain ⟨W0, hW⟩ : ∃ W, w1.alloc (Obj.cells #[Value.pointer A0, Value.slice none 0 0] 88) = W := ⟨_, rfl⟩
    rw [hW] at HS0 HB1 HSZ ⊢
    clear hW
    refine (graph_Graph_Len.calls A0 l0.length l0 _ _ (HG.out.below HB1.out) (Nat.le_refl _) HF.out).mono ?_
    rintro e w2 ⟨rfl, hd2⟩
    have HB2 : Aside0 (Below (w1.heap.size + 1) W0 w2) := ⟨by have := hd2.below; rwa [HSZ.out] at this⟩
    clear hd2
    go_wp2
    go_loopg [14, 4] n (fun m i v wr => ∃ k : Nat, Aside0 (k + m = n) ∧ i = .int .i64 k ∧ Aside0 (wr.ownsRow (w1.heap.size + 1) 3 1 v (ints k).length (nums .i64 (ints k))) ∧ Aside0 (Below (w1.heap.size + 1) W0 wr))
    case atStart => exact ⟨0, ⟨by omega⟩, rfl, ⟨own_nil _ _ _ _⟩, HB2⟩
    case round =>
      obtain ⟨k, HK, rfl, HO, HBr⟩ := hrel
      by_cases hlt : k < n
      · have hw1 := wrap_succ (n := n) (by omega) hlt
        obtain ⟨A5, c5, rfl, _⟩ := own_reads HO.out
        have HKL : Aside0 ((ints k).length ≤ 16) := ⟨by rw [ints_len]; omega⟩
        obtain ⟨l, hl⟩ : ∃ l, ints k = l := ⟨_, rfl⟩
        rw [hl] at HO HKL
        have HL := Aside0.mk hl
        rw [hl]
        clear hl
        go_wp2_with (at_builtin; go_loud (refine print_append_num (w0 := W0) (w1.heap.size + 1) rfl _ _ 25 3 .i64 8 rfl Try.underlying25 info3 (by decide) (.slice A5 l.length c5) l (k : Int) rfl rfl HO.out HBr.out (by rw [← HSZ.out]; exact HBr.out.size) (by have := HKL.out; omega) ?_); intro v1 w5 ho5 hb5 hg5 hat5)
        have HO5 := Aside0.mk ho5
        have HB5 := Aside0.mk hb5
        clear ho5 hb5 hg5 hat5
        go_roundg (gk - 1)
        case measure => exact pred_lt HK hlt
        case rel => exact ⟨k + 1, next_eq HK hlt, by first | rfl | go_num, ⟨by rw [ints_succ, HL.out]; exact HO5.out⟩, HB5⟩
      · obtain rfl : k = n := by have := HK.out; omega
        have HS1 : Aside0 (SAt wr (w1.heap.size + 1) w1.heap.size A0 [] (Value.slice none 0 0)) := ⟨⟨(HBr.out.block w1.heap.size (by omega)).trans HS0.out.head, own_nil _ _ _ _⟩⟩
        have HBW : Aside0 (Below w.heap.size w wr) := ⟨below_then HB1.out HB1.out.size (by rw [HSZ.out]; exact HBr.out)⟩
        have HLN : Aside0 ((ints k).length = k) := ⟨ints_len k⟩
        have hmem : ∀ b ∈ ints k, 0 ≤ b ∧ b < 9223372036854775808 := fun b hb => by
          obtain ⟨i, hi, rfl⟩ := List.mem_map.1 hb
          have := List.mem_range.1 hi
          omega
        have HMM := Aside0.mk hmem
        clear hmem
        go_wp2_with fail
        refine (from_calls l0 (k + 1) (w1.heap.size + 1) w1.heap.size A0 [] (Value.slice none 0 0) [] (ints k) (Value.slice none 0 0) _ _ (HG.out.below HBW.out) HS1.out (by rw [← HSZ.out]; exact HBr.out.size) (own_nil _ _ _ _) HO.out (by rw [HLN.out]; omega) (by rw [HLN.out]; simp; omega) (by simp) HMM.out).mono ?_
        rintro e w6 ⟨rfl, ⟨vb, hS6⟩, hg6⟩
        have hc6 : w6.cell? ⟨w1.heap.size, 1, none⟩ = some vb := by have := cell_of_row0 hS6.head 1 (by simp); simpa using this
        have HS6 := Aside0.mk hS6
        have HB6 : Aside0 (Below w.heap.size w w6) := ⟨HBW.out.grown hg6 HBW.out.size (fun j hj => by cases hj; exact HD1.out.below.size)⟩
        clear hS6 hg6
        obtain ⟨A9, c9, rfl, _⟩ := own_reads HS6.out.own
        go_wp2
        go_ret
        refine ⟨_, rfl, ?_, HB6.out⟩
        rw [HGR.out]
        exact Kd.R_of_own (own_weaken HS6.out.own (by have := HD1.out.below.size; omega)) (fun _ _ => trivial)
end Go.Proofs.Ytbmnnmcnmfgbaaa.PG
end
