/-
  Put together by slim.py of this session out of the session's own texts (YtffghdbhjjfnlaaLawFlowSizes and what it reaches): declarations that nothing kept names are left out. Conditions: none beyond those of the law's row.
-/
import Derived.Test.YtffghdbhjjfnlaaJS4
import Derived.Test.YtffghdbhjjfnlaaJS3
import Derived.Test.YtffghdbhjjfnlaaJS2
import Derived.Test.YtffghdbhjjfnlaaJS0
import Derived.Test.YtffghdbhjjfnlaaJS1
section
/-
  The laws' helper: made.
-/
namespace Go.Proofs.Ytffghdbhjjfnlaa.F
open Go.RowKit Go.Proofs.YtffghdbhjjfnlaaW.PrintWords Go.Proofs.YtffghdbhjjfnlaaW.PrintLast Go.Proofs.YtffghdbhjjfnlaaW.PrintMore
set_option linter.unusedVariables false
set_option linter.unusedSimpArgs false
/-! ### edges as they are given -/
abbrev E3 := Int × Int × Int
def eAt (l : List E3) (i : Nat) : E3 := l.getD i (0, 0, 0)
def EdgesIn (w : World) (A : Option Addr) (l : List E3) : Prop := ∀ i, i < l.length → ∃ ad, A = some ad ∧ w.cell? (ad.add (i * 3)) = some (.int .i64 (eAt l i).1) ∧ w.cell? ⟨(ad.add (i * 3)).block, (ad.add (i * 3)).off + 1, none⟩ = some (.int .i64 (eAt l i).2.1) ∧ w.cell? ⟨(ad.add (i * 3)).block, (ad.add (i * 3)).off + 2, none⟩ = some (.int .i64 (eAt l i).2.2)
theorem cell_kept {w w' : World} {a : Addr} {v : Value} (h : w.cell? a = some v) (hb : w'.heap[a.block]? = w.heap[a.block]?) : w'.cell? a = some v := by
  unfold World.cell? at h ⊢
  rw [hb]; exact h
theorem cell_in {w : World} {a : Addr} {v : Value} (h : w.cell? a = some v) : a.block < w.heap.size := by
  unfold World.cell? at h
  rcases Nat.lt_or_ge a.block w.heap.size with c | c
  · exact c
  · rw [Array.getElem?_eq_none c] at h; cases h
theorem EdgesIn.kept {w w' : World} {A : Option Addr} {l : List E3} (h : EdgesIn w A l) (hb : ∀ k, k < w.heap.size → (∀ ad, A = some ad → k = ad.block → w'.heap[k]? = w.heap[k]?)) : EdgesIn w' A l := fun i hi => by
  obtain ⟨ad, rfl, h1, h2, h3⟩ := h i hi
  have hl := cell_in h1
  have e : (ad.add (i * 3)).block = ad.block := by unfold Addr.add; split <;> rfl
  have hk := hb _ hl ad rfl e
  exact ⟨ad, rfl, cell_kept h1 hk, cell_kept h2 hk, cell_kept h3 hk⟩
theorem EdgesIn.below {w w' : World} {A : Option Addr} {l : List E3} (h : EdgesIn w A l) (hb : Below w.heap.size w w') : EdgesIn w' A l := h.kept fun k hk _ _ _ => hb.block k hk
/-- The cells of a row of edges. -/
def eCells (l : List E3) : List Value := l.flatMap fun e => [.int .i64 e.1, .int .i64 e.2.1, .int .i64 e.2.2]
theorem eCells_app (l : List E3) (e : E3) : eCells (l ++ [e]) = eCells l ++ [.int .i64 e.1, .int .i64 e.2.1, .int .i64 e.2.2] := by simp [eCells]
theorem eCells_at : ∀ (l : List E3) (i : Nat), i < l.length → (eCells l)[i * 3]? = some (.int .i64 (eAt l i).1) ∧ (eCells l)[i * 3 + 1]? = some (.int .i64 (eAt l i).2.1) ∧ (eCells l)[i * 3 + 2]? = some (.int .i64 (eAt l i).2.2)
  | [], i, h => by simp at h
  | e :: l, 0, _ => ⟨rfl, rfl, rfl⟩
  | e :: l, i + 1, h => by
    have h1 := eCells_at l i (by simpa using h)
    have e0 : eCells (e :: l) = [.int .i64 e.1, .int .i64 e.2.1, .int .i64 e.2.2] ++ eCells l := rfl
    have e1 : eAt (e :: l) (i + 1) = eAt l i := by simp [eAt]
    rw [e0, e1, List.getElem?_append_right (by simp; omega), List.getElem?_append_right (by simp; omega), List.getElem?_append_right (by simp; omega)]
    have f : ∀ q, (i + 1) * 3 + q - [Value.int .i64 e.1, .int .i64 e.2.1, .int .i64 e.2.2].length = i * 3 + q := fun q => by simp; omega
    rw [show (i + 1) * 3 - [Value.int .i64 e.1, .int .i64 e.2.1, .int .i64 e.2.2].length = i * 3 from f 0, f 1, f 2]
    exact h1
theorem own_edges {w : World} {base n : Nat} {A : Option Addr} {c : Nat} {l : List E3} (h : w.ownsRow base 35 3 (.slice A n c) l.length (eCells l)) : n = l.length ∧ EdgesIn w A l := by
  rcases h.2 with ⟨e, h0⟩ | ⟨g, cap, cur, e, hb, hh, hnc, _⟩
  · injection e with e1 e2 e3
    exact ⟨by omega, fun i hi => by omega⟩
  · injection e with e1 e2 e3
    subst e1 e2
    refine ⟨rfl, fun i hi => ⟨_, rfl, ?_⟩⟩
    obtain ⟨h1, h2, h3⟩ := eCells_at l i hi
    have k1 := h.cells (g := g) rfl _ _ h1
    have k2 := h.cells (g := g) rfl _ _ h2
    have k3 := h.cells (g := g) rfl _ _ h3
    simp only [add_plain] at k1 k2 k3 ⊢
    exact ⟨k1, k2, k3⟩
/-! ### the net of some edges -/
def accN (N : Net) (e : E3) : Net := if edgeE N e.1 e.2.1 e.2.2 = 0 then N.add e.1.toNat e.2.1.toNat e.2.2 else N
def acc (x : Net × List E3) (e : E3) : Net × List E3 := (accN x.1 e, if edgeE x.1 e.1 e.2.1 e.2.2 = 0 then x.2 ++ [e] else x.2)
def madeOf (n : Nat) (l : List E3) : Net × List E3 := l.foldl acc (Net.none n, [])
def edgeA (N : Net) (e : E3) : Int := if edgeE N e.1 e.2.1 e.2.2 = 0 then N.m else 0
theorem edge_zero {N : Net} {f t c : Int} (h : edgeE N f t c = 0) : (0 ≤ f ∧ f < (N.n : Int)) ∧ (0 ≤ t ∧ t < (N.n : Int)) ∧ f ≠ t ∧ 0 ≤ c ∧ c ≤ 1000000 ∧ N.m < 5000 := by
  unfold edgeE twoE at h
  by_cases c1 : (f < 0 ∨ f ≥ (N.n : Int)) ∨ (t < 0 ∨ t ≥ (N.n : Int))
  · rw [if_pos c1] at h; simp at h
  · rw [if_neg c1] at h
    by_cases c2 : f = t
    · rw [if_pos c2] at h; simp at h
    · rw [if_neg c2] at h
      simp only [ne_eq, not_true_eq_false, if_false] at h
      by_cases c3 : c < 0 ∨ c > 1000000
      · rw [if_pos c3] at h; simp at h
      · rw [if_neg c3] at h
        by_cases c4 : N.m ≥ 5000
        · rw [if_pos c4] at h; simp at h
        · omega
theorem accN_n (N : Net) (e : E3) : (accN N e).n = N.n := by unfold accN; split <;> rfl
theorem accN_ok {N : Net} (h : N.Ok) (e : E3) : (accN N e).Ok := by
  unfold accN
  by_cases c : edgeE N e.1 e.2.1 e.2.2 = 0
  · rw [if_pos c]
    have := edge_zero c
    exact add_ok h (by omega) (by omega) (by omega) this.2.2.2.1 this.2.2.2.2.1 this.2.2.2.2.2
  · rw [if_neg c]; exact h
/-- What came in lies as the net says. -/
structure Came (n : Nat) (N : Net) (out : List E3) : Prop where
  ok : N.Ok
  nn : N.n = n
  len : out.length = N.m
  at_ : ∀ e, e < N.m → eAt out e = ((N.fr e : Int), (N.to e : Int), N.mo e)
theorem came_acc {n : Nat} {N : Net} {out : List E3} (h : Came n N out) (e : E3) : Came n (acc (N, out) e).1 (acc (N, out) e).2 := by
  unfold acc
  refine ⟨accN_ok h.ok e, (accN_n N e).trans h.nn, ?_, fun q hq => ?_⟩
  · unfold accN
    by_cases c : edgeE N e.1 e.2.1 e.2.2 = 0
    · simp only [if_pos c]; simp [Net.add, h.len]
    · simp only [if_neg c]; exact h.len
  · by_cases c : edgeE N e.1 e.2.1 e.2.2 = 0
    · simp only [accN, if_pos c] at hq ⊢
      have hz := edge_zero c
      replace hq : q < N.m + 1 := hq
      show eAt (out ++ [e]) q = (((if q = N.m then e.1.toNat else N.fr q : Nat) : Int), ((if q = N.m then e.2.1.toNat else N.to q : Nat) : Int), if q = N.m then e.2.2 else N.mo q)
      by_cases cq : q = N.m
      · rw [if_pos cq, if_pos cq, if_pos cq]
        have : eAt (out ++ [e]) q = e := by unfold eAt; rw [cq, ← h.len]; simp [List.getD_eq_getElem?_getD]
        rw [this]
        obtain ⟨a, b, d⟩ := e
        simp only at hz ⊢
        rw [Int.toNat_of_nonneg hz.1.1, Int.toNat_of_nonneg hz.2.1.1]
      · rw [if_neg cq, if_neg cq, if_neg cq, ← h.at_ q (by omega)]
        unfold eAt
        have hl := h.len
        simp only [List.getD_eq_getElem?_getD]
        rw [List.getElem?_append_left (by omega)]
    · simp only [accN, if_neg c] at hq ⊢
      exact h.at_ q hq
theorem came_fold {n : Nat} : ∀ (l : List E3) (x : Net × List E3), Came n x.1 x.2 → Came n (l.foldl acc x).1 (l.foldl acc x).2
  | [], x, h => h
  | e :: l, x, h => came_fold l (acc x e) (came_acc h e)
theorem came_made {n : Nat} (h1 : 1 ≤ n) (h2 : n ≤ 1000) (l : List E3) : Came n (madeOf n l).1 (madeOf n l).2 :=
  came_fold l _ ⟨none_ok h1 h2, rfl, rfl, fun e he => absurd he (Nat.not_lt_zero e)⟩
theorem made_take {n : Nat} {l : List E3} {k : Nat} (h : k < l.length) : madeOf n (l.take (k + 1)) = acc (madeOf n (l.take k)) (eAt l k) := by
  unfold madeOf
  rw [List.take_succ_eq_append_getElem h, List.foldl_append]
  have : eAt l k = l[k] := by unfold eAt; rw [List.getD_eq_getElem?_getD, List.getElem?_eq_getElem h]; rfl
  rw [this]; rfl
/-- An edge: put in, or not. -/
theorem edge_calls {N : Net} (hN : N.Ok) {w : World} {base g : Nat} {V : Vs} {rank next : List Int} (hA : NetAt w base g N (L0 N) V [] rank next) (e : E3) {S : Nat → Prop} (hI : NetIn S g V) (hU : ∀ k, w.heap.size ≤ k → S k) :
    Calls Try.prog 18 #[.pointer (some ⟨g, 0, none⟩), .int .i64 e.1, .int .i64 e.2.1, .int .i64 e.2.2] w fun r w' => ∃ V', r = .returned (.tuple #[.int .i64 (edgeA N e), .int .i64 (edgeE N e.1 e.2.1 e.2.2)]) ∧ NetAt w' base g (accN N e) (L0 (accN N e)) V' [] rank next ∧ NetIn S g V' ∧ Kept S w w' := by
  by_cases c : edgeE N e.1 e.2.1 e.2.2 = 0
  · obtain ⟨a, b, d⟩ := e
    simp only at c ⊢
    have hz := edge_zero c
    obtain ⟨f, rfl⟩ := Int.eq_ofNat_of_zero_le hz.1.1
    obtain ⟨t, rfl⟩ := Int.eq_ofNat_of_zero_le hz.2.1.1
    refine (edge_yes hN hA (f := f) (t := t) (c := d) (by omega) (by omega) (by omega) hz.2.2.2.1 hz.2.2.2.2.1 hz.2.2.2.2.2 hI hU).mono ?_
    rintro r w' ⟨V', rfl, h1, h2, h3⟩
    have ea : accN N ((f : Int), (t : Int), d) = N.add f t d := by unfold accN; rw [if_pos c]; simp
    refine ⟨V', by unfold edgeA; rw [if_pos c, c], ?_, h2, h3⟩
    rw [ea]
    refine h1.sameL fun k hk => ?_
    replace hk : k < 2 * (N.m + 1) := hk
    show (if k = 2 * N.m then d else if k = 2 * N.m + 1 then 0 else L0 N k) = (if k % 2 = 0 then (if k / 2 = N.m then d else N.mo (k / 2)) else 0)
    by_cases c1 : k = 2 * N.m
    · rw [if_pos c1, if_pos (by omega), if_pos (by omega)]
    · rw [if_neg c1]
      by_cases c2 : k = 2 * N.m + 1
      · rw [if_pos c2, if_neg (by omega)]
      · rw [if_neg c2]
        unfold L0
        by_cases c3 : k % 2 = 0
        · rw [if_pos c3, if_pos c3, if_neg (by omega)]
        · rw [if_neg c3, if_neg c3]
  · refine (edge_no hN hA e.1 e.2.1 e.2.2 c).mono ?_
    rintro r w' ⟨rfl, rfl⟩
    have ea : accN N e = N := by unfold accN; rw [if_neg c]
    rw [ea]
    exact ⟨V, by unfold edgeA; rw [if_neg c], hA, hI, Kept.refl _ _⟩
theorem info35 : (Try.prog.info? 35).map (fun i => (i.zero, i.size, i.bytes)) = some (some (.agg #[.int .i64 0, .int .i64 0, .int .i64 0]), 3, 24) := by kernel_rfl
set_option maxRecDepth 100000 in
theorem made_no (n : Int) (A : Option Addr) (len cap : Nat) (w : World) (h : n < 1 ∨ 60 < n) :
    Calls Try.prog 9 #[.int .i64 n, .slice A len cap] w fun e w' => e = .returned (.tuple #[.pointer none, .slice none 0 0]) ∧ w' = w := by
  by_cases h1 : n < 1
  · have d1 : decide (n < 1) = true := decide_eq_true h1
    clear h h1
    go_enter Try.func9, Try.ntmps9
    go_wp2
    go_ret2
    exact ⟨rfl, rfl⟩
  · have d1 : decide (n < 1) = false := decide_eq_false h1
    have d3 : decide (n > 60) = true := decide_eq_true (by omega)
    clear h h1
    go_enter Try.func9, Try.ntmps9
    go_wp2
    go_ret2
    exact ⟨rfl, rfl⟩
set_option maxRecDepth 100000 in
set_option maxHeartbeats 4000000 in
theorem made_yes (n : Nat) (h1 : 1 ≤ n) (h2 : n ≤ 60) (A : Option Addr) (cap : Nat) (l : List E3) (w : World) (hl : l.length ≤ 9223372036854775807) (hE : EdgesIn w A l) :
    Calls Try.prog 9 #[.int .i64 n, .slice A l.length cap] w fun e w' => ∃ g V v, e = .returned (.tuple #[.pointer (some ⟨g, 0, none⟩), v]) ∧ NetAt w' w.heap.size g (madeOf n l).1 (L0 (madeOf n l).1) V [] [] [] ∧ w'.ownsRow w.heap.size 35 3 v (madeOf n l).2.length (eCells (madeOf n l).2) ∧ Below w.heap.size w w' := by
  have HE := Aside0.mk hE
  have d1 : decide ((n : Int) < 1) = false := decide_eq_false (by omega)
  have d2 : decide ((n : Int) > 60) = false := decide_eq_false (by omega)
  obtain ⟨base, hbase⟩ : ∃ b, w.heap.size = b := ⟨_, rfl⟩
  have HBS := Aside0.mk hbase
  simp only [hbase]
  clear hE
  go_enter Try.func9, Try.ntmps9
  go_wp2_with fail
  refine (new_yes n h1 (by omega) (L0 (Net.none n)) w).mono ?_
  rintro e w1 ⟨g, V0, rfl, hA1, hB1⟩
  rw [hbase] at hA1 hB1
  have HA1 := Aside0.mk hA1
  have HB1 := Aside0.mk hB1
  clear hA1 hB1 hbase
  go_wp2
  go_loopg [7, 8] l.length (fun q v i wr => ∃ (k : Nat) (V : Vs), Aside0 (k + q = l.length) ∧ i = .int .i64 k ∧ Aside0 (NetAt wr base g (madeOf n (l.take k)).1 (L0 (madeOf n (l.take k)).1) V [] [] []) ∧ Aside0 (wr.ownsRow base 35 3 v (madeOf n (l.take k)).2.length (eCells (madeOf n (l.take k)).2)) ∧ Aside0 (Below base w wr))
  case atStart => exact ⟨0, V0, ⟨by omega⟩, rfl, by rw [List.take_zero]; exact HA1, ⟨by rw [List.take_zero]; exact own_nil _ _ _ _⟩, HB1⟩
  case round =>
    clear HA1 HB1
    obtain ⟨k, V, HK, rfl, HA, HO, HB⟩ := hrel
    by_cases hlt : k < l.length
    · obtain ⟨ad, rfl, hx1, hx2, hx3⟩ := (HE.out.below (w' := wr) (by rw [HBS.out]; exact HB.out)) k hlt
      have hcame := came_made h1 (by omega) (l.take k)
      have hstep := made_take (n := n) hlt
      obtain ⟨e, he⟩ : ∃ e, eAt l k = e := ⟨_, rfl⟩
      rw [he] at hx1 hx2 hx3 hstep
      obtain ⟨x, hx⟩ : ∃ x, madeOf n (l.take k) = x := ⟨_, rfl⟩
      rw [hx] at HA HO hcame hstep
      obtain ⟨N, out⟩ := x
      have HA : Aside0 (NetAt wr base g N (L0 N) V [] [] []) := HA
      have HCM : Aside0 (Came n N out) := ⟨hcame⟩
      have hst : madeOf n (l.take (k + 1)) = (accN N e, if edgeE N e.1 e.2.1 e.2.2 = 0 then out ++ [e] else out) := hstep
      have HST := Aside0.mk hst
      replace HO : Aside0 (wr.ownsRow base 35 3 _ out.length (eCells out)) := HO
      obtain ⟨Av, cv, hv⟩ := own_slice HO.out
      subst hv
      clear hcame hstep he hx hst
      -- what the edge may write
      obtain ⟨S, hS⟩ : ∃ S : Nat → Prop, S = fun q => base ≤ q ∧ (Value.slice Av out.length cv).ownBlock ≠ some q := ⟨_, rfl⟩
      have hI : NetIn S g V := by
        have key : ∀ {e : TypeId} {size m : Nat} {u : Value} {xs : List Value}, wr.ownsRow base e size u m xs → e ≠ 35 → ∀ q, u.ownBlock = some q → S q := fun hu hne q hq => by
          rw [hS]; exact ⟨own_base hu q hq, own_apart2 hu HO.out hne q hq⟩
        refine ⟨by rw [hS]; exact ⟨HA.out.gb, own_apart HO.out HA.out.head (by decide)⟩, key HA.out.out (by decide), key HA.out.arcs (by decide), key HA.out.most (by decide), key HA.out.cut_ (by decide), key HA.out.rank_ (by decide), key HA.out.next_ (by decide), fun a q hq => ?_⟩
        by_cases ha : a < N.n
        · exact key (HA.out.inn a ha) (by decide) q hq
        · have hl := HA.out.out.1
          rw [List.getD_eq_getElem?_getD, List.getElem?_eq_none (by omega)] at hq
          cases hq
      have hU : ∀ q, wr.heap.size ≤ q → S q := fun q hq => by
        rw [hS]
        exact ⟨Nat.le_trans HA.out.size hq, fun h => by have := own_lt HO.out q h; omega⟩
      have HI := Aside0.mk hI
      have HU := Aside0.mk hU
      have HS := Aside0.mk hS
      clear hI hU hS
      have hlow : ad.block < base := by
        have := cell_in ((HE.out k hlt).choose_spec.2.1)
        have e1 := (HE.out k hlt).choose_spec.1
        injection e1 with e1
        have e2 : (ad.add (k * 3)).block = ad.block := by unfold Addr.add; split <;> rfl
        rw [← e1, e2] at this
        rw [← HBS.out]; exact this
      have HLOW := Aside0.mk hlow
      obtain ⟨x1, x2, x3⟩ := e
      simp only at hx1 hx2 hx3
      have hwi := wrap_succ (n := l.length) (by omega) hlt
      clear hlow
      have HHZ : Aside0 (edgeE N x1 x2 x3 = 0 → (edgeE N x1 x2 x3 == 0) = true) := ⟨fun h => by simp [h]⟩
      obtain ⟨ee, hee⟩ : ∃ ee, edgeE N x1 x2 x3 = ee := ⟨_, rfl⟩
      obtain ⟨ea, hea⟩ : ∃ ea, edgeA N (x1, x2, x3) = ea := ⟨_, rfl⟩
      have HEE := Aside0.mk hee
      have HEA := Aside0.mk hea
      clear hee hea HHZ
      go_wp2_with fail
      refine start_ (n := 22) (S := (fun w' => w'.cell? (ad.add (k * 3)) = some (.int .i64 x1) ∧ w'.cell? ⟨(ad.add (k * 3)).block, (ad.add (k * 3)).off + 1, none⟩ = some (.int .i64 x2) ∧ w'.cell? ⟨(ad.add (k * 3)).block, (ad.add (k * 3)).off + 2, none⟩ = some (.int .i64 x3))) (ds := [16]) #[false, false, false, false, false, false, false, false, false, false, false, false, false, false, false, false, false, false, false, false, false, false] (by kernel_rfl) rfl rfl (⟨hx1, hx2, hx3⟩) (fun hHeld => ?_)
      refine pure_ (i := 0) (N := some 30) (v := ?_) (a' := ?_) #[true, false, false, false, false, false, false, false, false, false, false, false, false, false, false, false, false, false, false, false, false, false] rfl rfl (by kernel_rfl) (fun _ _ _ h => h) (Or.inl ⟨by rfl, ?_⟩) ?_ ?_
      rotate_left
      · intro w'
        go_simp
        with_reducible rfl
      rotate_left
      · simp only [Act.put, List.setIfInBounds_toArray, List.set_cons_zero, List.set_cons_succ, i64_w, i32_w]
        rfl
      refine pure_ (i := 1) (N := some 31) (v := ?_) (a' := ?_) #[true, true, false, false, false, false, false, false, false, false, false, false, false, false, false, false, false, false, false, false, false, false] rfl rfl (by kernel_rfl) (fun _ _ _ h => h) (Or.inl ⟨by rfl, ?_⟩) ?_ ?_
      rotate_left
      · intro w'
        go_simp
        with_reducible rfl
      rotate_left
      · simp only [Act.put, List.setIfInBounds_toArray, List.set_cons_zero, List.set_cons_succ, i64_w, i32_w]
        rfl
      refine pure_ (i := 2) (N := some 32) (v := ?_) (a' := ?_) #[true, true, true, false, false, false, false, false, false, false, false, false, false, false, false, false, false, false, false, false, false, false] rfl rfl (by kernel_rfl) (fun _ _ _ h => h) (Or.inl ⟨by rfl, ?_⟩) ?_ ?_
      rotate_left
      · intro w'
        go_simp
        with_reducible rfl
      rotate_left
      · simp only [Act.put, List.setIfInBounds_toArray, List.set_cons_zero, List.set_cons_succ, i64_w, i32_w]
        rfl
      refine pure_ (i := 3) (N := some 33) (v := ?_) (a' := ?_) #[true, true, true, true, false, false, false, false, false, false, false, false, false, false, false, false, false, false, false, false, false, false] rfl rfl (by kernel_rfl) (fun _ _ _ h => h) (Or.inl ⟨by rfl, ?_⟩) ?_ ?_
      rotate_left
      · intro w'
        go_simp
        with_reducible rfl
      rotate_left
      · simp only [Act.put, List.setIfInBounds_toArray, List.set_cons_zero, List.set_cons_succ, i64_w, i32_w]
        rfl
      refine pure_ (i := 4) (N := some 34) (v := ?_) (a' := ?_) #[true, true, true, true, true, false, false, false, false, false, false, false, false, false, false, false, false, false, false, false, false, false] rfl rfl (by kernel_rfl) (fun _ _ _ h => h) (Or.inl ⟨by rfl, ?_⟩) ?_ ?_
      rotate_left
      · intro w'
        go_simp
        with_reducible rfl
      rotate_left
      · simp only [Act.put, List.setIfInBounds_toArray, List.set_cons_zero, List.set_cons_succ, i64_w, i32_w]
        rfl
      refine take_ (i := 5) (N := some 35) (v := ?_) (a' := ?_) #[true, true, true, true, true, true, false, false, false, false, false, false, false, false, false, false, false, false, false, false, false, false] rfl rfl (by kernel_rfl) (fun _ _ _ h => h) (Or.inl ⟨by rfl, ?_⟩) hHeld ?_ ?_
      rotate_left
      · rintro w' ⟨s0, s1, s2⟩
        go_simp
        with_reducible rfl
      rotate_left
      · simp only [Act.put, List.setIfInBounds_toArray, List.set_cons_zero, List.set_cons_succ, i64_w, i32_w]
        rfl
      refine pure_ (i := 6) (N := some 36) (v := ?_) (a' := ?_) #[true, true, true, true, true, true, true, false, false, false, false, false, false, false, false, false, false, false, false, false, false, false] rfl rfl (by kernel_rfl) (fun _ _ _ h => h) (Or.inl ⟨by rfl, ?_⟩) ?_ ?_
      rotate_left
      · intro w'
        go_simp
        with_reducible rfl
      rotate_left
      · simp only [Act.put, List.setIfInBounds_toArray, List.set_cons_zero, List.set_cons_succ, i64_w, i32_w]
        rfl
      refine pure_ (i := 7) (N := some 37) (v := ?_) (a' := ?_) #[true, true, true, true, true, true, true, true, false, false, false, false, false, false, false, false, false, false, false, false, false, false] rfl rfl (by kernel_rfl) (fun _ _ _ h => h) (Or.inl ⟨by rfl, ?_⟩) ?_ ?_
      rotate_left
      · intro w'
        go_simp
        with_reducible rfl
      rotate_left
      · simp only [Act.put, List.setIfInBounds_toArray, List.set_cons_zero, List.set_cons_succ, i64_w, i32_w]
        rfl
      refine pure_ (i := 8) (N := some 38) (v := ?_) (a' := ?_) #[true, true, true, true, true, true, true, true, true, false, false, false, false, false, false, false, false, false, false, false, false, false] rfl rfl (by kernel_rfl) (fun _ _ _ h => h) (Or.inl ⟨by rfl, ?_⟩) ?_ ?_
      rotate_left
      · intro w'
        go_simp
        with_reducible rfl
      rotate_left
      · simp only [Act.put, List.setIfInBounds_toArray, List.set_cons_zero, List.set_cons_succ, i64_w, i32_w]
        rfl
      refine pure_ (i := 9) (N := some 39) (v := ?_) (a' := ?_) #[true, true, true, true, true, true, true, true, true, true, false, false, false, false, false, false, false, false, false, false, false, false] rfl rfl (by kernel_rfl) (fun _ _ _ h => h) (Or.inl ⟨by rfl, ?_⟩) ?_ ?_
      rotate_left
      · intro w'
        go_simp
        with_reducible rfl
      rotate_left
      · simp only [Act.put, List.setIfInBounds_toArray, List.set_cons_zero, List.set_cons_succ, i64_w, i32_w]
        rfl
      refine take_ (i := 10) (N := some 40) (v := ?_) (a' := ?_) #[true, true, true, true, true, true, true, true, true, true, true, false, false, false, false, false, false, false, false, false, false, false] rfl rfl (by kernel_rfl) (fun _ _ _ h => h) (Or.inl ⟨by rfl, ?_⟩) hHeld ?_ ?_
      rotate_left
      · rintro w' ⟨s0, s1, s2⟩
        go_simp
        with_reducible rfl
      rotate_left
      · simp only [Act.put, List.setIfInBounds_toArray, List.set_cons_zero, List.set_cons_succ, i64_w, i32_w]
        rfl
      refine pure_ (i := 11) (N := some 41) (v := ?_) (a' := ?_) #[true, true, true, true, true, true, true, true, true, true, true, true, false, false, false, false, false, false, false, false, false, false] rfl rfl (by kernel_rfl) (fun _ _ _ h => h) (Or.inl ⟨by rfl, ?_⟩) ?_ ?_
      rotate_left
      · intro w'
        go_simp
        with_reducible rfl
      rotate_left
      · simp only [Act.put, List.setIfInBounds_toArray, List.set_cons_zero, List.set_cons_succ, i64_w, i32_w]
        rfl
      refine pure_ (i := 12) (N := some 42) (v := ?_) (a' := ?_) #[true, true, true, true, true, true, true, true, true, true, true, true, true, false, false, false, false, false, false, false, false, false] rfl rfl (by kernel_rfl) (fun _ _ _ h => h) (Or.inl ⟨by rfl, ?_⟩) ?_ ?_
      rotate_left
      · intro w'
        go_simp
        with_reducible rfl
      rotate_left
      · simp only [Act.put, List.setIfInBounds_toArray, List.set_cons_zero, List.set_cons_succ, i64_w, i32_w]
        rfl
      refine pure_ (i := 13) (N := some 43) (v := ?_) (a' := ?_) #[true, true, true, true, true, true, true, true, true, true, true, true, true, true, false, false, false, false, false, false, false, false] rfl rfl (by kernel_rfl) (fun _ _ _ h => h) (Or.inl ⟨by rfl, ?_⟩) ?_ ?_
      rotate_left
      · intro w'
        go_simp
        with_reducible rfl
      rotate_left
      · simp only [Act.put, List.setIfInBounds_toArray, List.set_cons_zero, List.set_cons_succ, i64_w, i32_w]
        rfl
      refine pure_ (i := 14) (N := some 44) (v := ?_) (a' := ?_) #[true, true, true, true, true, true, true, true, true, true, true, true, true, true, true, false, false, false, false, false, false, false] rfl rfl (by kernel_rfl) (fun _ _ _ h => h) (Or.inl ⟨by rfl, ?_⟩) ?_ ?_
      rotate_left
      · intro w'
        go_simp
        with_reducible rfl
      rotate_left
      · simp only [Act.put, List.setIfInBounds_toArray, List.set_cons_zero, List.set_cons_succ, i64_w, i32_w]
        rfl
      refine take_ (i := 15) (N := some 45) (v := ?_) (a' := ?_) #[true, true, true, true, true, true, true, true, true, true, true, true, true, true, true, true, false, false, false, false, false, false] rfl rfl (by kernel_rfl) (fun _ _ _ h => h) (Or.inl ⟨by rfl, ?_⟩) hHeld ?_ ?_
      rotate_left
      · rintro w' ⟨s0, s1, s2⟩
        go_simp
        with_reducible rfl
      rotate_left
      · simp only [Act.put, List.setIfInBounds_toArray, List.set_cons_zero, List.set_cons_succ, i64_w, i32_w]
        rfl
      refine last_ (i := 16) (N := some 46) #[true, true, true, true, true, true, true, true, true, true, true, true, true, true, true, true, true, false, false, false, false, false] rfl rfl (by kernel_rfl) (by decide) (fun K hK => ?_)
      refine goes_ Try.func18 (by kernel_rfl) rfl #[.pointer (some ⟨g, 0, none⟩), .int .i64 x1, .int .i64 x2, .int .i64 x3] (by rfl) rfl rfl (by simp only [List.map_toArray, List.map_cons, List.map_nil]; rfl) ?_
      refine (edge_calls HCM.out.ok HA.out.drew (x1, x2, x3) HI.out HU.out).mono ?_
      rintro r w6 ⟨V6, rfl, hA6, hI6, hK6⟩
      have HA6 := Aside0.mk hA6
      have HI6 := Aside0.mk hI6
      have HK6 : Aside0 (Kept S wr w6) := ⟨(kept_drew (Kept.refl S wr)).trans hK6⟩
      clear hA6 hI6 hK6
      rw [HEA.out, HEE.out]
      refine ⟨_, rfl, ?_⟩
      refine hK.out _ _ ?_
      clear hK K
      refine pure_ (i := 17) (N := some 29) (v := ?_) (a' := ?_) #[true, true, true, true, true, true, true, true, true, true, true, true, true, true, true, true, true, true, false, false, false, false] rfl rfl (by kernel_rfl) (fun _ _ _ h => h) (Or.inl ⟨by rfl, ?_⟩) ?_ ?_
      rotate_left
      · intro w'
        go_simp
        with_reducible rfl
      rotate_left
      · simp only [Act.put, List.setIfInBounds_toArray, List.set_cons_zero, List.set_cons_succ, i64_w, i32_w]
        rfl
      refine pure_ (i := 18) (N := some 47) (v := ?_) (a' := ?_) #[true, true, true, true, true, true, true, true, true, true, true, true, true, true, true, true, true, true, true, false, false, false] rfl rfl (by kernel_rfl) (fun _ _ _ h => h) (Or.inl ⟨by rfl, ?_⟩) ?_ ?_
      rotate_left
      · intro w'
        go_simp
        with_reducible rfl
      rotate_left
      · simp only [Act.put, List.setIfInBounds_toArray, List.set_cons_zero, List.set_cons_succ, i64_w, i32_w]
        rfl
      refine pure_ (i := 19) (N := some 48) (v := ?_) (a' := ?_) #[true, true, true, true, true, true, true, true, true, true, true, true, true, true, true, true, true, true, true, true, false, false] rfl rfl (by kernel_rfl) (fun _ _ _ h => h) (Or.inl ⟨by rfl, ?_⟩) ?_ ?_
      rotate_left
      · intro w'
        go_simp
        with_reducible rfl
      rotate_left
      · simp only [Act.put, List.setIfInBounds_toArray, List.set_cons_zero, List.set_cons_succ, i64_w, i32_w]
        rfl
      refine pure_ (i := 20) (N := some 9) (v := ?_) (a' := ?_) #[true, true, true, true, true, true, true, true, true, true, true, true, true, true, true, true, true, true, true, true, true, false] rfl rfl (by kernel_rfl) (fun _ _ _ h => h) (Or.inl ⟨by rfl, ?_⟩) ?_ ?_
      rotate_left
      · intro w'
        go_simp
        with_reducible rfl
      rotate_left
      · simp only [Act.put, List.setIfInBounds_toArray, List.set_cons_zero, List.set_cons_succ, i64_w, i32_w]
        rfl
      refine pure_ (i := 21) (N := some 10) (v := ?_) (a' := ?_) #[true, true, true, true, true, true, true, true, true, true, true, true, true, true, true, true, true, true, true, true, true, true] rfl rfl (by kernel_rfl) (fun _ _ _ h => h) (Or.inl ⟨by rfl, ?_⟩) ?_ ?_
      rotate_left
      · intro w'
        go_simp
        with_reducible rfl
      rotate_left
      · simp only [Act.put, List.setIfInBounds_toArray, List.set_cons_zero, List.set_cons_succ, i64_w, i32_w]
        rfl
      refine done_ (by kernel_rfl) ?_
      skip
      have hb6 : w6.heap[(ad.add (k * 3)).block]? = wr.heap[(ad.add (k * 3)).block]? := HK6.out.block _ (by
        have e2 : (ad.add (k * 3)).block = ad.block := by unfold Addr.add; split <;> rfl
        rw [HS.out, e2]
        exact fun h => Nat.not_le_of_lt HLOW.out h.1)
      have hy1 := cell_kept (w' := w6) hx1 hb6
      have hy2 := cell_kept (w' := w6) hx2 hb6
      have hy3 := cell_kept (w' := w6) hx3 hb6
      have HB6 : Aside0 (Below base w w6) := ⟨⟨HK6.out.os.trans HB.out.os, HK6.out.tape.trans HB.out.tape, HK6.out.output.trans HB.out.output, Nat.le_trans HB.out.size HK6.out.size, fun q hq => (HK6.out.block q (by rw [HS.out]; exact fun h => Nat.not_le_of_lt hq h.1)).trans (HB.out.block q hq)⟩⟩
      have HO6 : Aside0 (w6.ownsRow base 35 3 (.slice Av out.length cv) out.length (eCells out)) := ⟨own_move HO.out fun q hq => HK6.out.block q (by rw [HS.out]; exact fun h => h.2 hq)⟩
      clear hb6 hx1 hx2 hx3 HB HO HA
      by_cases hz : ee = 0
      · have hzb : (ee == 0) = true := by simp [hz]
        subst hz
        have hol : out.length ≤ 5000 := by rw [HCM.out.len]; exact HCM.out.ok.few
        have hby : (out.length + 1) * 24 ≤ 140737488355328 := by omega
        have ho6 := HO6.out
        have hb6' := HB6.out
        have hs6 := hb6'.size
        rw [HBS.out] at hs6
        go_wp2_with (first
          | (at_builtin
             go_loud (refine print_append_cells (w0 := w) (W := w6) base rfl (.tmp 51) (.tmp 56) 22 35 (.agg #[.int .i64 0, .int .i64 0, .int .i64 0]) 3 24 rfl Try.underlying22 info35 rfl (by decide) (by decide) (.slice Av out.length cv) out.length (eCells out) [.int .i64 x1, .int .i64 x2, .int .i64 x3] rfl rfl rfl (fun u hu => by simp only [List.mem_cons, List.not_mem_nil, or_false] at hu; rcases hu with rfl | rfl | rfl <;> rfl) ho6 hb6' hs6 hby ?_)
             intro v7 w7 ho7 hb7 hg7 _
             have HO7 := Aside0.mk ho7
             have HB7 := Aside0.mk hb7
             have HG7 := Aside0.mk hg7
             clear ho7 hb7 hg7 ho6 hb6' hs6)
          | fail)
        have HA7 : Aside0 (NetAt w7 base g (accN N (x1, x2, x3)) (L0 (accN N (x1, x2, x3))) V6 [] [] []) := ⟨by
          have hne : ∀ q, S q → (Value.slice Av out.length cv).ownBlock ≠ some q := fun q hq => by rw [HS.out] at hq; exact hq.2
          have mv : ∀ q, q < w6.heap.size → S q → w7.heap[q]? = w6.heap[q]? := fun q hq hs => HG7.out.block q hq (fun e => hne q hs e.symm)
          have h := HA6.out
          have mvo : ∀ {e : TypeId} {size m : Nat} {u : Value} {xs : List Value}, w6.ownsRow base e size u m xs → (∀ q, u.ownBlock = some q → S q) → w7.ownsRow base e size u m xs := fun hu hs => own_move hu fun q hq => mv q (own_lt hu q hq) (hs q hq)
          have hi := HI6.out
          exact ⟨h.gb, (mv g (blk_lt h.head) hi.g).trans h.head, mvo h.out hi.vo, fun a ha => mvo (h.inn a ha) (hi.rows a), mvo h.arcs hi.va, mvo h.most hi.vm, mvo h.cut_ hi.vc, mvo h.rank_ hi.vr, mvo h.next_ hi.vn, h.apR, h.apM, h.apK, h.apN, h.apMK, h.apMN, h.apKN⟩⟩
        have HO8 : Aside0 (w7.ownsRow base 35 3 v7 (out ++ [(x1, x2, x3)]).length (eCells (out ++ [(x1, x2, x3)]))) := ⟨by
          rw [eCells_app, List.length_append]; exact HO7.out⟩
        go_wp2
        go_roundg (gk - 1)
        case measure => exact pred_lt HK hlt
        case rel => exact ⟨k + 1, V6, next_eq HK hlt, by first | rfl | go_num, by rw [HST.out]; exact HA7, by rw [HST.out, if_pos HEE.out]; exact HO8, HB7⟩
      · have hzb : (ee == 0) = false := by simp [hz]
        go_wp2
        go_roundg (gk - 1)
        case measure => exact pred_lt HK hlt
        case rel => exact ⟨k + 1, V6, next_eq HK hlt, by first | rfl | go_num, by rw [HST.out]; exact HA6, by rw [HST.out, if_neg (by rw [HEE.out]; exact hz)]; exact HO6, HB6⟩
    · obtain rfl : k = l.length := by have := HK.out; omega
      rw [List.take_length] at HA HO
      clear HK hlt
      go_wp2
      go_ret2
      exact ⟨_, _, _, rfl, HA.out, HO.out, HB.out⟩
end Go.Proofs.Ytffghdbhjjfnlaa.F
end
section
/-
  The laws' helper: heads.
-/
namespace Go.Proofs.Ytffghdbhjjfnlaa.F
open Go.RowKit Go.Proofs.YtffghdbhjjfnlaaW.PrintWords Go.Proofs.YtffghdbhjjfnlaaW.PrintLast Go.Proofs.YtffghdbhjjfnlaaW.PrintMore
set_option linter.unusedVariables false
set_option linter.unusedSimpArgs false
/-- The chapter's example. -/
def H1 : Net := (Net.none 3).add 0 1 5
def H2 : Net := H1.add 1 2 3
theorem h1_ok : H1.Ok := add_ok (none_ok (by decide) (by decide)) (by decide) (by decide) (by decide) (by decide) (by decide) (by decide)
theorem h2_ok : H2.Ok := add_ok h1_ok (by decide) (by decide) (by decide) (by decide) (by decide) (by decide)
def hRun : Option (Int × Int × Int × Bool × Bool × Bool) := (run H2 0 2 30 (L0 H2) 0).map fun x => (x.2.2, x.1 1, x.1 3, decide (x.2.1 0 ≥ 0), decide (x.2.1 1 ≥ 0), decide (x.2.1 2 ≥ 0))
theorem hRun_is : hRun = some (3, 3, 3, true, true, false) := by kernel_rfl
theorem h_run : ∃ L rk, run H2 0 2 30 (L0 H2) 0 = some (L, rk, 3) ∧ L 1 = 3 ∧ L 3 = 3 ∧ cutL H2 rk = [true, true, false] := by
  have h := hRun_is
  unfold hRun at h
  cases e : run H2 0 2 30 (L0 H2) 0 with
  | none => rw [e] at h; cases h
  | some x =>
    obtain ⟨L, rk, sum⟩ := x
    rw [e] at h
    simp only [Option.map_some, Option.some.injEq, Prod.mk.injEq] at h
    obtain ⟨h1, h2, h3, h4, h5, h6⟩ := h
    refine ⟨L, rk, by rw [h1], h2, h3, ?_⟩
    show [decide (rk 0 ≥ 0), decide (rk 1 ≥ 0), decide (rk 2 ≥ 0)] = _
    rw [h4, h5, h6]
theorem in_low {w : World} {base g : Nat} {N : Net} {L : Nat → Int} {V : Vs} {cut : List Bool} {rank next : List Int} (h : NetAt w base g N L V cut rank next) : NetIn (fun k => base ≤ k) g V := h.in_.mono fun _ h => h.1
theorem up_low {w : World} {base g : Nat} {N : Net} {L : Nat → Int} {V : Vs} {cut : List Bool} {rank next : List Int} (h : NetAt w base g N L V cut rank next) : ∀ k, w.heap.size ≤ k → base ≤ k := fun k hk => Nat.le_trans h.size hk
set_option maxRecDepth 100000 in
set_option maxHeartbeats 4000000 in
theorem heads_calls (w : World) : Calls Try.prog 10 #[] w fun e w' => e = .returned (.bool true) ∧ Below w.heap.size w w' := by
  obtain ⟨base, hbase⟩ : ∃ b, w.heap.size = b := ⟨_, rfl⟩
  have HBS := Aside0.mk hbase
  simp only [hbase]
  obtain ⟨L, rk, hr, hf0, hf1, hcut⟩ := h_run
  have HR := Aside0.mk hr
  have HF0 := Aside0.mk hf0
  have HF1 := Aside0.mk hf1
  have HCUT := Aside0.mk hcut
  clear hr hf0 hf1 hcut
  go_enter Try.func10, Try.ntmps10
  go_wp2_with fail
  refine (new_yes 3 (by decide) (by decide) (L0 (Net.none 3)) w).mono ?_
  rintro e w1 ⟨g, V1, rfl, hA1, hB1⟩
  rw [hbase] at hA1 hB1
  have HA1 := Aside0.mk hA1
  have HB1 := Aside0.mk hB1
  clear hA1 hB1 hbase
  go_wp2_with fail
  refine (edge_yes (f := 0) (t := 1) (c := 5) (none_ok (by decide) (by decide)) HA1.out (by decide) (by decide) (by decide) (by decide) (by decide) (by decide) (in_low HA1.out) (up_low HA1.out)).mono ?_
  rintro e w2 ⟨V2, rfl, hA2, hI2, hK2⟩
  have HA2 := Aside0.mk hA2
  have HB2 := Aside0.mk (HB1.out.trans hK2.below)
  clear hA2 hI2 hK2 HB1 HA1
  go_wp2_with fail
  refine (edge_yes (f := 1) (t := 2) (c := 3) h1_ok HA2.out (by decide) (by decide) (by decide) (by decide) (by decide) (by decide) (in_low HA2.out) (up_low HA2.out)).mono ?_
  rintro e w3 ⟨V3, rfl, hA3, hI3, hK3⟩
  have HA3 := Aside0.mk hA3
  have HB3 := Aside0.mk (HB2.out.trans hK3.below)
  clear hA3 hI3 hK3 HB2 HA2
  go_wp2_with fail
  refine (run_calls h2_ok (f := 0) (t := 2) (by decide) (by decide) (by decide) HR.out HA3.out (in_low HA3.out) (up_low HA3.out)).mono ?_
  rintro e w4 ⟨V4, rank4, next4, rfl, hA4, hI4, hK4⟩
  rw [HCUT.out] at hA4
  have HA4 := Aside0.mk hA4
  have HB4 := Aside0.mk (HB3.out.trans hK4.below)
  clear hA4 hI4 hK4 HB3 HA3
  go_wp2_with fail
  refine (cut_calls HA4.out (by decide)).mono ?_
  rintro e w5 ⟨vc, rfl, ho5, hb5⟩
  have HA5 := Aside0.mk (HA4.out.below hb5)
  have HB5 := Aside0.mk (below_then HB4.out HA4.out.size hb5)
  obtain ⟨gc, cc, hvc, _⟩ := own_form ho5 (by decide)
  subst hvc
  have hc : ∀ i, i < 3 → w5.cell? ⟨gc, i, none⟩ = some (.bool ([true, true, false].getD i false)) := fun i hi => (own_cellB ho5 i hi).1
  have c0 : w5.cell? ⟨gc, 0, none⟩ = some (.bool true) := hc 0 (by decide)
  have c1 : w5.cell? ⟨gc, 1, none⟩ = some (.bool true) := hc 1 (by decide)
  have c2 : w5.cell? ⟨gc, 2, none⟩ = some (.bool false) := hc 2 (by decide)
  clear ho5 hb5 HA4 HB4 hc
  go_wp2_with fail
  refine (edge_no h2_ok HA5.out 1 1 3 (by decide)).mono ?_
  rintro e w6 ⟨rfl, hw6⟩
  have hw6' := hw6.symm
  subst hw6'
  have he2 : edgeE H2 1 1 3 = 2 := by decide
  rw [he2]
  clear hw6 he2
  go_wp2_with fail
  refine (flow_calls h2_ok HA5.out 0).mono ?_
  rintro e w6 ⟨rfl, hw6⟩
  have hw6' := hw6.symm
  subst hw6'
  have hfa : flowF H2 L 0 = 3 := by rw [← HF0.out]; rfl
  rw [hfa]
  clear hw6 hfa
  go_wp2_with fail
  refine (flow_calls h2_ok HA5.out 1).mono ?_
  rintro e w6 ⟨rfl, hw6⟩
  have hw6' := hw6.symm
  subst hw6'
  have hfa : flowF H2 L 1 = 3 := by rw [← HF1.out]; rfl
  rw [hfa]
  clear hw6 hfa
  go_wp2_with fail
  refine (new_no 0 (by decide) w5).mono ?_
  rintro e w6 ⟨rfl, hw6⟩
  have hw6' := hw6.symm
  subst hw6'
  clear hw6
  go_wp2
  go_ret
  exact ⟨rfl, HB5.out⟩
end Go.Proofs.Ytffghdbhjjfnlaa.F
end
section
/-
  The law FlowCut: its walk.
-/
namespace Go.Proofs.Ytffghdbhjjfnlaa.F
open Go.RowKit Go.Proofs.YtffghdbhjjfnlaaW.PrintWords Go.Proofs.YtffghdbhjjfnlaaW.PrintLast Go.Proofs.YtffghdbhjjfnlaaW.PrintMore
attribute [local go_sem] max2_int min2_int max_two min_two
set_option linter.unusedVariables false
set_option linter.unusedSimpArgs false
/-- A net's blocks, and a row of edges beside it. -/
def Beside (base : Nat) (v : Value) : Nat → Prop := fun q => base ≤ q ∧ v.ownBlock ≠ some q
theorem in_out {w : World} {base g m : Nat} {N : Net} {L : Nat → Int} {V : Vs} {cut : List Bool} {rank next : List Int} {v : Value} {xs : List Value} (hA : NetAt w base g N L V cut rank next) (hO : w.ownsRow base 35 3 v m xs) : NetIn (Beside base v) g V := by
  have key : ∀ {e : TypeId} {size m : Nat} {u : Value} {xs : List Value}, w.ownsRow base e size u m xs → e ≠ 35 → ∀ q, u.ownBlock = some q → Beside base v q := fun hu hne q hq => ⟨own_base hu q hq, own_apart2 hu hO hne q hq⟩
  refine ⟨⟨hA.gb, own_apart hO hA.head (by decide)⟩, key hA.out (by decide), key hA.arcs (by decide), key hA.most (by decide), key hA.cut_ (by decide), key hA.rank_ (by decide), key hA.next_ (by decide), fun a q hq => ?_⟩
  by_cases ha : a < N.n
  · exact key (hA.inn a ha) (by decide) q hq
  · have hl := hA.out.1
    rw [List.getD_eq_getElem?_getD, List.getElem?_eq_none (by omega)] at hq
    cases hq
theorem up_out {w : World} {base m : Nat} {v : Value} {xs : List Value} (hb : base ≤ w.heap.size) (hO : w.ownsRow base 35 3 v m xs) : ∀ q, w.heap.size ≤ q → Beside base v q := fun q hq => ⟨Nat.le_trans hb hq, fun h => by have := own_lt hO q h; omega⟩
theorem kept_out {w w' : World} {base m : Nat} {v : Value} {xs : List Value} (h : Kept (Beside base v) w w') (hO : w.ownsRow base 35 3 v m xs) : w'.ownsRow base 35 3 v m xs := own_move hO fun q hq => h.block q fun h => h.2 hq
theorem kept_low {w w' : World} {base : Nat} {v : Value} (h : Kept (Beside base v) w w') : Below base w w' := ⟨h.os, h.tape, h.output, h.size, fun k hk => h.block k fun h => by have := h.1; omega⟩
end Go.Proofs.Ytffghdbhjjfnlaa.F
end
section
/-
  The reference's functions in and Most: their walks, and the least of all cuts.
-/
namespace Go.Proofs.Ytffghdbhjjfnlaa.F
open Go.RowKit Go.Proofs.YtffghdbhjjfnlaaW.PrintWords Go.Proofs.YtffghdbhjjfnlaaW.PrintLast Go.Proofs.YtffghdbhjjfnlaaW.PrintMore
set_option linter.unusedVariables false
set_option linter.unusedSimpArgs false
theorem bit_is (s i : Nat) : (((s : Int) / 2 ^ i).tmod 2 == 1) = s.testBit i := by
  rw [Nat.testBit_eq_decide_div_mod_eq]
  have h : ((s : Int) / 2 ^ i).tmod 2 = ((s / 2 ^ i % 2 : Nat) : Int) := by
    rw [show ((s : Int) / 2 ^ i) = ((s / 2 ^ i : Nat) : Int) by simp, show (2 : Int) = ((2 : Nat) : Int) from rfl, ← Int.ofNat_tmod]
  rw [h]
  by_cases c : s / 2 ^ i % 2 = 1
  · simp [c]
  · rw [decide_eq_false c]
    simp only [beq_eq_false_iff_ne, ne_eq]
    omega
set_option maxRecDepth 100000 in
theorem in_calls (s i : Nat) (hs : s ≤ 256) (hi : i < 8) (w : World) : Calls Try.prog 25 #[.int .i64 s, .int .i64 i] w fun e w' => e = .returned (.bool (s.testBit i)) ∧ w' = w := by
  have hb := bit_is s i
  have HB := Aside0.mk hb
  clear hb
  go_enter Try.func25, Try.ntmps25
  go_wp2
  rw [HB.out]
  go_ret
  exact ⟨rfl, rfl⟩
/-! ### the least of all cuts -/
def Parts (f t s : Nat) : Prop := s.testBit f = true ∧ s.testBit t = false
def capS (N : Net) (s : Nat) : Int := capK N (fun v => s.testBit v) N.m
def Least (N : Net) (f t s : Nat) (b : Int) : Prop :=
  (b = -1 ∧ ∀ r, r < s → ¬ Parts f t r) ∨ (0 ≤ b ∧ (∃ r, Parts f t r ∧ b = capS N r) ∧ ∀ r, r < s → Parts f t r → b ≤ capS N r)
theorem least_zero (N : Net) (f t : Nat) : Least N f t 0 (-1) := .inl ⟨rfl, fun r hr => absurd hr (Nat.not_lt_zero r)⟩
theorem least_skip {N : Net} {f t s : Nat} {b : Int} (h : Least N f t s b) (hp : ¬ Parts f t s) : Least N f t (s + 1) b := by
  rcases h with ⟨h1, h2⟩ | ⟨h1, h2, h3⟩
  · exact .inl ⟨h1, fun r hr hq => by
      by_cases c : r = s
      · subst c; exact hp hq
      · exact h2 r (by omega) hq⟩
  · exact .inr ⟨h1, h2, fun r hr hq => by
      by_cases c : r = s
      · subst c; exact absurd hq hp
      · exact h3 r (by omega) hq⟩
theorem least_take {N : Net} (hN : N.Ok) {f t s : Nat} {b : Int} (h : Least N f t s b) (hp : Parts f t s) (hc : b < 0 ∨ capS N s < b) : Least N f t (s + 1) (capS N s) := by
  refine .inr ⟨(capK_bound hN _ N.m (Nat.le_refl _)).1, ⟨s, hp, rfl⟩, fun r hr hq => ?_⟩
  by_cases c : r = s
  · subst c; exact Int.le_refl _
  · rcases h with ⟨h1, h2⟩ | ⟨h1, h2, h3⟩
    · exact absurd hq (h2 r (by omega))
    · have := h3 r (by omega) hq
      omega
theorem least_keep {N : Net} {f t s : Nat} {b : Int} (h : Least N f t s b) (hp : Parts f t s) (hc : ¬ (b < 0 ∨ capS N s < b)) : Least N f t (s + 1) b := by
  rcases h with ⟨h1, h2⟩ | ⟨h1, h2, h3⟩
  · omega
  · refine .inr ⟨h1, h2, fun r hr hq => ?_⟩
    by_cases c : r = s
    · subst c; omega
    · exact h3 r (by omega) hq
theorem mask_of (C : Nat → Bool) : ∀ n : Nat, ∃ s, s < 2 ^ n ∧ ∀ v, v < n → s.testBit v = C v
  | 0 => ⟨0, by decide, fun v hv => absurd hv (Nat.not_lt_zero v)⟩
  | n + 1 => by
    obtain ⟨s, h1, h2⟩ := mask_of C n
    have hp : 2 ^ (n + 1) = 2 * 2 ^ n := by rw [Nat.pow_succ]; omega
    cases c : C n with
    | false =>
      refine ⟨s, by omega, fun v hv => ?_⟩
      by_cases hvn : v = n
      · subst hvn; rw [c]; exact Nat.testBit_lt_two_pow h1
      · exact h2 v (by omega)
    | true =>
      refine ⟨2 ^ n + s, by omega, fun v hv => ?_⟩
      by_cases hvn : v = n
      · subst hvn; rw [c, Nat.testBit_two_pow_add_eq, Nat.testBit_lt_two_pow h1]; rfl
      · rw [Nat.testBit_two_pow_add_gt (by omega)]; exact h2 v (by omega)
theorem capK_congr {N : Net} (hN : N.Ok) {C D : Nat → Bool} (h : ∀ v, v < N.n → C v = D v) {k : Nat} (hk : k ≤ N.m) : capK N C k = capK N D k := sm_congr fun e he => by
  rw [h _ (hN.fr e (by omega)), h _ (hN.to e (by omega))]
/-- The least of all cuts is the size of the greatest flow. -/
theorem least_all {N : Net} (hN : N.Ok) {f t : Nat} (hf : f < N.n) (ht : t < N.n) {L : Nat → Int} {sum : Int} (h : Flows N f t L sum) {rk : Nat → Int} (hr : Ranked N L f rk) (hneg : rk t < 0) {b : Int} (hb : Least N f t (2 ^ N.n) b) : b = sum := by
  obtain ⟨c1, c2, _, _, c5⟩ := ranked_cut hN hf h hr hneg
  obtain ⟨s, hs, hC⟩ := mask_of (fun v => decide (rk v ≥ 0)) N.n
  have hp : Parts f t s := ⟨(hC f hf).trans c1, (hC t ht).trans c2⟩
  have hcap : capS N s = sum := by rw [c5]; exact capK_congr hN hC (Nat.le_refl _)
  rcases hb with ⟨_, h2⟩ | ⟨_, ⟨r, h2, h3⟩, h4⟩
  · exact absurd hp (h2 s hs)
  · have u1 := h4 s hs hp
    have u2 := flow_le_cut hN hf h (C := fun v => r.testBit v) h2.1 h2.2
    have u3 : capS N r = capK N (fun v => r.testBit v) N.m := rfl
    omega
set_option maxRecDepth 100000 in
set_option maxHeartbeats 1000000 in
theorem most_calls {N : Net} (hN : N.Ok) {n0 : Nat} {out : List E3} (hC : Came n0 N out) (h8 : N.n ≤ 8) {f t : Nat} (hf : f < N.n) (ht : t < N.n) {sum : Int} (hb : ∀ b, Least N f t (2 ^ N.n) b → b = sum) {w : World} {A : Option Addr} {c : Nat} (hE : EdgesIn w A out) :
    Calls Try.prog 15 #[.int .i64 N.n, .slice A out.length c, .int .i64 f, .int .i64 t] w fun e w' => e = .returned (.int .i64 sum) ∧ w' = w := by
  have HE := Aside0.mk hE
  have HC := Aside0.mk hC
  have HN := Aside0.mk hN
  have HB := Aside0.mk hb
  obtain ⟨n, hn⟩ : ∃ n, N.n = n := ⟨_, rfl⟩
  have HNN := Aside0.mk hn
  rw [hn] at h8 hf ht
  rw [hn]
  clear hE hC hN hb hn
  have hp : 2 ^ n ≤ 2 ^ 8 := Nat.pow_le_pow_right (by decide) h8
  replace hp : 2 ^ n ≤ 256 := hp
  obtain ⟨G, hG⟩ : ∃ G, 2 ^ n = G := ⟨_, rfl⟩
  have HG := Aside0.mk hG
  rw [hG] at hp
  have hw : wrap64 (2 ^ n) = (G : Int) := by
    have : ((2 : Int) ^ n) = (G : Int) := by rw [← hG]; simp
    rw [this]; unfold wrap64; omega
  have HW := Aside0.mk hw
  clear hw hG
  go_enter Try.func15, Try.ntmps15
  go_wp2
  go_loopg [9, 10] G (fun q b i wx => ∃ (s : Nat) (bi : Int), Aside0 (s + q = G) ∧ i = .int .i64 s ∧ b = .int .i64 bi ∧ Aside0 (Least N f t s bi) ∧ Aside0 (wx = w))
  case atStart => exact ⟨0, -1, ⟨by omega⟩, rfl, rfl, ⟨least_zero N f t⟩, ⟨rfl⟩⟩
  case round =>
    obtain ⟨gO, rfl⟩ : ∃ q, q = gk := ⟨_, rfl⟩
    obtain ⟨s, bi, HK, rfl, rfl, HL, HWX⟩ := hrel
    have hwx := HWX.out
    subst hwx
    clear HWX
    by_cases hlt : s < G
    · have hls : (s : Int) < wrap64 (2 ^ n) := by rw [HW.out]; omega
      have hwi := wrap_succ (n := G) (by omega) hlt
      go_wp2_with fail
      refine (in_calls s f (by omega) (by omega) wr).mono ?_
      rintro e w1 ⟨rfl, hw1⟩
      have hw1' := hw1.symm
      subst hw1'
      clear hw1
      cases hbf : s.testBit f with
      | false =>
        have HNP := Aside0.mk (show ¬ Parts f t s from fun h => by rw [h.1] at hbf; cases hbf)
        clear hbf
        go_wp2
        go_roundg (gO - 1)
        case measure => exact pred_lt HK hlt
        case rel => exact ⟨s + 1, bi, next_eq HK hlt, by first | rfl | go_num, rfl, ⟨least_skip HL.out HNP.out⟩, ⟨rfl⟩⟩
      | true =>
        go_wp2_with fail
        refine (in_calls s t (by omega) (by omega) wr).mono ?_
        rintro e w1 ⟨rfl, hw1⟩
        have hw1' := hw1.symm
        subst hw1'
        clear hw1
        cases hbt : s.testBit t with
        | true =>
          have HNP := Aside0.mk (show ¬ Parts f t s from fun h => by rw [h.2] at hbt; cases hbt)
          clear hbf hbt
          go_wp2
          go_roundg (gO - 1)
          case measure => exact pred_lt HK hlt
          case rel => exact ⟨s + 1, bi, next_eq HK hlt, by first | rfl | go_num, rfl, ⟨least_skip HL.out HNP.out⟩, ⟨rfl⟩⟩
        | false =>
          have HP := Aside0.mk (show Parts f t s from ⟨hbf, hbt⟩)
          clear hbf hbt
          go_wp2
          go_loopg [11, 12] out.length (fun q v i wx => ∃ k : Nat, Aside0 (k + q = out.length) ∧ i = .int .i64 k ∧ v = .int .i64 (capK N (fun v => s.testBit v) k) ∧ Aside0 (wx = wr))
          case atStart => exact ⟨0, ⟨by omega⟩, rfl, rfl, ⟨rfl⟩⟩
          case round =>
            obtain ⟨k, HK2, rfl, rfl, HWX⟩ := hrel
            have hwx := HWX.out
            subst hwx
            clear HWX
            by_cases hlt2 : k < out.length
            · have hkm : k < N.m := by rw [← HC.out.len]; exact hlt2
              obtain ⟨ad, had, hx1, hx2, hx3⟩ := HE.out k hlt2
              subst had
              rw [HC.out.at_ k hkm] at hx1 hx2 hx3
              have hfa := HN.out.fr k hkm
              have hta := HN.out.to k hkm
              have hmo := HN.out.mo k hkm
              have hb1 := capK_bound HN.out (fun v => s.testBit v) k (by omega)
              have hsu := capK_succ N (fun v => s.testBit v) k
              have hm5 := HN.out.few
              obtain ⟨a, ha⟩ : ∃ a, N.fr k = a := ⟨_, rfl⟩
              obtain ⟨b, hb⟩ : ∃ b, N.to k = b := ⟨_, rfl⟩
              obtain ⟨m, hm⟩ : ∃ m, N.mo k = m := ⟨_, rfl⟩
              obtain ⟨u, hu⟩ : ∃ u, capK N (fun v => s.testBit v) k = u := ⟨_, rfl⟩
              rw [ha] at hx1 hfa hsu
              rw [hb] at hx2 hta hsu
              rw [hm] at hx3 hmo hsu
              rw [hu] at hb1 hsu ⊢
              rw [HNN.out] at hfa hta
              have hws : wrap64 (u + m) = u + m := by unfold wrap64; omega
              have hwk := wrap_succ (n := out.length) (by rw [HC.out.len]; omega) hlt2
              have ha8 : a < 8 := by omega
              have hb8 : b < 8 := by omega
              have HSU := Aside0.mk hsu
              clear hb1 hmo hm5 ha hb hm hu hsu hfa hta
              go_wp2_with fail
              refine (in_calls s a (by omega) ha8 wr).mono ?_
              rintro e w1 ⟨rfl, hw1⟩
              have hw1' := hw1.symm
              subst hw1'
              clear hw1
              cases hba : s.testBit a with
              | false =>
                have he : capK N (fun v => s.testBit v) (k + 1) = u := by rw [HSU.out, hba]; simp
                clear hba
                go_wp2
                go_roundg (gk - 1)
                case measure => exact pred_lt HK2 hlt2
                case rel => exact ⟨k + 1, next_eq HK2 hlt2, by first | rfl | go_num, by rw [he] <;> rw [hws], ⟨rfl⟩⟩
              | true =>
                go_wp2_with fail
                refine (in_calls s b (by omega) hb8 wr).mono ?_
                rintro e w1 ⟨rfl, hw1⟩
                have hw1' := hw1.symm
                subst hw1'
                clear hw1
                cases hbb : s.testBit b with
                | true =>
                  have he : capK N (fun v => s.testBit v) (k + 1) = u := by rw [HSU.out, hba, hbb]; simp
                  clear hba hbb
                  go_wp2
                  go_roundg (gk - 1)
                  case measure => exact pred_lt HK2 hlt2
                  case rel => exact ⟨k + 1, next_eq HK2 hlt2, by first | rfl | go_num, by rw [he] <;> rw [hws], ⟨rfl⟩⟩
                | false =>
                  have he : capK N (fun v => s.testBit v) (k + 1) = u + m := by rw [HSU.out, hba, hbb]; simp
                  clear hba hbb
                  go_wp2
                  go_roundg (gk - 1)
                  case measure => exact pred_lt HK2 hlt2
                  case rel => exact ⟨k + 1, next_eq HK2 hlt2, by first | rfl | go_num, by rw [he] <;> rw [hws], ⟨rfl⟩⟩
            · have hkm : k = N.m := by rw [← HC.out.len]; have := HK2.out; omega
              have hcap : capK N (fun v => s.testBit v) k = capS N s := by rw [hkm]; rfl
              obtain rfl : k = out.length := by have := HK2.out; omega
              rw [hcap]
              obtain ⟨u, hu⟩ : ∃ u, capS N s = u := ⟨_, rfl⟩
              rw [hu]
              have HU := Aside0.mk hu
              clear hcap hkm hlt2 HK2 hu
              by_cases c1 : bi < 0
              · have d1 : decide (bi < 0) = true := decide_eq_true c1
                have HT := Aside0.mk (least_take HN.out HL.out HP.out (Or.inl c1))
                clear c1
                go_wp2
                go_roundg (gO - 1)
                case measure => exact pred_lt HK hlt
                case rel => exact ⟨s + 1, u, next_eq HK hlt, by first | rfl | go_num, rfl, ⟨by rw [← HU.out]; exact HT.out⟩, ⟨rfl⟩⟩
              · have d1 : decide (bi < 0) = false := decide_eq_false c1
                by_cases c2 : u < bi
                · have d2 : decide (u < bi) = true := decide_eq_true c2
                  have HT := Aside0.mk (least_take HN.out HL.out HP.out (Or.inr (by rw [HU.out]; exact c2)))
                  clear c1 c2
                  go_wp2
                  go_roundg (gO - 1)
                  case measure => exact pred_lt HK hlt
                  case rel => exact ⟨s + 1, u, next_eq HK hlt, by first | rfl | go_num, rfl, ⟨by rw [← HU.out]; exact HT.out⟩, ⟨rfl⟩⟩
                · have d2 : decide (u < bi) = false := decide_eq_false c2
                  have HT := Aside0.mk (least_keep HL.out HP.out (by rw [HU.out]; omega))
                  clear c1 c2
                  go_wp2
                  go_roundg (gO - 1)
                  case measure => exact pred_lt HK hlt
                  case rel => exact ⟨s + 1, bi, next_eq HK hlt, by first | rfl | go_num, rfl, HT, ⟨rfl⟩⟩
    · have hls : ¬ (s : Int) < wrap64 (2 ^ n) := by rw [HW.out]; omega
      have he : bi = sum := HB.out bi (by
        have : s = 2 ^ N.n := by rw [HNN.out, HG.out]; have := HK.out; omega
        rw [← this]; exact HL.out)
      subst he
      clear HK HL hlt
      go_wp2
      go_ret
      exact ⟨rfl, rfl⟩
end Go.Proofs.Ytffghdbhjjfnlaa.F
end
section
/-
  The law FlowSizes: its walk.
-/
namespace Go.Proofs.Ytffghdbhjjfnlaa.F
open Go.RowKit Go.Proofs.YtffghdbhjjfnlaaW.PrintWords Go.Proofs.YtffghdbhjjfnlaaW.PrintLast Go.Proofs.YtffghdbhjjfnlaaW.PrintMore
set_option linter.unusedVariables false
set_option linter.unusedSimpArgs false
set_option maxRecDepth 100000 in
set_option maxHeartbeats 1000000 in
theorem sizes_big (n : Int) (A : Option Addr) (len cap : Nat) (f t : Int) (w : World) (h : 8 < n ∨ 40 < len) :
    Calls Try.prog 4 #[.int .i64 n, .slice A len cap, .int .i64 f, .int .i64 t] w fun e w' => e = .returned (.bool true) ∧ Below w.heap.size w w' := by
  by_cases h8 : 8 < n
  · have d0 : decide (n > 8) = true := decide_eq_true h8
    clear h h8
    go_enter Try.func4, Try.ntmps4
    go_wp2_with fail
    refine (heads_calls _).mono ?_
    rintro e w2 ⟨rfl, hb⟩
    have HB2 := Aside0.mk (hb)
    clear hb
    go_wp2
    go_ret
    exact ⟨rfl, HB2.out⟩
  · have d0 : decide (n > 8) = false := decide_eq_false h8
    have d1 : decide ((len : Int) > 40) = true := decide_eq_true (by omega)
    clear h h8
    go_enter Try.func4, Try.ntmps4
    go_wp2_with fail
    refine (heads_calls _).mono ?_
    rintro e w2 ⟨rfl, hb⟩
    have HB2 := Aside0.mk (hb)
    clear hb
    go_wp2
    go_ret
    exact ⟨rfl, HB2.out⟩
set_option maxRecDepth 100000 in
set_option maxHeartbeats 1000000 in
theorem sizes_no (n : Int) (A : Option Addr) (len cap : Nat) (f t : Int) (w : World) (h : n < 1) (hl : len ≤ 40) :
    Calls Try.prog 4 #[.int .i64 n, .slice A len cap, .int .i64 f, .int .i64 t] w fun e w' => e = .returned (.bool true) ∧ Below w.heap.size w w' := by
  have H := Aside0.mk h
  have d0 : decide (n > 8) = false := decide_eq_false (by omega)
  have d1 : decide ((len : Int) > 40) = false := decide_eq_false (by omega)
  clear h hl
  go_enter Try.func4, Try.ntmps4
  go_wp2_with fail
  refine (made_no n A len cap w (Or.inl H.out)).mono ?_
  rintro e w1 ⟨rfl, hw⟩
  have hw' := hw.symm
  subst hw'
  clear hw
  go_wp2_with fail
  refine (heads_calls _).mono ?_
  rintro e w2 ⟨rfl, hb⟩
  have HB2 := Aside0.mk (hb)
  clear hb
  go_wp2
  go_ret
  exact ⟨rfl, HB2.out⟩
set_option maxRecDepth 100000 in
set_option maxHeartbeats 1000000 in
theorem sizes_r1 (n : Nat) (h1 : 1 ≤ n) (h2 : n ≤ 8) (A : Option Addr) (cap : Nat) (l : List E3) (f t : Int) (w : World) (hl : l.length ≤ 40) (hE : EdgesIn w A l) (hx : f < 0) :
    Calls Try.prog 4 #[.int .i64 n, .slice A l.length cap, .int .i64 f, .int .i64 t] w fun e w' => e = .returned (.bool true) ∧ Below w.heap.size w w' := by
  have HE := Aside0.mk hE
  have d0 : decide ((n : Int) > 8) = false := decide_eq_false (by omega)
  have d1 : decide ((l.length : Int) > 40) = false := decide_eq_false (by omega)
  have HC := Aside0.mk (came_made h1 (by omega) l)
  have HTE : Aside0 (twoE n f t = 6) := ⟨by unfold twoE; rw [if_pos (by omega)]⟩
  have e0 : decide (f < 0) = true := decide_eq_true (by omega)
  clear hE hx
  go_enter Try.func4, Try.ntmps4
  go_wp2_with fail
  refine (made_yes n h1 (by omega) A cap l w (by omega) HE.out).mono ?_
  rintro e w1 ⟨g, V, v, rfl, hA, hO, hB⟩
  obtain ⟨Av, cv, rfl⟩ := own_slice hO
  have HA1 := Aside0.mk hA
  have HB1 := Aside0.mk hB
  clear hA hO hB
  go_wp2_with fail
  refine (run_no HC.out.ok HA1.out f t (by rw [HC.out.nn, HTE.out]; decide)).mono ?_
  rintro e wq ⟨rfl, hw⟩
  have hw' := hw.symm
  subst hw'
  clear hw
  rw [HC.out.nn, HTE.out]
  go_wp2_with fail
  refine (heads_calls _).mono ?_
  rintro e w2 ⟨rfl, hb⟩
  have HB2 := Aside0.mk (below_then HB1.out HB1.out.size hb)
  clear hb
  go_wp2
  go_ret
  exact ⟨rfl, HB2.out⟩
set_option maxRecDepth 100000 in
set_option maxHeartbeats 1000000 in
theorem sizes_r2 (n : Nat) (h1 : 1 ≤ n) (h2 : n ≤ 8) (A : Option Addr) (cap : Nat) (l : List E3) (f t : Int) (w : World) (hl : l.length ≤ 40) (hE : EdgesIn w A l) (hx : 0 ≤ f ∧ f ≥ n) :
    Calls Try.prog 4 #[.int .i64 n, .slice A l.length cap, .int .i64 f, .int .i64 t] w fun e w' => e = .returned (.bool true) ∧ Below w.heap.size w w' := by
  have HE := Aside0.mk hE
  have d0 : decide ((n : Int) > 8) = false := decide_eq_false (by omega)
  have d1 : decide ((l.length : Int) > 40) = false := decide_eq_false (by omega)
  have HC := Aside0.mk (came_made h1 (by omega) l)
  have HTE : Aside0 (twoE n f t = 6) := ⟨by unfold twoE; rw [if_pos (by omega)]⟩
  have e0 : decide (f < 0) = false := decide_eq_false (by omega)
  have e1 : decide (f ≥ (n : Int)) = true := decide_eq_true (by omega)
  clear hE hx
  go_enter Try.func4, Try.ntmps4
  go_wp2_with fail
  refine (made_yes n h1 (by omega) A cap l w (by omega) HE.out).mono ?_
  rintro e w1 ⟨g, V, v, rfl, hA, hO, hB⟩
  obtain ⟨Av, cv, rfl⟩ := own_slice hO
  have HA1 := Aside0.mk hA
  have HB1 := Aside0.mk hB
  clear hA hO hB
  go_wp2_with fail
  refine (run_no HC.out.ok HA1.out f t (by rw [HC.out.nn, HTE.out]; decide)).mono ?_
  rintro e wq ⟨rfl, hw⟩
  have hw' := hw.symm
  subst hw'
  clear hw
  rw [HC.out.nn, HTE.out]
  go_wp2_with fail
  refine (heads_calls _).mono ?_
  rintro e w2 ⟨rfl, hb⟩
  have HB2 := Aside0.mk (below_then HB1.out HB1.out.size hb)
  clear hb
  go_wp2
  go_ret
  exact ⟨rfl, HB2.out⟩
set_option maxRecDepth 100000 in
set_option maxHeartbeats 1000000 in
theorem sizes_r3 (n : Nat) (h1 : 1 ≤ n) (h2 : n ≤ 8) (A : Option Addr) (cap : Nat) (l : List E3) (f t : Int) (w : World) (hl : l.length ≤ 40) (hE : EdgesIn w A l) (hx : 0 ≤ f ∧ f < n ∧ t < 0) :
    Calls Try.prog 4 #[.int .i64 n, .slice A l.length cap, .int .i64 f, .int .i64 t] w fun e w' => e = .returned (.bool true) ∧ Below w.heap.size w w' := by
  have HE := Aside0.mk hE
  have d0 : decide ((n : Int) > 8) = false := decide_eq_false (by omega)
  have d1 : decide ((l.length : Int) > 40) = false := decide_eq_false (by omega)
  have HC := Aside0.mk (came_made h1 (by omega) l)
  have HTE : Aside0 (twoE n f t = 6) := ⟨by unfold twoE; rw [if_pos (by omega)]⟩
  have e0 : decide (f < 0) = false := decide_eq_false (by omega)
  have e1 : decide (f ≥ (n : Int)) = false := decide_eq_false (by omega)
  have e2 : decide (t < 0) = true := decide_eq_true (by omega)
  clear hE hx
  go_enter Try.func4, Try.ntmps4
  go_wp2_with fail
  refine (made_yes n h1 (by omega) A cap l w (by omega) HE.out).mono ?_
  rintro e w1 ⟨g, V, v, rfl, hA, hO, hB⟩
  obtain ⟨Av, cv, rfl⟩ := own_slice hO
  have HA1 := Aside0.mk hA
  have HB1 := Aside0.mk hB
  clear hA hO hB
  go_wp2_with fail
  refine (run_no HC.out.ok HA1.out f t (by rw [HC.out.nn, HTE.out]; decide)).mono ?_
  rintro e wq ⟨rfl, hw⟩
  have hw' := hw.symm
  subst hw'
  clear hw
  rw [HC.out.nn, HTE.out]
  go_wp2_with fail
  refine (heads_calls _).mono ?_
  rintro e w2 ⟨rfl, hb⟩
  have HB2 := Aside0.mk (below_then HB1.out HB1.out.size hb)
  clear hb
  go_wp2
  go_ret
  exact ⟨rfl, HB2.out⟩
set_option maxRecDepth 100000 in
set_option maxHeartbeats 1000000 in
theorem sizes_r4 (n : Nat) (h1 : 1 ≤ n) (h2 : n ≤ 8) (A : Option Addr) (cap : Nat) (l : List E3) (f t : Int) (w : World) (hl : l.length ≤ 40) (hE : EdgesIn w A l) (hx : 0 ≤ f ∧ f < n ∧ 0 ≤ t ∧ t ≥ n) :
    Calls Try.prog 4 #[.int .i64 n, .slice A l.length cap, .int .i64 f, .int .i64 t] w fun e w' => e = .returned (.bool true) ∧ Below w.heap.size w w' := by
  have HE := Aside0.mk hE
  have d0 : decide ((n : Int) > 8) = false := decide_eq_false (by omega)
  have d1 : decide ((l.length : Int) > 40) = false := decide_eq_false (by omega)
  have HC := Aside0.mk (came_made h1 (by omega) l)
  have HTE : Aside0 (twoE n f t = 6) := ⟨by unfold twoE; rw [if_pos (by omega)]⟩
  have e0 : decide (f < 0) = false := decide_eq_false (by omega)
  have e1 : decide (f ≥ (n : Int)) = false := decide_eq_false (by omega)
  have e2 : decide (t < 0) = false := decide_eq_false (by omega)
  have e3 : decide (t ≥ (n : Int)) = true := decide_eq_true (by omega)
  clear hE hx
  go_enter Try.func4, Try.ntmps4
  go_wp2_with fail
  refine (made_yes n h1 (by omega) A cap l w (by omega) HE.out).mono ?_
  rintro e w1 ⟨g, V, v, rfl, hA, hO, hB⟩
  obtain ⟨Av, cv, rfl⟩ := own_slice hO
  have HA1 := Aside0.mk hA
  have HB1 := Aside0.mk hB
  clear hA hO hB
  go_wp2_with fail
  refine (run_no HC.out.ok HA1.out f t (by rw [HC.out.nn, HTE.out]; decide)).mono ?_
  rintro e wq ⟨rfl, hw⟩
  have hw' := hw.symm
  subst hw'
  clear hw
  rw [HC.out.nn, HTE.out]
  go_wp2_with fail
  refine (heads_calls _).mono ?_
  rintro e w2 ⟨rfl, hb⟩
  have HB2 := Aside0.mk (below_then HB1.out HB1.out.size hb)
  clear hb
  go_wp2
  go_ret
  exact ⟨rfl, HB2.out⟩
set_option maxRecDepth 100000 in
set_option maxHeartbeats 1000000 in
theorem sizes_eq (n : Nat) (h1 : 1 ≤ n) (h2 : n ≤ 8) (A : Option Addr) (cap : Nat) (l : List E3) (f t : Int) (w : World) (hl : l.length ≤ 40) (hE : EdgesIn w A l) (hx : 0 ≤ f ∧ f < n ∧ f = t) :
    Calls Try.prog 4 #[.int .i64 n, .slice A l.length cap, .int .i64 f, .int .i64 t] w fun e w' => e = .returned (.bool true) ∧ Below w.heap.size w w' := by
  have HE := Aside0.mk hE
  have d0 : decide ((n : Int) > 8) = false := decide_eq_false (by omega)
  have d1 : decide ((l.length : Int) > 40) = false := decide_eq_false (by omega)
  have HC := Aside0.mk (came_made h1 (by omega) l)
  have HTE : Aside0 (twoE n f t = 2) := ⟨by unfold twoE; rw [if_neg (by omega), if_pos (by omega)]⟩
  have e0 : decide (f < 0) = false := decide_eq_false (by omega)
  have e1 : decide (f ≥ (n : Int)) = false := decide_eq_false (by omega)
  have e2 : decide (t < 0) = false := decide_eq_false (by omega)
  have e3 : decide (t ≥ (n : Int)) = false := decide_eq_false (by omega)
  obtain ⟨_, _, rfl⟩ := hx
  clear hE
  go_enter Try.func4, Try.ntmps4
  go_wp2_with fail
  refine (made_yes n h1 (by omega) A cap l w (by omega) HE.out).mono ?_
  rintro e w1 ⟨g, V, v, rfl, hA, hO, hB⟩
  obtain ⟨Av, cv, rfl⟩ := own_slice hO
  have HA1 := Aside0.mk hA
  have HB1 := Aside0.mk hB
  clear hA hO hB
  go_wp2_with fail
  refine (run_no HC.out.ok HA1.out f f (by rw [HC.out.nn, HTE.out]; decide)).mono ?_
  rintro e wq ⟨rfl, hw⟩
  have hw' := hw.symm
  subst hw'
  clear hw
  rw [HC.out.nn, HTE.out]
  go_wp2_with fail
  refine (heads_calls _).mono ?_
  rintro e w2 ⟨rfl, hb⟩
  have HB2 := Aside0.mk (below_then HB1.out HB1.out.size hb)
  clear hb
  go_wp2
  go_ret
  exact ⟨rfl, HB2.out⟩
set_option maxRecDepth 100000 in
set_option maxHeartbeats 4000000 in
theorem sizes_yes (n : Nat) (h1 : 1 ≤ n) (h2 : n ≤ 8) (A : Option Addr) (cap : Nat) (l : List E3) (f t : Nat) (w : World) (hl : l.length ≤ 40) (hE : EdgesIn w A l) (hf : f < n) (ht : t < n) (hft : f ≠ t) :
    Calls Try.prog 4 #[.int .i64 n, .slice A l.length cap, .int .i64 f, .int .i64 t] w fun e w' => e = .returned (.bool true) ∧ Below w.heap.size w w' := by
  have HE := Aside0.mk hE
  have d0 : decide ((n : Int) > 8) = false := decide_eq_false (by omega)
  have d1 : decide ((l.length : Int) > 40) = false := decide_eq_false (by omega)
  obtain ⟨N, hN⟩ : ∃ N, (madeOf n l).1 = N := ⟨_, rfl⟩
  obtain ⟨out, hout⟩ : ∃ o, (madeOf n l).2 = o := ⟨_, rfl⟩
  have hcame := came_made h1 (by omega) l
  rw [hN, hout] at hcame
  have HC := Aside0.mk hcame
  have HNM := Aside0.mk (And.intro hN hout)
  have hNn := hcame.nn
  have HNN := Aside0.mk hNn
  obtain ⟨kf, L, rk, sum, hr, hfl, hrk, hneg⟩ := run_all hcame.ok (f := f) (t := t) (by omega) (by omega) hft
  have HR := Aside0.mk hr
  have hNf : f < N.n := by omega
  have hNt : t < N.n := by omega
  have HFN := Aside0.mk (And.intro hNf hNt)
  have HLE : Aside0 (∀ b, Least N f t (2 ^ N.n) b → b = sum) := ⟨fun b hb => least_all hcame.ok hNf hNt hfl hrk hneg hb⟩
  clear hE hN hout hcame hr hfl hrk hneg hNn hNf hNt
  have e0 : decide ((f : Int) < 0) = false := decide_eq_false (by omega)
  have e1 : decide ((f : Int) ≥ (n : Int)) = false := decide_eq_false (by omega)
  have e2 : decide ((t : Int) < 0) = false := decide_eq_false (by omega)
  have e3 : decide ((t : Int) ≥ (n : Int)) = false := decide_eq_false (by omega)
  have e4 : ((f : Int) == (t : Int)) = false := by simp; omega
  have e5 : ¬ (f : Int) = (t : Int) := by omega
  have e6 : decide (n ≤ f) = false := decide_eq_false (by omega)
  have e7 : decide (n ≤ t) = false := decide_eq_false (by omega)
  go_enter Try.func4, Try.ntmps4
  go_wp2_with fail
  refine (made_yes n h1 (by omega) A cap l w (by omega) HE.out).mono ?_
  rintro e w1 ⟨g, V, v, rfl, hA, hO, hB⟩
  rw [HNM.out.1] at hA
  rw [HNM.out.2] at hO
  obtain ⟨Av, cv, rfl⟩ := own_slice hO
  have HA1 := Aside0.mk hA
  have HB1 := Aside0.mk hB
  have HO1 := Aside0.mk hO
  clear hA hO hB HNM
  go_wp2_with fail
  refine (run_calls HC.out.ok HFN.out.1 HFN.out.2 hft HR.out HA1.out (in_out HA1.out HO1.out) (up_out HA1.out.size HO1.out)).mono ?_
  rintro e w2 ⟨V2, rank2, next2, rfl, hA2, hI2, hK2⟩
  have HA2 := Aside0.mk hA2
  have HO2 := Aside0.mk (kept_out hK2 HO1.out)
  have HB2 := Aside0.mk (HB1.out.trans (kept_low hK2))
  clear hA2 hI2 hK2 HA1 HO1 HB1
  go_wp2_with fail
  have hm := most_calls HC.out.ok HC.out (by rw [HNN.out]; exact h2) HFN.out.1 HFN.out.2 HLE.out (c := cv) (own_edges HO2.out).2
  rw [HNN.out] at hm
  refine hm.mono ?_
  rintro e wq ⟨rfl, hw⟩
  have hw' := hw.symm
  subst hw'
  clear hw hm
  go_wp2_with fail
  refine (heads_calls _).mono ?_
  rintro e w3 ⟨rfl, hb⟩
  have HB3 := Aside0.mk (below_then HB2.out HB2.out.size hb)
  clear hb
  go_wp2
  go_ret
  exact ⟨rfl, HB3.out⟩
/-- The walk for every input. -/
theorem sizes_walk (a0 : Int) (a1 : Option Addr) (len1 cap1 : Nat) (z1 : List E3) (a2 a3 : Int) (w : World) (w0 : (Lit.int .i64 a0).wf = true) (w1 : z1.length = len1 ∧ len1 ≤ 9223372036854775807 ∧ EdgesIn w a1 z1) (w2 : (Lit.int .i64 a2).wf = true) (w3 : (Lit.int .i64 a3).wf = true) :
    Calls Try.prog 4 #[.int .i64 a0, .slice a1 len1 cap1, .int .i64 a2, .int .i64 a3] w fun e w' => e = .returned (.bool true) ∧ Below w.heap.size w w' := by
  obtain ⟨rfl, hlen, hE⟩ := w1
  by_cases h : 8 < a0 ∨ 40 < z1.length
  · exact sizes_big a0 a1 _ cap1 a2 a3 w h
  · by_cases h0 : a0 < 1
    · exact sizes_no a0 a1 _ cap1 a2 a3 w h0 (by omega)
    · obtain ⟨n, rfl⟩ := Int.eq_ofNat_of_zero_le (show 0 ≤ a0 by omega)
      have k1 : 1 ≤ n := by omega
      have k2 : n ≤ 8 := by omega
      have k3 : z1.length ≤ 40 := by omega
      by_cases c1 : a2 < 0
      · exact sizes_r1 n k1 k2 a1 cap1 z1 a2 a3 w k3 hE c1
      · by_cases c2 : a2 ≥ n
        · exact sizes_r2 n k1 k2 a1 cap1 z1 a2 a3 w k3 hE ⟨by omega, c2⟩
        · by_cases c3 : a3 < 0
          · exact sizes_r3 n k1 k2 a1 cap1 z1 a2 a3 w k3 hE ⟨by omega, by omega, c3⟩
          · by_cases c4 : a3 ≥ n
            · exact sizes_r4 n k1 k2 a1 cap1 z1 a2 a3 w k3 hE ⟨by omega, by omega, by omega, c4⟩
            · by_cases c5 : a2 = a3
              · exact sizes_eq n k1 k2 a1 cap1 z1 a2 a3 w k3 hE ⟨by omega, by omega, c5⟩
              · obtain ⟨f, rfl⟩ := Int.eq_ofNat_of_zero_le (show 0 ≤ a2 by omega)
                obtain ⟨t, rfl⟩ := Int.eq_ofNat_of_zero_le (show 0 ≤ a3 by omega)
                exact sizes_yes n k1 k2 a1 cap1 z1 f t w k3 hE (by omega) (by omega) (by omega)
end Go.Proofs.Ytffghdbhjjfnlaa.F
end
