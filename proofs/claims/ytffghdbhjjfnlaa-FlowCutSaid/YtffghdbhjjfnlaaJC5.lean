/-
  Put together by slim.py of this session out of the session's own texts (YtffghdbhjjfnlaaLawFlowCut and what it reaches): declarations that nothing kept names are left out. Conditions: none beyond those of the law's row.
-/
import Derived.Test.YtffghdbhjjfnlaaJC4
import Derived.Test.YtffghdbhjjfnlaaJC3
import Derived.Test.YtffghdbhjjfnlaaJC2
import Derived.Test.YtffghdbhjjfnlaaJC0
import Derived.Test.YtffghdbhjjfnlaaJC1
section
/-
  The laws' helper: made.
-/
namespace Go.Proofs.Ytffghdbhjjfnlaa.F
open Go.RowKit Go.Proofs.YtffghdbhjjfnlaaW.PrintWords Go.Proofs.YtffghdbhjjfnlaaW.PrintLast Go.Proofs.YtffghdbhjjfnlaaW.PrintMore
set_option linter.unusedVariables false
set_option linter.unusedSimpArgs false
/-! ### edges as they are given -/
abbrev E3 := Int × Int × Int
def eAt (l : List E3) (i : Nat) : E3 := l.getD i (0, 0, 0)
def EdgesIn (w : World) (A : Option Addr) (l : List E3) : Prop := ∀ i, i < l.length → ∃ ad, A = some ad ∧ w.cell? (ad.add (i * 3)) = some (.int .i64 (eAt l i).1) ∧ w.cell? ⟨(ad.add (i * 3)).block, (ad.add (i * 3)).off + 1, none⟩ = some (.int .i64 (eAt l i).2.1) ∧ w.cell? ⟨(ad.add (i * 3)).block, (ad.add (i * 3)).off + 2, none⟩ = some (.int .i64 (eAt l i).2.2)
theorem cell_kept {w w' : World} {a : Addr} {v : Value} (h : w.cell? a = some v) (hb : w'.heap[a.block]? = w.heap[a.block]?) : w'.cell? a = some v := by
  unfold World.cell? at h ⊢
  rw [hb]; exact h
theorem cell_in {w : World} {a : Addr} {v : Value} (h : w.cell? a = some v) : a.block < w.heap.size := by
  unfold World.cell? at h
  rcases Nat.lt_or_ge a.block w.heap.size with c | c
  · exact c
  · rw [Array.getElem?_eq_none c] at h; cases h
theorem EdgesIn.kept {w w' : World} {A : Option Addr} {l : List E3} (h : EdgesIn w A l) (hb : ∀ k, k < w.heap.size → (∀ ad, A = some ad → k = ad.block → w'.heap[k]? = w.heap[k]?)) : EdgesIn w' A l := fun i hi => by
  obtain ⟨ad, rfl, h1, h2, h3⟩ := h i hi
  have hl := cell_in h1
  have e : (ad.add (i * 3)).block = ad.block := by unfold Addr.add; split <;> rfl
  have hk := hb _ hl ad rfl e
  exact ⟨ad, rfl, cell_kept h1 hk, cell_kept h2 hk, cell_kept h3 hk⟩
theorem EdgesIn.below {w w' : World} {A : Option Addr} {l : List E3} (h : EdgesIn w A l) (hb : Below w.heap.size w w') : EdgesIn w' A l := h.kept fun k hk _ _ _ => hb.block k hk
/-- The cells of a row of edges. -/
def eCells (l : List E3) : List Value := l.flatMap fun e => [.int .i64 e.1, .int .i64 e.2.1, .int .i64 e.2.2]
theorem eCells_app (l : List E3) (e : E3) : eCells (l ++ [e]) = eCells l ++ [.int .i64 e.1, .int .i64 e.2.1, .int .i64 e.2.2] := by simp [eCells]
theorem eCells_at : ∀ (l : List E3) (i : Nat), i < l.length → (eCells l)[i * 3]? = some (.int .i64 (eAt l i).1) ∧ (eCells l)[i * 3 + 1]? = some (.int .i64 (eAt l i).2.1) ∧ (eCells l)[i * 3 + 2]? = some (.int .i64 (eAt l i).2.2)
  | [], i, h => by simp at h
  | e :: l, 0, _ => ⟨rfl, rfl, rfl⟩
  | e :: l, i + 1, h => by
    have h1 := eCells_at l i (by simpa using h)
    have e0 : eCells (e :: l) = [.int .i64 e.1, .int .i64 e.2.1, .int .i64 e.2.2] ++ eCells l := rfl
    have e1 : eAt (e :: l) (i + 1) = eAt l i := by simp [eAt]
    rw [e0, e1, List.getElem?_append_right (by simp; omega), List.getElem?_append_right (by simp; omega), List.getElem?_append_right (by simp; omega)]
    have f : ∀ q, (i + 1) * 3 + q - [Value.int .i64 e.1, .int .i64 e.2.1, .int .i64 e.2.2].length = i * 3 + q := fun q => by simp; omega
    rw [show (i + 1) * 3 - [Value.int .i64 e.1, .int .i64 e.2.1, .int .i64 e.2.2].length = i * 3 from f 0, f 1, f 2]
    exact h1
theorem own_edges {w : World} {base n : Nat} {A : Option Addr} {c : Nat} {l : List E3} (h : w.ownsRow base 35 3 (.slice A n c) l.length (eCells l)) : n = l.length ∧ EdgesIn w A l := by
  rcases h.2 with ⟨e, h0⟩ | ⟨g, cap, cur, e, hb, hh, hnc, _⟩
  · injection e with e1 e2 e3
    exact ⟨by omega, fun i hi => by omega⟩
  · injection e with e1 e2 e3
    subst e1 e2
    refine ⟨rfl, fun i hi => ⟨_, rfl, ?_⟩⟩
    obtain ⟨h1, h2, h3⟩ := eCells_at l i hi
    have k1 := h.cells (g := g) rfl _ _ h1
    have k2 := h.cells (g := g) rfl _ _ h2
    have k3 := h.cells (g := g) rfl _ _ h3
    simp only [add_plain] at k1 k2 k3 ⊢
    exact ⟨k1, k2, k3⟩
/-! ### the net of some edges -/
def accN (N : Net) (e : E3) : Net := if edgeE N e.1 e.2.1 e.2.2 = 0 then N.add e.1.toNat e.2.1.toNat e.2.2 else N
def acc (x : Net × List E3) (e : E3) : Net × List E3 := (accN x.1 e, if edgeE x.1 e.1 e.2.1 e.2.2 = 0 then x.2 ++ [e] else x.2)
def madeOf (n : Nat) (l : List E3) : Net × List E3 := l.foldl acc (Net.none n, [])
def edgeA (N : Net) (e : E3) : Int := if edgeE N e.1 e.2.1 e.2.2 = 0 then N.m else 0
theorem edge_zero {N : Net} {f t c : Int} (h : edgeE N f t c = 0) : (0 ≤ f ∧ f < (N.n : Int)) ∧ (0 ≤ t ∧ t < (N.n : Int)) ∧ f ≠ t ∧ 0 ≤ c ∧ c ≤ 1000000 ∧ N.m < 5000 := by
  unfold edgeE twoE at h
  by_cases c1 : (f < 0 ∨ f ≥ (N.n : Int)) ∨ (t < 0 ∨ t ≥ (N.n : Int))
  · rw [if_pos c1] at h; simp at h
  · rw [if_neg c1] at h
    by_cases c2 : f = t
    · rw [if_pos c2] at h; simp at h
    · rw [if_neg c2] at h
      simp only [ne_eq, not_true_eq_false, if_false] at h
      by_cases c3 : c < 0 ∨ c > 1000000
      · rw [if_pos c3] at h; simp at h
      · rw [if_neg c3] at h
        by_cases c4 : N.m ≥ 5000
        · rw [if_pos c4] at h; simp at h
        · omega
theorem accN_n (N : Net) (e : E3) : (accN N e).n = N.n := by unfold accN; split <;> rfl
theorem accN_ok {N : Net} (h : N.Ok) (e : E3) : (accN N e).Ok := by
  unfold accN
  by_cases c : edgeE N e.1 e.2.1 e.2.2 = 0
  · rw [if_pos c]
    have := edge_zero c
    exact add_ok h (by omega) (by omega) (by omega) this.2.2.2.1 this.2.2.2.2.1 this.2.2.2.2.2
  · rw [if_neg c]; exact h
/-- What came in lies as the net says. -/
structure Came (n : Nat) (N : Net) (out : List E3) : Prop where
  ok : N.Ok
  nn : N.n = n
  len : out.length = N.m
  at_ : ∀ e, e < N.m → eAt out e = ((N.fr e : Int), (N.to e : Int), N.mo e)
theorem came_acc {n : Nat} {N : Net} {out : List E3} (h : Came n N out) (e : E3) : Came n (acc (N, out) e).1 (acc (N, out) e).2 := by
  unfold acc
  refine ⟨accN_ok h.ok e, (accN_n N e).trans h.nn, ?_, fun q hq => ?_⟩
  · unfold accN
    by_cases c : edgeE N e.1 e.2.1 e.2.2 = 0
    · simp only [if_pos c]; simp [Net.add, h.len]
    · simp only [if_neg c]; exact h.len
  · by_cases c : edgeE N e.1 e.2.1 e.2.2 = 0
    · simp only [accN, if_pos c] at hq ⊢
      have hz := edge_zero c
      replace hq : q < N.m + 1 := hq
      show eAt (out ++ [e]) q = (((if q = N.m then e.1.toNat else N.fr q : Nat) : Int), ((if q = N.m then e.2.1.toNat else N.to q : Nat) : Int), if q = N.m then e.2.2 else N.mo q)
      by_cases cq : q = N.m
      · rw [if_pos cq, if_pos cq, if_pos cq]
        have : eAt (out ++ [e]) q = e := by unfold eAt; rw [cq, ← h.len]; simp [List.getD_eq_getElem?_getD]
        rw [this]
        obtain ⟨a, b, d⟩ := e
        simp only at hz ⊢
        rw [Int.toNat_of_nonneg hz.1.1, Int.toNat_of_nonneg hz.2.1.1]
      · rw [if_neg cq, if_neg cq, if_neg cq, ← h.at_ q (by omega)]
        unfold eAt
        have hl := h.len
        simp only [List.getD_eq_getElem?_getD]
        rw [List.getElem?_append_left (by omega)]
    · simp only [accN, if_neg c] at hq ⊢
      exact h.at_ q hq
theorem came_fold {n : Nat} : ∀ (l : List E3) (x : Net × List E3), Came n x.1 x.2 → Came n (l.foldl acc x).1 (l.foldl acc x).2
  | [], x, h => h
  | e :: l, x, h => came_fold l (acc x e) (came_acc h e)
theorem came_made {n : Nat} (h1 : 1 ≤ n) (h2 : n ≤ 1000) (l : List E3) : Came n (madeOf n l).1 (madeOf n l).2 :=
  came_fold l _ ⟨none_ok h1 h2, rfl, rfl, fun e he => absurd he (Nat.not_lt_zero e)⟩
theorem made_take {n : Nat} {l : List E3} {k : Nat} (h : k < l.length) : madeOf n (l.take (k + 1)) = acc (madeOf n (l.take k)) (eAt l k) := by
  unfold madeOf
  rw [List.take_succ_eq_append_getElem h, List.foldl_append]
  have : eAt l k = l[k] := by unfold eAt; rw [List.getD_eq_getElem?_getD, List.getElem?_eq_getElem h]; rfl
  rw [this]; rfl
/-- An edge: put in, or not. -/
theorem edge_calls {N : Net} (hN : N.Ok) {w : World} {base g : Nat} {V : Vs} {rank next : List Int} (hA : NetAt w base g N (L0 N) V [] rank next) (e : E3) {S : Nat → Prop} (hI : NetIn S g V) (hU : ∀ k, w.heap.size ≤ k → S k) :
    Calls Try.prog 18 #[.pointer (some ⟨g, 0, none⟩), .int .i64 e.1, .int .i64 e.2.1, .int .i64 e.2.2] w fun r w' => ∃ V', r = .returned (.tuple #[.int .i64 (edgeA N e), .int .i64 (edgeE N e.1 e.2.1 e.2.2)]) ∧ NetAt w' base g (accN N e) (L0 (accN N e)) V' [] rank next ∧ NetIn S g V' ∧ Kept S w w' := by
  by_cases c : edgeE N e.1 e.2.1 e.2.2 = 0
  · obtain ⟨a, b, d⟩ := e
    simp only at c ⊢
    have hz := edge_zero c
    obtain ⟨f, rfl⟩ := Int.eq_ofNat_of_zero_le hz.1.1
    obtain ⟨t, rfl⟩ := Int.eq_ofNat_of_zero_le hz.2.1.1
    refine (edge_yes hN hA (f := f) (t := t) (c := d) (by omega) (by omega) (by omega) hz.2.2.2.1 hz.2.2.2.2.1 hz.2.2.2.2.2 hI hU).mono ?_
    rintro r w' ⟨V', rfl, h1, h2, h3⟩
    have ea : accN N ((f : Int), (t : Int), d) = N.add f t d := by unfold accN; rw [if_pos c]; simp
    refine ⟨V', by unfold edgeA; rw [if_pos c, c], ?_, h2, h3⟩
    rw [ea]
    refine h1.sameL fun k hk => ?_
    replace hk : k < 2 * (N.m + 1) := hk
    show (if k = 2 * N.m then d else if k = 2 * N.m + 1 then 0 else L0 N k) = (if k % 2 = 0 then (if k / 2 = N.m then d else N.mo (k / 2)) else 0)
    by_cases c1 : k = 2 * N.m
    · rw [if_pos c1, if_pos (by omega), if_pos (by omega)]
    · rw [if_neg c1]
      by_cases c2 : k = 2 * N.m + 1
      · rw [if_pos c2, if_neg (by omega)]
      · rw [if_neg c2]
        unfold L0
        by_cases c3 : k % 2 = 0
        · rw [if_pos c3, if_pos c3, if_neg (by omega)]
        · rw [if_neg c3, if_neg c3]
  · refine (edge_no hN hA e.1 e.2.1 e.2.2 c).mono ?_
    rintro r w' ⟨rfl, rfl⟩
    have ea : accN N e = N := by unfold accN; rw [if_neg c]
    rw [ea]
    exact ⟨V, by unfold edgeA; rw [if_neg c], hA, hI, Kept.refl _ _⟩
theorem info35 : (Try.prog.info? 35).map (fun i => (i.zero, i.size, i.bytes)) = some (some (.agg #[.int .i64 0, .int .i64 0, .int .i64 0]), 3, 24) := by kernel_rfl
set_option maxRecDepth 100000 in
theorem made_no (n : Int) (A : Option Addr) (len cap : Nat) (w : World) (h : n < 1 ∨ 60 < n) :
    Calls Try.prog 9 #[.int .i64 n, .slice A len cap] w fun e w' => e = .returned (.tuple #[.pointer none, .slice none 0 0]) ∧ w' = w := by
  by_cases h1 : n < 1
  · have d1 : decide (n < 1) = true := decide_eq_true h1
    clear h h1
    go_enter Try.func9, Try.ntmps9
    go_wp2
    go_ret2
    exact ⟨rfl, rfl⟩
  · have d1 : decide (n < 1) = false := decide_eq_false h1
    have d3 : decide (n > 60) = true := decide_eq_true (by omega)
    clear h h1
    go_enter Try.func9, Try.ntmps9
    go_wp2
    go_ret2
    exact ⟨rfl, rfl⟩
set_option maxRecDepth 100000 in
set_option maxHeartbeats 4000000 in
theorem made_yes (n : Nat) (h1 : 1 ≤ n) (h2 : n ≤ 60) (A : Option Addr) (cap : Nat) (l : List E3) (w : World) (hl : l.length ≤ 9223372036854775807) (hE : EdgesIn w A l) :
    Calls Try.prog 9 #[.int .i64 n, .slice A l.length cap] w fun e w' => ∃ g V v, e = .returned (.tuple #[.pointer (some ⟨g, 0, none⟩), v]) ∧ NetAt w' w.heap.size g (madeOf n l).1 (L0 (madeOf n l).1) V [] [] [] ∧ w'.ownsRow w.heap.size 35 3 v (madeOf n l).2.length (eCells (madeOf n l).2) ∧ Below w.heap.size w w' := by
  have HE := Aside0.mk hE
  have d1 : decide ((n : Int) < 1) = false := decide_eq_false (by omega)
  have d2 : decide ((n : Int) > 60) = false := decide_eq_false (by omega)
  obtain ⟨base, hbase⟩ : ∃ b, w.heap.size = b := ⟨_, rfl⟩
  have HBS := Aside0.mk hbase
  simp only [hbase]
  clear hE
  go_enter Try.func9, Try.ntmps9
  go_wp2_with fail
  refine (new_yes n h1 (by omega) (L0 (Net.none n)) w).mono ?_
  rintro e w1 ⟨g, V0, rfl, hA1, hB1⟩
  rw [hbase] at hA1 hB1
  have HA1 := Aside0.mk hA1
  have HB1 := Aside0.mk hB1
  clear hA1 hB1 hbase
  go_wp2
  go_loopg [7, 8] l.length (fun q v i wr => ∃ (k : Nat) (V : Vs), Aside0 (k + q = l.length) ∧ i = .int .i64 k ∧ Aside0 (NetAt wr base g (madeOf n (l.take k)).1 (L0 (madeOf n (l.take k)).1) V [] [] []) ∧ Aside0 (wr.ownsRow base 35 3 v (madeOf n (l.take k)).2.length (eCells (madeOf n (l.take k)).2)) ∧ Aside0 (Below base w wr))
  case atStart => exact ⟨0, V0, ⟨by omega⟩, rfl, by rw [List.take_zero]; exact HA1, ⟨by rw [List.take_zero]; exact own_nil _ _ _ _⟩, HB1⟩
  case round =>
    clear HA1 HB1
    obtain ⟨k, V, HK, rfl, HA, HO, HB⟩ := hrel
    by_cases hlt : k < l.length
    · obtain ⟨ad, rfl, hx1, hx2, hx3⟩ := (HE.out.below (w' := wr) (by rw [HBS.out]; exact HB.out)) k hlt
      have hcame := came_made h1 (by omega) (l.take k)
      have hstep := made_take (n := n) hlt
      obtain ⟨e, he⟩ : ∃ e, eAt l k = e := ⟨_, rfl⟩
      rw [he] at hx1 hx2 hx3 hstep
      obtain ⟨x, hx⟩ : ∃ x, madeOf n (l.take k) = x := ⟨_, rfl⟩
      rw [hx] at HA HO hcame hstep
      obtain ⟨N, out⟩ := x
      have HA : Aside0 (NetAt wr base g N (L0 N) V [] [] []) := HA
      have HCM : Aside0 (Came n N out) := ⟨hcame⟩
      have hst : madeOf n (l.take (k + 1)) = (accN N e, if edgeE N e.1 e.2.1 e.2.2 = 0 then out ++ [e] else out) := hstep
      have HST := Aside0.mk hst
      replace HO : Aside0 (wr.ownsRow base 35 3 _ out.length (eCells out)) := HO
      obtain ⟨Av, cv, hv⟩ := own_slice HO.out
      subst hv
      clear hcame hstep he hx hst
      -- what the edge may write
      obtain ⟨S, hS⟩ : ∃ S : Nat → Prop, S = fun q => base ≤ q ∧ (Value.slice Av out.length cv).ownBlock ≠ some q := ⟨_, rfl⟩
      have hI : NetIn S g V := by
        have key : ∀ {e : TypeId} {size m : Nat} {u : Value} {xs : List Value}, wr.ownsRow base e size u m xs → e ≠ 35 → ∀ q, u.ownBlock = some q → S q := fun hu hne q hq => by
          rw [hS]; exact ⟨own_base hu q hq, own_apart2 hu HO.out hne q hq⟩
        refine ⟨by rw [hS]; exact ⟨HA.out.gb, own_apart HO.out HA.out.head (by decide)⟩, key HA.out.out (by decide), key HA.out.arcs (by decide), key HA.out.most (by decide), key HA.out.cut_ (by decide), key HA.out.rank_ (by decide), key HA.out.next_ (by decide), fun a q hq => ?_⟩
        by_cases ha : a < N.n
        · exact key (HA.out.inn a ha) (by decide) q hq
        · have hl := HA.out.out.1
          rw [List.getD_eq_getElem?_getD, List.getElem?_eq_none (by omega)] at hq
          cases hq
      have hU : ∀ q, wr.heap.size ≤ q → S q := fun q hq => by
        rw [hS]
        exact ⟨Nat.le_trans HA.out.size hq, fun h => by have := own_lt HO.out q h; omega⟩
      have HI := Aside0.mk hI
      have HU := Aside0.mk hU
      have HS := Aside0.mk hS
      clear hI hU hS
      have hlow : ad.block < base := by
        have := cell_in ((HE.out k hlt).choose_spec.2.1)
        have e1 := (HE.out k hlt).choose_spec.1
        injection e1 with e1
        have e2 : (ad.add (k * 3)).block = ad.block := by unfold Addr.add; split <;> rfl
        rw [← e1, e2] at this
        rw [← HBS.out]; exact this
      have HLOW := Aside0.mk hlow
      obtain ⟨x1, x2, x3⟩ := e
      simp only at hx1 hx2 hx3
      have hwi := wrap_succ (n := l.length) (by omega) hlt
      clear hlow
      have HHZ : Aside0 (edgeE N x1 x2 x3 = 0 → (edgeE N x1 x2 x3 == 0) = true) := ⟨fun h => by simp [h]⟩
      obtain ⟨ee, hee⟩ : ∃ ee, edgeE N x1 x2 x3 = ee := ⟨_, rfl⟩
      obtain ⟨ea, hea⟩ : ∃ ea, edgeA N (x1, x2, x3) = ea := ⟨_, rfl⟩
      have HEE := Aside0.mk hee
      have HEA := Aside0.mk hea
      clear hee hea HHZ
      go_wp2_with fail
      refine start_ (n := 22) (S := (fun w' => w'.cell? (ad.add (k * 3)) = some (.int .i64 x1) ∧ w'.cell? ⟨(ad.add (k * 3)).block, (ad.add (k * 3)).off + 1, none⟩ = some (.int .i64 x2) ∧ w'.cell? ⟨(ad.add (k * 3)).block, (ad.add (k * 3)).off + 2, none⟩ = some (.int .i64 x3))) (ds := [16]) #[false, false, false, false, false, false, false, false, false, false, false, false, false, false, false, false, false, false, false, false, false, false] (by kernel_rfl) rfl rfl (⟨hx1, hx2, hx3⟩) (fun hHeld => ?_)
      refine pure_ (i := 0) (N := some 30) (v := ?_) (a' := ?_) #[true, false, false, false, false, false, false, false, false, false, false, false, false, false, false, false, false, false, false, false, false, false] rfl rfl (by kernel_rfl) (fun _ _ _ h => h) (Or.inl ⟨by rfl, ?_⟩) ?_ ?_
      rotate_left
      · intro w'
        go_simp
        with_reducible rfl
      rotate_left
      · simp only [Act.put, List.setIfInBounds_toArray, List.set_cons_zero, List.set_cons_succ, i64_w, i32_w]
        rfl
      refine pure_ (i := 1) (N := some 31) (v := ?_) (a' := ?_) #[true, true, false, false, false, false, false, false, false, false, false, false, false, false, false, false, false, false, false, false, false, false] rfl rfl (by kernel_rfl) (fun _ _ _ h => h) (Or.inl ⟨by rfl, ?_⟩) ?_ ?_
      rotate_left
      · intro w'
        go_simp
        with_reducible rfl
      rotate_left
      · simp only [Act.put, List.setIfInBounds_toArray, List.set_cons_zero, List.set_cons_succ, i64_w, i32_w]
        rfl
      refine pure_ (i := 2) (N := some 32) (v := ?_) (a' := ?_) #[true, true, true, false, false, false, false, false, false, false, false, false, false, false, false, false, false, false, false, false, false, false] rfl rfl (by kernel_rfl) (fun _ _ _ h => h) (Or.inl ⟨by rfl, ?_⟩) ?_ ?_
      rotate_left
      · intro w'
        go_simp
        with_reducible rfl
      rotate_left
      · simp only [Act.put, List.setIfInBounds_toArray, List.set_cons_zero, List.set_cons_succ, i64_w, i32_w]
        rfl
      refine pure_ (i := 3) (N := some 33) (v := ?_) (a' := ?_) #[true, true, true, true, false, false, false, false, false, false, false, false, false, false, false, false, false, false, false, false, false, false] rfl rfl (by kernel_rfl) (fun _ _ _ h => h) (Or.inl ⟨by rfl, ?_⟩) ?_ ?_
      rotate_left
      · intro w'
        go_simp
        with_reducible rfl
      rotate_left
      · simp only [Act.put, List.setIfInBounds_toArray, List.set_cons_zero, List.set_cons_succ, i64_w, i32_w]
        rfl
      refine pure_ (i := 4) (N := some 34) (v := ?_) (a' := ?_) #[true, true, true, true, true, false, false, false, false, false, false, false, false, false, false, false, false, false, false, false, false, false] rfl rfl (by kernel_rfl) (fun _ _ _ h => h) (Or.inl ⟨by rfl, ?_⟩) ?_ ?_
      rotate_left
      · intro w'
        go_simp
        with_reducible rfl
      rotate_left
      · simp only [Act.put, List.setIfInBounds_toArray, List.set_cons_zero, List.set_cons_succ, i64_w, i32_w]
        rfl
      refine take_ (i := 5) (N := some 35) (v := ?_) (a' := ?_) #[true, true, true, true, true, true, false, false, false, false, false, false, false, false, false, false, false, false, false, false, false, false] rfl rfl (by kernel_rfl) (fun _ _ _ h => h) (Or.inl ⟨by rfl, ?_⟩) hHeld ?_ ?_
      rotate_left
      · rintro w' ⟨s0, s1, s2⟩
        go_simp
        with_reducible rfl
      rotate_left
      · simp only [Act.put, List.setIfInBounds_toArray, List.set_cons_zero, List.set_cons_succ, i64_w, i32_w]
        rfl
      refine pure_ (i := 6) (N := some 36) (v := ?_) (a' := ?_) #[true, true, true, true, true, true, true, false, false, false, false, false, false, false, false, false, false, false, false, false, false, false] rfl rfl (by kernel_rfl) (fun _ _ _ h => h) (Or.inl ⟨by rfl, ?_⟩) ?_ ?_
      rotate_left
      · intro w'
        go_simp
        with_reducible rfl
      rotate_left
      · simp only [Act.put, List.setIfInBounds_toArray, List.set_cons_zero, List.set_cons_succ, i64_w, i32_w]
        rfl
      refine pure_ (i := 7) (N := some 37) (v := ?_) (a' := ?_) #[true, true, true, true, true, true, true, true, false, false, false, false, false, false, false, false, false, false, false, false, false, false] rfl rfl (by kernel_rfl) (fun _ _ _ h => h) (Or.inl ⟨by rfl, ?_⟩) ?_ ?_
      rotate_left
      · intro w'
        go_simp
        with_reducible rfl
      rotate_left
      · simp only [Act.put, List.setIfInBounds_toArray, List.set_cons_zero, List.set_cons_succ, i64_w, i32_w]
        rfl
      refine pure_ (i := 8) (N := some 38) (v := ?_) (a' := ?_) #[true, true, true, true, true, true, true, true, true, false, false, false, false, false, false, false, false, false, false, false, false, false] rfl rfl (by kernel_rfl) (fun _ _ _ h => h) (Or.inl ⟨by rfl, ?_⟩) ?_ ?_
      rotate_left
      · intro w'
        go_simp
        with_reducible rfl
      rotate_left
      · simp only [Act.put, List.setIfInBounds_toArray, List.set_cons_zero, List.set_cons_succ, i64_w, i32_w]
        rfl
      refine pure_ (i := 9) (N := some 39) (v := ?_) (a' := ?_) #[true, true, true, true, true, true, true, true, true, true, false, false, false, false, false, false, false, false, false, false, false, false] rfl rfl (by kernel_rfl) (fun _ _ _ h => h) (Or.inl ⟨by rfl, ?_⟩) ?_ ?_
      rotate_left
      · intro w'
        go_simp
        with_reducible rfl
      rotate_left
      · simp only [Act.put, List.setIfInBounds_toArray, List.set_cons_zero, List.set_cons_succ, i64_w, i32_w]
        rfl
      refine take_ (i := 10) (N := some 40) (v := ?_) (a' := ?_) #[true, true, true, true, true, true, true, true, true, true, true, false, false, false, false, false, false, false, false, false, false, false] rfl rfl (by kernel_rfl) (fun _ _ _ h => h) (Or.inl ⟨by rfl, ?_⟩) hHeld ?_ ?_
      rotate_left
      · rintro w' ⟨s0, s1, s2⟩
        go_simp
        with_reducible rfl
      rotate_left
      · simp only [Act.put, List.setIfInBounds_toArray, List.set_cons_zero, List.set_cons_succ, i64_w, i32_w]
        rfl
      refine pure_ (i := 11) (N := some 41) (v := ?_) (a' := ?_) #[true, true, true, true, true, true, true, true, true, true, true, true, false, false, false, false, false, false, false, false, false, false] rfl rfl (by kernel_rfl) (fun _ _ _ h => h) (Or.inl ⟨by rfl, ?_⟩) ?_ ?_
      rotate_left
      · intro w'
        go_simp
        with_reducible rfl
      rotate_left
      · simp only [Act.put, List.setIfInBounds_toArray, List.set_cons_zero, List.set_cons_succ, i64_w, i32_w]
        rfl
      refine pure_ (i := 12) (N := some 42) (v := ?_) (a' := ?_) #[true, true, true, true, true, true, true, true, true, true, true, true, true, false, false, false, false, false, false, false, false, false] rfl rfl (by kernel_rfl) (fun _ _ _ h => h) (Or.inl ⟨by rfl, ?_⟩) ?_ ?_
      rotate_left
      · intro w'
        go_simp
        with_reducible rfl
      rotate_left
      · simp only [Act.put, List.setIfInBounds_toArray, List.set_cons_zero, List.set_cons_succ, i64_w, i32_w]
        rfl
      refine pure_ (i := 13) (N := some 43) (v := ?_) (a' := ?_) #[true, true, true, true, true, true, true, true, true, true, true, true, true, true, false, false, false, false, false, false, false, false] rfl rfl (by kernel_rfl) (fun _ _ _ h => h) (Or.inl ⟨by rfl, ?_⟩) ?_ ?_
      rotate_left
      · intro w'
        go_simp
        with_reducible rfl
      rotate_left
      · simp only [Act.put, List.setIfInBounds_toArray, List.set_cons_zero, List.set_cons_succ, i64_w, i32_w]
        rfl
      refine pure_ (i := 14) (N := some 44) (v := ?_) (a' := ?_) #[true, true, true, true, true, true, true, true, true, true, true, true, true, true, true, false, false, false, false, false, false, false] rfl rfl (by kernel_rfl) (fun _ _ _ h => h) (Or.inl ⟨by rfl, ?_⟩) ?_ ?_
      rotate_left
      · intro w'
        go_simp
        with_reducible rfl
      rotate_left
      · simp only [Act.put, List.setIfInBounds_toArray, List.set_cons_zero, List.set_cons_succ, i64_w, i32_w]
        rfl
      refine take_ (i := 15) (N := some 45) (v := ?_) (a' := ?_) #[true, true, true, true, true, true, true, true, true, true, true, true, true, true, true, true, false, false, false, false, false, false] rfl rfl (by kernel_rfl) (fun _ _ _ h => h) (Or.inl ⟨by rfl, ?_⟩) hHeld ?_ ?_
      rotate_left
      · rintro w' ⟨s0, s1, s2⟩
        go_simp
        with_reducible rfl
      rotate_left
      · simp only [Act.put, List.setIfInBounds_toArray, List.set_cons_zero, List.set_cons_succ, i64_w, i32_w]
        rfl
      refine last_ (i := 16) (N := some 46) #[true, true, true, true, true, true, true, true, true, true, true, true, true, true, true, true, true, false, false, false, false, false] rfl rfl (by kernel_rfl) (by decide) (fun K hK => ?_)
      refine goes_ Try.func18 (by kernel_rfl) rfl #[.pointer (some ⟨g, 0, none⟩), .int .i64 x1, .int .i64 x2, .int .i64 x3] (by rfl) rfl rfl (by simp only [List.map_toArray, List.map_cons, List.map_nil]; rfl) ?_
      refine (edge_calls HCM.out.ok HA.out.drew (x1, x2, x3) HI.out HU.out).mono ?_
      rintro r w6 ⟨V6, rfl, hA6, hI6, hK6⟩
      have HA6 := Aside0.mk hA6
      have HI6 := Aside0.mk hI6
      have HK6 : Aside0 (Kept S wr w6) := ⟨(kept_drew (Kept.refl S wr)).trans hK6⟩
      clear hA6 hI6 hK6
      rw [HEA.out, HEE.out]
      refine ⟨_, rfl, ?_⟩
      refine hK.out _ _ ?_
      clear hK K
      refine pure_ (i := 17) (N := some 29) (v := ?_) (a' := ?_) #[true, true, true, true, true, true, true, true, true, true, true, true, true, true, true, true, true, true, false, false, false, false] rfl rfl (by kernel_rfl) (fun _ _ _ h => h) (Or.inl ⟨by rfl, ?_⟩) ?_ ?_
      rotate_left
      · intro w'
        go_simp
        with_reducible rfl
      rotate_left
      · simp only [Act.put, List.setIfInBounds_toArray, List.set_cons_zero, List.set_cons_succ, i64_w, i32_w]
        rfl
      refine pure_ (i := 18) (N := some 47) (v := ?_) (a' := ?_) #[true, true, true, true, true, true, true, true, true, true, true, true, true, true, true, true, true, true, true, false, false, false] rfl rfl (by kernel_rfl) (fun _ _ _ h => h) (Or.inl ⟨by rfl, ?_⟩) ?_ ?_
      rotate_left
      · intro w'
        go_simp
        with_reducible rfl
      rotate_left
      · simp only [Act.put, List.setIfInBounds_toArray, List.set_cons_zero, List.set_cons_succ, i64_w, i32_w]
        rfl
      refine pure_ (i := 19) (N := some 48) (v := ?_) (a' := ?_) #[true, true, true, true, true, true, true, true, true, true, true, true, true, true, true, true, true, true, true, true, false, false] rfl rfl (by kernel_rfl) (fun _ _ _ h => h) (Or.inl ⟨by rfl, ?_⟩) ?_ ?_
      rotate_left
      · intro w'
        go_simp
        with_reducible rfl
      rotate_left
      · simp only [Act.put, List.setIfInBounds_toArray, List.set_cons_zero, List.set_cons_succ, i64_w, i32_w]
        rfl
      refine pure_ (i := 20) (N := some 9) (v := ?_) (a' := ?_) #[true, true, true, true, true, true, true, true, true, true, true, true, true, true, true, true, true, true, true, true, true, false] rfl rfl (by kernel_rfl) (fun _ _ _ h => h) (Or.inl ⟨by rfl, ?_⟩) ?_ ?_
      rotate_left
      · intro w'
        go_simp
        with_reducible rfl
      rotate_left
      · simp only [Act.put, List.setIfInBounds_toArray, List.set_cons_zero, List.set_cons_succ, i64_w, i32_w]
        rfl
      refine pure_ (i := 21) (N := some 10) (v := ?_) (a' := ?_) #[true, true, true, true, true, true, true, true, true, true, true, true, true, true, true, true, true, true, true, true, true, true] rfl rfl (by kernel_rfl) (fun _ _ _ h => h) (Or.inl ⟨by rfl, ?_⟩) ?_ ?_
      rotate_left
      · intro w'
        go_simp
        with_reducible rfl
      rotate_left
      · simp only [Act.put, List.setIfInBounds_toArray, List.set_cons_zero, List.set_cons_succ, i64_w, i32_w]
        rfl
      refine done_ (by kernel_rfl) ?_
      skip
      have hb6 : w6.heap[(ad.add (k * 3)).block]? = wr.heap[(ad.add (k * 3)).block]? := HK6.out.block _ (by
        have e2 : (ad.add (k * 3)).block = ad.block := by unfold Addr.add; split <;> rfl
        rw [HS.out, e2]
        exact fun h => Nat.not_le_of_lt HLOW.out h.1)
      have hy1 := cell_kept (w' := w6) hx1 hb6
      have hy2 := cell_kept (w' := w6) hx2 hb6
      have hy3 := cell_kept (w' := w6) hx3 hb6
      have HB6 : Aside0 (Below base w w6) := ⟨⟨HK6.out.os.trans HB.out.os, HK6.out.tape.trans HB.out.tape, HK6.out.output.trans HB.out.output, Nat.le_trans HB.out.size HK6.out.size, fun q hq => (HK6.out.block q (by rw [HS.out]; exact fun h => Nat.not_le_of_lt hq h.1)).trans (HB.out.block q hq)⟩⟩
      have HO6 : Aside0 (w6.ownsRow base 35 3 (.slice Av out.length cv) out.length (eCells out)) := ⟨own_move HO.out fun q hq => HK6.out.block q (by rw [HS.out]; exact fun h => h.2 hq)⟩
      clear hb6 hx1 hx2 hx3 HB HO HA
      by_cases hz : ee = 0
      · have hzb : (ee == 0) = true := by simp [hz]
        subst hz
        have hol : out.length ≤ 5000 := by rw [HCM.out.len]; exact HCM.out.ok.few
        have hby : (out.length + 1) * 24 ≤ 140737488355328 := by omega
        have ho6 := HO6.out
        have hb6' := HB6.out
        have hs6 := hb6'.size
        rw [HBS.out] at hs6
        go_wp2_with (first
          | (at_builtin
             go_loud (refine print_append_cells (w0 := w) (W := w6) base rfl (.tmp 51) (.tmp 56) 22 35 (.agg #[.int .i64 0, .int .i64 0, .int .i64 0]) 3 24 rfl Try.underlying22 info35 rfl (by decide) (by decide) (.slice Av out.length cv) out.length (eCells out) [.int .i64 x1, .int .i64 x2, .int .i64 x3] rfl rfl rfl (fun u hu => by simp only [List.mem_cons, List.not_mem_nil, or_false] at hu; rcases hu with rfl | rfl | rfl <;> rfl) ho6 hb6' hs6 hby ?_)
             intro v7 w7 ho7 hb7 hg7 _
             have HO7 := Aside0.mk ho7
             have HB7 := Aside0.mk hb7
             have HG7 := Aside0.mk hg7
             clear ho7 hb7 hg7 ho6 hb6' hs6)
          | fail)
        have HA7 : Aside0 (NetAt w7 base g (accN N (x1, x2, x3)) (L0 (accN N (x1, x2, x3))) V6 [] [] []) := ⟨by
          have hne : ∀ q, S q → (Value.slice Av out.length cv).ownBlock ≠ some q := fun q hq => by rw [HS.out] at hq; exact hq.2
          have mv : ∀ q, q < w6.heap.size → S q → w7.heap[q]? = w6.heap[q]? := fun q hq hs => HG7.out.block q hq (fun e => hne q hs e.symm)
          have h := HA6.out
          have mvo : ∀ {e : TypeId} {size m : Nat} {u : Value} {xs : List Value}, w6.ownsRow base e size u m xs → (∀ q, u.ownBlock = some q → S q) → w7.ownsRow base e size u m xs := fun hu hs => own_move hu fun q hq => mv q (own_lt hu q hq) (hs q hq)
          have hi := HI6.out
          exact ⟨h.gb, (mv g (blk_lt h.head) hi.g).trans h.head, mvo h.out hi.vo, fun a ha => mvo (h.inn a ha) (hi.rows a), mvo h.arcs hi.va, mvo h.most hi.vm, mvo h.cut_ hi.vc, mvo h.rank_ hi.vr, mvo h.next_ hi.vn, h.apR, h.apM, h.apK, h.apN, h.apMK, h.apMN, h.apKN⟩⟩
        have HO8 : Aside0 (w7.ownsRow base 35 3 v7 (out ++ [(x1, x2, x3)]).length (eCells (out ++ [(x1, x2, x3)]))) := ⟨by
          rw [eCells_app, List.length_append]; exact HO7.out⟩
        go_wp2
        go_roundg (gk - 1)
        case measure => exact pred_lt HK hlt
        case rel => exact ⟨k + 1, V6, next_eq HK hlt, by first | rfl | go_num, by rw [HST.out]; exact HA7, by rw [HST.out, if_pos HEE.out]; exact HO8, HB7⟩
      · have hzb : (ee == 0) = false := by simp [hz]
        go_wp2
        go_roundg (gk - 1)
        case measure => exact pred_lt HK hlt
        case rel => exact ⟨k + 1, V6, next_eq HK hlt, by first | rfl | go_num, by rw [HST.out]; exact HA6, by rw [HST.out, if_neg (by rw [HEE.out]; exact hz)]; exact HO6, HB6⟩
    · obtain rfl : k = l.length := by have := HK.out; omega
      rw [List.take_length] at HA HO
      clear HK hlt
      go_wp2
      go_ret2
      exact ⟨_, _, _, rfl, HA.out, HO.out, HB.out⟩
end Go.Proofs.Ytffghdbhjjfnlaa.F
end
section
/-
  The laws' helper: heads.
-/
namespace Go.Proofs.Ytffghdbhjjfnlaa.F
open Go.RowKit Go.Proofs.YtffghdbhjjfnlaaW.PrintWords Go.Proofs.YtffghdbhjjfnlaaW.PrintLast Go.Proofs.YtffghdbhjjfnlaaW.PrintMore
set_option linter.unusedVariables false
set_option linter.unusedSimpArgs false
/-- The chapter's example. -/
def H1 : Net := (Net.none 3).add 0 1 5
def H2 : Net := H1.add 1 2 3
theorem h1_ok : H1.Ok := add_ok (none_ok (by decide) (by decide)) (by decide) (by decide) (by decide) (by decide) (by decide) (by decide)
theorem h2_ok : H2.Ok := add_ok h1_ok (by decide) (by decide) (by decide) (by decide) (by decide) (by decide)
def hRun : Option (Int × Int × Int × Bool × Bool × Bool) := (run H2 0 2 30 (L0 H2) 0).map fun x => (x.2.2, x.1 1, x.1 3, decide (x.2.1 0 ≥ 0), decide (x.2.1 1 ≥ 0), decide (x.2.1 2 ≥ 0))
theorem hRun_is : hRun = some (3, 3, 3, true, true, false) := by kernel_rfl
theorem h_run : ∃ L rk, run H2 0 2 30 (L0 H2) 0 = some (L, rk, 3) ∧ L 1 = 3 ∧ L 3 = 3 ∧ cutL H2 rk = [true, true, false] := by
  have h := hRun_is
  unfold hRun at h
  cases e : run H2 0 2 30 (L0 H2) 0 with
  | none => rw [e] at h; cases h
  | some x =>
    obtain ⟨L, rk, sum⟩ := x
    rw [e] at h
    simp only [Option.map_some, Option.some.injEq, Prod.mk.injEq] at h
    obtain ⟨h1, h2, h3, h4, h5, h6⟩ := h
    refine ⟨L, rk, by rw [h1], h2, h3, ?_⟩
    show [decide (rk 0 ≥ 0), decide (rk 1 ≥ 0), decide (rk 2 ≥ 0)] = _
    rw [h4, h5, h6]
theorem in_low {w : World} {base g : Nat} {N : Net} {L : Nat → Int} {V : Vs} {cut : List Bool} {rank next : List Int} (h : NetAt w base g N L V cut rank next) : NetIn (fun k => base ≤ k) g V := h.in_.mono fun _ h => h.1
theorem up_low {w : World} {base g : Nat} {N : Net} {L : Nat → Int} {V : Vs} {cut : List Bool} {rank next : List Int} (h : NetAt w base g N L V cut rank next) : ∀ k, w.heap.size ≤ k → base ≤ k := fun k hk => Nat.le_trans h.size hk
set_option maxRecDepth 100000 in
set_option maxHeartbeats 4000000 in
theorem heads_calls (w : World) : Calls Try.prog 10 #[] w fun e w' => e = .returned (.bool true) ∧ Below w.heap.size w w' := by
  obtain ⟨base, hbase⟩ : ∃ b, w.heap.size = b := ⟨_, rfl⟩
  have HBS := Aside0.mk hbase
  simp only [hbase]
  obtain ⟨L, rk, hr, hf0, hf1, hcut⟩ := h_run
  have HR := Aside0.mk hr
  have HF0 := Aside0.mk hf0
  have HF1 := Aside0.mk hf1
  have HCUT := Aside0.mk hcut
  clear hr hf0 hf1 hcut
  go_enter Try.func10, Try.ntmps10
  go_wp2_with fail
  refine (new_yes 3 (by decide) (by decide) (L0 (Net.none 3)) w).mono ?_
  rintro e w1 ⟨g, V1, rfl, hA1, hB1⟩
  rw [hbase] at hA1 hB1
  have HA1 := Aside0.mk hA1
  have HB1 := Aside0.mk hB1
  clear hA1 hB1 hbase
  go_wp2_with fail
  refine (edge_yes (f := 0) (t := 1) (c := 5) (none_ok (by decide) (by decide)) HA1.out (by decide) (by decide) (by decide) (by decide) (by decide) (by decide) (in_low HA1.out) (up_low HA1.out)).mono ?_
  rintro e w2 ⟨V2, rfl, hA2, hI2, hK2⟩
  have HA2 := Aside0.mk hA2
  have HB2 := Aside0.mk (HB1.out.trans hK2.below)
  clear hA2 hI2 hK2 HB1 HA1
  go_wp2_with fail
  refine (edge_yes (f := 1) (t := 2) (c := 3) h1_ok HA2.out (by decide) (by decide) (by decide) (by decide) (by decide) (by decide) (in_low HA2.out) (up_low HA2.out)).mono ?_
  rintro e w3 ⟨V3, rfl, hA3, hI3, hK3⟩
  have HA3 := Aside0.mk hA3
  have HB3 := Aside0.mk (HB2.out.trans hK3.below)
  clear hA3 hI3 hK3 HB2 HA2
  go_wp2_with fail
  refine (run_calls h2_ok (f := 0) (t := 2) (by decide) (by decide) (by decide) HR.out HA3.out (in_low HA3.out) (up_low HA3.out)).mono ?_
  rintro e w4 ⟨V4, rank4, next4, rfl, hA4, hI4, hK4⟩
  rw [HCUT.out] at hA4
  have HA4 := Aside0.mk hA4
  have HB4 := Aside0.mk (HB3.out.trans hK4.below)
  clear hA4 hI4 hK4 HB3 HA3
  go_wp2_with fail
  refine (cut_calls HA4.out (by decide)).mono ?_
  rintro e w5 ⟨vc, rfl, ho5, hb5⟩
  have HA5 := Aside0.mk (HA4.out.below hb5)
  have HB5 := Aside0.mk (below_then HB4.out HA4.out.size hb5)
  obtain ⟨gc, cc, hvc, _⟩ := own_form ho5 (by decide)
  subst hvc
  have hc : ∀ i, i < 3 → w5.cell? ⟨gc, i, none⟩ = some (.bool ([true, true, false].getD i false)) := fun i hi => (own_cellB ho5 i hi).1
  have c0 : w5.cell? ⟨gc, 0, none⟩ = some (.bool true) := hc 0 (by decide)
  have c1 : w5.cell? ⟨gc, 1, none⟩ = some (.bool true) := hc 1 (by decide)
  have c2 : w5.cell? ⟨gc, 2, none⟩ = some (.bool false) := hc 2 (by decide)
  clear ho5 hb5 HA4 HB4 hc
  go_wp2_with fail
  refine (edge_no h2_ok HA5.out 1 1 3 (by decide)).mono ?_
  rintro e w6 ⟨rfl, hw6⟩
  have hw6' := hw6.symm
  subst hw6'
  have he2 : edgeE H2 1 1 3 = 2 := by decide
  rw [he2]
  clear hw6 he2
  go_wp2_with fail
  refine (flow_calls h2_ok HA5.out 0).mono ?_
  rintro e w6 ⟨rfl, hw6⟩
  have hw6' := hw6.symm
  subst hw6'
  have hfa : flowF H2 L 0 = 3 := by rw [← HF0.out]; rfl
  rw [hfa]
  clear hw6 hfa
  go_wp2_with fail
  refine (flow_calls h2_ok HA5.out 1).mono ?_
  rintro e w6 ⟨rfl, hw6⟩
  have hw6' := hw6.symm
  subst hw6'
  have hfa : flowF H2 L 1 = 3 := by rw [← HF1.out]; rfl
  rw [hfa]
  clear hw6 hfa
  go_wp2_with fail
  refine (new_no 0 (by decide) w5).mono ?_
  rintro e w6 ⟨rfl, hw6⟩
  have hw6' := hw6.symm
  subst hw6'
  clear hw6
  go_wp2
  go_ret
  exact ⟨rfl, HB5.out⟩
end Go.Proofs.Ytffghdbhjjfnlaa.F
end
section
/-
  The laws' helper: legal.
-/
namespace Go.Proofs.Ytffghdbhjjfnlaa.F
open Go.RowKit Go.Proofs.YtffghdbhjjfnlaaW.PrintWords Go.Proofs.YtffghdbhjjfnlaaW.PrintLast Go.Proofs.YtffghdbhjjfnlaaW.PrintMore
set_option linter.unusedVariables false
set_option linter.unusedSimpArgs false
def ovL (N : Net) (L : Nat → Int) (k : Nat) : List Int := rowN N.n (ov N L k)
/-- Between the two stores of a round. -/
def ovM (N : Net) (L : Nat → Int) (k : Nat) : List Int := rowN N.n (fun v => ov N L k v - (if N.fr k = v then L (2 * k + 1) else 0))
theorem ovL_zero (N : Net) (L : Nat → Int) : ovL N L 0 = List.replicate N.n 0 := by
  unfold ovL rowN
  refine List.ext_getElem (by simp) (fun i h1 h2 => by simp [ov, sm])
theorem ovL_set (N : Net) (L : Nat → Int) (k : Nat) : (ovL N L k).set (N.fr k) (ov N L k (N.fr k) - L (2 * k + 1)) = ovM N L k := by
  unfold ovL ovM
  rw [rowN_set]
  refine rowN_congr fun i _ => ?_
  by_cases c : i = N.fr k
  · rw [if_pos c, if_pos c.symm, c]
  · rw [if_neg c, if_neg (fun e => c e.symm)]; omega
theorem ovM_set (N : Net) (L : Nat → Int) (k : Nat) : (ovM N L k).set (N.to k) (ov N L k (N.to k) - (if N.fr k = N.to k then L (2 * k + 1) else 0) + L (2 * k + 1)) = ovL N L (k + 1) := by
  unfold ovL ovM
  rw [rowN_set]
  refine rowN_congr fun i _ => ?_
  rw [ov_succ]
  by_cases c : i = N.to k
  · rw [if_pos c, if_pos c.symm, c]; omega
  · rw [if_neg c, if_neg (c := N.to k = i) (fun e => c e.symm)]; omega
set_option maxRecDepth 100000 in
set_option maxHeartbeats 4000000 in
theorem legal_calls {N : Net} (hN : N.Ok) {f t : Nat} (hf : f < N.n) (ht : t < N.n) {L : Nat → Int} {sum : Int} (hFl : Flows N f t L sum) {n0 : Nat} {out : List E3} (hC : Came n0 N out) {w : World} {base g : Nat} {V : Vs} {cut : List Bool} {rank next : List Int} (hA : NetAt w base g N L V cut rank next) {A : Option Addr} {c : Nat} (hE : EdgesIn w A out) :
    Calls Try.prog 13 #[.pointer (some ⟨g, 0, none⟩), .int .i64 N.n, .slice A out.length c, .int .i64 f, .int .i64 t] w fun e w' => e = .returned (.tuple #[.int .i64 sum, .bool true]) ∧ Below w.heap.size w w' := by
  have HN := Aside0.mk hN
  have HFL := Aside0.mk hFl
  have HC := Aside0.mk hC
  have HA := Aside0.mk hA
  have HE := Aside0.mk hE
  have hle := hN.le
  have hmk := print_make (P := Try.prog) 49 3 .i64 8 Try.underlying49 info3 (by decide) N.n (by omega)
  have hm5 := hN.few
  have hlen := hC.len
  obtain ⟨gr, hgr⟩ : ∃ b, w.heap.size = b := ⟨_, rfl⟩
  have HGR := Aside0.mk hgr
  have HM := Aside0.mk hlen
  rw [hlen]
  clear hFl hC hA hE hN hlen
  rw [hgr]
  go_enter Try.func13, Try.ntmps13
  go_wp2
  try simp only [hgr]
  go_loopg [13] N.m (fun q i wr => ∃ k : Nat, Aside0 (k + q = N.m) ∧ i = .int .i64 k ∧ Aside0 (wr.ownsRow gr 3 1 (.slice (some ⟨gr, 0, none⟩) N.n N.n) N.n (nums .i64 (ovL N L k))) ∧ Aside0 (Below gr w wr))
  case atStart =>
    refine ⟨0, ⟨by omega⟩, rfl, ⟨?_⟩, ⟨?_⟩⟩
    · rw [ovL_zero]
      have := own_made w w.heap.size 3 .i64 N.n (Nat.le_refl _) (by omega)
      rw [hgr] at this
      exact this
    · have := below_alloc (Below.refl w.heap.size w) (Obj.cells (madeCells #[.int .i64 0] N.n) 3)
      rw [hgr] at this; exact this
  case round =>
    obtain ⟨k, HK, rfl, HO, HB⟩ := hrel
    by_cases hlt : k < N.m
    · have hbw : Below w.heap.size w wr := by rw [HGR.out]; exact HB.out
      obtain ⟨ad, rfl, hx1, hx2, hx3⟩ := (HE.out.below (w' := wr) hbw) k (by rw [HM.out]; exact hlt)
      have HAW := Aside0.mk (HA.out.below (w' := wr) hbw)
      rw [HC.out.at_ k hlt] at hx1 hx2 hx3
      have hfa := HN.out.fr k hlt
      have hta := HN.out.to k hlt
      have hne := HN.out.ne k hlt
      have hmo := HN.out.mo k hlt
      have hfit := HFL.out.fit k hlt
      have hov := ov_bound HN.out HFL.out.fit
      obtain ⟨a, ha⟩ : ∃ a, N.fr k = a := ⟨_, rfl⟩
      obtain ⟨b, hb⟩ : ∃ b, N.to k = b := ⟨_, rfl⟩
      obtain ⟨m, hm⟩ : ∃ m, N.mo k = m := ⟨_, rfl⟩
      obtain ⟨fl, hfl⟩ : ∃ x, L (2 * k + 1) = x := ⟨_, rfl⟩
      have hov1 := hov a k (by omega)
      have hov2 := hov b k (by omega)
      have hs1 := ovL_set N L k
      have hs2 := ovM_set N L k
      have hflow : flowF N L (k : Int) = fl := by unfold flowF; rw [if_neg (by omega), ← hfl, Int.toNat_natCast]
      rw [ha, hfl] at hs1
      rw [ha, hb, hfl, if_neg (by rw [← ha, ← hb]; exact hne)] at hs2
      rw [ha] at hx1 hfa
      rw [hb] at hx2 hta
      rw [hm] at hx3 hmo hfit
      rw [hfl] at hfit
      obtain ⟨oa, hoa⟩ : ∃ x, ov N L k a = x := ⟨_, rfl⟩
      obtain ⟨ob, hob⟩ : ∃ x, ov N L k b = x := ⟨_, rfl⟩
      rw [hoa] at hs1 hov1
      rw [hob] at hs2 hov2
      have hoca := own_cell HO.out a (by unfold ovL; rw [rowN_len]; exact hfa)
      unfold ovL at hoca
      rw [rowN_at _ _ _ hfa, hoa] at hoca
      obtain ⟨hca, hfa'⟩ := hoca
      have ho2 := own_put HO.out a (oa - fl)
      rw [hs1] at ho2
      have hocb := own_cell ho2 b (by unfold ovM; rw [rowN_len]; exact hta)
      unfold ovM at hocb
      rw [rowN_at _ _ _ hta, hob, ha, if_neg (by rw [← ha, ← hb]; exact hne), Int.sub_zero] at hocb
      have ho3 := own_put ho2 b (ob - 0 + fl)
      rw [hs2, Int.sub_zero] at ho3
      have hwa : wrap64 (oa - fl) = oa - fl := by unfold wrap64; omega
      have hwb : wrap64 (ob + fl) = ob + fl := by unfold wrap64; omega
      have dfl : decide (fl < 0) = false := decide_eq_false (by omega)
      have dfm : decide (fl > m) = false := decide_eq_false (by omega)
      have hlow : ad.block < gr := by
        have h := (HE.out k (by rw [HM.out]; exact hlt))
        have := cell_in h.choose_spec.2.1
        have e1 := h.choose_spec.1
        injection e1 with e1
        have e2 : (ad.add (k * 3)).block = ad.block := by unfold Addr.add; split <;> rfl
        rw [← e1, e2] at this
        rw [← HGR.out]; exact this
      have hlow2 : (ad.add (k * 3)).block < gr := by
        have e2 : (ad.add (k * 3)).block = ad.block := by unfold Addr.add; split <;> rfl
        rw [e2]; exact hlow
      have HO3 := Aside0.mk ho3
      have HCB := Aside0.mk hocb
      have HL2 := Aside0.mk hlow2
      have hwi := wrap_succ (n := N.m) (by omega) hlt
      have haz : (a : Int) < (N.n : Int) := by omega
      have hbz : (b : Int) < (N.n : Int) := by omega
      have HFLW := Aside0.mk hflow
      clear hov hov1 hov2 hs1 hs2 ho2 ho3 hocb hlow hlow2 hbw hfit hmo hne ha hb hm hfl hoa hob hflow
      go_wp2_with fail
      refine (flow_calls HN.out HAW.out (k : Int)).mono ?_
      rintro e wq ⟨rfl, hwq⟩
      have hwq' := hwq.symm
      subst hwq'
      rw [HFLW.out]
      clear hwq
      go_wp2_with fail
      refine start_ (n := 18) (S := (fun w' => w'.cell? (ad.add (k * 3)) = some (.int .i64 (a : Int)) ∧ w'.cell? ⟨gr, a, none⟩ = some (.int .i64 oa))) (ds := [17]) #[false, false, false, false, false, false, false, false, false, false, false, false, false, false, false, false, false, false] (by kernel_rfl) rfl rfl (⟨hx1, hca⟩) (fun hHeld => ?_)
      refine pure_ (i := 0) (N := some 38) (v := ?_) (a' := ?_) #[true, false, false, false, false, false, false, false, false, false, false, false, false, false, false, false, false, false] rfl rfl (by kernel_rfl) (fun _ _ _ h => h) (Or.inl ⟨by rfl, ?_⟩) ?_ ?_
      rotate_left
      · intro w'
        go_simp
        with_reducible rfl
      rotate_left
      · simp only [Act.put, List.setIfInBounds_toArray, List.set_cons_zero, List.set_cons_succ, i64_w, i32_w]
        rfl
      refine pure_ (i := 1) (N := some 39) (v := ?_) (a' := ?_) #[true, true, false, false, false, false, false, false, false, false, false, false, false, false, false, false, false, false] rfl rfl (by kernel_rfl) (fun _ _ _ h => h) (Or.inl ⟨by rfl, ?_⟩) ?_ ?_
      rotate_left
      · intro w'
        go_simp
        with_reducible rfl
      rotate_left
      · simp only [Act.put, List.setIfInBounds_toArray, List.set_cons_zero, List.set_cons_succ, i64_w, i32_w]
        rfl
      refine pure_ (i := 2) (N := some 40) (v := ?_) (a' := ?_) #[true, true, true, false, false, false, false, false, false, false, false, false, false, false, false, false, false, false] rfl rfl (by kernel_rfl) (fun _ _ _ h => h) (Or.inl ⟨by rfl, ?_⟩) ?_ ?_
      rotate_left
      · intro w'
        go_simp
        with_reducible rfl
      rotate_left
      · simp only [Act.put, List.setIfInBounds_toArray, List.set_cons_zero, List.set_cons_succ, i64_w, i32_w]
        rfl
      refine pure_ (i := 3) (N := some 41) (v := ?_) (a' := ?_) #[true, true, true, true, false, false, false, false, false, false, false, false, false, false, false, false, false, false] rfl rfl (by kernel_rfl) (fun _ _ _ h => h) (Or.inl ⟨by rfl, ?_⟩) ?_ ?_
      rotate_left
      · intro w'
        go_simp
        with_reducible rfl
      rotate_left
      · simp only [Act.put, List.setIfInBounds_toArray, List.set_cons_zero, List.set_cons_succ, i64_w, i32_w]
        rfl
      refine pure_ (i := 4) (N := some 42) (v := ?_) (a' := ?_) #[true, true, true, true, true, false, false, false, false, false, false, false, false, false, false, false, false, false] rfl rfl (by kernel_rfl) (fun _ _ _ h => h) (Or.inl ⟨by rfl, ?_⟩) ?_ ?_
      rotate_left
      · intro w'
        go_simp
        with_reducible rfl
      rotate_left
      · simp only [Act.put, List.setIfInBounds_toArray, List.set_cons_zero, List.set_cons_succ, i64_w, i32_w]
        rfl
      refine take_ (i := 5) (N := some 43) (v := ?_) (a' := ?_) #[true, true, true, true, true, true, false, false, false, false, false, false, false, false, false, false, false, false] rfl rfl (by kernel_rfl) (fun _ _ _ h => h) (Or.inl ⟨by rfl, ?_⟩) hHeld ?_ ?_
      rotate_left
      · rintro w' ⟨s0, s1⟩
        go_simp
        with_reducible rfl
      rotate_left
      · simp only [Act.put, List.setIfInBounds_toArray, List.set_cons_zero, List.set_cons_succ, i64_w, i32_w]
        rfl
      refine pure_ (i := 6) (N := some 44) (v := ?_) (a' := ?_) #[true, true, true, true, true, true, true, false, false, false, false, false, false, false, false, false, false, false] rfl rfl (by kernel_rfl) (fun _ _ _ h => h) (Or.inl ⟨by rfl, ?_⟩) ?_ ?_
      rotate_left
      · intro w'
        go_simp
        with_reducible rfl
      rotate_left
      · simp only [Act.put, List.setIfInBounds_toArray, List.set_cons_zero, List.set_cons_succ, i64_w, i32_w]
        rfl
      refine pure_ (i := 7) (N := some 45) (v := ?_) (a' := ?_) #[true, true, true, true, true, true, true, true, false, false, false, false, false, false, false, false, false, false] rfl rfl (by kernel_rfl) (fun _ _ _ h => h) (Or.inl ⟨by rfl, ?_⟩) ?_ ?_
      rotate_left
      · intro w'
        go_simp
        with_reducible rfl
      rotate_left
      · simp only [Act.put, List.setIfInBounds_toArray, List.set_cons_zero, List.set_cons_succ, i64_w, i32_w]
        rfl
      refine pure_ (i := 8) (N := some 46) (v := ?_) (a' := ?_) #[true, true, true, true, true, true, true, true, true, false, false, false, false, false, false, false, false, false] rfl rfl (by kernel_rfl) (fun _ _ _ h => h) (Or.inl ⟨by rfl, ?_⟩) ?_ ?_
      rotate_left
      · intro w'
        go_simp
        with_reducible rfl
      rotate_left
      · simp only [Act.put, List.setIfInBounds_toArray, List.set_cons_zero, List.set_cons_succ, i64_w, i32_w]
        rfl
      refine pure_ (i := 9) (N := some 47) (v := ?_) (a' := ?_) #[true, true, true, true, true, true, true, true, true, true, false, false, false, false, false, false, false, false] rfl rfl (by kernel_rfl) (fun _ _ _ h => h) (Or.inl ⟨by rfl, ?_⟩) ?_ ?_
      rotate_left
      · intro w'
        go_simp
        with_reducible rfl
      rotate_left
      · simp only [Act.put, List.setIfInBounds_toArray, List.set_cons_zero, List.set_cons_succ, i64_w, i32_w]
        rfl
      refine pure_ (i := 10) (N := some 48) (v := ?_) (a' := ?_) #[true, true, true, true, true, true, true, true, true, true, true, false, false, false, false, false, false, false] rfl rfl (by kernel_rfl) (fun _ _ _ h => h) (Or.inl ⟨by rfl, ?_⟩) ?_ ?_
      rotate_left
      · intro w'
        go_simp
        with_reducible rfl
      rotate_left
      · simp only [Act.put, List.setIfInBounds_toArray, List.set_cons_zero, List.set_cons_succ, i64_w, i32_w]
        rfl
      refine take_ (i := 11) (N := some 49) (v := ?_) (a' := ?_) #[true, true, true, true, true, true, true, true, true, true, true, true, false, false, false, false, false, false] rfl rfl (by kernel_rfl) (fun _ _ _ h => h) (Or.inl ⟨by rfl, ?_⟩) hHeld ?_ ?_
      rotate_left
      · rintro w' ⟨s0, s1⟩
        go_simp
        with_reducible rfl
      rotate_left
      · simp only [Act.put, List.setIfInBounds_toArray, List.set_cons_zero, List.set_cons_succ, i64_w, i32_w]
        rfl
      refine pure_ (i := 12) (N := some 50) (v := ?_) (a' := ?_) #[true, true, true, true, true, true, true, true, true, true, true, true, true, false, false, false, false, false] rfl rfl (by kernel_rfl) (fun _ _ _ h => h) (Or.inl ⟨by rfl, ?_⟩) ?_ ?_
      rotate_left
      · intro w'
        go_simp
        with_reducible rfl
      rotate_left
      · simp only [Act.put, List.setIfInBounds_toArray, List.set_cons_zero, List.set_cons_succ, i64_w, i32_w]
        rfl
      refine take_ (i := 13) (N := some 51) (v := ?_) (a' := ?_) #[true, true, true, true, true, true, true, true, true, true, true, true, true, true, false, false, false, false] rfl rfl (by kernel_rfl) (fun _ _ _ h => h) (Or.inl ⟨by rfl, ?_⟩) hHeld ?_ ?_
      rotate_left
      · rintro w' ⟨s0, s1⟩
        go_simp
        with_reducible rfl
      rotate_left
      · simp only [Act.put, List.setIfInBounds_toArray, List.set_cons_zero, List.set_cons_succ, i64_w, i32_w]
        rfl
      refine pure_ (i := 14) (N := some 52) (v := ?_) (a' := ?_) #[true, true, true, true, true, true, true, true, true, true, true, true, true, true, true, false, false, false] rfl rfl (by kernel_rfl) (fun _ _ _ h => h) (Or.inl ⟨by rfl, ?_⟩) ?_ ?_
      rotate_left
      · intro w'
        go_simp
        with_reducible rfl
      rotate_left
      · simp only [Act.put, List.setIfInBounds_toArray, List.set_cons_zero, List.set_cons_succ, i64_w, i32_w]
        rfl
      refine pure_ (i := 15) (N := some 53) (v := ?_) (a' := ?_) #[true, true, true, true, true, true, true, true, true, true, true, true, true, true, true, true, false, false] rfl rfl (by kernel_rfl) (fun _ _ _ h => h) (Or.inl ⟨by rfl, ?_⟩) ?_ ?_
      rotate_left
      · intro w'
        go_simp
        with_reducible rfl
      rotate_left
      · simp only [Act.put, List.setIfInBounds_toArray, List.set_cons_zero, List.set_cons_succ, i64_w, i32_w]
        rfl
      refine pure_ (i := 16) (N := some 54) (v := ?_) (a' := ?_) #[true, true, true, true, true, true, true, true, true, true, true, true, true, true, true, true, true, false] rfl rfl (by kernel_rfl) (fun _ _ _ h => h) (Or.inl ⟨by rfl, ?_⟩) ?_ ?_
      rotate_left
      · intro w'
        go_simp
        with_reducible rfl
      rotate_left
      · simp only [Act.put, List.setIfInBounds_toArray, List.set_cons_zero, List.set_cons_succ, i64_w, i32_w]
        rfl
      refine last_ (i := 17) (N := none) #[true, true, true, true, true, true, true, true, true, true, true, true, true, true, true, true, true, true] rfl rfl (by kernel_rfl) (by decide) (fun K hK => ?_)
      go_simp
      refine hK.out _ _ ?_
      clear hK K
      refine done_ (by kernel_rfl) ?_
      skip
      have y2 := cell_kept (w' := (wr.setCell ⟨gr, a, none⟩ (.int .i64 (oa - fl))).drew) hx2 (Below.heap_setCell wr ⟨gr, a, none⟩ _ _ (Nat.ne_of_lt HL2.out))
      have q2 : ((wr.setCell ⟨gr, a, none⟩ (.int .i64 (oa - fl))).drew).cell? ⟨gr, b, none⟩ = some (.int .i64 ob) := HCB.out.1
      have HQF : Aside0 (((wr.setCell ⟨gr, a, none⟩ (.int .i64 (oa - fl))).drew).frozen? ⟨gr, b, none⟩ = false) := ⟨HCB.out.2⟩
      have HB8 : Aside0 (Below gr w (wr.setCell ⟨gr, a, none⟩ (.int .i64 (oa - fl))).drew) := ⟨below_drew (below_cell HB.out (Nat.le_refl _) _ _)⟩
      have HO8 : Aside0 ((((wr.setCell ⟨gr, a, none⟩ (.int .i64 (oa - fl))).drew).setCell ⟨gr, b, none⟩ (.int .i64 (ob + fl))).ownsRow gr 3 1 (.slice (some ⟨gr, 0, none⟩) N.n N.n) N.n (nums .i64 (ovL N L (k + 1)))) := ⟨own_move HO3.out fun _ _ => rfl⟩
      obtain ⟨w8, hw8⟩ : ∃ x, (wr.setCell ⟨gr, a, none⟩ (.int .i64 (oa - fl))).drew = x := ⟨_, rfl⟩
      rw [hw8] at y2 q2 HQF HB8 HO8 ⊢
      have y2' : w8.drew.cell? ⟨(ad.add (k * 3)).block, (ad.add (k * 3)).off + 1, none⟩ = some (.int .i64 (b : Int)) := y2
      have q2' : w8.drew.cell? ⟨gr, b, none⟩ = some (.int .i64 ob) := q2
      clear hw8 hx1 hx2 hx3 hca hfa' y2 q2 HO HB HCB HO3 HAW hHeld
      go_wp2_with fail
      refine start_ (n := 18) (S := (fun w' => w'.cell? ⟨(ad.add (k * 3)).block, (ad.add (k * 3)).off + 1, none⟩ = some (.int .i64 (b : Int)) ∧ w'.cell? ⟨gr, b, none⟩ = some (.int .i64 ob))) (ds := [17]) #[false, false, false, false, false, false, false, false, false, false, false, false, false, false, false, false, false, false] (by kernel_rfl) rfl rfl (⟨y2', q2'⟩) (fun hHeld => ?_)
      refine pure_ (i := 0) (N := some 55) (v := ?_) (a' := ?_) #[true, false, false, false, false, false, false, false, false, false, false, false, false, false, false, false, false, false] rfl rfl (by kernel_rfl) (fun _ _ _ h => h) (Or.inl ⟨by rfl, ?_⟩) ?_ ?_
      rotate_left
      · intro w'
        go_simp
        with_reducible rfl
      rotate_left
      · simp only [Act.put, List.setIfInBounds_toArray, List.set_cons_zero, List.set_cons_succ, i64_w, i32_w]
        rfl
      refine pure_ (i := 1) (N := some 56) (v := ?_) (a' := ?_) #[true, true, false, false, false, false, false, false, false, false, false, false, false, false, false, false, false, false] rfl rfl (by kernel_rfl) (fun _ _ _ h => h) (Or.inl ⟨by rfl, ?_⟩) ?_ ?_
      rotate_left
      · intro w'
        go_simp
        with_reducible rfl
      rotate_left
      · simp only [Act.put, List.setIfInBounds_toArray, List.set_cons_zero, List.set_cons_succ, i64_w, i32_w]
        rfl
      refine pure_ (i := 2) (N := some 57) (v := ?_) (a' := ?_) #[true, true, true, false, false, false, false, false, false, false, false, false, false, false, false, false, false, false] rfl rfl (by kernel_rfl) (fun _ _ _ h => h) (Or.inl ⟨by rfl, ?_⟩) ?_ ?_
      rotate_left
      · intro w'
        go_simp
        with_reducible rfl
      rotate_left
      · simp only [Act.put, List.setIfInBounds_toArray, List.set_cons_zero, List.set_cons_succ, i64_w, i32_w]
        rfl
      refine pure_ (i := 3) (N := some 58) (v := ?_) (a' := ?_) #[true, true, true, true, false, false, false, false, false, false, false, false, false, false, false, false, false, false] rfl rfl (by kernel_rfl) (fun _ _ _ h => h) (Or.inl ⟨by rfl, ?_⟩) ?_ ?_
      rotate_left
      · intro w'
        go_simp
        with_reducible rfl
      rotate_left
      · simp only [Act.put, List.setIfInBounds_toArray, List.set_cons_zero, List.set_cons_succ, i64_w, i32_w]
        rfl
      refine pure_ (i := 4) (N := some 59) (v := ?_) (a' := ?_) #[true, true, true, true, true, false, false, false, false, false, false, false, false, false, false, false, false, false] rfl rfl (by kernel_rfl) (fun _ _ _ h => h) (Or.inl ⟨by rfl, ?_⟩) ?_ ?_
      rotate_left
      · intro w'
        go_simp
        with_reducible rfl
      rotate_left
      · simp only [Act.put, List.setIfInBounds_toArray, List.set_cons_zero, List.set_cons_succ, i64_w, i32_w]
        rfl
      refine take_ (i := 5) (N := some 60) (v := ?_) (a' := ?_) #[true, true, true, true, true, true, false, false, false, false, false, false, false, false, false, false, false, false] rfl rfl (by kernel_rfl) (fun _ _ _ h => h) (Or.inl ⟨by rfl, ?_⟩) hHeld ?_ ?_
      rotate_left
      · rintro w' ⟨s0, s1⟩
        go_simp
        with_reducible rfl
      rotate_left
      · simp only [Act.put, List.setIfInBounds_toArray, List.set_cons_zero, List.set_cons_succ, i64_w, i32_w]
        rfl
      refine pure_ (i := 6) (N := some 61) (v := ?_) (a' := ?_) #[true, true, true, true, true, true, true, false, false, false, false, false, false, false, false, false, false, false] rfl rfl (by kernel_rfl) (fun _ _ _ h => h) (Or.inl ⟨by rfl, ?_⟩) ?_ ?_
      rotate_left
      · intro w'
        go_simp
        with_reducible rfl
      rotate_left
      · simp only [Act.put, List.setIfInBounds_toArray, List.set_cons_zero, List.set_cons_succ, i64_w, i32_w]
        rfl
      refine pure_ (i := 7) (N := some 62) (v := ?_) (a' := ?_) #[true, true, true, true, true, true, true, true, false, false, false, false, false, false, false, false, false, false] rfl rfl (by kernel_rfl) (fun _ _ _ h => h) (Or.inl ⟨by rfl, ?_⟩) ?_ ?_
      rotate_left
      · intro w'
        go_simp
        with_reducible rfl
      rotate_left
      · simp only [Act.put, List.setIfInBounds_toArray, List.set_cons_zero, List.set_cons_succ, i64_w, i32_w]
        rfl
      refine pure_ (i := 8) (N := some 63) (v := ?_) (a' := ?_) #[true, true, true, true, true, true, true, true, true, false, false, false, false, false, false, false, false, false] rfl rfl (by kernel_rfl) (fun _ _ _ h => h) (Or.inl ⟨by rfl, ?_⟩) ?_ ?_
      rotate_left
      · intro w'
        go_simp
        with_reducible rfl
      rotate_left
      · simp only [Act.put, List.setIfInBounds_toArray, List.set_cons_zero, List.set_cons_succ, i64_w, i32_w]
        rfl
      refine pure_ (i := 9) (N := some 64) (v := ?_) (a' := ?_) #[true, true, true, true, true, true, true, true, true, true, false, false, false, false, false, false, false, false] rfl rfl (by kernel_rfl) (fun _ _ _ h => h) (Or.inl ⟨by rfl, ?_⟩) ?_ ?_
      rotate_left
      · intro w'
        go_simp
        with_reducible rfl
      rotate_left
      · simp only [Act.put, List.setIfInBounds_toArray, List.set_cons_zero, List.set_cons_succ, i64_w, i32_w]
        rfl
      refine pure_ (i := 10) (N := some 65) (v := ?_) (a' := ?_) #[true, true, true, true, true, true, true, true, true, true, true, false, false, false, false, false, false, false] rfl rfl (by kernel_rfl) (fun _ _ _ h => h) (Or.inl ⟨by rfl, ?_⟩) ?_ ?_
      rotate_left
      · intro w'
        go_simp
        with_reducible rfl
      rotate_left
      · simp only [Act.put, List.setIfInBounds_toArray, List.set_cons_zero, List.set_cons_succ, i64_w, i32_w]
        rfl
      refine take_ (i := 11) (N := some 66) (v := ?_) (a' := ?_) #[true, true, true, true, true, true, true, true, true, true, true, true, false, false, false, false, false, false] rfl rfl (by kernel_rfl) (fun _ _ _ h => h) (Or.inl ⟨by rfl, ?_⟩) hHeld ?_ ?_
      rotate_left
      · rintro w' ⟨s0, s1⟩
        go_simp
        with_reducible rfl
      rotate_left
      · simp only [Act.put, List.setIfInBounds_toArray, List.set_cons_zero, List.set_cons_succ, i64_w, i32_w]
        rfl
      refine pure_ (i := 12) (N := some 67) (v := ?_) (a' := ?_) #[true, true, true, true, true, true, true, true, true, true, true, true, true, false, false, false, false, false] rfl rfl (by kernel_rfl) (fun _ _ _ h => h) (Or.inl ⟨by rfl, ?_⟩) ?_ ?_
      rotate_left
      · intro w'
        go_simp
        with_reducible rfl
      rotate_left
      · simp only [Act.put, List.setIfInBounds_toArray, List.set_cons_zero, List.set_cons_succ, i64_w, i32_w]
        rfl
      refine take_ (i := 13) (N := some 68) (v := ?_) (a' := ?_) #[true, true, true, true, true, true, true, true, true, true, true, true, true, true, false, false, false, false] rfl rfl (by kernel_rfl) (fun _ _ _ h => h) (Or.inl ⟨by rfl, ?_⟩) hHeld ?_ ?_
      rotate_left
      · rintro w' ⟨s0, s1⟩
        go_simp
        with_reducible rfl
      rotate_left
      · simp only [Act.put, List.setIfInBounds_toArray, List.set_cons_zero, List.set_cons_succ, i64_w, i32_w]
        rfl
      refine pure_ (i := 14) (N := some 69) (v := ?_) (a' := ?_) #[true, true, true, true, true, true, true, true, true, true, true, true, true, true, true, false, false, false] rfl rfl (by kernel_rfl) (fun _ _ _ h => h) (Or.inl ⟨by rfl, ?_⟩) ?_ ?_
      rotate_left
      · intro w'
        go_simp
        with_reducible rfl
      rotate_left
      · simp only [Act.put, List.setIfInBounds_toArray, List.set_cons_zero, List.set_cons_succ, i64_w, i32_w]
        rfl
      refine pure_ (i := 15) (N := some 70) (v := ?_) (a' := ?_) #[true, true, true, true, true, true, true, true, true, true, true, true, true, true, true, true, false, false] rfl rfl (by kernel_rfl) (fun _ _ _ h => h) (Or.inl ⟨by rfl, ?_⟩) ?_ ?_
      rotate_left
      · intro w'
        go_simp
        with_reducible rfl
      rotate_left
      · simp only [Act.put, List.setIfInBounds_toArray, List.set_cons_zero, List.set_cons_succ, i64_w, i32_w]
        rfl
      refine pure_ (i := 16) (N := some 71) (v := ?_) (a' := ?_) #[true, true, true, true, true, true, true, true, true, true, true, true, true, true, true, true, true, false] rfl rfl (by kernel_rfl) (fun _ _ _ h => h) (Or.inl ⟨by rfl, ?_⟩) ?_ ?_
      rotate_left
      · intro w'
        go_simp
        with_reducible rfl
      rotate_left
      · simp only [Act.put, List.setIfInBounds_toArray, List.set_cons_zero, List.set_cons_succ, i64_w, i32_w]
        rfl
      refine last_ (i := 17) (N := none) #[true, true, true, true, true, true, true, true, true, true, true, true, true, true, true, true, true, true] rfl rfl (by kernel_rfl) (by decide) (fun K hK => ?_)
      have g2 := HQF.out
      go_simp
      refine hK.out _ _ ?_
      clear hK K
      refine done_ (by kernel_rfl) ?_
      skip
      have HO9 : Aside0 (((w8.setCell ⟨gr, b, none⟩ (.int .i64 (ob + fl))).drew).ownsRow gr 3 1 (.slice (some ⟨gr, 0, none⟩) N.n N.n) N.n (nums .i64 (ovL N L (k + 1)))) := ⟨own_move HO8.out fun _ _ => rfl⟩
      have HB9 : Aside0 (Below gr w ((w8.setCell ⟨gr, b, none⟩ (.int .i64 (ob + fl))).drew)) := ⟨below_drew (below_cell HB8.out (Nat.le_refl _) _ _)⟩
      clear y2' q2' hHeld hwa hwb dfl dfm haz hbz hfa hta hmk g2 HQF HL2 HFLW HB8 HO8 HE HA
      generalize (w8.setCell ⟨gr, b, none⟩ (.int .i64 (ob + fl))).drew = w9 at HO9 HB9 ⊢
      go_wp2
      go_roundg (gk - 1)
      case measure => exact pred_lt HK hlt
      case rel => exact ⟨k + 1, next_eq HK hlt, by first | rfl | go_num, HO9, HB9⟩
    · obtain rfl : k = N.m := by have := HK.out; omega
      clear HK hlt
      go_wp2
      go_loopg [15] N.n (fun q i wx => ∃ k2 : Nat, Aside0 (k2 + q = N.n) ∧ i = .int .i64 k2 ∧ Aside0 (wx = wr))
      case atStart => exact ⟨0, ⟨by omega⟩, rfl, ⟨rfl⟩⟩
      case round =>
        obtain ⟨k2, HK, rfl, HWX⟩ := hrel
        have hwx := HWX.out
        subst hwx
        clear HWX
        by_cases hlt : k2 < N.n
        · have hcell := (own_cell HO.out k2 (by unfold ovL; rw [rowN_len]; exact hlt)).1
          unfold ovL at hcell
          rw [rowN_at _ _ _ hlt] at hcell
          have hwi := wrap_succ (n := N.n) (by omega) hlt
          have hk2z : (k2 : Int) < (N.n : Int) := by omega
          by_cases c1 : k2 = f
          · have b1 : ((k2 : Int) != (f : Int)) = false := by simp [c1]
            clear c1
            go_wp2
            go_roundg (gk - 1)
            case measure => exact pred_lt HK hlt
            case rel => exact ⟨k2 + 1, next_eq HK hlt, by first | rfl | go_num, ⟨rfl⟩⟩
          · have b1 : ((k2 : Int) != (f : Int)) = true := by simp; omega
            by_cases c2 : k2 = t
            · have b2 : ((k2 : Int) != (t : Int)) = false := by simp [c2]
              clear c1 c2
              go_wp2
              go_roundg (gk - 1)
              case measure => exact pred_lt HK hlt
              case rel => exact ⟨k2 + 1, next_eq HK hlt, by first | rfl | go_num, ⟨rfl⟩⟩
            · have b2 : ((k2 : Int) != (t : Int)) = true := by simp; omega
              rw [ov_all, HFL.out.even k2 c1 c2] at hcell
              clear c1 c2
              go_wp2
              go_roundg (gk - 1)
              case measure => exact pred_lt HK hlt
              case rel => exact ⟨k2 + 1, next_eq HK hlt, by first | rfl | go_num, ⟨rfl⟩⟩
        · have hcell := (own_cell HO.out f (by unfold ovL; rw [rowN_len]; exact hf)).1
          unfold ovL at hcell
          rw [rowN_at _ _ _ hf, ov_all, HFL.out.size] at hcell
          have hs1 := HFL.out.le
          have hs2 := total_le HN.out
          have hs3 := HFL.out.nn
          have hws : wrap64 sum = sum := by unfold wrap64; omega
          have hws2 : wrap64 (- -sum) = sum := by unfold wrap64; omega
          have hfz : (f : Int) < (N.n : Int) := by omega
          clear hs1 hs2 hs3
          obtain rfl : k2 = N.n := by have := HK.out; omega
          clear HK hlt
          go_wp2
          go_ret2
          refine ⟨?_, HB.out⟩
          show Ending.returned (Value.tuple #[.int .i64 (wrap64 sum), .bool true]) = _
          rw [hws]
end Go.Proofs.Ytffghdbhjjfnlaa.F
end
section
/-
  The law FlowCut: its walk.
-/
namespace Go.Proofs.Ytffghdbhjjfnlaa.F
open Go.RowKit Go.Proofs.YtffghdbhjjfnlaaW.PrintWords Go.Proofs.YtffghdbhjjfnlaaW.PrintLast Go.Proofs.YtffghdbhjjfnlaaW.PrintMore
attribute [local go_sem] max2_int min2_int max_two min_two
set_option linter.unusedVariables false
set_option linter.unusedSimpArgs false
/-- A net's blocks, and a row of edges beside it. -/
def Beside (base : Nat) (v : Value) : Nat → Prop := fun q => base ≤ q ∧ v.ownBlock ≠ some q
theorem in_out {w : World} {base g m : Nat} {N : Net} {L : Nat → Int} {V : Vs} {cut : List Bool} {rank next : List Int} {v : Value} {xs : List Value} (hA : NetAt w base g N L V cut rank next) (hO : w.ownsRow base 35 3 v m xs) : NetIn (Beside base v) g V := by
  have key : ∀ {e : TypeId} {size m : Nat} {u : Value} {xs : List Value}, w.ownsRow base e size u m xs → e ≠ 35 → ∀ q, u.ownBlock = some q → Beside base v q := fun hu hne q hq => ⟨own_base hu q hq, own_apart2 hu hO hne q hq⟩
  refine ⟨⟨hA.gb, own_apart hO hA.head (by decide)⟩, key hA.out (by decide), key hA.arcs (by decide), key hA.most (by decide), key hA.cut_ (by decide), key hA.rank_ (by decide), key hA.next_ (by decide), fun a q hq => ?_⟩
  by_cases ha : a < N.n
  · exact key (hA.inn a ha) (by decide) q hq
  · have hl := hA.out.1
    rw [List.getD_eq_getElem?_getD, List.getElem?_eq_none (by omega)] at hq
    cases hq
theorem up_out {w : World} {base m : Nat} {v : Value} {xs : List Value} (hb : base ≤ w.heap.size) (hO : w.ownsRow base 35 3 v m xs) : ∀ q, w.heap.size ≤ q → Beside base v q := fun q hq => ⟨Nat.le_trans hb hq, fun h => by have := own_lt hO q h; omega⟩
theorem kept_out {w w' : World} {base m : Nat} {v : Value} {xs : List Value} (h : Kept (Beside base v) w w') (hO : w.ownsRow base 35 3 v m xs) : w'.ownsRow base 35 3 v m xs := own_move hO fun q hq => h.block q fun h => h.2 hq
theorem kept_low {w w' : World} {base : Nat} {v : Value} (h : Kept (Beside base v) w w') : Below base w w' := ⟨h.os, h.tape, h.output, h.size, fun k hk => h.block k fun h => by have := h.1; omega⟩
theorem twoE_zero {n : Nat} {f t : Int} (h : twoE n f t = 0) : (0 ≤ f ∧ f < (n : Int)) ∧ (0 ≤ t ∧ t < (n : Int)) ∧ f ≠ t := by
  unfold twoE at h
  by_cases c1 : (f < 0 ∨ f ≥ (n : Int)) ∨ (t < 0 ∨ t ≥ (n : Int))
  · rw [if_pos c1] at h; simp at h
  · rw [if_neg c1] at h
    by_cases c2 : f = t
    · rw [if_pos c2] at h; simp at h
    · omega
set_option maxRecDepth 100000 in
set_option maxHeartbeats 1000000 in
theorem fcut_no (n : Int) (A : Option Addr) (len cap : Nat) (f t : Int) (w : World) (h : n < 1 ∨ 60 < n) :
    Calls Try.prog 3 #[.int .i64 n, .slice A len cap, .int .i64 f, .int .i64 t] w fun e w' => e = .returned (.bool true) ∧ Below w.heap.size w w' := by
  have H := Aside0.mk h
  clear h
  go_enter Try.func3, Try.ntmps3
  go_wp2_with fail
  refine (made_no n A len cap w H.out).mono ?_
  rintro e w1 ⟨rfl, hw⟩
  have hw' := hw.symm
  subst hw'
  clear hw
  go_wp2_with fail
  refine (heads_calls _).mono ?_
  rintro e w2 ⟨rfl, hb⟩
  have HB2 := Aside0.mk hb
  clear hb
  go_wp2
  go_ret
  exact ⟨rfl, HB2.out⟩
set_option maxRecDepth 100000 in
set_option maxHeartbeats 1000000 in
theorem fcut_many (n : Nat) (h1 : 1 ≤ n) (h2 : n ≤ 60) (A : Option Addr) (cap : Nat) (l : List E3) (f t : Int) (w : World) (hl : l.length ≤ 9223372036854775807) (h80 : 80 < l.length) (hE : EdgesIn w A l) :
    Calls Try.prog 3 #[.int .i64 n, .slice A l.length cap, .int .i64 f, .int .i64 t] w fun e w' => e = .returned (.bool true) ∧ Below w.heap.size w w' := by
  have HE := Aside0.mk hE
  have HL := Aside0.mk hl
  have d0 : decide ((l.length : Int) > 80) = true := decide_eq_true (by omega)
  clear hE hl
  go_enter Try.func3, Try.ntmps3
  go_wp2_with fail
  refine (made_yes n h1 h2 A cap l w HL.out HE.out).mono ?_
  rintro e w1 ⟨g, V, v, rfl, hA, hO, hB⟩
  have HB1 := Aside0.mk hB
  clear hA hO hB
  go_wp2_with fail
  refine (heads_calls _).mono ?_
  rintro e w2 ⟨rfl, hb⟩
  have HB2 := Aside0.mk (below_then HB1.out HB1.out.size hb)
  clear hb
  go_wp2
  go_ret
  exact ⟨rfl, HB2.out⟩
set_option maxRecDepth 100000 in
set_option maxHeartbeats 1000000 in
theorem fcut_ends (n : Nat) (h1 : 1 ≤ n) (h2 : n ≤ 60) (A : Option Addr) (cap : Nat) (l : List E3) (f t : Int) (w : World) (hl : l.length ≤ 80) (hE : EdgesIn w A l) (hft : twoE n f t ≠ 0) :
    Calls Try.prog 3 #[.int .i64 n, .slice A l.length cap, .int .i64 f, .int .i64 t] w fun e w' => e = .returned (.bool true) ∧ Below w.heap.size w w' := by
  have HE := Aside0.mk hE
  have d0 : decide ((l.length : Int) > 80) = false := decide_eq_false (by omega)
  have HC := Aside0.mk (came_made h1 (by omega) l)
  have hft2 : twoE (madeOf n l).1.n f t ≠ 0 := by rw [HC.out.nn]; exact hft
  obtain ⟨ee, hee⟩ : ∃ ee, twoE (madeOf n l).1.n f t = ee := ⟨_, rfl⟩
  have HF := Aside0.mk hft2
  have hne : (ee == 0) = false := by simp; rw [← hee]; exact hft2
  have HEE := Aside0.mk hee
  clear hE hft hft2 hee
  go_enter Try.func3, Try.ntmps3
  go_wp2_with fail
  refine (made_yes n h1 h2 A cap l w (by omega) HE.out).mono ?_
  rintro e w1 ⟨g, V, v, rfl, hA, hO, hB⟩
  obtain ⟨Av, cv, rfl⟩ := own_slice hO
  have HA1 := Aside0.mk hA
  have HB1 := Aside0.mk hB
  clear hA hO hB
  go_wp2_with fail
  refine (run_no HC.out.ok HA1.out f t HF.out).mono ?_
  rintro e wq ⟨rfl, hw⟩
  have hw' := hw.symm
  subst hw'
  clear hw
  rw [HEE.out]
  go_wp2_with fail
  refine (heads_calls _).mono ?_
  rintro e w2 ⟨rfl, hb⟩
  have HB2 := Aside0.mk (below_then HB1.out HB1.out.size hb)
  clear hb
  go_wp2
  go_ret
  exact ⟨rfl, HB2.out⟩
set_option maxRecDepth 100000 in
set_option maxHeartbeats 4000000 in
theorem fcut_yes (n : Nat) (h1 : 1 ≤ n) (h2 : n ≤ 60) (A : Option Addr) (cap : Nat) (l : List E3) (f t : Nat) (w : World) (hl : l.length ≤ 80) (hE : EdgesIn w A l) (hf : f < n) (ht : t < n) (hft : f ≠ t) :
    Calls Try.prog 3 #[.int .i64 n, .slice A l.length cap, .int .i64 f, .int .i64 t] w fun e w' => e = .returned (.bool true) ∧ Below w.heap.size w w' := by
  have HE := Aside0.mk hE
  have d0 : decide ((l.length : Int) > 80) = false := decide_eq_false (by omega)
  obtain ⟨N, hN⟩ : ∃ N, (madeOf n l).1 = N := ⟨_, rfl⟩
  obtain ⟨out, hout⟩ : ∃ o, (madeOf n l).2 = o := ⟨_, rfl⟩
  have hcame := came_made h1 (by omega) l
  rw [hN, hout] at hcame
  have HC := Aside0.mk hcame
  have HNM := Aside0.mk (And.intro hN hout)
  have hNn := hcame.nn
  have HNN := Aside0.mk hNn
  obtain ⟨kf, L, rk, sum, hr, hfl, hrk, hneg⟩ := run_all hcame.ok (f := f) (t := t) (by omega) (by omega) hft
  have HR := Aside0.mk hr
  have HFL := Aside0.mk hfl
  have HRK := Aside0.mk (ranked_cut hcame.ok (by omega) hfl hrk hneg)
  have hNf : f < N.n := by omega
  have hNt : t < N.n := by omega
  have HFN := Aside0.mk (And.intro hNf hNt)
  clear hE hN hout hcame hr hfl hrk hneg hNn hNf hNt
  go_enter Try.func3, Try.ntmps3
  go_wp2_with fail
  refine (made_yes n h1 h2 A cap l w (by omega) HE.out).mono ?_
  rintro e w1 ⟨g, V, v, rfl, hA, hO, hB⟩
  rw [HNM.out.1] at hA
  rw [HNM.out.2] at hO
  obtain ⟨Av, cv, rfl⟩ := own_slice hO
  have HA1 := Aside0.mk hA
  have HB1 := Aside0.mk hB
  have HO1 := Aside0.mk hO
  clear hA hO hB HNM
  go_wp2_with fail
  refine (run_calls HC.out.ok HFN.out.1 HFN.out.2 hft HR.out HA1.out (in_out HA1.out HO1.out) (up_out HA1.out.size HO1.out)).mono ?_
  rintro e w2 ⟨V2, rank2, next2, rfl, hA2, hI2, hK2⟩
  have HA2 := Aside0.mk hA2
  have HO2 := Aside0.mk (kept_out hK2 HO1.out)
  have HB2 := Aside0.mk (HB1.out.trans (kept_low hK2))
  clear hA2 hI2 hK2 HA1 HO1 HB1
  go_wp2_with fail
  have hcl : (cutL N rk).length = n := by unfold cutL; rw [rowB_len, HNN.out]
  refine (cut_calls HA2.out (by rw [hcl]; omega)).mono ?_
  rintro e w3 ⟨vc, rfl, ho3, hb3⟩
  have HA3 := Aside0.mk (HA2.out.below hb3)
  have HO3 := Aside0.mk (own_move HO2.out fun q hq => hb3.block q (own_lt HO2.out q hq))
  have HB3 := Aside0.mk (below_then HB2.out HB2.out.size hb3)
  rw [hcl] at ho3
  obtain ⟨gc, cc, hvc, _⟩ := own_form ho3 (by omega)
  subst hvc
  have HCT := Aside0.mk ho3
  clear ho3 hb3 HA2 HO2 HB2
  go_wp2_with fail
  have hn0 : ¬ n = 0 := by omega
  have hf0 : ¬ (f : Int) < 0 := by omega
  have ht0 : ¬ (t : Int) < 0 := by omega
  have hrf : (f : Int).tmod (n : Int) = (f : Int) := Int.tmod_eq_of_lt (by omega) (by omega)
  have hrt : (t : Int).tmod (n : Int) = (t : Int) := Int.tmod_eq_of_lt (by omega) (by omega)
  refine start_ (n := 17) (S := (fun w' => w' = w3.drew)) (ds := [11]) #[false, false, false, false, false, false, false, false, false, false, false, false, false, false, false, false, false] (by kernel_rfl) rfl rfl (rfl) (fun hHeld => ?_)
  refine pure_ (i := 0) (N := some 49) (v := ?_) (a' := ?_) #[true, false, false, false, false, false, false, false, false, false, false, false, false, false, false, false, false] rfl rfl (by kernel_rfl) (fun _ _ _ h => h) (Or.inl ⟨by rfl, ?_⟩) ?_ ?_
  rotate_left
  · intro w'
    go_simp
    with_reducible rfl
  rotate_left
  · simp only [Act.put, List.setIfInBounds_toArray, List.set_cons_zero, List.set_cons_succ, i64_w, i32_w]
    rfl
  refine pure_ (i := 1) (N := some 50) (v := ?_) (a' := ?_) #[true, true, false, false, false, false, false, false, false, false, false, false, false, false, false, false, false] rfl rfl (by kernel_rfl) (fun _ _ _ h => h) (Or.inl ⟨by rfl, ?_⟩) ?_ ?_
  rotate_left
  · intro w'
    go_simp
    with_reducible rfl
  rotate_left
  · simp only [Act.put, List.setIfInBounds_toArray, List.set_cons_zero, List.set_cons_succ, i64_w, i32_w]
    rfl
  refine pure_ (i := 2) (N := some 51) (v := ?_) (a' := ?_) #[true, true, true, false, false, false, false, false, false, false, false, false, false, false, false, false, false] rfl rfl (by kernel_rfl) (fun _ _ _ h => h) (Or.inl ⟨by rfl, ?_⟩) ?_ ?_
  rotate_left
  · intro w'
    go_simp
    with_reducible rfl
  rotate_left
  · simp only [Act.put, List.setIfInBounds_toArray, List.set_cons_zero, List.set_cons_succ, i64_w, i32_w]
    rfl
  refine pure_ (i := 3) (N := some 52) (v := ?_) (a' := ?_) #[true, true, true, true, false, false, false, false, false, false, false, false, false, false, false, false, false] rfl rfl (by kernel_rfl) (fun _ _ _ h => h) (Or.inl ⟨by rfl, ?_⟩) ?_ ?_
  rotate_left
  · intro w'
    go_simp
    with_reducible rfl
  rotate_left
  · simp only [Act.put, List.setIfInBounds_toArray, List.set_cons_zero, List.set_cons_succ, i64_w, i32_w]
    rfl
  refine pure_ (i := 4) (N := some 53) (v := ?_) (a' := ?_) #[true, true, true, true, true, false, false, false, false, false, false, false, false, false, false, false, false] rfl rfl (by kernel_rfl) (fun _ _ _ h => h) (Or.inl ⟨by rfl, ?_⟩) ?_ ?_
  rotate_left
  · intro w'
    go_simp
    with_reducible rfl
  rotate_left
  · simp only [Act.put, List.setIfInBounds_toArray, List.set_cons_zero, List.set_cons_succ, i64_w, i32_w]
    rfl
  refine pure_ (i := 5) (N := some 54) (v := ?_) (a' := ?_) #[true, true, true, true, true, true, false, false, false, false, false, false, false, false, false, false, false] rfl rfl (by kernel_rfl) (fun _ _ _ h => h) (Or.inl ⟨by rfl, ?_⟩) ?_ ?_
  rotate_left
  · intro w'
    go_simp
    with_reducible rfl
  rotate_left
  · simp only [Act.put, List.setIfInBounds_toArray, List.set_cons_zero, List.set_cons_succ, i64_w, i32_w]
    rfl
  refine pure_ (i := 6) (N := some 55) (v := ?_) (a' := ?_) #[true, true, true, true, true, true, true, false, false, false, false, false, false, false, false, false, false] rfl rfl (by kernel_rfl) (fun _ _ _ h => h) (Or.inl ⟨by rfl, ?_⟩) ?_ ?_
  rotate_left
  · intro w'
    go_simp
    with_reducible rfl
  rotate_left
  · simp only [Act.put, List.setIfInBounds_toArray, List.set_cons_zero, List.set_cons_succ, i64_w, i32_w]
    rfl
  refine pure_ (i := 7) (N := some 56) (v := ?_) (a' := ?_) #[true, true, true, true, true, true, true, true, false, false, false, false, false, false, false, false, false] rfl rfl (by kernel_rfl) (fun _ _ _ h => h) (Or.inl ⟨by rfl, ?_⟩) ?_ ?_
  rotate_left
  · intro w'
    go_simp
    with_reducible rfl
  rotate_left
  · simp only [Act.put, List.setIfInBounds_toArray, List.set_cons_zero, List.set_cons_succ, i64_w, i32_w]
    rfl
  refine pure_ (i := 8) (N := some 57) (v := ?_) (a' := ?_) #[true, true, true, true, true, true, true, true, true, false, false, false, false, false, false, false, false] rfl rfl (by kernel_rfl) (fun _ _ _ h => h) (Or.inl ⟨by rfl, ?_⟩) ?_ ?_
  rotate_left
  · intro w'
    go_simp
    with_reducible rfl
  rotate_left
  · simp only [Act.put, List.setIfInBounds_toArray, List.set_cons_zero, List.set_cons_succ, i64_w, i32_w]
    rfl
  refine pure_ (i := 9) (N := some 58) (v := ?_) (a' := ?_) #[true, true, true, true, true, true, true, true, true, true, false, false, false, false, false, false, false] rfl rfl (by kernel_rfl) (fun _ _ _ h => h) (Or.inl ⟨by rfl, ?_⟩) ?_ ?_
  rotate_left
  · intro w'
    go_simp
    with_reducible rfl
  rotate_left
  · simp only [Act.put, List.setIfInBounds_toArray, List.set_cons_zero, List.set_cons_succ, i64_w, i32_w]
    rfl
  refine pure_ (i := 10) (N := some 59) (v := ?_) (a' := ?_) #[true, true, true, true, true, true, true, true, true, true, true, false, false, false, false, false, false] rfl rfl (by kernel_rfl) (fun _ _ _ h => h) (Or.inl ⟨by rfl, ?_⟩) ?_ ?_
  rotate_left
  · intro w'
    go_simp
    with_reducible rfl
  rotate_left
  · simp only [Act.put, List.setIfInBounds_toArray, List.set_cons_zero, List.set_cons_succ, i64_w, i32_w]
    rfl
  refine last_ (i := 11) (N := some 60) #[true, true, true, true, true, true, true, true, true, true, true, true, false, false, false, false, false] rfl rfl (by kernel_rfl) (by decide) (fun K hK => ?_)
  refine goes_ Try.func13 (by kernel_rfl) rfl #[.pointer (some ⟨g, 0, none⟩), .int .i64 n, .slice Av out.length cv, .int .i64 f, .int .i64 t] (by rfl) rfl rfl (by simp only [List.map_toArray, List.map_cons, List.map_nil]; rfl) ?_
  have hl3 := legal_calls HC.out.ok HFN.out.1 HFN.out.2 HFL.out HC.out HA3.out.drew (c := cv) ((own_edges HO3.out).2.below (below_drew (Below.refl _ _)))
  rw [HNN.out] at hl3
  refine hl3.mono ?_
  rintro e w4 ⟨rfl, hb4⟩
  have HB4 := Aside0.mk hb4
  clear hb4 hl3
  refine ⟨_, rfl, ?_⟩
  refine hK.out _ _ ?_
  clear hK K
  refine pure_ (i := 12) (N := some 48) (v := ?_) (a' := ?_) #[true, true, true, true, true, true, true, true, true, true, true, true, true, false, false, false, false] rfl rfl (by kernel_rfl) (fun _ _ _ h => h) (Or.inl ⟨by rfl, ?_⟩) ?_ ?_
  rotate_left
  · intro w'
    go_simp
    with_reducible rfl
  rotate_left
  · simp only [Act.put, List.setIfInBounds_toArray, List.set_cons_zero, List.set_cons_succ, i64_w, i32_w]
    rfl
  refine pure_ (i := 13) (N := some 61) (v := ?_) (a' := ?_) #[true, true, true, true, true, true, true, true, true, true, true, true, true, true, false, false, false] rfl rfl (by kernel_rfl) (fun _ _ _ h => h) (Or.inl ⟨by rfl, ?_⟩) ?_ ?_
  rotate_left
  · intro w'
    go_simp
    with_reducible rfl
  rotate_left
  · simp only [Act.put, List.setIfInBounds_toArray, List.set_cons_zero, List.set_cons_succ, i64_w, i32_w]
    rfl
  refine pure_ (i := 14) (N := some 62) (v := ?_) (a' := ?_) #[true, true, true, true, true, true, true, true, true, true, true, true, true, true, true, false, false] rfl rfl (by kernel_rfl) (fun _ _ _ h => h) (Or.inl ⟨by rfl, ?_⟩) ?_ ?_
  rotate_left
  · intro w'
    go_simp
    with_reducible rfl
  rotate_left
  · simp only [Act.put, List.setIfInBounds_toArray, List.set_cons_zero, List.set_cons_succ, i64_w, i32_w]
    rfl
  refine pure_ (i := 15) (N := some 14) (v := ?_) (a' := ?_) #[true, true, true, true, true, true, true, true, true, true, true, true, true, true, true, true, false] rfl rfl (by kernel_rfl) (fun _ _ _ h => h) (Or.inl ⟨by rfl, ?_⟩) ?_ ?_
  rotate_left
  · intro w'
    go_simp
    with_reducible rfl
  rotate_left
  · simp only [Act.put, List.setIfInBounds_toArray, List.set_cons_zero, List.set_cons_succ, i64_w, i32_w]
    rfl
  refine pure_ (i := 16) (N := some 15) (v := ?_) (a' := ?_) #[true, true, true, true, true, true, true, true, true, true, true, true, true, true, true, true, true] rfl rfl (by kernel_rfl) (fun _ _ _ h => h) (Or.inl ⟨by rfl, ?_⟩) ?_ ?_
  rotate_left
  · intro w'
    go_simp
    with_reducible rfl
  rotate_left
  · simp only [Act.put, List.setIfInBounds_toArray, List.set_cons_zero, List.set_cons_succ, i64_w, i32_w]
    rfl
  refine done_ (by kernel_rfl) ?_
  skip
  have HA4 := Aside0.mk (HA3.out.drew.below HB4.out)
  have HO4 := Aside0.mk (own_move HO3.out fun q hq => HB4.out.block q (own_lt HO3.out q hq))
  have hct4 : w4.ownsRow w2.heap.size 4 1 (.slice (some ⟨gc, 0, none⟩) n cc) n (encs Value.bool (cutL N rk)) := own_move HCT.out fun q hq => HB4.out.block q (own_lt HCT.out q hq)
  have hcut : ∀ a, a < n → w4.cell? ⟨gc, a, none⟩ = some (.bool (decide (rk a ≥ 0))) := fun a ha => by
    have hx := (own_cellB (xs := cutL N rk) hct4 a (by rw [hcl]; exact ha)).1
    have e : (cutL N rk).getD a false = decide (rk a ≥ 0) := by
      have : a < N.n := by rw [HNN.out]; exact ha
      simp [cutL, rowB, List.getD_eq_getElem?_getD, this]
    rwa [e] at hx
  have HCUT := Aside0.mk hcut
  have HB5 := Aside0.mk (below_then HB3.out HB3.out.size (show Below w3.heap.size w3 w4 from (below_drew (Below.refl _ _)).trans HB4.out))
  have cf := hcut f hf
  have ct := hcut t ht
  rw [HRK.out.1] at cf
  rw [HRK.out.2.1] at ct
  have df1 : decide ((f : Int) < 0) = false := decide_eq_false (by omega)
  have df2 : decide ((f : Int) ≥ (n : Int)) = false := decide_eq_false (by omega)
  have dt1 : decide ((t : Int) < 0) = false := decide_eq_false (by omega)
  have dt2 : decide ((t : Int) ≥ (n : Int)) = false := decide_eq_false (by omega)
  have df3 : decide (n ≤ f) = false := decide_eq_false (by omega)
  have dt3 : decide (n ≤ t) = false := decide_eq_false (by omega)
  have hfz : (f : Int) < (n : Int) := by omega
  have htz : (t : Int) < (n : Int) := by omega
  clear hct4 hcut hHeld HA3 HO3 HB3 HB4 HCT hrf hrt hcl hn0 hf0 ht0
  have hlen := HC.out.len
  have HLEN := Aside0.mk hlen
  have HEI := Aside0.mk (own_edges HO4.out).2
  clear hlen HO4 cf ct
  have cf := HCUT.out f hf
  have ct := HCUT.out t ht
  rw [HRK.out.1] at cf
  rw [HRK.out.2.1] at ct
  go_wp2
  clear cf ct df1 df2 dt1 dt2 hfz htz df3 dt3
  go_loopg [16, 17] out.length (fun q v i wx => ∃ k : Nat, Aside0 (k + q = out.length) ∧ i = .int .i64 k ∧ v = .int .i64 (capK N (fun v => decide (rk v ≥ 0)) k) ∧ Aside0 (wx = w4))
  case atStart => exact ⟨0, ⟨by omega⟩, rfl, rfl, ⟨rfl⟩⟩
  case round =>
    obtain ⟨k, HK, rfl, rfl, HWX⟩ := hrel
    have hwx := HWX.out
    subst hwx
    clear HWX
    by_cases hlt : k < out.length
    · have hkm : k < N.m := by rw [← HLEN.out]; exact hlt
      obtain ⟨ad, had, hx1, hx2, hx3⟩ := HEI.out k hlt
      subst had
      rw [HC.out.at_ k hkm] at hx1 hx2 hx3
      have hfa := HC.out.ok.fr k hkm
      have hta := HC.out.ok.to k hkm
      have hmo := HC.out.ok.mo k hkm
      have hb1 := capK_bound HC.out.ok (fun v => decide (rk v ≥ 0)) k (by omega)
      have hsu := capK_succ N (fun v => decide (rk v ≥ 0)) k
      have hm5 := HC.out.ok.few
      have hbw := HRK.out.2.2.2.1 k hkm
      obtain ⟨a, ha⟩ : ∃ a, N.fr k = a := ⟨_, rfl⟩
      obtain ⟨b, hb⟩ : ∃ b, N.to k = b := ⟨_, rfl⟩
      obtain ⟨m, hm⟩ : ∃ m, N.mo k = m := ⟨_, rfl⟩
      obtain ⟨s, hs⟩ : ∃ s, capK N (fun v => decide (rk v ≥ 0)) k = s := ⟨_, rfl⟩
      rw [ha] at hx1 hfa hsu hbw
      rw [hb] at hx2 hta hsu hbw
      rw [hm] at hx3 hmo hsu
      rw [hs] at hb1 hsu ⊢
      rw [HNN.out] at hfa hta
      have ca := HCUT.out a hfa
      have cb := HCUT.out b hta
      have hfz : (a : Int) < (n : Int) := by omega
      have htz : (b : Int) < (n : Int) := by omega
      have hws : wrap64 (s + m) = s + m := by unfold wrap64; omega
      have HFW : Aside0 (flowF N L (k : Int) = L (2 * k + 1)) := ⟨by unfold flowF; rw [if_neg (by omega), Int.toNat_natCast]⟩
      have hwi := wrap_succ (n := out.length) (by rw [HLEN.out]; omega) hlt
      have HSU := Aside0.mk hsu
      have HBW := Aside0.mk hbw
      clear hb1 hmo hm5 ha hb hm hs hsu hbw
      by_cases c1 : rk a ≥ 0
      · rw [decide_eq_true c1] at ca
        by_cases c2 : rk b ≥ 0
        · rw [decide_eq_true c2] at cb
          have he : capK N (fun v => decide (rk v ≥ 0)) (k + 1) = s := by rw [HSU.out, decide_eq_true c1, decide_eq_true c2]; simp
          clear c1 c2
          go_wp2
          go_roundg (gk - 1)
          case measure => exact pred_lt HK hlt
          case rel => exact ⟨k + 1, next_eq HK hlt, by first | rfl | go_num, by rw [he], ⟨rfl⟩⟩
        · rw [decide_eq_false c2] at cb
          have he : capK N (fun v => decide (rk v ≥ 0)) (k + 1) = s + m := by rw [HSU.out, decide_eq_true c1, decide_eq_false c2]; simp
          clear c1 c2
          go_wp2
          go_roundg (gk - 1)
          case measure => exact pred_lt HK hlt
          case rel => exact ⟨k + 1, next_eq HK hlt, by first | rfl | go_num, by rw [he], ⟨rfl⟩⟩
      · rw [decide_eq_false c1] at ca
        by_cases c2 : rk b ≥ 0
        · rw [decide_eq_true c2] at cb
          have he : capK N (fun v => decide (rk v ≥ 0)) (k + 1) = s := by rw [HSU.out, decide_eq_false c1]; simp
          have HFZ : Aside0 (flowF N L (k : Int) = 0) := ⟨by rw [HFW.out]; exact HBW.out c2 (by omega)⟩
          clear c1 c2
          go_wp2_with fail
          refine (flow_calls HC.out.ok HA4.out (k : Int)).mono ?_
          rintro e wq ⟨rfl, hwq⟩
          have hwq' := hwq.symm
          subst hwq'
          rw [HFZ.out]
          clear hwq
          go_wp2
          go_roundg (gk - 1)
          case measure => exact pred_lt HK hlt
          case rel => exact ⟨k + 1, next_eq HK hlt, by first | rfl | go_num, by rw [he], ⟨rfl⟩⟩
        · rw [decide_eq_false c2] at cb
          have he : capK N (fun v => decide (rk v ≥ 0)) (k + 1) = s := by rw [HSU.out, decide_eq_false c1]; simp
          clear c1 c2
          go_wp2
          go_roundg (gk - 1)
          case measure => exact pred_lt HK hlt
          case rel => exact ⟨k + 1, next_eq HK hlt, by first | rfl | go_num, by rw [he], ⟨rfl⟩⟩
    · have hk : k = N.m := by rw [← HLEN.out]; have := HK.out; omega
      have he : capK N (fun v => decide (rk v ≥ 0)) k = sum := by rw [hk]; exact HRK.out.2.2.2.2.symm
      rw [he]
      obtain rfl : k = out.length := by have := HK.out; omega
      clear hk he HK hlt
      go_wp2_with fail
      refine (heads_calls _).mono ?_
      rintro e w5 ⟨rfl, hb5⟩
      have HB6 := Aside0.mk (below_then HB5.out HB5.out.size hb5)
      clear hb5
      go_wp2
      go_ret
      exact ⟨rfl, HB6.out⟩
/-- The walk for every input. -/
theorem fcut_walk (a0 : Int) (a1 : Option Addr) (len1 cap1 : Nat) (z1 : List E3) (a2 a3 : Int) (w : World) (w0 : (Lit.int .i64 a0).wf = true) (w1 : z1.length = len1 ∧ len1 ≤ 9223372036854775807 ∧ EdgesIn w a1 z1) (w2 : (Lit.int .i64 a2).wf = true) (w3 : (Lit.int .i64 a3).wf = true) :
    Calls Try.prog 3 #[.int .i64 a0, .slice a1 len1 cap1, .int .i64 a2, .int .i64 a3] w fun e w' => e = .returned (.bool true) ∧ Below w.heap.size w w' := by
  obtain ⟨rfl, hlen, hE⟩ := w1
  by_cases h : a0 < 1 ∨ 60 < a0
  · exact fcut_no a0 a1 _ cap1 a2 a3 w h
  · obtain ⟨n, rfl⟩ := Int.eq_ofNat_of_zero_le (show 0 ≤ a0 by omega)
    by_cases h80 : 80 < z1.length
    · exact fcut_many n (by omega) (by omega) a1 cap1 z1 a2 a3 w hlen h80 hE
    · by_cases hz : twoE n a2 a3 = 0
      · obtain ⟨⟨h1, h2⟩, ⟨h3, h4⟩, h5⟩ := twoE_zero hz
        obtain ⟨f, rfl⟩ := Int.eq_ofNat_of_zero_le h1
        obtain ⟨t, rfl⟩ := Int.eq_ofNat_of_zero_le h3
        exact fcut_yes n (by omega) (by omega) a1 cap1 z1 f t w (by omega) hE (by omega) (by omega) (by omega)
      · exact fcut_ends n (by omega) (by omega) a1 cap1 z1 a2 a3 w (by omega) hE hz
end Go.Proofs.Ytffghdbhjjfnlaa.F
end
