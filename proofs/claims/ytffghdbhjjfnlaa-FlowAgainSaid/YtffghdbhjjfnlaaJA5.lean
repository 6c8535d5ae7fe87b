/-
  Put together by slim.py of this session out of the session's own texts (YtffghdbhjjfnlaaLawFlowAgain and what it reaches): declarations that nothing kept names are left out. Conditions: none beyond those of the law's row.
-/
import Derived.Test.YtffghdbhjjfnlaaJA4
import Derived.Test.YtffghdbhjjfnlaaJA1
import Derived.Test.YtffghdbhjjfnlaaJA3
import Derived.Test.YtffghdbhjjfnlaaJA2
import Derived.Test.YtffghdbhjjfnlaaJA0
section
/-
  The laws' helper: made.
-/
namespace Go.Proofs.Ytffghdbhjjfnlaa.F
open Go.RowKit Go.Proofs.YtffghdbhjjfnlaaW.PrintWords Go.Proofs.YtffghdbhjjfnlaaW.PrintLast Go.Proofs.YtffghdbhjjfnlaaW.PrintMore
set_option linter.unusedVariables false
set_option linter.unusedSimpArgs false
/-! ### edges as they are given -/
abbrev E3 := Int × Int × Int
def eAt (l : List E3) (i : Nat) : E3 := l.getD i (0, 0, 0)
def EdgesIn (w : World) (A : Option Addr) (l : List E3) : Prop := ∀ i, i < l.length → ∃ ad, A = some ad ∧ w.cell? (ad.add (i * 3)) = some (.int .i64 (eAt l i).1) ∧ w.cell? ⟨(ad.add (i * 3)).block, (ad.add (i * 3)).off + 1, none⟩ = some (.int .i64 (eAt l i).2.1) ∧ w.cell? ⟨(ad.add (i * 3)).block, (ad.add (i * 3)).off + 2, none⟩ = some (.int .i64 (eAt l i).2.2)
theorem cell_kept {w w' : World} {a : Addr} {v : Value} (h : w.cell? a = some v) (hb : w'.heap[a.block]? = w.heap[a.block]?) : w'.cell? a = some v := by
  unfold World.cell? at h ⊢
  rw [hb]; exact h
theorem cell_in {w : World} {a : Addr} {v : Value} (h : w.cell? a = some v) : a.block < w.heap.size := by
  unfold World.cell? at h
  rcases Nat.lt_or_ge a.block w.heap.size with c | c
  · exact c
  · rw [Array.getElem?_eq_none c] at h; cases h
theorem EdgesIn.kept {w w' : World} {A : Option Addr} {l : List E3} (h : EdgesIn w A l) (hb : ∀ k, k < w.heap.size → (∀ ad, A = some ad → k = ad.block → w'.heap[k]? = w.heap[k]?)) : EdgesIn w' A l := fun i hi => by
  obtain ⟨ad, rfl, h1, h2, h3⟩ := h i hi
  have hl := cell_in h1
  have e : (ad.add (i * 3)).block = ad.block := by unfold Addr.add; split <;> rfl
  have hk := hb _ hl ad rfl e
  exact ⟨ad, rfl, cell_kept h1 hk, cell_kept h2 hk, cell_kept h3 hk⟩
theorem EdgesIn.below {w w' : World} {A : Option Addr} {l : List E3} (h : EdgesIn w A l) (hb : Below w.heap.size w w') : EdgesIn w' A l := h.kept fun k hk _ _ _ => hb.block k hk
/-- The cells of a row of edges. -/
def eCells (l : List E3) : List Value := l.flatMap fun e => [.int .i64 e.1, .int .i64 e.2.1, .int .i64 e.2.2]
theorem eCells_app (l : List E3) (e : E3) : eCells (l ++ [e]) = eCells l ++ [.int .i64 e.1, .int .i64 e.2.1, .int .i64 e.2.2] := by simp [eCells]
/-! ### the net of some edges -/
def accN (N : Net) (e : E3) : Net := if edgeE N e.1 e.2.1 e.2.2 = 0 then N.add e.1.toNat e.2.1.toNat e.2.2 else N
def acc (x : Net × List E3) (e : E3) : Net × List E3 := (accN x.1 e, if edgeE x.1 e.1 e.2.1 e.2.2 = 0 then x.2 ++ [e] else x.2)
def madeOf (n : Nat) (l : List E3) : Net × List E3 := l.foldl acc (Net.none n, [])
def edgeA (N : Net) (e : E3) : Int := if edgeE N e.1 e.2.1 e.2.2 = 0 then N.m else 0
theorem edge_zero {N : Net} {f t c : Int} (h : edgeE N f t c = 0) : (0 ≤ f ∧ f < (N.n : Int)) ∧ (0 ≤ t ∧ t < (N.n : Int)) ∧ f ≠ t ∧ 0 ≤ c ∧ c ≤ 1000000 ∧ N.m < 5000 := by
  unfold edgeE twoE at h
  by_cases c1 : (f < 0 ∨ f ≥ (N.n : Int)) ∨ (t < 0 ∨ t ≥ (N.n : Int))
  · rw [if_pos c1] at h; simp at h
  · rw [if_neg c1] at h
    by_cases c2 : f = t
    · rw [if_pos c2] at h; simp at h
    · rw [if_neg c2] at h
      simp only [ne_eq, not_true_eq_false, if_false] at h
      by_cases c3 : c < 0 ∨ c > 1000000
      · rw [if_pos c3] at h; simp at h
      · rw [if_neg c3] at h
        by_cases c4 : N.m ≥ 5000
        · rw [if_pos c4] at h; simp at h
        · omega
theorem accN_n (N : Net) (e : E3) : (accN N e).n = N.n := by unfold accN; split <;> rfl
theorem accN_ok {N : Net} (h : N.Ok) (e : E3) : (accN N e).Ok := by
  unfold accN
  by_cases c : edgeE N e.1 e.2.1 e.2.2 = 0
  · rw [if_pos c]
    have := edge_zero c
    exact add_ok h (by omega) (by omega) (by omega) this.2.2.2.1 this.2.2.2.2.1 this.2.2.2.2.2
  · rw [if_neg c]; exact h
/-- What came in lies as the net says. -/
structure Came (n : Nat) (N : Net) (out : List E3) : Prop where
  ok : N.Ok
  nn : N.n = n
  len : out.length = N.m
  at_ : ∀ e, e < N.m → eAt out e = ((N.fr e : Int), (N.to e : Int), N.mo e)
theorem came_acc {n : Nat} {N : Net} {out : List E3} (h : Came n N out) (e : E3) : Came n (acc (N, out) e).1 (acc (N, out) e).2 := by
  unfold acc
  refine ⟨accN_ok h.ok e, (accN_n N e).trans h.nn, ?_, fun q hq => ?_⟩
  · unfold accN
    by_cases c : edgeE N e.1 e.2.1 e.2.2 = 0
    · simp only [if_pos c]; simp [Net.add, h.len]
    · simp only [if_neg c]; exact h.len
  · by_cases c : edgeE N e.1 e.2.1 e.2.2 = 0
    · simp only [accN, if_pos c] at hq ⊢
      have hz := edge_zero c
      replace hq : q < N.m + 1 := hq
      show eAt (out ++ [e]) q = (((if q = N.m then e.1.toNat else N.fr q : Nat) : Int), ((if q = N.m then e.2.1.toNat else N.to q : Nat) : Int), if q = N.m then e.2.2 else N.mo q)
      by_cases cq : q = N.m
      · rw [if_pos cq, if_pos cq, if_pos cq]
        have : eAt (out ++ [e]) q = e := by unfold eAt; rw [cq, ← h.len]; simp [List.getD_eq_getElem?_getD]
        rw [this]
        obtain ⟨a, b, d⟩ := e
        simp only at hz ⊢
        rw [Int.toNat_of_nonneg hz.1.1, Int.toNat_of_nonneg hz.2.1.1]
      · rw [if_neg cq, if_neg cq, if_neg cq, ← h.at_ q (by omega)]
        unfold eAt
        have hl := h.len
        simp only [List.getD_eq_getElem?_getD]
        rw [List.getElem?_append_left (by omega)]
    · simp only [accN, if_neg c] at hq ⊢
      exact h.at_ q hq
theorem came_fold {n : Nat} : ∀ (l : List E3) (x : Net × List E3), Came n x.1 x.2 → Came n (l.foldl acc x).1 (l.foldl acc x).2
  | [], x, h => h
  | e :: l, x, h => came_fold l (acc x e) (came_acc h e)
theorem came_made {n : Nat} (h1 : 1 ≤ n) (h2 : n ≤ 1000) (l : List E3) : Came n (madeOf n l).1 (madeOf n l).2 :=
  came_fold l _ ⟨none_ok h1 h2, rfl, rfl, fun e he => absurd he (Nat.not_lt_zero e)⟩
theorem made_take {n : Nat} {l : List E3} {k : Nat} (h : k < l.length) : madeOf n (l.take (k + 1)) = acc (madeOf n (l.take k)) (eAt l k) := by
  unfold madeOf
  rw [List.take_succ_eq_append_getElem h, List.foldl_append]
  have : eAt l k = l[k] := by unfold eAt; rw [List.getD_eq_getElem?_getD, List.getElem?_eq_getElem h]; rfl
  rw [this]; rfl
/-- An edge: put in, or not. -/
theorem edge_calls {N : Net} (hN : N.Ok) {w : World} {base g : Nat} {V : Vs} {rank next : List Int} (hA : NetAt w base g N (L0 N) V [] rank next) (e : E3) {S : Nat → Prop} (hI : NetIn S g V) (hU : ∀ k, w.heap.size ≤ k → S k) :
    Calls Try.prog 18 #[.pointer (some ⟨g, 0, none⟩), .int .i64 e.1, .int .i64 e.2.1, .int .i64 e.2.2] w fun r w' => ∃ V', r = .returned (.tuple #[.int .i64 (edgeA N e), .int .i64 (edgeE N e.1 e.2.1 e.2.2)]) ∧ NetAt w' base g (accN N e) (L0 (accN N e)) V' [] rank next ∧ NetIn S g V' ∧ Kept S w w' := by
  by_cases c : edgeE N e.1 e.2.1 e.2.2 = 0
  · obtain ⟨a, b, d⟩ := e
    simp only at c ⊢
    have hz := edge_zero c
    obtain ⟨f, rfl⟩ := Int.eq_ofNat_of_zero_le hz.1.1
    obtain ⟨t, rfl⟩ := Int.eq_ofNat_of_zero_le hz.2.1.1
    refine (edge_yes hN hA (f := f) (t := t) (c := d) (by omega) (by omega) (by omega) hz.2.2.2.1 hz.2.2.2.2.1 hz.2.2.2.2.2 hI hU).mono ?_
    rintro r w' ⟨V', rfl, h1, h2, h3⟩
    have ea : accN N ((f : Int), (t : Int), d) = N.add f t d := by unfold accN; rw [if_pos c]; simp
    refine ⟨V', by unfold edgeA; rw [if_pos c, c], ?_, h2, h3⟩
    rw [ea]
    refine h1.sameL fun k hk => ?_
    replace hk : k < 2 * (N.m + 1) := hk
    show (if k = 2 * N.m then d else if k = 2 * N.m + 1 then 0 else L0 N k) = (if k % 2 = 0 then (if k / 2 = N.m then d else N.mo (k / 2)) else 0)
    by_cases c1 : k = 2 * N.m
    · rw [if_pos c1, if_pos (by omega), if_pos (by omega)]
    · rw [if_neg c1]
      by_cases c2 : k = 2 * N.m + 1
      · rw [if_pos c2, if_neg (by omega)]
      · rw [if_neg c2]
        unfold L0
        by_cases c3 : k % 2 = 0
        · rw [if_pos c3, if_pos c3, if_neg (by omega)]
        · rw [if_neg c3, if_neg c3]
  · refine (edge_no hN hA e.1 e.2.1 e.2.2 c).mono ?_
    rintro r w' ⟨rfl, rfl⟩
    have ea : accN N e = N := by unfold accN; rw [if_neg c]
    rw [ea]
    exact ⟨V, by unfold edgeA; rw [if_neg c], hA, hI, Kept.refl _ _⟩
theorem info35 : (Try.prog.info? 35).map (fun i => (i.zero, i.size, i.bytes)) = some (some (.agg #[.int .i64 0, .int .i64 0, .int .i64 0]), 3, 24) := by kernel_rfl
set_option maxRecDepth 100000 in
theorem made_no (n : Int) (A : Option Addr) (len cap : Nat) (w : World) (h : n < 1 ∨ 60 < n) :
    Calls Try.prog 9 #[.int .i64 n, .slice A len cap] w fun e w' => e = .returned (.tuple #[.pointer none, .slice none 0 0]) ∧ w' = w := by
  by_cases h1 : n < 1
  · have d1 : decide (n < 1) = true := decide_eq_true h1
    clear h h1
    go_enter Try.func9, Try.ntmps9
    go_wp2
    go_ret2
    exact ⟨rfl, rfl⟩
  · have d1 : decide (n < 1) = false := decide_eq_false h1
    have d3 : decide (n > 60) = true := decide_eq_true (by omega)
    clear h h1
    go_enter Try.func9, Try.ntmps9
    go_wp2
    go_ret2
    exact ⟨rfl, rfl⟩
set_option maxRecDepth 100000 in
set_option maxHeartbeats 4000000 in
theorem made_yes (n : Nat) (h1 : 1 ≤ n) (h2 : n ≤ 60) (A : Option Addr) (cap : Nat) (l : List E3) (w : World) (hl : l.length ≤ 9223372036854775807) (hE : EdgesIn w A l) :
    Calls Try.prog 9 #[.int .i64 n, .slice A l.length cap] w fun e w' => ∃ g V v, e = .returned (.tuple #[.pointer (some ⟨g, 0, none⟩), v]) ∧ NetAt w' w.heap.size g (madeOf n l).1 (L0 (madeOf n l).1) V [] [] [] ∧ w'.ownsRow w.heap.size 35 3 v (madeOf n l).2.length (eCells (madeOf n l).2) ∧ Below w.heap.size w w' := by
  have HE := Aside0.mk hE
  have d1 : decide ((n : Int) < 1) = false := decide_eq_false (by omega)
  have d2 : decide ((n : Int) > 60) = false := decide_eq_false (by omega)
  obtain ⟨base, hbase⟩ : ∃ b, w.heap.size = b := ⟨_, rfl⟩
  have HBS := Aside0.mk hbase
  simp only [hbase]
  clear hE
  go_enter Try.func9, Try.ntmps9
  go_wp2_with fail
  refine (new_yes n h1 (by omega) (L0 (Net.none n)) w).mono ?_
  rintro e w1 ⟨g, V0, rfl, hA1, hB1⟩
  rw [hbase] at hA1 hB1
  have HA1 := Aside0.mk hA1
  have HB1 := Aside0.mk hB1
  clear hA1 hB1 hbase
  go_wp2
  go_loopg [7, 8] l.length (fun q v i wr => ∃ (k : Nat) (V : Vs), Aside0 (k + q = l.length) ∧ i = .int .i64 k ∧ Aside0 (NetAt wr base g (madeOf n (l.take k)).1 (L0 (madeOf n (l.take k)).1) V [] [] []) ∧ Aside0 (wr.ownsRow base 35 3 v (madeOf n (l.take k)).2.length (eCells (madeOf n (l.take k)).2)) ∧ Aside0 (Below base w wr))
  case atStart => exact ⟨0, V0, ⟨by omega⟩, rfl, by rw [List.take_zero]; exact HA1, ⟨by rw [List.take_zero]; exact own_nil _ _ _ _⟩, HB1⟩
  case round =>
    clear HA1 HB1
    obtain ⟨k, V, HK, rfl, HA, HO, HB⟩ := hrel
    by_cases hlt : k < l.length
    · obtain ⟨ad, rfl, hx1, hx2, hx3⟩ := (HE.out.below (w' := wr) (by rw [HBS.out]; exact HB.out)) k hlt
      have hcame := came_made h1 (by omega) (l.take k)
      have hstep := made_take (n := n) hlt
      obtain ⟨e, he⟩ : ∃ e, eAt l k = e := ⟨_, rfl⟩
      rw [he] at hx1 hx2 hx3 hstep
      obtain ⟨x, hx⟩ : ∃ x, madeOf n (l.take k) = x := ⟨_, rfl⟩
      rw [hx] at HA HO hcame hstep
      obtain ⟨N, out⟩ := x
      have HA : Aside0 (NetAt wr base g N (L0 N) V [] [] []) := HA
      have HCM : Aside0 (Came n N out) := ⟨hcame⟩
      have hst : madeOf n (l.take (k + 1)) = (accN N e, if edgeE N e.1 e.2.1 e.2.2 = 0 then out ++ [e] else out) := hstep
      have HST := Aside0.mk hst
      replace HO : Aside0 (wr.ownsRow base 35 3 _ out.length (eCells out)) := HO
      obtain ⟨Av, cv, hv⟩ := own_slice HO.out
      subst hv
      clear hcame hstep he hx hst
      -- what the edge may write
      obtain ⟨S, hS⟩ : ∃ S : Nat → Prop, S = fun q => base ≤ q ∧ (Value.slice Av out.length cv).ownBlock ≠ some q := ⟨_, rfl⟩
      have hI : NetIn S g V := by
        have key : ∀ {e : TypeId} {size m : Nat} {u : Value} {xs : List Value}, wr.ownsRow base e size u m xs → e ≠ 35 → ∀ q, u.ownBlock = some q → S q := fun hu hne q hq => by
          rw [hS]; exact ⟨own_base hu q hq, own_apart2 hu HO.out hne q hq⟩
        refine ⟨by rw [hS]; exact ⟨HA.out.gb, own_apart HO.out HA.out.head (by decide)⟩, key HA.out.out (by decide), key HA.out.arcs (by decide), key HA.out.most (by decide), key HA.out.cut_ (by decide), key HA.out.rank_ (by decide), key HA.out.next_ (by decide), fun a q hq => ?_⟩
        by_cases ha : a < N.n
        · exact key (HA.out.inn a ha) (by decide) q hq
        · have hl := HA.out.out.1
          rw [List.getD_eq_getElem?_getD, List.getElem?_eq_none (by omega)] at hq
          cases hq
      have hU : ∀ q, wr.heap.size ≤ q → S q := fun q hq => by
        rw [hS]
        exact ⟨Nat.le_trans HA.out.size hq, fun h => by have := own_lt HO.out q h; omega⟩
      have HI := Aside0.mk hI
      have HU := Aside0.mk hU
      have HS := Aside0.mk hS
      clear hI hU hS
      have hlow : ad.block < base := by
        have := cell_in ((HE.out k hlt).choose_spec.2.1)
        have e1 := (HE.out k hlt).choose_spec.1
        injection e1 with e1
        have e2 : (ad.add (k * 3)).block = ad.block := by unfold Addr.add; split <;> rfl
        rw [← e1, e2] at this
        rw [← HBS.out]; exact this
      have HLOW := Aside0.mk hlow
      obtain ⟨x1, x2, x3⟩ := e
      simp only at hx1 hx2 hx3
      have hwi := wrap_succ (n := l.length) (by omega) hlt
      clear hlow
      have HHZ : Aside0 (edgeE N x1 x2 x3 = 0 → (edgeE N x1 x2 x3 == 0) = true) := ⟨fun h => by simp [h]⟩
      obtain ⟨ee, hee⟩ : ∃ ee, edgeE N x1 x2 x3 = ee := ⟨_, rfl⟩
      obtain ⟨ea, hea⟩ : ∃ ea, edgeA N (x1, x2, x3) = ea := ⟨_, rfl⟩
      have HEE := Aside0.mk hee
      have HEA := Aside0.mk hea
      clear hee hea HHZ
      go_wp2_with fail
      refine start_ (n := 22) (S := (fun w' => w'.cell? (ad.add (k * 3)) = some (.int .i64 x1) ∧ w'.cell? ⟨(ad.add (k * 3)).block, (ad.add (k * 3)).off + 1, none⟩ = some (.int .i64 x2) ∧ w'.cell? ⟨(ad.add (k * 3)).block, (ad.add (k * 3)).off + 2, none⟩ = some (.int .i64 x3))) (ds := [16]) #[false, false, false, false, false, false, false, false, false, false, false, false, false, false, false, false, false, false, false, false, false, false] (by kernel_rfl) rfl rfl (⟨hx1, hx2, hx3⟩) (fun hHeld => ?_)
      refine pure_ (i := 0) (N := some 30) (v := ?_) (a' := ?_) #[true, false, false, false, false, false, false, false, false, false, false, false, false, false, false, false, false, false, false, false, false, false] rfl rfl (by kernel_rfl) (fun _ _ _ h => h) (Or.inl ⟨by rfl, ?_⟩) ?_ ?_
      rotate_left
      · intro w'
        go_simp
        with_reducible rfl
      rotate_left
      · simp only [Act.put, List.setIfInBounds_toArray, List.set_cons_zero, List.set_cons_succ, i64_w, i32_w]
        rfl
      refine pure_ (i := 1) (N := some 31) (v := ?_) (a' := ?_) #[true, true, false, false, false, false, false, false, false, false, false, false, false, false, false, false, false, false, false, false, false, false] rfl rfl (by kernel_rfl) (fun _ _ _ h => h) (Or.inl ⟨by rfl, ?_⟩) ?_ ?_
      rotate_left
      · intro w'
        go_simp
        with_reducible rfl
      rotate_left
      · simp only [Act.put, List.setIfInBounds_toArray, List.set_cons_zero, List.set_cons_succ, i64_w, i32_w]
        rfl
      refine pure_ (i := 2) (N := some 32) (v := ?_) (a' := ?_) #[true, true, true, false, false, false, false, false, false, false, false, false, false, false, false, false, false, false, false, false, false, false] rfl rfl (by kernel_rfl) (fun _ _ _ h => h) (Or.inl ⟨by rfl, ?_⟩) ?_ ?_
      rotate_left
      · intro w'
        go_simp
        with_reducible rfl
      rotate_left
      · simp only [Act.put, List.setIfInBounds_toArray, List.set_cons_zero, List.set_cons_succ, i64_w, i32_w]
        rfl
      refine pure_ (i := 3) (N := some 33) (v := ?_) (a' := ?_) #[true, true, true, true, false, false, false, false, false, false, false, false, false, false, false, false, false, false, false, false, false, false] rfl rfl (by kernel_rfl) (fun _ _ _ h => h) (Or.inl ⟨by rfl, ?_⟩) ?_ ?_
      rotate_left
      · intro w'
        go_simp
        with_reducible rfl
      rotate_left
      · simp only [Act.put, List.setIfInBounds_toArray, List.set_cons_zero, List.set_cons_succ, i64_w, i32_w]
        rfl
      refine pure_ (i := 4) (N := some 34) (v := ?_) (a' := ?_) #[true, true, true, true, true, false, false, false, false, false, false, false, false, false, false, false, false, false, false, false, false, false] rfl rfl (by kernel_rfl) (fun _ _ _ h => h) (Or.inl ⟨by rfl, ?_⟩) ?_ ?_
      rotate_left
      · intro w'
        go_simp
        with_reducible rfl
      rotate_left
      · simp only [Act.put, List.setIfInBounds_toArray, List.set_cons_zero, List.set_cons_succ, i64_w, i32_w]
        rfl
      refine take_ (i := 5) (N := some 35) (v := ?_) (a' := ?_) #[true, true, true, true, true, true, false, false, false, false, false, false, false, false, false, false, false, false, false, false, false, false] rfl rfl (by kernel_rfl) (fun _ _ _ h => h) (Or.inl ⟨by rfl, ?_⟩) hHeld ?_ ?_
      rotate_left
      · rintro w' ⟨s0, s1, s2⟩
        go_simp
        with_reducible rfl
      rotate_left
      · simp only [Act.put, List.setIfInBounds_toArray, List.set_cons_zero, List.set_cons_succ, i64_w, i32_w]
        rfl
      refine pure_ (i := 6) (N := some 36) (v := ?_) (a' := ?_) #[true, true, true, true, true, true, true, false, false, false, false, false, false, false, false, false, false, false, false, false, false, false] rfl rfl (by kernel_rfl) (fun _ _ _ h => h) (Or.inl ⟨by rfl, ?_⟩) ?_ ?_
      rotate_left
      · intro w'
        go_simp
        with_reducible rfl
      rotate_left
      · simp only [Act.put, List.setIfInBounds_toArray, List.set_cons_zero, List.set_cons_succ, i64_w, i32_w]
        rfl
      refine pure_ (i := 7) (N := some 37) (v := ?_) (a' := ?_) #[true, true, true, true, true, true, true, true, false, false, false, false, false, false, false, false, false, false, false, false, false, false] rfl rfl (by kernel_rfl) (fun _ _ _ h => h) (Or.inl ⟨by rfl, ?_⟩) ?_ ?_
      rotate_left
      · intro w'
        go_simp
        with_reducible rfl
      rotate_left
      · simp only [Act.put, List.setIfInBounds_toArray, List.set_cons_zero, List.set_cons_succ, i64_w, i32_w]
        rfl
      refine pure_ (i := 8) (N := some 38) (v := ?_) (a' := ?_) #[true, true, true, true, true, true, true, true, true, false, false, false, false, false, false, false, false, false, false, false, false, false] rfl rfl (by kernel_rfl) (fun _ _ _ h => h) (Or.inl ⟨by rfl, ?_⟩) ?_ ?_
      rotate_left
      · intro w'
        go_simp
        with_reducible rfl
      rotate_left
      · simp only [Act.put, List.setIfInBounds_toArray, List.set_cons_zero, List.set_cons_succ, i64_w, i32_w]
        rfl
      refine pure_ (i := 9) (N := some 39) (v := ?_) (a' := ?_) #[true, true, true, true, true, true, true, true, true, true, false, false, false, false, false, false, false, false, false, false, false, false] rfl rfl (by kernel_rfl) (fun _ _ _ h => h) (Or.inl ⟨by rfl, ?_⟩) ?_ ?_
      rotate_left
      · intro w'
        go_simp
        with_reducible rfl
      rotate_left
      · simp only [Act.put, List.setIfInBounds_toArray, List.set_cons_zero, List.set_cons_succ, i64_w, i32_w]
        rfl
      refine take_ (i := 10) (N := some 40) (v := ?_) (a' := ?_) #[true, true, true, true, true, true, true, true, true, true, true, false, false, false, false, false, false, false, false, false, false, false] rfl rfl (by kernel_rfl) (fun _ _ _ h => h) (Or.inl ⟨by rfl, ?_⟩) hHeld ?_ ?_
      rotate_left
      · rintro w' ⟨s0, s1, s2⟩
        go_simp
        with_reducible rfl
      rotate_left
      · simp only [Act.put, List.setIfInBounds_toArray, List.set_cons_zero, List.set_cons_succ, i64_w, i32_w]
        rfl
      refine pure_ (i := 11) (N := some 41) (v := ?_) (a' := ?_) #[true, true, true, true, true, true, true, true, true, true, true, true, false, false, false, false, false, false, false, false, false, false] rfl rfl (by kernel_rfl) (fun _ _ _ h => h) (Or.inl ⟨by rfl, ?_⟩) ?_ ?_
      rotate_left
      · intro w'
        go_simp
        with_reducible rfl
      rotate_left
      · simp only [Act.put, List.setIfInBounds_toArray, List.set_cons_zero, List.set_cons_succ, i64_w, i32_w]
        rfl
      refine pure_ (i := 12) (N := some 42) (v := ?_) (a' := ?_) #[true, true, true, true, true, true, true, true, true, true, true, true, true, false, false, false, false, false, false, false, false, false] rfl rfl (by kernel_rfl) (fun _ _ _ h => h) (Or.inl ⟨by rfl, ?_⟩) ?_ ?_
      rotate_left
      · intro w'
        go_simp
        with_reducible rfl
      rotate_left
      · simp only [Act.put, List.setIfInBounds_toArray, List.set_cons_zero, List.set_cons_succ, i64_w, i32_w]
        rfl
      refine pure_ (i := 13) (N := some 43) (v := ?_) (a' := ?_) #[true, true, true, true, true, true, true, true, true, true, true, true, true, true, false, false, false, false, false, false, false, false] rfl rfl (by kernel_rfl) (fun _ _ _ h => h) (Or.inl ⟨by rfl, ?_⟩) ?_ ?_
      rotate_left
      · intro w'
        go_simp
        with_reducible rfl
      rotate_left
      · simp only [Act.put, List.setIfInBounds_toArray, List.set_cons_zero, List.set_cons_succ, i64_w, i32_w]
        rfl
      refine pure_ (i := 14) (N := some 44) (v := ?_) (a' := ?_) #[true, true, true, true, true, true, true, true, true, true, true, true, true, true, true, false, false, false, false, false, false, false] rfl rfl (by kernel_rfl) (fun _ _ _ h => h) (Or.inl ⟨by rfl, ?_⟩) ?_ ?_
      rotate_left
      · intro w'
        go_simp
        with_reducible rfl
      rotate_left
      · simp only [Act.put, List.setIfInBounds_toArray, List.set_cons_zero, List.set_cons_succ, i64_w, i32_w]
        rfl
      refine take_ (i := 15) (N := some 45) (v := ?_) (a' := ?_) #[true, true, true, true, true, true, true, true, true, true, true, true, true, true, true, true, false, false, false, false, false, false] rfl rfl (by kernel_rfl) (fun _ _ _ h => h) (Or.inl ⟨by rfl, ?_⟩) hHeld ?_ ?_
      rotate_left
      · rintro w' ⟨s0, s1, s2⟩
        go_simp
        with_reducible rfl
      rotate_left
      · simp only [Act.put, List.setIfInBounds_toArray, List.set_cons_zero, List.set_cons_succ, i64_w, i32_w]
        rfl
      refine last_ (i := 16) (N := some 46) #[true, true, true, true, true, true, true, true, true, true, true, true, true, true, true, true, true, false, false, false, false, false] rfl rfl (by kernel_rfl) (by decide) (fun K hK => ?_)
      refine goes_ Try.func18 (by kernel_rfl) rfl #[.pointer (some ⟨g, 0, none⟩), .int .i64 x1, .int .i64 x2, .int .i64 x3] (by rfl) rfl rfl (by simp only [List.map_toArray, List.map_cons, List.map_nil]; rfl) ?_
      refine (edge_calls HCM.out.ok HA.out.drew (x1, x2, x3) HI.out HU.out).mono ?_
      rintro r w6 ⟨V6, rfl, hA6, hI6, hK6⟩
      have HA6 := Aside0.mk hA6
      have HI6 := Aside0.mk hI6
      have HK6 : Aside0 (Kept S wr w6) := ⟨(kept_drew (Kept.refl S wr)).trans hK6⟩
      clear hA6 hI6 hK6
      rw [HEA.out, HEE.out]
      refine ⟨_, rfl, ?_⟩
      refine hK.out _ _ ?_
      clear hK K
      refine pure_ (i := 17) (N := some 29) (v := ?_) (a' := ?_) #[true, true, true, true, true, true, true, true, true, true, true, true, true, true, true, true, true, true, false, false, false, false] rfl rfl (by kernel_rfl) (fun _ _ _ h => h) (Or.inl ⟨by rfl, ?_⟩) ?_ ?_
      rotate_left
      · intro w'
        go_simp
        with_reducible rfl
      rotate_left
      · simp only [Act.put, List.setIfInBounds_toArray, List.set_cons_zero, List.set_cons_succ, i64_w, i32_w]
        rfl
      refine pure_ (i := 18) (N := some 47) (v := ?_) (a' := ?_) #[true, true, true, true, true, true, true, true, true, true, true, true, true, true, true, true, true, true, true, false, false, false] rfl rfl (by kernel_rfl) (fun _ _ _ h => h) (Or.inl ⟨by rfl, ?_⟩) ?_ ?_
      rotate_left
      · intro w'
        go_simp
        with_reducible rfl
      rotate_left
      · simp only [Act.put, List.setIfInBounds_toArray, List.set_cons_zero, List.set_cons_succ, i64_w, i32_w]
        rfl
      refine pure_ (i := 19) (N := some 48) (v := ?_) (a' := ?_) #[true, true, true, true, true, true, true, true, true, true, true, true, true, true, true, true, true, true, true, true, false, false] rfl rfl (by kernel_rfl) (fun _ _ _ h => h) (Or.inl ⟨by rfl, ?_⟩) ?_ ?_
      rotate_left
      · intro w'
        go_simp
        with_reducible rfl
      rotate_left
      · simp only [Act.put, List.setIfInBounds_toArray, List.set_cons_zero, List.set_cons_succ, i64_w, i32_w]
        rfl
      refine pure_ (i := 20) (N := some 9) (v := ?_) (a' := ?_) #[true, true, true, true, true, true, true, true, true, true, true, true, true, true, true, true, true, true, true, true, true, false] rfl rfl (by kernel_rfl) (fun _ _ _ h => h) (Or.inl ⟨by rfl, ?_⟩) ?_ ?_
      rotate_left
      · intro w'
        go_simp
        with_reducible rfl
      rotate_left
      · simp only [Act.put, List.setIfInBounds_toArray, List.set_cons_zero, List.set_cons_succ, i64_w, i32_w]
        rfl
      refine pure_ (i := 21) (N := some 10) (v := ?_) (a' := ?_) #[true, true, true, true, true, true, true, true, true, true, true, true, true, true, true, true, true, true, true, true, true, true] rfl rfl (by kernel_rfl) (fun _ _ _ h => h) (Or.inl ⟨by rfl, ?_⟩) ?_ ?_
      rotate_left
      · intro w'
        go_simp
        with_reducible rfl
      rotate_left
      · simp only [Act.put, List.setIfInBounds_toArray, List.set_cons_zero, List.set_cons_succ, i64_w, i32_w]
        rfl
      refine done_ (by kernel_rfl) ?_
      skip
      have hb6 : w6.heap[(ad.add (k * 3)).block]? = wr.heap[(ad.add (k * 3)).block]? := HK6.out.block _ (by
        have e2 : (ad.add (k * 3)).block = ad.block := by unfold Addr.add; split <;> rfl
        rw [HS.out, e2]
        exact fun h => Nat.not_le_of_lt HLOW.out h.1)
      have hy1 := cell_kept (w' := w6) hx1 hb6
      have hy2 := cell_kept (w' := w6) hx2 hb6
      have hy3 := cell_kept (w' := w6) hx3 hb6
      have HB6 : Aside0 (Below base w w6) := ⟨⟨HK6.out.os.trans HB.out.os, HK6.out.tape.trans HB.out.tape, HK6.out.output.trans HB.out.output, Nat.le_trans HB.out.size HK6.out.size, fun q hq => (HK6.out.block q (by rw [HS.out]; exact fun h => Nat.not_le_of_lt hq h.1)).trans (HB.out.block q hq)⟩⟩
      have HO6 : Aside0 (w6.ownsRow base 35 3 (.slice Av out.length cv) out.length (eCells out)) := ⟨own_move HO.out fun q hq => HK6.out.block q (by rw [HS.out]; exact fun h => h.2 hq)⟩
      clear hb6 hx1 hx2 hx3 HB HO HA
      by_cases hz : ee = 0
      · have hzb : (ee == 0) = true := by simp [hz]
        subst hz
        have hol : out.length ≤ 5000 := by rw [HCM.out.len]; exact HCM.out.ok.few
        have hby : (out.length + 1) * 24 ≤ 140737488355328 := by omega
        have ho6 := HO6.out
        have hb6' := HB6.out
        have hs6 := hb6'.size
        rw [HBS.out] at hs6
        go_wp2_with (first
          | (at_builtin
             go_loud (refine print_append_cells (w0 := w) (W := w6) base rfl (.tmp 51) (.tmp 56) 22 35 (.agg #[.int .i64 0, .int .i64 0, .int .i64 0]) 3 24 rfl Try.underlying22 info35 rfl (by decide) (by decide) (.slice Av out.length cv) out.length (eCells out) [.int .i64 x1, .int .i64 x2, .int .i64 x3] rfl rfl rfl (fun u hu => by simp only [List.mem_cons, List.not_mem_nil, or_false] at hu; rcases hu with rfl | rfl | rfl <;> rfl) ho6 hb6' hs6 hby ?_)
             intro v7 w7 ho7 hb7 hg7 _
             have HO7 := Aside0.mk ho7
             have HB7 := Aside0.mk hb7
             have HG7 := Aside0.mk hg7
             clear ho7 hb7 hg7 ho6 hb6' hs6)
          | fail)
        have HA7 : Aside0 (NetAt w7 base g (accN N (x1, x2, x3)) (L0 (accN N (x1, x2, x3))) V6 [] [] []) := ⟨by
          have hne : ∀ q, S q → (Value.slice Av out.length cv).ownBlock ≠ some q := fun q hq => by rw [HS.out] at hq; exact hq.2
          have mv : ∀ q, q < w6.heap.size → S q → w7.heap[q]? = w6.heap[q]? := fun q hq hs => HG7.out.block q hq (fun e => hne q hs e.symm)
          have h := HA6.out
          have mvo : ∀ {e : TypeId} {size m : Nat} {u : Value} {xs : List Value}, w6.ownsRow base e size u m xs → (∀ q, u.ownBlock = some q → S q) → w7.ownsRow base e size u m xs := fun hu hs => own_move hu fun q hq => mv q (own_lt hu q hq) (hs q hq)
          have hi := HI6.out
          exact ⟨h.gb, (mv g (blk_lt h.head) hi.g).trans h.head, mvo h.out hi.vo, fun a ha => mvo (h.inn a ha) (hi.rows a), mvo h.arcs hi.va, mvo h.most hi.vm, mvo h.cut_ hi.vc, mvo h.rank_ hi.vr, mvo h.next_ hi.vn, h.apR, h.apM, h.apK, h.apN, h.apMK, h.apMN, h.apKN⟩⟩
        have HO8 : Aside0 (w7.ownsRow base 35 3 v7 (out ++ [(x1, x2, x3)]).length (eCells (out ++ [(x1, x2, x3)]))) := ⟨by
          rw [eCells_app, List.length_append]; exact HO7.out⟩
        go_wp2
        go_roundg (gk - 1)
        case measure => exact pred_lt HK hlt
        case rel => exact ⟨k + 1, V6, next_eq HK hlt, by first | rfl | go_num, by rw [HST.out]; exact HA7, by rw [HST.out, if_pos HEE.out]; exact HO8, HB7⟩
      · have hzb : (ee == 0) = false := by simp [hz]
        go_wp2
        go_roundg (gk - 1)
        case measure => exact pred_lt HK hlt
        case rel => exact ⟨k + 1, V6, next_eq HK hlt, by first | rfl | go_num, by rw [HST.out]; exact HA6, by rw [HST.out, if_neg (by rw [HEE.out]; exact hz)]; exact HO6, HB6⟩
    · obtain rfl : k = l.length := by have := HK.out; omega
      rw [List.take_length] at HA HO
      clear HK hlt
      go_wp2
      go_ret2
      exact ⟨_, _, _, rfl, HA.out, HO.out, HB.out⟩
end Go.Proofs.Ytffghdbhjjfnlaa.F
end
section
/-
  The laws' helper: heads.
-/
namespace Go.Proofs.Ytffghdbhjjfnlaa.F
open Go.RowKit Go.Proofs.YtffghdbhjjfnlaaW.PrintWords Go.Proofs.YtffghdbhjjfnlaaW.PrintLast Go.Proofs.YtffghdbhjjfnlaaW.PrintMore
set_option linter.unusedVariables false
set_option linter.unusedSimpArgs false
/-- The chapter's example. -/
def H1 : Net := (Net.none 3).add 0 1 5
def H2 : Net := H1.add 1 2 3
theorem h1_ok : H1.Ok := add_ok (none_ok (by decide) (by decide)) (by decide) (by decide) (by decide) (by decide) (by decide) (by decide)
theorem h2_ok : H2.Ok := add_ok h1_ok (by decide) (by decide) (by decide) (by decide) (by decide) (by decide)
def hRun : Option (Int × Int × Int × Bool × Bool × Bool) := (run H2 0 2 30 (L0 H2) 0).map fun x => (x.2.2, x.1 1, x.1 3, decide (x.2.1 0 ≥ 0), decide (x.2.1 1 ≥ 0), decide (x.2.1 2 ≥ 0))
theorem hRun_is : hRun = some (3, 3, 3, true, true, false) := by kernel_rfl
theorem h_run : ∃ L rk, run H2 0 2 30 (L0 H2) 0 = some (L, rk, 3) ∧ L 1 = 3 ∧ L 3 = 3 ∧ cutL H2 rk = [true, true, false] := by
  have h := hRun_is
  unfold hRun at h
  cases e : run H2 0 2 30 (L0 H2) 0 with
  | none => rw [e] at h; cases h
  | some x =>
    obtain ⟨L, rk, sum⟩ := x
    rw [e] at h
    simp only [Option.map_some, Option.some.injEq, Prod.mk.injEq] at h
    obtain ⟨h1, h2, h3, h4, h5, h6⟩ := h
    refine ⟨L, rk, by rw [h1], h2, h3, ?_⟩
    show [decide (rk 0 ≥ 0), decide (rk 1 ≥ 0), decide (rk 2 ≥ 0)] = _
    rw [h4, h5, h6]
theorem in_low {w : World} {base g : Nat} {N : Net} {L : Nat → Int} {V : Vs} {cut : List Bool} {rank next : List Int} (h : NetAt w base g N L V cut rank next) : NetIn (fun k => base ≤ k) g V := h.in_.mono fun _ h => h.1
theorem up_low {w : World} {base g : Nat} {N : Net} {L : Nat → Int} {V : Vs} {cut : List Bool} {rank next : List Int} (h : NetAt w base g N L V cut rank next) : ∀ k, w.heap.size ≤ k → base ≤ k := fun k hk => Nat.le_trans h.size hk
set_option maxRecDepth 100000 in
set_option maxHeartbeats 4000000 in
theorem heads_calls (w : World) : Calls Try.prog 10 #[] w fun e w' => e = .returned (.bool true) ∧ Below w.heap.size w w' := by
  obtain ⟨base, hbase⟩ : ∃ b, w.heap.size = b := ⟨_, rfl⟩
  have HBS := Aside0.mk hbase
  simp only [hbase]
  obtain ⟨L, rk, hr, hf0, hf1, hcut⟩ := h_run
  have HR := Aside0.mk hr
  have HF0 := Aside0.mk hf0
  have HF1 := Aside0.mk hf1
  have HCUT := Aside0.mk hcut
  clear hr hf0 hf1 hcut
  go_enter Try.func10, Try.ntmps10
  go_wp2_with fail
  refine (new_yes 3 (by decide) (by decide) (L0 (Net.none 3)) w).mono ?_
  rintro e w1 ⟨g, V1, rfl, hA1, hB1⟩
  rw [hbase] at hA1 hB1
  have HA1 := Aside0.mk hA1
  have HB1 := Aside0.mk hB1
  clear hA1 hB1 hbase
  go_wp2_with fail
  refine (edge_yes (f := 0) (t := 1) (c := 5) (none_ok (by decide) (by decide)) HA1.out (by decide) (by decide) (by decide) (by decide) (by decide) (by decide) (in_low HA1.out) (up_low HA1.out)).mono ?_
  rintro e w2 ⟨V2, rfl, hA2, hI2, hK2⟩
  have HA2 := Aside0.mk hA2
  have HB2 := Aside0.mk (HB1.out.trans hK2.below)
  clear hA2 hI2 hK2 HB1 HA1
  go_wp2_with fail
  refine (edge_yes (f := 1) (t := 2) (c := 3) h1_ok HA2.out (by decide) (by decide) (by decide) (by decide) (by decide) (by decide) (in_low HA2.out) (up_low HA2.out)).mono ?_
  rintro e w3 ⟨V3, rfl, hA3, hI3, hK3⟩
  have HA3 := Aside0.mk hA3
  have HB3 := Aside0.mk (HB2.out.trans hK3.below)
  clear hA3 hI3 hK3 HB2 HA2
  go_wp2_with fail
  refine (run_calls h2_ok (f := 0) (t := 2) (by decide) (by decide) (by decide) HR.out HA3.out (in_low HA3.out) (up_low HA3.out)).mono ?_
  rintro e w4 ⟨V4, rank4, next4, rfl, hA4, hI4, hK4⟩
  rw [HCUT.out] at hA4
  have HA4 := Aside0.mk hA4
  have HB4 := Aside0.mk (HB3.out.trans hK4.below)
  clear hA4 hI4 hK4 HB3 HA3
  go_wp2_with fail
  refine (cut_calls HA4.out (by decide)).mono ?_
  rintro e w5 ⟨vc, rfl, ho5, hb5⟩
  have HA5 := Aside0.mk (HA4.out.below hb5)
  have HB5 := Aside0.mk (below_then HB4.out HA4.out.size hb5)
  obtain ⟨gc, cc, hvc, _⟩ := own_form ho5 (by decide)
  subst hvc
  have hc : ∀ i, i < 3 → w5.cell? ⟨gc, i, none⟩ = some (.bool ([true, true, false].getD i false)) := fun i hi => (own_cellB ho5 i hi).1
  have c0 : w5.cell? ⟨gc, 0, none⟩ = some (.bool true) := hc 0 (by decide)
  have c1 : w5.cell? ⟨gc, 1, none⟩ = some (.bool true) := hc 1 (by decide)
  have c2 : w5.cell? ⟨gc, 2, none⟩ = some (.bool false) := hc 2 (by decide)
  clear ho5 hb5 HA4 HB4 hc
  go_wp2_with fail
  refine (edge_no h2_ok HA5.out 1 1 3 (by decide)).mono ?_
  rintro e w6 ⟨rfl, hw6⟩
  have hw6' := hw6.symm
  subst hw6'
  have he2 : edgeE H2 1 1 3 = 2 := by decide
  rw [he2]
  clear hw6 he2
  go_wp2_with fail
  refine (flow_calls h2_ok HA5.out 0).mono ?_
  rintro e w6 ⟨rfl, hw6⟩
  have hw6' := hw6.symm
  subst hw6'
  have hfa : flowF H2 L 0 = 3 := by rw [← HF0.out]; rfl
  rw [hfa]
  clear hw6 hfa
  go_wp2_with fail
  refine (flow_calls h2_ok HA5.out 1).mono ?_
  rintro e w6 ⟨rfl, hw6⟩
  have hw6' := hw6.symm
  subst hw6'
  have hfa : flowF H2 L 1 = 3 := by rw [← HF1.out]; rfl
  rw [hfa]
  clear hw6 hfa
  go_wp2_with fail
  refine (new_no 0 (by decide) w5).mono ?_
  rintro e w6 ⟨rfl, hw6⟩
  have hw6' := hw6.symm
  subst hw6'
  clear hw6
  go_wp2
  go_ret
  exact ⟨rfl, HB5.out⟩
end Go.Proofs.Ytffghdbhjjfnlaa.F
end
section
/-
  Two nets beside each other; what Run answers, whatever its ends are.
-/
namespace Go.Proofs.Ytffghdbhjjfnlaa.F
open Go.RowKit Go.Proofs.YtffghdbhjjfnlaaW.PrintWords Go.Proofs.YtffghdbhjjfnlaaW.PrintLast Go.Proofs.YtffghdbhjjfnlaaW.PrintMore
set_option linter.unusedVariables false
set_option linter.unusedSimpArgs false
theorem NetIn.and {S T : Nat → Prop} {g : Nat} {V : Vs} (h : NetIn S g V) (k : NetIn T g V) : NetIn (fun q => S q ∧ T q) g V :=
  ⟨⟨h.g, k.g⟩, fun q e => ⟨h.vo q e, k.vo q e⟩, fun q e => ⟨h.va q e, k.va q e⟩, fun q e => ⟨h.vm q e, k.vm q e⟩, fun q e => ⟨h.vc q e, k.vc q e⟩, fun q e => ⟨h.vr q e, k.vr q e⟩, fun q e => ⟨h.vn q e, k.vn q e⟩, fun a q e => ⟨h.rows a q e, k.rows a q e⟩⟩
/-- Two nets of the same edges, that share nothing. -/
structure Duo (w : World) (base gx gy : Nat) (N : Net) (Lx Ly : Nat → Int) (Vx Vy : Vs) (cx cy : List Bool) (rx nx ry ny : List Int) (X Y : Nat → Prop) : Prop where
  x : NetAt w base gx N Lx Vx cx rx nx
  y : NetAt w base gy N Ly Vy cy ry ny
  xi : NetIn X gx Vx
  yi : NetIn Y gy Vy
  xb : ∀ k, X k → base ≤ k ∧ k < w.heap.size
  yb : ∀ k, Y k → base ≤ k ∧ k < w.heap.size
  xy : ∀ k, X k → ¬ Y k
/-- A net's blocks, and what is new. -/
def Fresh (X : Nat → Prop) (w : World) : Nat → Prop := fun k => X k ∨ w.heap.size ≤ k
/-- The blocks behind a step. -/
def After (X : Nat → Prop) (base : Nat) (w w' : World) : Nat → Prop := fun k => Fresh X w k ∧ base ≤ k ∧ k < w'.heap.size
section
variable {w w' : World} {base gx gy : Nat} {N : Net} {Lx Ly Lx' : Nat → Int} {Vx Vy Vx' : Vs} {cx cy cx' : List Bool} {rx nx ry ny rx' nx' : List Int} {X Y : Nat → Prop}
theorem Duo.sym (h : Duo w base gx gy N Lx Ly Vx Vy cx cy rx nx ry ny X Y) : Duo w base gy gx N Ly Lx Vy Vx cy cx ry ny rx nx Y X :=
  ⟨h.y, h.x, h.yi, h.xi, h.yb, h.xb, fun k hy hx => h.xy k hx hy⟩
theorem Duo.fresh (h : Duo w base gx gy N Lx Ly Vx Vy cx cy rx nx ry ny X Y) : NetIn (Fresh X w) gx Vx := h.xi.mono fun _ hk => Or.inl hk
theorem fresh_up (X : Nat → Prop) (w : World) : ∀ k, w.heap.size ≤ k → Fresh X w k := fun _ hk => Or.inr hk
theorem Duo.low (h : Duo w base gx gy N Lx Ly Vx Vy cx cy rx nx ry ny X Y) (hk : Kept (Fresh X w) w w') : Below base w w' :=
  ⟨hk.os, hk.tape, hk.output, hk.size, fun k hlt => hk.block k fun hf => by
    rcases hf with hf | hf
    · have := (h.xb k hf).1; omega
    · have := h.x.size; omega⟩
theorem Duo.step (h : Duo w base gx gy N Lx Ly Vx Vy cx cy rx nx ry ny X Y) (hk : Kept (Fresh X w) w w') (hx : NetAt w' base gx N Lx' Vx' cx' rx' nx') (hi : NetIn (Fresh X w) gx Vx') :
    Duo w' base gx gy N Lx' Ly Vx' Vy cx' cy rx' nx' ry ny (After X base w w') Y where
  x := hx
  y := h.y.kept h.yi hk fun k hy hf => by
    rcases hf with hf | hf
    · exact h.xy k hf hy
    · have := (h.yb k hy).2; omega
  xi := (hi.and hx.in_).mono fun k hk => ⟨hk.1, hk.2.1, hk.2.2⟩
  yi := h.yi
  xb := fun k hk => hk.2
  yb := fun k hy => ⟨(h.yb k hy).1, Nat.lt_of_lt_of_le (h.yb k hy).2 hk.size⟩
  xy := fun k hk hy => by
    rcases hk.1 with hf | hf
    · exact h.xy k hf hy
    · have := (h.yb k hy).2; omega
theorem Duo.below (h : Duo w base gx gy N Lx Ly Vx Vy cx cy rx nx ry ny X Y) (hb : Below w.heap.size w w') : Duo w' base gx gy N Lx Ly Vx Vy cx cy rx nx ry ny X Y :=
  ⟨h.x.below hb, h.y.below hb, h.xi, h.yi, fun k hk => ⟨(h.xb k hk).1, Nat.lt_of_lt_of_le (h.xb k hk).2 hb.size⟩, fun k hk => ⟨(h.yb k hk).1, Nat.lt_of_lt_of_le (h.yb k hk).2 hb.size⟩, h.xy⟩
end
theorem twoE_zero2 {n : Nat} {f t : Int} (h : twoE n f t = 0) : (0 ≤ f ∧ f < (n : Int)) ∧ (0 ≤ t ∧ t < (n : Int)) ∧ f ≠ t := by
  unfold twoE at h
  by_cases c1 : (f < 0 ∨ f ≥ (n : Int)) ∨ (t < 0 ∨ t ≥ (n : Int))
  · rw [if_pos c1] at h; simp at h
  · rw [if_neg c1] at h
    by_cases c2 : f = t
    · rw [if_pos c2] at h; simp at h
    · omega
/-- What Run answers hangs on the edges and the ends alone. -/
theorem run_either {N : Net} (hN : N.Ok) (f t : Int) : ∃ (sz er : Int) (ok : Bool) (Lr : Nat → Int) (cr : List Bool), (er == 0) = ok ∧ cr.length = N.n ∧ er = twoE N.n f t ∧
    ∀ (w : World) (base g : Nat) (L : Nat → Int) (V : Vs) (cut : List Bool) (rank next : List Int), NetAt w base g N L V cut rank next → ∀ (S : Nat → Prop), NetIn S g V → (∀ k, w.heap.size ≤ k → S k) →
      Calls Try.prog 11 #[.pointer (some ⟨g, 0, none⟩), .int .i64 f, .int .i64 t] w fun e w' => ∃ V' rank' next', e = .returned (.tuple #[.int .i64 sz, .int .i64 er]) ∧ NetAt w' base g N (if ok then Lr else L) V' (if ok then cr else cut) rank' next' ∧ NetIn S g V' ∧ Kept S w w' := by
  by_cases h : twoE N.n f t = 0
  · obtain ⟨⟨h1, h2⟩, ⟨h3, h4⟩, h5⟩ := twoE_zero2 h
    obtain ⟨a, rfl⟩ := Int.eq_ofNat_of_zero_le h1
    obtain ⟨b, rfl⟩ := Int.eq_ofNat_of_zero_le h3
    obtain ⟨kf, L, rk, sum, hr, _, _, _⟩ := run_all hN (f := a) (t := b) (by omega) (by omega) (by omega)
    refine ⟨sum, 0, true, L, cutL N rk, rfl, by unfold cutL; rw [rowB_len], h.symm, fun w base g L' V cut rank next hA S hI hU => ?_⟩
    refine (run_calls hN (by omega) (by omega) (by omega) hr hA hI hU).mono ?_
    rintro e w' ⟨V', rank', next', rfl, h1, h2, h3⟩
    exact ⟨V', rank', next', rfl, h1, h2, h3⟩
  · refine ⟨0, twoE N.n f t, false, fun _ => 0, cutL N fun _ => 0, by simp [h], by unfold cutL; rw [rowB_len], rfl, fun w base g L' V cut rank next hA S hI hU => ?_⟩
    refine (run_no hN hA f t h).mono ?_
    rintro e w' ⟨rfl, rfl⟩
    exact ⟨V, rank, next, rfl, hA, hI, Kept.refl _ _⟩
end Go.Proofs.Ytffghdbhjjfnlaa.F
end
section
/-
  The law FlowAgain: its walk.
-/
namespace Go.Proofs.Ytffghdbhjjfnlaa.F
open Go.RowKit Go.Proofs.YtffghdbhjjfnlaaW.PrintWords Go.Proofs.YtffghdbhjjfnlaaW.PrintLast Go.Proofs.YtffghdbhjjfnlaaW.PrintMore
set_option linter.unusedVariables false
set_option linter.unusedSimpArgs false
theorem NetAt.down {w : World} {base b2 g : Nat} {N : Net} {L : Nat → Int} {V : Vs} {cut : List Bool} {rank next : List Int} (h : NetAt w base g N L V cut rank next) (hb : b2 ≤ base) : NetAt w b2 g N L V cut rank next :=
  ⟨Nat.le_trans hb h.gb, h.head, own_down h.out hb, fun a ha => own_down (h.inn a ha) hb, own_down h.arcs hb, own_down h.most hb, own_down h.cut_ hb, own_down h.rank_ hb, own_down h.next_ hb, h.apR, h.apM, h.apK, h.apN, h.apMK, h.apMN, h.apKN⟩
/-- Two boxed pairs. -/
def Pairs (b : Nat) (p q r s : Int) (w : World) : Prop :=
  w.cell? ⟨b, 0, none⟩ = some (.int .i64 p) ∧ w.cell? ⟨b, 1, none⟩ = some (.int .i64 q) ∧ w.cell? ⟨b + 1, 0, none⟩ = some (.int .i64 r) ∧ w.cell? ⟨b + 1, 1, none⟩ = some (.int .i64 s)
theorem Pairs.below {b base : Nat} {p q r s : Int} {w w' : World} (h : Pairs b p q r s w) (hb : Below base w w') (hlt : b + 1 < base) : Pairs b p q r s w' :=
  ⟨cell_kept h.1 (hb.block _ (show b < base by omega)), cell_kept h.2.1 (hb.block _ (show b < base by omega)), cell_kept h.2.2.1 (hb.block _ hlt), cell_kept h.2.2.2 (hb.block _ hlt)⟩
def twoBoxes (w : World) (p q r s : Int) : World := (w.alloc (.cells #[.int .i64 p, .int .i64 q] 44)).alloc (.cells #[.int .i64 r, .int .i64 s] 44)
theorem boxes_size (w : World) (p q r s : Int) : (twoBoxes w p q r s).heap.size = w.heap.size + 2 := by simp [twoBoxes, World.alloc_eq]
theorem boxes_below (w : World) (p q r s : Int) : Below w.heap.size w (twoBoxes w p q r s) := below_alloc (below_alloc (Below.refl _ _) _) _
theorem boxes_pairs (w : World) (p q r s : Int) : Pairs w.heap.size p q r s (twoBoxes w p q r s) := by
  have e1 : (w.alloc (.cells #[.int .i64 p, .int .i64 q] 44)).heap.size = w.heap.size + 1 := by simp
  have b0 : (twoBoxes w p q r s).heap[w.heap.size]? = some (.cells #[.int .i64 p, .int .i64 q] 44 (0, 0)) := (Below.heap_alloc _ _ _ (by rw [e1]; omega)).trans (heap_alloc_new w _)
  have b1 : (twoBoxes w p q r s).heap[w.heap.size + 1]? = some (.cells #[.int .i64 r, .int .i64 s] 44 (0, 0)) := by rw [← e1]; exact heap_alloc_new _ _
  exact ⟨blk_cell b0 0, blk_cell b0 1, blk_cell b1 0, blk_cell b1 1⟩
set_option maxRecDepth 100000 in
set_option maxHeartbeats 1000000 in
theorem again_no (n : Int) (A : Option Addr) (len cap : Nat) (p q r s : Int) (w : World) (h : n < 1 ∨ 60 < n) :
    Calls Try.prog 6 #[.int .i64 n, .slice A len cap, .agg #[.int .i64 p, .int .i64 q], .agg #[.int .i64 r, .int .i64 s]] w fun e w' => e = .returned (.bool true) ∧ Below w.heap.size w w' := by
  have H := Aside0.mk h
  clear h
  go_enter Try.func6, Try.ntmps6
  go_wp2_with fail
  have HB0 := Aside0.mk (boxes_below w p q r s)
  obtain ⟨W0, hW0⟩ : ∃ W0, twoBoxes w p q r s = W0 := ⟨_, rfl⟩
  rw [hW0] at HB0
  unfold twoBoxes at hW0
  rw [hW0]
  clear hW0
  refine (made_no n A len cap W0 H.out).mono ?_
  rintro e w1 ⟨rfl, hw⟩
  have hw' := hw.symm
  subst hw'
  clear hw
  go_wp2_with fail
  refine (made_no n A len cap W0 H.out).mono ?_
  rintro e w1 ⟨rfl, hw⟩
  have hw' := hw.symm
  subst hw'
  clear hw
  go_wp2_with fail
  refine (heads_calls _).mono ?_
  rintro e w2 ⟨rfl, hb⟩
  have HB2 := Aside0.mk (below_then HB0.out HB0.out.size hb)
  clear hb
  go_wp2
  go_ret
  exact ⟨rfl, HB2.out⟩
set_option maxRecDepth 100000 in
set_option maxHeartbeats 1000000 in
theorem again_many (n : Nat) (h1 : 1 ≤ n) (h2 : n ≤ 60) (A : Option Addr) (cap : Nat) (l : List E3) (p q r s : Int) (w : World) (hl : l.length ≤ 9223372036854775807) (h80 : 80 < l.length) (hE : EdgesIn w A l) :
    Calls Try.prog 6 #[.int .i64 n, .slice A l.length cap, .agg #[.int .i64 p, .int .i64 q], .agg #[.int .i64 r, .int .i64 s]] w fun e w' => e = .returned (.bool true) ∧ Below w.heap.size w w' := by
  have d0 : decide ((l.length : Int) > 80) = true := decide_eq_true (by omega)
  have HB0 := Aside0.mk (boxes_below w p q r s)
  obtain ⟨W0, hW0⟩ : ∃ W0, twoBoxes w p q r s = W0 := ⟨_, rfl⟩
  rw [hW0] at HB0
  unfold twoBoxes at hW0
  have HW0 := Aside0.mk hW0
  have HE := Aside0.mk (hE.below HB0.out)
  have HL := Aside0.mk hl
  clear hW0 hE hl
  go_enter Try.func6, Try.ntmps6
  go_wp2_with fail
  rw [HW0.out]
  refine (made_yes n h1 h2 A cap l W0 HL.out HE.out).mono ?_
  rintro e w1 ⟨g, V, v, rfl, hA, hO, hB⟩
  have HB1 := Aside0.mk hB
  clear hA hO hB
  go_wp2_with fail
  refine (made_yes n h1 h2 A cap l w1 HL.out (HE.out.below HB1.out)).mono ?_
  rintro e w2 ⟨g2, V2, v2, rfl, hA, hO, hB⟩
  have HB2 := Aside0.mk hB
  clear hA hO hB
  go_wp2_with fail
  refine (heads_calls _).mono ?_
  rintro e w3 ⟨rfl, hb⟩
  have HB3 := Aside0.mk (below_then (below_then (below_then HB0.out HB0.out.size HB1.out) (Nat.le_trans HB0.out.size HB1.out.size) HB2.out) (Nat.le_trans (Nat.le_trans HB0.out.size HB1.out.size) HB2.out.size) hb)
  clear hb
  go_wp2
  go_ret
  exact ⟨rfl, HB3.out⟩
set_option maxRecDepth 100000 in
set_option maxHeartbeats 4000000 in
theorem again_yes (n : Nat) (h1 : 1 ≤ n) (h2 : n ≤ 60) (A : Option Addr) (cap : Nat) (l : List E3) (p q r s : Int) (w : World) (hl : l.length ≤ 80) (hE : EdgesIn w A l) :
    Calls Try.prog 6 #[.int .i64 n, .slice A l.length cap, .agg #[.int .i64 p, .int .i64 q], .agg #[.int .i64 r, .int .i64 s]] w fun e w' => e = .returned (.bool true) ∧ Below w.heap.size w w' := by
  have d0 : decide ((l.length : Int) > 80) = false := decide_eq_false (by omega)
  obtain ⟨N, hN⟩ : ∃ N, (madeOf n l).1 = N := ⟨_, rfl⟩
  obtain ⟨out, hout⟩ : ∃ o, (madeOf n l).2 = o := ⟨_, rfl⟩
  have hcame := came_made h1 (by omega) l
  rw [hN, hout] at hcame
  have HC := Aside0.mk hcame
  have HNM := Aside0.mk (And.intro hN hout)
  have HNN := Aside0.mk hcame.nn
  obtain ⟨sz, er, ok, Lr, cr, hok, hcr, her, hrun⟩ := run_either hcame.ok p q
  obtain ⟨sz2, er2, ok2, Lr2, cr2, hok2, hcr2, her2, hrun2⟩ := run_either hcame.ok r s
  have HRUN := Aside0.mk hrun
  have HRUN2 := Aside0.mk hrun2
  rw [hcame.nn] at hcr hcr2
  have HCR := Aside0.mk hcr
  have HCR2 := Aside0.mk hcr2
  have HB0 := Aside0.mk (boxes_below w p q r s)
  have HP0 := Aside0.mk (boxes_pairs w p q r s)
  have HS0 := Aside0.mk (boxes_size w p q r s)
  obtain ⟨W0, hW0⟩ : ∃ W0, twoBoxes w p q r s = W0 := ⟨_, rfl⟩
  rw [hW0] at HB0 HP0 HS0
  unfold twoBoxes at hW0
  have HW0 := Aside0.mk hW0
  have HE := Aside0.mk (hE.below HB0.out)
  obtain ⟨base, hbase⟩ : ∃ b, W0.heap.size = b := ⟨_, rfl⟩
  have HLT : Aside0 (w.heap.size + 1 < base) := ⟨by rw [← hbase, HS0.out]; omega⟩
  have HBS := Aside0.mk hbase
  clear hW0 hE hN hout hcame hcr hcr2 hrun hrun2 her her2 hok hbase
  go_enter Try.func6, Try.ntmps6
  go_wp2_with fail
  rw [HW0.out]
  refine (made_yes n h1 h2 A cap l W0 (by omega) HE.out).mono ?_
  rintro e w1 ⟨g, V, v, rfl, hA, hO, hB⟩
  rw [HNM.out.1, HBS.out] at hA
  rw [HNM.out.2] at hO
  rw [HBS.out] at hB
  obtain ⟨Av, cv, rfl⟩ := own_slice hO
  have HA1 := Aside0.mk hA
  have HB1 := Aside0.mk hB
  clear hA hO hB HW0
  go_wp2_with fail
  refine (made_yes n h1 h2 A cap l w1 (by omega) (HE.out.below (by rw [HBS.out]; exact HB1.out))).mono ?_
  rintro e w2 ⟨g2, V2, v2, rfl, hA, hO, hB⟩
  rw [HNM.out.1] at hA
  obtain ⟨Av2, cv2, rfl⟩ := own_slice hO
  have HD : Aside0 (Duo w2 base g g2 N (L0 N) (L0 N) V V2 [] [] [] [] [] [] (fun k => base ≤ k ∧ k < w1.heap.size) (fun k => w1.heap.size ≤ k ∧ k < w2.heap.size)) := ⟨HA1.out.below hB, hA.down HA1.out.size, HA1.out.in_, hA.in_, fun k hk => ⟨hk.1, Nat.lt_of_lt_of_le hk.2 hB.size⟩, fun k hk => ⟨Nat.le_trans HA1.out.size hk.1, hk.2⟩, fun k hx hy => Nat.not_lt_of_le hy.1 hx.2⟩
  have HB2 := Aside0.mk (below_then HB1.out HA1.out.size hB)
  clear hA hO hB HA1 HB1 HNM HE
  obtain ⟨X, hX⟩ : ∃ X : Nat → Prop, (fun k => base ≤ k ∧ k < w1.heap.size) = X := ⟨_, rfl⟩
  obtain ⟨Y, hY⟩ : ∃ Y : Nat → Prop, (fun k => w1.heap.size ≤ k ∧ k < w2.heap.size) = Y := ⟨_, rfl⟩
  rw [hX, hY] at HD
  clear hX hY
  have HP2 := Aside0.mk (HP0.out.below HB2.out HLT.out)
  obtain ⟨c0, c1, c2, c3⟩ := HP2.out
  go_wp2_with fail
  clear c0 c1 c2 c3
  refine (HRUN.out w2 base g (L0 N) V [] [] [] HD.out.x _ HD.out.fresh (fresh_up _ _)).mono ?_
  rintro e w3 ⟨V3, rank3, next3, rfl, hA3, hI3, hK3⟩
  have HD3 := Aside0.mk (HD.out.step hK3 hA3 hI3)
  have HB3 := Aside0.mk (HB2.out.trans (HD.out.low hK3))
  obtain ⟨X3, hX⟩ : ∃ X3, After X base w2 w3 = X3 := ⟨_, rfl⟩
  rw [hX] at HD3
  clear hA3 hI3 hK3 HD HB2 HP2 hX
  obtain ⟨c0, c1, c2, c3⟩ := HP0.out.below HB3.out HLT.out
  go_wp2_with fail
  clear c0 c1 c2 c3
  refine (HRUN2.out w3 base g2 (L0 N) V2 [] [] [] HD3.out.y _ HD3.out.sym.fresh (fresh_up _ _)).mono ?_
  rintro e w4 ⟨V4, rank4, next4, rfl, hA4, hI4, hK4⟩
  have HD4 := Aside0.mk (HD3.out.sym.step hK4 hA4 hI4).sym
  have HB4 := Aside0.mk (HB3.out.trans (HD3.out.sym.low hK4))
  obtain ⟨Y4, hY⟩ : ∃ Y4, After Y base w3 w4 = Y4 := ⟨_, rfl⟩
  rw [hY] at HD4
  clear hA4 hI4 hK4 HD3 HB3 hY
  cases ok2 with
  | true =>
    go_wp2_with fail
    refine (cut_calls HD4.out.y (by simp only [if_true]; rw [HCR2.out]; omega)).mono ?_
    rintro e w5 ⟨vc, rfl, ho5, hb5⟩
    have HD5 := Aside0.mk (HD4.out.below hb5)
    have HB5 := Aside0.mk (below_then HB4.out HD4.out.x.size hb5)
    simp only [if_true] at ho5
    rw [HCR2.out] at ho5
    obtain ⟨Ac, cc, rfl⟩ := own_slice ho5
    clear ho5 hb5 HD4 HB4
    go_wp2_with fail
    refine (clear_calls HC.out.ok HD5.out.y HD5.out.sym.fresh).mono ?_
    rintro e w6 ⟨rfl, hA6, hK6⟩
    have HD6 := Aside0.mk (HD5.out.sym.step hK6 hA6 HD5.out.sym.fresh.putC).sym
    have HB6 := Aside0.mk (HB5.out.trans (HD5.out.sym.low hK6))
    obtain ⟨Y6, hY⟩ : ∃ Y6, After Y4 base w5 w6 = Y6 := ⟨_, rfl⟩
    rw [hY] at HD6
    obtain ⟨V6, hV⟩ : ∃ V6, { V4 with vc := Value.slice none 0 0 } = V6 := ⟨_, rfl⟩
    rw [hV] at HD6
    clear hA6 hK6 HD5 HB5 hY hV
    go_wp2_with fail
    refine (cut_calls HD6.out.y (by simp)).mono ?_
    rintro e w7 ⟨vc7, rfl, ho7, hb7⟩
    have HD7 := Aside0.mk (HD6.out.below hb7)
    have HB7 := Aside0.mk (below_then HB6.out HD6.out.x.size hb7)
    obtain ⟨Ac7, cc7, rfl⟩ := own_slice ho7
    clear ho7 hb7 HD6 HB6
    go_wp2
    go_loopg [17] out.length (fun gq i wx => ∃ k : Nat, Aside0 (k + gq = out.length) ∧ i = .int .i64 k ∧ Aside0 (wx = w7))
    case atStart => exact ⟨0, ⟨by omega⟩, rfl, ⟨rfl⟩⟩
    case round =>
      obtain ⟨k, HK, rfl, HWX⟩ := hrel
      have hwx := HWX.out
      subst hwx
      clear HWX
      have hol : out.length ≤ 5000 := by rw [HC.out.len]; exact HC.out.ok.few
      have HOL := Aside0.mk hol
      clear hol
      by_cases hlt : k < out.length
      · have hwi := wrap_succ (n := out.length) (by have := HOL.out; omega) hlt
        go_wp2_with fail
        refine (flow_calls HC.out.ok HD7.out.y (k : Int)).mono ?_
        rintro e wq ⟨rfl, hw⟩
        have hw' := hw.symm
        subst hw'
        have hf0 : flowF N (L0 N) (k : Int) = 0 := by
          unfold flowF
          split
          · rfl
          · unfold L0; rw [if_neg (by omega)]
        rw [hf0]
        clear hw hf0
        go_wp2
        go_roundg (gk - 1)
        case measure => exact pred_lt HK hlt
        case rel => exact ⟨k + 1, next_eq HK hlt, by first | rfl | go_num, ⟨rfl⟩⟩
      · obtain rfl : k = out.length := by have := HK.out; omega
        clear HK hlt
        obtain ⟨c0, c1, c2, c3⟩ := HP0.out.below HB7.out HLT.out
        go_wp2_with fail
        clear c0 c1 c2 c3
        refine (HRUN.out wr base g2 (L0 N) V6 [] rank4 next4 HD7.out.y _ HD7.out.sym.fresh (fresh_up _ _)).mono ?_
        rintro e w8 ⟨V8, rank8, next8, rfl, hA8, hI8, hK8⟩
        have HD8 := Aside0.mk (HD7.out.sym.step hK8 hA8 hI8).sym
        have HB8 := Aside0.mk (HB7.out.trans (HD7.out.sym.low hK8))
        obtain ⟨Y8, hY⟩ : ∃ Y8, After Y6 base wr w8 = Y8 := ⟨_, rfl⟩
        rw [hY] at HD8
        obtain ⟨LL, hLL⟩ : ∃ LL, (if ok then Lr else L0 N) = LL := ⟨_, rfl⟩
        obtain ⟨cc, hcc⟩ : ∃ cc, (if ok then cr else []) = cc := ⟨_, rfl⟩
        have HCL : Aside0 (cc.length ≤ 1000) := ⟨by
          rw [← hcc]
          cases ok
          · simp
          · simp only [if_true]; rw [HCR.out]; omega⟩
        rw [hLL, hcc] at HD8
        clear hA8 hI8 hK8 HD7 HB7 hY hLL hcc
        have e1 : (sz != sz) = false := by simp
        have e2 : (er != er) = false := by simp
        go_wp2_with fail
        refine (cut_calls HD8.out.x HCL.out).mono ?_
        rintro e w9 ⟨vc9, rfl, ho9, hb9⟩
        have HD9 := Aside0.mk (HD8.out.below hb9)
        have HB9 := Aside0.mk (below_then HB8.out HD8.out.x.size hb9)
        obtain ⟨Ac9, cc9, rfl⟩ := own_slice ho9
        clear ho9 hb9 HD8 HB8
        go_wp2_with fail
        refine (cut_calls HD9.out.y HCL.out).mono ?_
        rintro e w10 ⟨vc10, rfl, ho10, hb10⟩
        have HD10 := Aside0.mk (HD9.out.below hb10)
        have HB10 := Aside0.mk (below_then HB9.out HD9.out.x.size hb10)
        obtain ⟨Ac10, cc10, rfl⟩ := own_slice ho10
        clear ho10 hb10 HD9 HB9
        have e3 : ((cc.length : Int) != (cc.length : Int)) = false := by simp
        have h6 : twoE N.n (-1) 0 = 6 := by unfold twoE; rw [if_pos (by omega)]
        have H6 := Aside0.mk h6
        clear h6
        go_wp2_with fail
        refine (run_no HC.out.ok HD10.out.x (-1) 0 (by rw [H6.out]; decide)).mono ?_
        rintro e wq ⟨rfl, hw⟩
        have hw' := hw.symm
        subst hw'
        clear hw
        rw [H6.out]
        go_wp2_with fail
        refine (cut_calls HD10.out.x HCL.out).mono ?_
        rintro e w11 ⟨vc11, rfl, ho11, hb11⟩
        have HD11 := Aside0.mk (HD10.out.below hb11)
        have HB11 := Aside0.mk (below_then HB10.out HD10.out.x.size hb11)
        obtain ⟨Ac11, cc11, rfl⟩ := own_slice ho11
        clear ho11 hb11 HD10 HB10
        go_wp2_with fail
        refine (cut_calls HD11.out.y HCL.out).mono ?_
        rintro e w12 ⟨vc12, rfl, ho12, hb12⟩
        have HD12 := Aside0.mk (HD11.out.below hb12)
        have HB12 := Aside0.mk (below_then HB11.out HD11.out.x.size hb12)
        obtain ⟨Ac12, cc12, rfl⟩ := own_slice ho12
        clear ho12 hb12 HD11 HB11
        go_wp2
        go_loopg [22] out.length (fun gq i wx => ∃ k : Nat, Aside0 (k + gq = out.length) ∧ i = .int .i64 k ∧ Aside0 (wx = w12))
        case atStart => exact ⟨0, ⟨by omega⟩, rfl, ⟨rfl⟩⟩
        case round =>
          obtain ⟨k, HK, rfl, HWX⟩ := hrel
          have hwx := HWX.out
          subst hwx
          clear HWX
          by_cases hlt : k < out.length
          · have hwi := wrap_succ (n := out.length) (by have := HOL.out; omega) hlt
            go_wp2_with fail
            refine (flow_calls HC.out.ok HD12.out.x (k : Int)).mono ?_
            rintro e wq ⟨rfl, hw⟩
            have hw' := hw.symm
            subst hw'
            obtain ⟨fl, hfl⟩ : ∃ fl, flowF N LL (k : Int) = fl := ⟨_, rfl⟩
            have HFL := Aside0.mk hfl
            rw [hfl]
            clear hw hfl
            go_wp2_with fail
            refine (flow_calls HC.out.ok HD12.out.y (k : Int)).mono ?_
            rintro e wq ⟨rfl, hw⟩
            have hw' := hw.symm
            subst hw'
            rw [HFL.out]
            clear hw
            have e4 : (fl != fl) = false := by simp
            go_wp2
            go_roundg (gk - 1)
            case measure => exact pred_lt HK hlt
            case rel => exact ⟨k + 1, next_eq HK hlt, by first | rfl | go_num, ⟨rfl⟩⟩
          · obtain rfl : k = out.length := by have := HK.out; omega
            clear HK hlt
            go_wp2_with fail
            refine (heads_calls _).mono ?_
            rintro e w13 ⟨rfl, hb⟩
            have HB13 := Aside0.mk (below_then HB0.out HB0.out.size (below_then (show Below W0.heap.size W0 _ by rw [HBS.out]; exact HB12.out) (by rw [HBS.out]; exact HD12.out.x.size) hb))
            clear hb
            go_wp2
            go_ret
            exact ⟨rfl, HB13.out⟩
  | false =>
    have HD5 := HD4
    have HB5 := HB4
    clear HD4 HB4
    go_wp2_with fail
    refine (clear_calls HC.out.ok HD5.out.y HD5.out.sym.fresh).mono ?_
    rintro e w6 ⟨rfl, hA6, hK6⟩
    have HD6 := Aside0.mk (HD5.out.sym.step hK6 hA6 HD5.out.sym.fresh.putC).sym
    have HB6 := Aside0.mk (HB5.out.trans (HD5.out.sym.low hK6))
    obtain ⟨Y6, hY⟩ : ∃ Y6, After Y4 base w4 w6 = Y6 := ⟨_, rfl⟩
    rw [hY] at HD6
    obtain ⟨V6, hV⟩ : ∃ V6, { V4 with vc := Value.slice none 0 0 } = V6 := ⟨_, rfl⟩
    rw [hV] at HD6
    clear hA6 hK6 HD5 HB5 hY hV
    go_wp2_with fail
    refine (cut_calls HD6.out.y (by simp)).mono ?_
    rintro e w7 ⟨vc7, rfl, ho7, hb7⟩
    have HD7 := Aside0.mk (HD6.out.below hb7)
    have HB7 := Aside0.mk (below_then HB6.out HD6.out.x.size hb7)
    obtain ⟨Ac7, cc7, rfl⟩ := own_slice ho7
    clear ho7 hb7 HD6 HB6
    go_wp2
    go_loopg [17] out.length (fun gq i wx => ∃ k : Nat, Aside0 (k + gq = out.length) ∧ i = .int .i64 k ∧ Aside0 (wx = w7))
    case atStart => exact ⟨0, ⟨by omega⟩, rfl, ⟨rfl⟩⟩
    case round =>
      obtain ⟨k, HK, rfl, HWX⟩ := hrel
      have hwx := HWX.out
      subst hwx
      clear HWX
      have hol : out.length ≤ 5000 := by rw [HC.out.len]; exact HC.out.ok.few
      have HOL := Aside0.mk hol
      clear hol
      by_cases hlt : k < out.length
      · have hwi := wrap_succ (n := out.length) (by have := HOL.out; omega) hlt
        go_wp2_with fail
        refine (flow_calls HC.out.ok HD7.out.y (k : Int)).mono ?_
        rintro e wq ⟨rfl, hw⟩
        have hw' := hw.symm
        subst hw'
        have hf0 : flowF N (L0 N) (k : Int) = 0 := by
          unfold flowF
          split
          · rfl
          · unfold L0; rw [if_neg (by omega)]
        rw [hf0]
        clear hw hf0
        go_wp2
        go_roundg (gk - 1)
        case measure => exact pred_lt HK hlt
        case rel => exact ⟨k + 1, next_eq HK hlt, by first | rfl | go_num, ⟨rfl⟩⟩
      · obtain rfl : k = out.length := by have := HK.out; omega
        clear HK hlt
        obtain ⟨c0, c1, c2, c3⟩ := HP0.out.below HB7.out HLT.out
        go_wp2_with fail
        clear c0 c1 c2 c3
        refine (HRUN.out wr base g2 (L0 N) V6 [] rank4 next4 HD7.out.y _ HD7.out.sym.fresh (fresh_up _ _)).mono ?_
        rintro e w8 ⟨V8, rank8, next8, rfl, hA8, hI8, hK8⟩
        have HD8 := Aside0.mk (HD7.out.sym.step hK8 hA8 hI8).sym
        have HB8 := Aside0.mk (HB7.out.trans (HD7.out.sym.low hK8))
        obtain ⟨Y8, hY⟩ : ∃ Y8, After Y6 base wr w8 = Y8 := ⟨_, rfl⟩
        rw [hY] at HD8
        obtain ⟨LL, hLL⟩ : ∃ LL, (if ok then Lr else L0 N) = LL := ⟨_, rfl⟩
        obtain ⟨cc, hcc⟩ : ∃ cc, (if ok then cr else []) = cc := ⟨_, rfl⟩
        have HCL : Aside0 (cc.length ≤ 1000) := ⟨by
          rw [← hcc]
          cases ok
          · simp
          · simp only [if_true]; rw [HCR.out]; omega⟩
        rw [hLL, hcc] at HD8
        clear hA8 hI8 hK8 HD7 HB7 hY hLL hcc
        have e1 : (sz != sz) = false := by simp
        have e2 : (er != er) = false := by simp
        go_wp2_with fail
        refine (cut_calls HD8.out.x HCL.out).mono ?_
        rintro e w9 ⟨vc9, rfl, ho9, hb9⟩
        have HD9 := Aside0.mk (HD8.out.below hb9)
        have HB9 := Aside0.mk (below_then HB8.out HD8.out.x.size hb9)
        obtain ⟨Ac9, cc9, rfl⟩ := own_slice ho9
        clear ho9 hb9 HD8 HB8
        go_wp2_with fail
        refine (cut_calls HD9.out.y HCL.out).mono ?_
        rintro e w10 ⟨vc10, rfl, ho10, hb10⟩
        have HD10 := Aside0.mk (HD9.out.below hb10)
        have HB10 := Aside0.mk (below_then HB9.out HD9.out.x.size hb10)
        obtain ⟨Ac10, cc10, rfl⟩ := own_slice ho10
        clear ho10 hb10 HD9 HB9
        have e3 : ((cc.length : Int) != (cc.length : Int)) = false := by simp
        have h6 : twoE N.n (-1) 0 = 6 := by unfold twoE; rw [if_pos (by omega)]
        have H6 := Aside0.mk h6
        clear h6
        go_wp2_with fail
        refine (run_no HC.out.ok HD10.out.x (-1) 0 (by rw [H6.out]; decide)).mono ?_
        rintro e wq ⟨rfl, hw⟩
        have hw' := hw.symm
        subst hw'
        clear hw
        rw [H6.out]
        go_wp2_with fail
        refine (cut_calls HD10.out.x HCL.out).mono ?_
        rintro e w11 ⟨vc11, rfl, ho11, hb11⟩
        have HD11 := Aside0.mk (HD10.out.below hb11)
        have HB11 := Aside0.mk (below_then HB10.out HD10.out.x.size hb11)
        obtain ⟨Ac11, cc11, rfl⟩ := own_slice ho11
        clear ho11 hb11 HD10 HB10
        go_wp2_with fail
        refine (cut_calls HD11.out.y HCL.out).mono ?_
        rintro e w12 ⟨vc12, rfl, ho12, hb12⟩
        have HD12 := Aside0.mk (HD11.out.below hb12)
        have HB12 := Aside0.mk (below_then HB11.out HD11.out.x.size hb12)
        obtain ⟨Ac12, cc12, rfl⟩ := own_slice ho12
        clear ho12 hb12 HD11 HB11
        go_wp2
        go_loopg [22] out.length (fun gq i wx => ∃ k : Nat, Aside0 (k + gq = out.length) ∧ i = .int .i64 k ∧ Aside0 (wx = w12))
        case atStart => exact ⟨0, ⟨by omega⟩, rfl, ⟨rfl⟩⟩
        case round =>
          obtain ⟨k, HK, rfl, HWX⟩ := hrel
          have hwx := HWX.out
          subst hwx
          clear HWX
          by_cases hlt : k < out.length
          · have hwi := wrap_succ (n := out.length) (by have := HOL.out; omega) hlt
            go_wp2_with fail
            refine (flow_calls HC.out.ok HD12.out.x (k : Int)).mono ?_
            rintro e wq ⟨rfl, hw⟩
            have hw' := hw.symm
            subst hw'
            obtain ⟨fl, hfl⟩ : ∃ fl, flowF N LL (k : Int) = fl := ⟨_, rfl⟩
            have HFL := Aside0.mk hfl
            rw [hfl]
            clear hw hfl
            go_wp2_with fail
            refine (flow_calls HC.out.ok HD12.out.y (k : Int)).mono ?_
            rintro e wq ⟨rfl, hw⟩
            have hw' := hw.symm
            subst hw'
            rw [HFL.out]
            clear hw
            have e4 : (fl != fl) = false := by simp
            go_wp2
            go_roundg (gk - 1)
            case measure => exact pred_lt HK hlt
            case rel => exact ⟨k + 1, next_eq HK hlt, by first | rfl | go_num, ⟨rfl⟩⟩
          · obtain rfl : k = out.length := by have := HK.out; omega
            clear HK hlt
            go_wp2_with fail
            refine (heads_calls _).mono ?_
            rintro e w13 ⟨rfl, hb⟩
            have HB13 := Aside0.mk (below_then HB0.out HB0.out.size (below_then (show Below W0.heap.size W0 _ by rw [HBS.out]; exact HB12.out) (by rw [HBS.out]; exact HD12.out.x.size) hb))
            clear hb
            go_wp2
            go_ret
            exact ⟨rfl, HB13.out⟩
/-- The walk for every input. -/
theorem again_walk (a0 : Int) (a1 : Option Addr) (len1 cap1 : Nat) (z1 : List E3) (a2 b2 a3 b3 : Int) (w : World) (w0 : (Lit.int .i64 a0).wf = true) (w1 : z1.length = len1 ∧ len1 ≤ 9223372036854775807 ∧ EdgesIn w a1 z1) :
    Calls Try.prog 6 #[.int .i64 a0, .slice a1 len1 cap1, .agg #[.int .i64 a2, .int .i64 b2], .agg #[.int .i64 a3, .int .i64 b3]] w fun e w' => e = .returned (.bool true) ∧ Below w.heap.size w w' := by
  obtain ⟨rfl, hlen, hE⟩ := w1
  by_cases h : a0 < 1 ∨ 60 < a0
  · exact again_no a0 a1 _ cap1 a2 b2 a3 b3 w h
  · obtain ⟨n, rfl⟩ := Int.eq_ofNat_of_zero_le (show 0 ≤ a0 by omega)
    by_cases h80 : 80 < z1.length
    · exact again_many n (by omega) (by omega) a1 cap1 z1 a2 b2 a3 b3 w hlen h80 hE
    · exact again_yes n (by omega) (by omega) a1 cap1 z1 a2 b2 a3 b3 w (by omega) hE
end Go.Proofs.Ytffghdbhjjfnlaa.F
end
