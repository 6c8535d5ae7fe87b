/-
  Put together by slim.py of this session out of the session's own texts (YtffghdbhjjfnlaaLawFlowMore and what it reaches): declarations that nothing kept names are left out. Conditions: none beyond those of the law's row.
-/
import Derived.Test.YtffghdbhjjfnlaaJM4
import Derived.Test.YtffghdbhjjfnlaaJM3
import Derived.Test.YtffghdbhjjfnlaaJM0
import Derived.Test.YtffghdbhjjfnlaaJM1
import Derived.Test.YtffghdbhjjfnlaaJM2
section
/-
  The laws' helper: made.
-/
namespace Go.Proofs.Ytffghdbhjjfnlaa.F
open Go.RowKit Go.Proofs.YtffghdbhjjfnlaaW.PrintWords Go.Proofs.YtffghdbhjjfnlaaW.PrintLast Go.Proofs.YtffghdbhjjfnlaaW.PrintMore
set_option linter.unusedVariables false
set_option linter.unusedSimpArgs false
/-! ### edges as they are given -/
abbrev E3 := Int × Int × Int
def eAt (l : List E3) (i : Nat) : E3 := l.getD i (0, 0, 0)
def EdgesIn (w : World) (A : Option Addr) (l : List E3) : Prop := ∀ i, i < l.length → ∃ ad, A = some ad ∧ w.cell? (ad.add (i * 3)) = some (.int .i64 (eAt l i).1) ∧ w.cell? ⟨(ad.add (i * 3)).block, (ad.add (i * 3)).off + 1, none⟩ = some (.int .i64 (eAt l i).2.1) ∧ w.cell? ⟨(ad.add (i * 3)).block, (ad.add (i * 3)).off + 2, none⟩ = some (.int .i64 (eAt l i).2.2)
theorem cell_kept {w w' : World} {a : Addr} {v : Value} (h : w.cell? a = some v) (hb : w'.heap[a.block]? = w.heap[a.block]?) : w'.cell? a = some v := by
  unfold World.cell? at h ⊢
  rw [hb]; exact h
theorem cell_in {w : World} {a : Addr} {v : Value} (h : w.cell? a = some v) : a.block < w.heap.size := by
  unfold World.cell? at h
  rcases Nat.lt_or_ge a.block w.heap.size with c | c
  · exact c
  · rw [Array.getElem?_eq_none c] at h; cases h
theorem EdgesIn.kept {w w' : World} {A : Option Addr} {l : List E3} (h : EdgesIn w A l) (hb : ∀ k, k < w.heap.size → (∀ ad, A = some ad → k = ad.block → w'.heap[k]? = w.heap[k]?)) : EdgesIn w' A l := fun i hi => by
  obtain ⟨ad, rfl, h1, h2, h3⟩ := h i hi
  have hl := cell_in h1
  have e : (ad.add (i * 3)).block = ad.block := by unfold Addr.add; split <;> rfl
  have hk := hb _ hl ad rfl e
  exact ⟨ad, rfl, cell_kept h1 hk, cell_kept h2 hk, cell_kept h3 hk⟩
theorem EdgesIn.below {w w' : World} {A : Option Addr} {l : List E3} (h : EdgesIn w A l) (hb : Below w.heap.size w w') : EdgesIn w' A l := h.kept fun k hk _ _ _ => hb.block k hk
/-- The cells of a row of edges. -/
def eCells (l : List E3) : List Value := l.flatMap fun e => [.int .i64 e.1, .int .i64 e.2.1, .int .i64 e.2.2]
theorem eCells_app (l : List E3) (e : E3) : eCells (l ++ [e]) = eCells l ++ [.int .i64 e.1, .int .i64 e.2.1, .int .i64 e.2.2] := by simp [eCells]
/-! ### the net of some edges -/
def accN (N : Net) (e : E3) : Net := if edgeE N e.1 e.2.1 e.2.2 = 0 then N.add e.1.toNat e.2.1.toNat e.2.2 else N
def acc (x : Net × List E3) (e : E3) : Net × List E3 := (accN x.1 e, if edgeE x.1 e.1 e.2.1 e.2.2 = 0 then x.2 ++ [e] else x.2)
def madeOf (n : Nat) (l : List E3) : Net × List E3 := l.foldl acc (Net.none n, [])
def edgeA (N : Net) (e : E3) : Int := if edgeE N e.1 e.2.1 e.2.2 = 0 then N.m else 0
theorem edge_zero {N : Net} {f t c : Int} (h : edgeE N f t c = 0) : (0 ≤ f ∧ f < (N.n : Int)) ∧ (0 ≤ t ∧ t < (N.n : Int)) ∧ f ≠ t ∧ 0 ≤ c ∧ c ≤ 1000000 ∧ N.m < 5000 := by
  unfold edgeE twoE at h
  by_cases c1 : (f < 0 ∨ f ≥ (N.n : Int)) ∨ (t < 0 ∨ t ≥ (N.n : Int))
  · rw [if_pos c1] at h; simp at h
  · rw [if_neg c1] at h
    by_cases c2 : f = t
    · rw [if_pos c2] at h; simp at h
    · rw [if_neg c2] at h
      simp only [ne_eq, not_true_eq_false, if_false] at h
      by_cases c3 : c < 0 ∨ c > 1000000
      · rw [if_pos c3] at h; simp at h
      · rw [if_neg c3] at h
        by_cases c4 : N.m ≥ 5000
        · rw [if_pos c4] at h; simp at h
        · omega
theorem accN_n (N : Net) (e : E3) : (accN N e).n = N.n := by unfold accN; split <;> rfl
theorem accN_ok {N : Net} (h : N.Ok) (e : E3) : (accN N e).Ok := by
  unfold accN
  by_cases c : edgeE N e.1 e.2.1 e.2.2 = 0
  · rw [if_pos c]
    have := edge_zero c
    exact add_ok h (by omega) (by omega) (by omega) this.2.2.2.1 this.2.2.2.2.1 this.2.2.2.2.2
  · rw [if_neg c]; exact h
/-- What came in lies as the net says. -/
structure Came (n : Nat) (N : Net) (out : List E3) : Prop where
  ok : N.Ok
  nn : N.n = n
  len : out.length = N.m
  at_ : ∀ e, e < N.m → eAt out e = ((N.fr e : Int), (N.to e : Int), N.mo e)
theorem came_acc {n : Nat} {N : Net} {out : List E3} (h : Came n N out) (e : E3) : Came n (acc (N, out) e).1 (acc (N, out) e).2 := by
  unfold acc
  refine ⟨accN_ok h.ok e, (accN_n N e).trans h.nn, ?_, fun q hq => ?_⟩
  · unfold accN
    by_cases c : edgeE N e.1 e.2.1 e.2.2 = 0
    · simp only [if_pos c]; simp [Net.add, h.len]
    · simp only [if_neg c]; exact h.len
  · by_cases c : edgeE N e.1 e.2.1 e.2.2 = 0
    · simp only [accN, if_pos c] at hq ⊢
      have hz := edge_zero c
      replace hq : q < N.m + 1 := hq
      show eAt (out ++ [e]) q = (((if q = N.m then e.1.toNat else N.fr q : Nat) : Int), ((if q = N.m then e.2.1.toNat else N.to q : Nat) : Int), if q = N.m then e.2.2 else N.mo q)
      by_cases cq : q = N.m
      · rw [if_pos cq, if_pos cq, if_pos cq]
        have : eAt (out ++ [e]) q = e := by unfold eAt; rw [cq, ← h.len]; simp [List.getD_eq_getElem?_getD]
        rw [this]
        obtain ⟨a, b, d⟩ := e
        simp only at hz ⊢
        rw [Int.toNat_of_nonneg hz.1.1, Int.toNat_of_nonneg hz.2.1.1]
      · rw [if_neg cq, if_neg cq, if_neg cq, ← h.at_ q (by omega)]
        unfold eAt
        have hl := h.len
        simp only [List.getD_eq_getElem?_getD]
        rw [List.getElem?_append_left (by omega)]
    · simp only [accN, if_neg c] at hq ⊢
      exact h.at_ q hq
theorem came_fold {n : Nat} : ∀ (l : List E3) (x : Net × List E3), Came n x.1 x.2 → Came n (l.foldl acc x).1 (l.foldl acc x).2
  | [], x, h => h
  | e :: l, x, h => came_fold l (acc x e) (came_acc h e)
theorem came_made {n : Nat} (h1 : 1 ≤ n) (h2 : n ≤ 1000) (l : List E3) : Came n (madeOf n l).1 (madeOf n l).2 :=
  came_fold l _ ⟨none_ok h1 h2, rfl, rfl, fun e he => absurd he (Nat.not_lt_zero e)⟩
theorem made_take {n : Nat} {l : List E3} {k : Nat} (h : k < l.length) : madeOf n (l.take (k + 1)) = acc (madeOf n (l.take k)) (eAt l k) := by
  unfold madeOf
  rw [List.take_succ_eq_append_getElem h, List.foldl_append]
  have : eAt l k = l[k] := by unfold eAt; rw [List.getD_eq_getElem?_getD, List.getElem?_eq_getElem h]; rfl
  rw [this]; rfl
/-- An edge: put in, or not. -/
theorem edge_calls {N : Net} (hN : N.Ok) {w : World} {base g : Nat} {V : Vs} {rank next : List Int} (hA : NetAt w base g N (L0 N) V [] rank next) (e : E3) {S : Nat → Prop} (hI : NetIn S g V) (hU : ∀ k, w.heap.size ≤ k → S k) :
    Calls Try.prog 18 #[.pointer (some ⟨g, 0, none⟩), .int .i64 e.1, .int .i64 e.2.1, .int .i64 e.2.2] w fun r w' => ∃ V', r = .returned (.tuple #[.int .i64 (edgeA N e), .int .i64 (edgeE N e.1 e.2.1 e.2.2)]) ∧ NetAt w' base g (accN N e) (L0 (accN N e)) V' [] rank next ∧ NetIn S g V' ∧ Kept S w w' := by
  by_cases c : edgeE N e.1 e.2.1 e.2.2 = 0
  · obtain ⟨a, b, d⟩ := e
    simp only at c ⊢
    have hz := edge_zero c
    obtain ⟨f, rfl⟩ := Int.eq_ofNat_of_zero_le hz.1.1
    obtain ⟨t, rfl⟩ := Int.eq_ofNat_of_zero_le hz.2.1.1
    refine (edge_yes hN hA (f := f) (t := t) (c := d) (by omega) (by omega) (by omega) hz.2.2.2.1 hz.2.2.2.2.1 hz.2.2.2.2.2 hI hU).mono ?_
    rintro r w' ⟨V', rfl, h1, h2, h3⟩
    have ea : accN N ((f : Int), (t : Int), d) = N.add f t d := by unfold accN; rw [if_pos c]; simp
    refine ⟨V', by unfold edgeA; rw [if_pos c, c], ?_, h2, h3⟩
    rw [ea]
    refine h1.sameL fun k hk => ?_
    replace hk : k < 2 * (N.m + 1) := hk
    show (if k = 2 * N.m then d else if k = 2 * N.m + 1 then 0 else L0 N k) = (if k % 2 = 0 then (if k / 2 = N.m then d else N.mo (k / 2)) else 0)
    by_cases c1 : k = 2 * N.m
    · rw [if_pos c1, if_pos (by omega), if_pos (by omega)]
    · rw [if_neg c1]
      by_cases c2 : k = 2 * N.m + 1
      · rw [if_pos c2, if_neg (by omega)]
      · rw [if_neg c2]
        unfold L0
        by_cases c3 : k % 2 = 0
        · rw [if_pos c3, if_pos c3, if_neg (by omega)]
        · rw [if_neg c3, if_neg c3]
  · refine (edge_no hN hA e.1 e.2.1 e.2.2 c).mono ?_
    rintro r w' ⟨rfl, rfl⟩
    have ea : accN N e = N := by unfold accN; rw [if_neg c]
    rw [ea]
    exact ⟨V, by unfold edgeA; rw [if_neg c], hA, hI, Kept.refl _ _⟩
theorem info35 : (Try.prog.info? 35).map (fun i => (i.zero, i.size, i.bytes)) = some (some (.agg #[.int .i64 0, .int .i64 0, .int .i64 0]), 3, 24) := by kernel_rfl
set_option maxRecDepth 100000 in
theorem made_no (n : Int) (A : Option Addr) (len cap : Nat) (w : World) (h : n < 1 ∨ 60 < n) :
    Calls Try.prog 9 #[.int .i64 n, .slice A len cap] w fun e w' => e = .returned (.tuple #[.pointer none, .slice none 0 0]) ∧ w' = w := by
  by_cases h1 : n < 1
  · have d1 : decide (n < 1) = true := decide_eq_true h1
    clear h h1
    go_enter Try.func9, Try.ntmps9
    go_wp2
    go_ret2
    exact ⟨rfl, rfl⟩
  · have d1 : decide (n < 1) = false := decide_eq_false h1
    have d3 : decide (n > 60) = true := decide_eq_true (by omega)
    clear h h1
    go_enter Try.func9, Try.ntmps9
    go_wp2
    go_ret2
    exact ⟨rfl, rfl⟩
set_option maxRecDepth 100000 in
set_option maxHeartbeats 4000000 in
theorem made_yes (n : Nat) (h1 : 1 ≤ n) (h2 : n ≤ 60) (A : Option Addr) (cap : Nat) (l : List E3) (w : World) (hl : l.length ≤ 9223372036854775807) (hE : EdgesIn w A l) :
    Calls Try.prog 9 #[.int .i64 n, .slice A l.length cap] w fun e w' => ∃ g V v, e = .returned (.tuple #[.pointer (some ⟨g, 0, none⟩), v]) ∧ NetAt w' w.heap.size g (madeOf n l).1 (L0 (madeOf n l).1) V [] [] [] ∧ w'.ownsRow w.heap.size 35 3 v (madeOf n l).2.length (eCells (madeOf n l).2) ∧ Below w.heap.size w w' := by
  have HE := Aside0.mk hE
  have d1 : decide ((n : Int) < 1) = false := decide_eq_false (by omega)
  have d2 : decide ((n : Int) > 60) = false := decide_eq_false (by omega)
  obtain ⟨base, hbase⟩ : ∃ b, w.heap.size = b := ⟨_, rfl⟩
  have HBS := Aside0.mk hbase
  simp only [hbase]
  clear hE
  go_enter Try.func9, Try.ntmps9
  go_wp2_with fail
  refine (new_yes n h1 (by omega) (L0 (Net.none n)) w).mono ?_
  rintro e w1 ⟨g, V0, rfl, hA1, hB1⟩
  rw [hbase] at hA1 hB1
  have HA1 := Aside0.mk hA1
  have HB1 := Aside0.mk hB1
  clear hA1 hB1 hbase
  go_wp2
  go_loopg [7, 8] l.length (fun q v i wr => ∃ (k : Nat) (V : Vs), Aside0 (k + q = l.length) ∧ i = .int .i64 k ∧ Aside0 (NetAt wr base g (madeOf n (l.take k)).1 (L0 (madeOf n (l.take k)).1) V [] [] []) ∧ Aside0 (wr.ownsRow base 35 3 v (madeOf n (l.take k)).2.length (eCells (madeOf n (l.take k)).2)) ∧ Aside0 (Below base w wr))
  case atStart => exact ⟨0, V0, ⟨by omega⟩, rfl, by rw [List.take_zero]; exact HA1, ⟨by rw [List.take_zero]; exact own_nil _ _ _ _⟩, HB1⟩
  case round =>
    clear HA1 HB1
    obtain ⟨k, V, HK, rfl, HA, HO, HB⟩ := hrel
    by_cases hlt : k < l.length
    · obtain ⟨ad, rfl, hx1, hx2, hx3⟩ := (HE.out.below (w' := wr) (by rw [HBS.out]; exact HB.out)) k hlt
      have hcame := came_made h1 (by omega) (l.take k)
      have hstep := made_take (n := n) hlt
      obtain ⟨e, he⟩ : ∃ e, eAt l k = e := ⟨_, rfl⟩
      rw [he] at hx1 hx2 hx3 hstep
      obtain ⟨x, hx⟩ : ∃ x, madeOf n (l.take k) = x := ⟨_, rfl⟩
      rw [hx] at HA HO hcame hstep
      obtain ⟨N, out⟩ := x
      have HA : Aside0 (NetAt wr base g N (L0 N) V [] [] []) := HA
      have HCM : Aside0 (Came n N out) := ⟨hcame⟩
      have hst : madeOf n (l.take (k + 1)) = (accN N e, if edgeE N e.1 e.2.1 e.2.2 = 0 then out ++ [e] else out) := hstep
      have HST := Aside0.mk hst
      replace HO : Aside0 (wr.ownsRow base 35 3 _ out.length (eCells out)) := HO
      obtain ⟨Av, cv, hv⟩ := own_slice HO.out
      subst hv
      clear hcame hstep he hx hst
      -- what the edge may write
      obtain ⟨S, hS⟩ : ∃ S : Nat → Prop, S = fun q => base ≤ q ∧ (Value.slice Av out.length cv).ownBlock ≠ some q := ⟨_, rfl⟩
      have hI : NetIn S g V := by
        have key : ∀ {e : TypeId} {size m : Nat} {u : Value} {xs : List Value}, wr.ownsRow base e size u m xs → e ≠ 35 → ∀ q, u.ownBlock = some q → S q := fun hu hne q hq => by
          rw [hS]; exact ⟨own_base hu q hq, own_apart2 hu HO.out hne q hq⟩
        refine ⟨by rw [hS]; exact ⟨HA.out.gb, own_apart HO.out HA.out.head (by decide)⟩, key HA.out.out (by decide), key HA.out.arcs (by decide), key HA.out.most (by decide), key HA.out.cut_ (by decide), key HA.out.rank_ (by decide), key HA.out.next_ (by decide), fun a q hq => ?_⟩
        by_cases ha : a < N.n
        · exact key (HA.out.inn a ha) (by decide) q hq
        · have hl := HA.out.out.1
          rw [List.getD_eq_getElem?_getD, List.getElem?_eq_none (by omega)] at hq
          cases hq
      have hU : ∀ q, wr.heap.size ≤ q → S q := fun q hq => by
        rw [hS]
        exact ⟨Nat.le_trans HA.out.size hq, fun h => by have := own_lt HO.out q h; omega⟩
      have HI := Aside0.mk hI
      have HU := Aside0.mk hU
      have HS := Aside0.mk hS
      clear hI hU hS
      have hlow : ad.block < base := by
        have := cell_in ((HE.out k hlt).choose_spec.2.1)
        have e1 := (HE.out k hlt).choose_spec.1
        injection e1 with e1
        have e2 : (ad.add (k * 3)).block = ad.block := by unfold Addr.add; split <;> rfl
        rw [← e1, e2] at this
        rw [← HBS.out]; exact this
      have HLOW := Aside0.mk hlow
      obtain ⟨x1, x2, x3⟩ := e
      simp only at hx1 hx2 hx3
      have hwi := wrap_succ (n := l.length) (by omega) hlt
      clear hlow
      have HHZ : Aside0 (edgeE N x1 x2 x3 = 0 → (edgeE N x1 x2 x3 == 0) = true) := ⟨fun h => by simp [h]⟩
      obtain ⟨ee, hee⟩ : ∃ ee, edgeE N x1 x2 x3 = ee := ⟨_, rfl⟩
      obtain ⟨ea, hea⟩ : ∃ ea, edgeA N (x1, x2, x3) = ea := ⟨_, rfl⟩
      have HEE := Aside0.mk hee
      have HEA := Aside0.mk hea
      clear hee hea HHZ
      go_wp2_with fail
      refine start_ (n := 22) (S := (fun w' => w'.cell? (ad.add (k * 3)) = some (.int .i64 x1) ∧ w'.cell? ⟨(ad.add (k * 3)).block, (ad.add (k * 3)).off + 1, none⟩ = some (.int .i64 x2) ∧ w'.cell? ⟨(ad.add (k * 3)).block, (ad.add (k * 3)).off + 2, none⟩ = some (.int .i64 x3))) (ds := [16]) #[false, false, false, false, false, false, false, false, false, false, false, false, false, false, false, false, false, false, false, false, false, false] (by kernel_rfl) rfl rfl (⟨hx1, hx2, hx3⟩) (fun hHeld => ?_)
      refine pure_ (i := 0) (N := some 30) (v := ?_) (a' := ?_) #[true, false, false, false, false, false, false, false, false, false, false, false, false, false, false, false, false, false, false, false, false, false] rfl rfl (by kernel_rfl) (fun _ _ _ h => h) (Or.inl ⟨by rfl, ?_⟩) ?_ ?_
      rotate_left
      · intro w'
        go_simp
        with_reducible rfl
      rotate_left
      · simp only [Act.put, List.setIfInBounds_toArray, List.set_cons_zero, List.set_cons_succ, i64_w, i32_w]
        rfl
      refine pure_ (i := 1) (N := some 31) (v := ?_) (a' := ?_) #[true, true, false, false, false, false, false, false, false, false, false, false, false, false, false, false, false, false, false, false, false, false] rfl rfl (by kernel_rfl) (fun _ _ _ h => h) (Or.inl ⟨by rfl, ?_⟩) ?_ ?_
      rotate_left
      · intro w'
        go_simp
        with_reducible rfl
      rotate_left
      · simp only [Act.put, List.setIfInBounds_toArray, List.set_cons_zero, List.set_cons_succ, i64_w, i32_w]
        rfl
      refine pure_ (i := 2) (N := some 32) (v := ?_) (a' := ?_) #[true, true, true, false, false, false, false, false, false, false, false, false, false, false, false, false, false, false, false, false, false, false] rfl rfl (by kernel_rfl) (fun _ _ _ h => h) (Or.inl ⟨by rfl, ?_⟩) ?_ ?_
      rotate_left
      · intro w'
        go_simp
        with_reducible rfl
      rotate_left
      · simp only [Act.put, List.setIfInBounds_toArray, List.set_cons_zero, List.set_cons_succ, i64_w, i32_w]
        rfl
      refine pure_ (i := 3) (N := some 33) (v := ?_) (a' := ?_) #[true, true, true, true, false, false, false, false, false, false, false, false, false, false, false, false, false, false, false, false, false, false] rfl rfl (by kernel_rfl) (fun _ _ _ h => h) (Or.inl ⟨by rfl, ?_⟩) ?_ ?_
      rotate_left
      · intro w'
        go_simp
        with_reducible rfl
      rotate_left
      · simp only [Act.put, List.setIfInBounds_toArray, List.set_cons_zero, List.set_cons_succ, i64_w, i32_w]
        rfl
      refine pure_ (i := 4) (N := some 34) (v := ?_) (a' := ?_) #[true, true, true, true, true, false, false, false, false, false, false, false, false, false, false, false, false, false, false, false, false, false] rfl rfl (by kernel_rfl) (fun _ _ _ h => h) (Or.inl ⟨by rfl, ?_⟩) ?_ ?_
      rotate_left
      · intro w'
        go_simp
        with_reducible rfl
      rotate_left
      · simp only [Act.put, List.setIfInBounds_toArray, List.set_cons_zero, List.set_cons_succ, i64_w, i32_w]
        rfl
      refine take_ (i := 5) (N := some 35) (v := ?_) (a' := ?_) #[true, true, true, true, true, true, false, false, false, false, false, false, false, false, false, false, false, false, false, false, false, false] rfl rfl (by kernel_rfl) (fun _ _ _ h => h) (Or.inl ⟨by rfl, ?_⟩) hHeld ?_ ?_
      rotate_left
      · rintro w' ⟨s0, s1, s2⟩
        go_simp
        with_reducible rfl
      rotate_left
      · simp only [Act.put, List.setIfInBounds_toArray, List.set_cons_zero, List.set_cons_succ, i64_w, i32_w]
        rfl
      refine pure_ (i := 6) (N := some 36) (v := ?_) (a' := ?_) #[true, true, true, true, true, true, true, false, false, false, false, false, false, false, false, false, false, false, false, false, false, false] rfl rfl (by kernel_rfl) (fun _ _ _ h => h) (Or.inl ⟨by rfl, ?_⟩) ?_ ?_
      rotate_left
      · intro w'
        go_simp
        with_reducible rfl
      rotate_left
      · simp only [Act.put, List.setIfInBounds_toArray, List.set_cons_zero, List.set_cons_succ, i64_w, i32_w]
        rfl
      refine pure_ (i := 7) (N := some 37) (v := ?_) (a' := ?_) #[true, true, true, true, true, true, true, true, false, false, false, false, false, false, false, false, false, false, false, false, false, false] rfl rfl (by kernel_rfl) (fun _ _ _ h => h) (Or.inl ⟨by rfl, ?_⟩) ?_ ?_
      rotate_left
      · intro w'
        go_simp
        with_reducible rfl
      rotate_left
      · simp only [Act.put, List.setIfInBounds_toArray, List.set_cons_zero, List.set_cons_succ, i64_w, i32_w]
        rfl
      refine pure_ (i := 8) (N := some 38) (v := ?_) (a' := ?_) #[true, true, true, true, true, true, true, true, true, false, false, false, false, false, false, false, false, false, false, false, false, false] rfl rfl (by kernel_rfl) (fun _ _ _ h => h) (Or.inl ⟨by rfl, ?_⟩) ?_ ?_
      rotate_left
      · intro w'
        go_simp
        with_reducible rfl
      rotate_left
      · simp only [Act.put, List.setIfInBounds_toArray, List.set_cons_zero, List.set_cons_succ, i64_w, i32_w]
        rfl
      refine pure_ (i := 9) (N := some 39) (v := ?_) (a' := ?_) #[true, true, true, true, true, true, true, true, true, true, false, false, false, false, false, false, false, false, false, false, false, false] rfl rfl (by kernel_rfl) (fun _ _ _ h => h) (Or.inl ⟨by rfl, ?_⟩) ?_ ?_
      rotate_left
      · intro w'
        go_simp
        with_reducible rfl
      rotate_left
      · simp only [Act.put, List.setIfInBounds_toArray, List.set_cons_zero, List.set_cons_succ, i64_w, i32_w]
        rfl
      refine take_ (i := 10) (N := some 40) (v := ?_) (a' := ?_) #[true, true, true, true, true, true, true, true, true, true, true, false, false, false, false, false, false, false, false, false, false, false] rfl rfl (by kernel_rfl) (fun _ _ _ h => h) (Or.inl ⟨by rfl, ?_⟩) hHeld ?_ ?_
      rotate_left
      · rintro w' ⟨s0, s1, s2⟩
        go_simp
        with_reducible rfl
      rotate_left
      · simp only [Act.put, List.setIfInBounds_toArray, List.set_cons_zero, List.set_cons_succ, i64_w, i32_w]
        rfl
      refine pure_ (i := 11) (N := some 41) (v := ?_) (a' := ?_) #[true, true, true, true, true, true, true, true, true, true, true, true, false, false, false, false, false, false, false, false, false, false] rfl rfl (by kernel_rfl) (fun _ _ _ h => h) (Or.inl ⟨by rfl, ?_⟩) ?_ ?_
      rotate_left
      · intro w'
        go_simp
        with_reducible rfl
      rotate_left
      · simp only [Act.put, List.setIfInBounds_toArray, List.set_cons_zero, List.set_cons_succ, i64_w, i32_w]
        rfl
      refine pure_ (i := 12) (N := some 42) (v := ?_) (a' := ?_) #[true, true, true, true, true, true, true, true, true, true, true, true, true, false, false, false, false, false, false, false, false, false] rfl rfl (by kernel_rfl) (fun _ _ _ h => h) (Or.inl ⟨by rfl, ?_⟩) ?_ ?_
      rotate_left
      · intro w'
        go_simp
        with_reducible rfl
      rotate_left
      · simp only [Act.put, List.setIfInBounds_toArray, List.set_cons_zero, List.set_cons_succ, i64_w, i32_w]
        rfl
      refine pure_ (i := 13) (N := some 43) (v := ?_) (a' := ?_) #[true, true, true, true, true, true, true, true, true, true, true, true, true, true, false, false, false, false, false, false, false, false] rfl rfl (by kernel_rfl) (fun _ _ _ h => h) (Or.inl ⟨by rfl, ?_⟩) ?_ ?_
      rotate_left
      · intro w'
        go_simp
        with_reducible rfl
      rotate_left
      · simp only [Act.put, List.setIfInBounds_toArray, List.set_cons_zero, List.set_cons_succ, i64_w, i32_w]
        rfl
      refine pure_ (i := 14) (N := some 44) (v := ?_) (a' := ?_) #[true, true, true, true, true, true, true, true, true, true, true, true, true, true, true, false, false, false, false, false, false, false] rfl rfl (by kernel_rfl) (fun _ _ _ h => h) (Or.inl ⟨by rfl, ?_⟩) ?_ ?_
      rotate_left
      · intro w'
        go_simp
        with_reducible rfl
      rotate_left
      · simp only [Act.put, List.setIfInBounds_toArray, List.set_cons_zero, List.set_cons_succ, i64_w, i32_w]
        rfl
      refine take_ (i := 15) (N := some 45) (v := ?_) (a' := ?_) #[true, true, true, true, true, true, true, true, true, true, true, true, true, true, true, true, false, false, false, false, false, false] rfl rfl (by kernel_rfl) (fun _ _ _ h => h) (Or.inl ⟨by rfl, ?_⟩) hHeld ?_ ?_
      rotate_left
      · rintro w' ⟨s0, s1, s2⟩
        go_simp
        with_reducible rfl
      rotate_left
      · simp only [Act.put, List.setIfInBounds_toArray, List.set_cons_zero, List.set_cons_succ, i64_w, i32_w]
        rfl
      refine last_ (i := 16) (N := some 46) #[true, true, true, true, true, true, true, true, true, true, true, true, true, true, true, true, true, false, false, false, false, false] rfl rfl (by kernel_rfl) (by decide) (fun K hK => ?_)
      refine goes_ Try.func18 (by kernel_rfl) rfl #[.pointer (some ⟨g, 0, none⟩), .int .i64 x1, .int .i64 x2, .int .i64 x3] (by rfl) rfl rfl (by simp only [List.map_toArray, List.map_cons, List.map_nil]; rfl) ?_
      refine (edge_calls HCM.out.ok HA.out.drew (x1, x2, x3) HI.out HU.out).mono ?_
      rintro r w6 ⟨V6, rfl, hA6, hI6, hK6⟩
      have HA6 := Aside0.mk hA6
      have HI6 := Aside0.mk hI6
      have HK6 : Aside0 (Kept S wr w6) := ⟨(kept_drew (Kept.refl S wr)).trans hK6⟩
      clear hA6 hI6 hK6
      rw [HEA.out, HEE.out]
      refine ⟨_, rfl, ?_⟩
      refine hK.out _ _ ?_
      clear hK K
      refine pure_ (i := 17) (N := some 29) (v := ?_) (a' := ?_) #[true, true, true, true, true, true, true, true, true, true, true, true, true, true, true, true, true, true, false, false, false, false] rfl rfl (by kernel_rfl) (fun _ _ _ h => h) (Or.inl ⟨by rfl, ?_⟩) ?_ ?_
      rotate_left
      · intro w'
        go_simp
        with_reducible rfl
      rotate_left
      · simp only [Act.put, List.setIfInBounds_toArray, List.set_cons_zero, List.set_cons_succ, i64_w, i32_w]
        rfl
      refine pure_ (i := 18) (N := some 47) (v := ?_) (a' := ?_) #[true, true, true, true, true, true, true, true, true, true, true, true, true, true, true, true, true, true, true, false, false, false] rfl rfl (by kernel_rfl) (fun _ _ _ h => h) (Or.inl ⟨by rfl, ?_⟩) ?_ ?_
      rotate_left
      · intro w'
        go_simp
        with_reducible rfl
      rotate_left
      · simp only [Act.put, List.setIfInBounds_toArray, List.set_cons_zero, List.set_cons_succ, i64_w, i32_w]
        rfl
      refine pure_ (i := 19) (N := some 48) (v := ?_) (a' := ?_) #[true, true, true, true, true, true, true, true, true, true, true, true, true, true, true, true, true, true, true, true, false, false] rfl rfl (by kernel_rfl) (fun _ _ _ h => h) (Or.inl ⟨by rfl, ?_⟩) ?_ ?_
      rotate_left
      · intro w'
        go_simp
        with_reducible rfl
      rotate_left
      · simp only [Act.put, List.setIfInBounds_toArray, List.set_cons_zero, List.set_cons_succ, i64_w, i32_w]
        rfl
      refine pure_ (i := 20) (N := some 9) (v := ?_) (a' := ?_) #[true, true, true, true, true, true, true, true, true, true, true, true, true, true, true, true, true, true, true, true, true, false] rfl rfl (by kernel_rfl) (fun _ _ _ h => h) (Or.inl ⟨by rfl, ?_⟩) ?_ ?_
      rotate_left
      · intro w'
        go_simp
        with_reducible rfl
      rotate_left
      · simp only [Act.put, List.setIfInBounds_toArray, List.set_cons_zero, List.set_cons_succ, i64_w, i32_w]
        rfl
      refine pure_ (i := 21) (N := some 10) (v := ?_) (a' := ?_) #[true, true, true, true, true, true, true, true, true, true, true, true, true, true, true, true, true, true, true, true, true, true] rfl rfl (by kernel_rfl) (fun _ _ _ h => h) (Or.inl ⟨by rfl, ?_⟩) ?_ ?_
      rotate_left
      · intro w'
        go_simp
        with_reducible rfl
      rotate_left
      · simp only [Act.put, List.setIfInBounds_toArray, List.set_cons_zero, List.set_cons_succ, i64_w, i32_w]
        rfl
      refine done_ (by kernel_rfl) ?_
      skip
      have hb6 : w6.heap[(ad.add (k * 3)).block]? = wr.heap[(ad.add (k * 3)).block]? := HK6.out.block _ (by
        have e2 : (ad.add (k * 3)).block = ad.block := by unfold Addr.add; split <;> rfl
        rw [HS.out, e2]
        exact fun h => Nat.not_le_of_lt HLOW.out h.1)
      have hy1 := cell_kept (w' := w6) hx1 hb6
      have hy2 := cell_kept (w' := w6) hx2 hb6
      have hy3 := cell_kept (w' := w6) hx3 hb6
      have HB6 : Aside0 (Below base w w6) := ⟨⟨HK6.out.os.trans HB.out.os, HK6.out.tape.trans HB.out.tape, HK6.out.output.trans HB.out.output, Nat.le_trans HB.out.size HK6.out.size, fun q hq => (HK6.out.block q (by rw [HS.out]; exact fun h => Nat.not_le_of_lt hq h.1)).trans (HB.out.block q hq)⟩⟩
      have HO6 : Aside0 (w6.ownsRow base 35 3 (.slice Av out.length cv) out.length (eCells out)) := ⟨own_move HO.out fun q hq => HK6.out.block q (by rw [HS.out]; exact fun h => h.2 hq)⟩
      clear hb6 hx1 hx2 hx3 HB HO HA
      by_cases hz : ee = 0
      · have hzb : (ee == 0) = true := by simp [hz]
        subst hz
        have hol : out.length ≤ 5000 := by rw [HCM.out.len]; exact HCM.out.ok.few
        have hby : (out.length + 1) * 24 ≤ 140737488355328 := by omega
        have ho6 := HO6.out
        have hb6' := HB6.out
        have hs6 := hb6'.size
        rw [HBS.out] at hs6
        go_wp2_with (first
          | (at_builtin
             go_loud (refine print_append_cells (w0 := w) (W := w6) base rfl (.tmp 51) (.tmp 56) 22 35 (.agg #[.int .i64 0, .int .i64 0, .int .i64 0]) 3 24 rfl Try.underlying22 info35 rfl (by decide) (by decide) (.slice Av out.length cv) out.length (eCells out) [.int .i64 x1, .int .i64 x2, .int .i64 x3] rfl rfl rfl (fun u hu => by simp only [List.mem_cons, List.not_mem_nil, or_false] at hu; rcases hu with rfl | rfl | rfl <;> rfl) ho6 hb6' hs6 hby ?_)
             intro v7 w7 ho7 hb7 hg7 _
             have HO7 := Aside0.mk ho7
             have HB7 := Aside0.mk hb7
             have HG7 := Aside0.mk hg7
             clear ho7 hb7 hg7 ho6 hb6' hs6)
          | fail)
        have HA7 : Aside0 (NetAt w7 base g (accN N (x1, x2, x3)) (L0 (accN N (x1, x2, x3))) V6 [] [] []) := ⟨by
          have hne : ∀ q, S q → (Value.slice Av out.length cv).ownBlock ≠ some q := fun q hq => by rw [HS.out] at hq; exact hq.2
          have mv : ∀ q, q < w6.heap.size → S q → w7.heap[q]? = w6.heap[q]? := fun q hq hs => HG7.out.block q hq (fun e => hne q hs e.symm)
          have h := HA6.out
          have mvo : ∀ {e : TypeId} {size m : Nat} {u : Value} {xs : List Value}, w6.ownsRow base e size u m xs → (∀ q, u.ownBlock = some q → S q) → w7.ownsRow base e size u m xs := fun hu hs => own_move hu fun q hq => mv q (own_lt hu q hq) (hs q hq)
          have hi := HI6.out
          exact ⟨h.gb, (mv g (blk_lt h.head) hi.g).trans h.head, mvo h.out hi.vo, fun a ha => mvo (h.inn a ha) (hi.rows a), mvo h.arcs hi.va, mvo h.most hi.vm, mvo h.cut_ hi.vc, mvo h.rank_ hi.vr, mvo h.next_ hi.vn, h.apR, h.apM, h.apK, h.apN, h.apMK, h.apMN, h.apKN⟩⟩
        have HO8 : Aside0 (w7.ownsRow base 35 3 v7 (out ++ [(x1, x2, x3)]).length (eCells (out ++ [(x1, x2, x3)]))) := ⟨by
          rw [eCells_app, List.length_append]; exact HO7.out⟩
        go_wp2
        go_roundg (gk - 1)
        case measure => exact pred_lt HK hlt
        case rel => exact ⟨k + 1, V6, next_eq HK hlt, by first | rfl | go_num, by rw [HST.out]; exact HA7, by rw [HST.out, if_pos HEE.out]; exact HO8, HB7⟩
      · have hzb : (ee == 0) = false := by simp [hz]
        go_wp2
        go_roundg (gk - 1)
        case measure => exact pred_lt HK hlt
        case rel => exact ⟨k + 1, V6, next_eq HK hlt, by first | rfl | go_num, by rw [HST.out]; exact HA6, by rw [HST.out, if_neg (by rw [HEE.out]; exact hz)]; exact HO6, HB6⟩
    · obtain rfl : k = l.length := by have := HK.out; omega
      rw [List.take_length] at HA HO
      clear HK hlt
      go_wp2
      go_ret2
      exact ⟨_, _, _, rfl, HA.out, HO.out, HB.out⟩
end Go.Proofs.Ytffghdbhjjfnlaa.F
end
section
/-
  The laws' helper: heads.
-/
namespace Go.Proofs.Ytffghdbhjjfnlaa.F
open Go.RowKit Go.Proofs.YtffghdbhjjfnlaaW.PrintWords Go.Proofs.YtffghdbhjjfnlaaW.PrintLast Go.Proofs.YtffghdbhjjfnlaaW.PrintMore
set_option linter.unusedVariables false
set_option linter.unusedSimpArgs false
/-- The chapter's example. -/
def H1 : Net := (Net.none 3).add 0 1 5
def H2 : Net := H1.add 1 2 3
theorem h1_ok : H1.Ok := add_ok (none_ok (by decide) (by decide)) (by decide) (by decide) (by decide) (by decide) (by decide) (by decide)
theorem h2_ok : H2.Ok := add_ok h1_ok (by decide) (by decide) (by decide) (by decide) (by decide) (by decide)
def hRun : Option (Int × Int × Int × Bool × Bool × Bool) := (run H2 0 2 30 (L0 H2) 0).map fun x => (x.2.2, x.1 1, x.1 3, decide (x.2.1 0 ≥ 0), decide (x.2.1 1 ≥ 0), decide (x.2.1 2 ≥ 0))
theorem hRun_is : hRun = some (3, 3, 3, true, true, false) := by kernel_rfl
theorem h_run : ∃ L rk, run H2 0 2 30 (L0 H2) 0 = some (L, rk, 3) ∧ L 1 = 3 ∧ L 3 = 3 ∧ cutL H2 rk = [true, true, false] := by
  have h := hRun_is
  unfold hRun at h
  cases e : run H2 0 2 30 (L0 H2) 0 with
  | none => rw [e] at h; cases h
  | some x =>
    obtain ⟨L, rk, sum⟩ := x
    rw [e] at h
    simp only [Option.map_some, Option.some.injEq, Prod.mk.injEq] at h
    obtain ⟨h1, h2, h3, h4, h5, h6⟩ := h
    refine ⟨L, rk, by rw [h1], h2, h3, ?_⟩
    show [decide (rk 0 ≥ 0), decide (rk 1 ≥ 0), decide (rk 2 ≥ 0)] = _
    rw [h4, h5, h6]
theorem in_low {w : World} {base g : Nat} {N : Net} {L : Nat → Int} {V : Vs} {cut : List Bool} {rank next : List Int} (h : NetAt w base g N L V cut rank next) : NetIn (fun k => base ≤ k) g V := h.in_.mono fun _ h => h.1
theorem up_low {w : World} {base g : Nat} {N : Net} {L : Nat → Int} {V : Vs} {cut : List Bool} {rank next : List Int} (h : NetAt w base g N L V cut rank next) : ∀ k, w.heap.size ≤ k → base ≤ k := fun k hk => Nat.le_trans h.size hk
set_option maxRecDepth 100000 in
set_option maxHeartbeats 4000000 in
theorem heads_calls (w : World) : Calls Try.prog 10 #[] w fun e w' => e = .returned (.bool true) ∧ Below w.heap.size w w' := by
  obtain ⟨base, hbase⟩ : ∃ b, w.heap.size = b := ⟨_, rfl⟩
  have HBS := Aside0.mk hbase
  simp only [hbase]
  obtain ⟨L, rk, hr, hf0, hf1, hcut⟩ := h_run
  have HR := Aside0.mk hr
  have HF0 := Aside0.mk hf0
  have HF1 := Aside0.mk hf1
  have HCUT := Aside0.mk hcut
  clear hr hf0 hf1 hcut
  go_enter Try.func10, Try.ntmps10
  go_wp2_with fail
  refine (new_yes 3 (by decide) (by decide) (L0 (Net.none 3)) w).mono ?_
  rintro e w1 ⟨g, V1, rfl, hA1, hB1⟩
  rw [hbase] at hA1 hB1
  have HA1 := Aside0.mk hA1
  have HB1 := Aside0.mk hB1
  clear hA1 hB1 hbase
  go_wp2_with fail
  refine (edge_yes (f := 0) (t := 1) (c := 5) (none_ok (by decide) (by decide)) HA1.out (by decide) (by decide) (by decide) (by decide) (by decide) (by decide) (in_low HA1.out) (up_low HA1.out)).mono ?_
  rintro e w2 ⟨V2, rfl, hA2, hI2, hK2⟩
  have HA2 := Aside0.mk hA2
  have HB2 := Aside0.mk (HB1.out.trans hK2.below)
  clear hA2 hI2 hK2 HB1 HA1
  go_wp2_with fail
  refine (edge_yes (f := 1) (t := 2) (c := 3) h1_ok HA2.out (by decide) (by decide) (by decide) (by decide) (by decide) (by decide) (in_low HA2.out) (up_low HA2.out)).mono ?_
  rintro e w3 ⟨V3, rfl, hA3, hI3, hK3⟩
  have HA3 := Aside0.mk hA3
  have HB3 := Aside0.mk (HB2.out.trans hK3.below)
  clear hA3 hI3 hK3 HB2 HA2
  go_wp2_with fail
  refine (run_calls h2_ok (f := 0) (t := 2) (by decide) (by decide) (by decide) HR.out HA3.out (in_low HA3.out) (up_low HA3.out)).mono ?_
  rintro e w4 ⟨V4, rank4, next4, rfl, hA4, hI4, hK4⟩
  rw [HCUT.out] at hA4
  have HA4 := Aside0.mk hA4
  have HB4 := Aside0.mk (HB3.out.trans hK4.below)
  clear hA4 hI4 hK4 HB3 HA3
  go_wp2_with fail
  refine (cut_calls HA4.out (by decide)).mono ?_
  rintro e w5 ⟨vc, rfl, ho5, hb5⟩
  have HA5 := Aside0.mk (HA4.out.below hb5)
  have HB5 := Aside0.mk (below_then HB4.out HA4.out.size hb5)
  obtain ⟨gc, cc, hvc, _⟩ := own_form ho5 (by decide)
  subst hvc
  have hc : ∀ i, i < 3 → w5.cell? ⟨gc, i, none⟩ = some (.bool ([true, true, false].getD i false)) := fun i hi => (own_cellB ho5 i hi).1
  have c0 : w5.cell? ⟨gc, 0, none⟩ = some (.bool true) := hc 0 (by decide)
  have c1 : w5.cell? ⟨gc, 1, none⟩ = some (.bool true) := hc 1 (by decide)
  have c2 : w5.cell? ⟨gc, 2, none⟩ = some (.bool false) := hc 2 (by decide)
  clear ho5 hb5 HA4 HB4 hc
  go_wp2_with fail
  refine (edge_no h2_ok HA5.out 1 1 3 (by decide)).mono ?_
  rintro e w6 ⟨rfl, hw6⟩
  have hw6' := hw6.symm
  subst hw6'
  have he2 : edgeE H2 1 1 3 = 2 := by decide
  rw [he2]
  clear hw6 he2
  go_wp2_with fail
  refine (flow_calls h2_ok HA5.out 0).mono ?_
  rintro e w6 ⟨rfl, hw6⟩
  have hw6' := hw6.symm
  subst hw6'
  have hfa : flowF H2 L 0 = 3 := by rw [← HF0.out]; rfl
  rw [hfa]
  clear hw6 hfa
  go_wp2_with fail
  refine (flow_calls h2_ok HA5.out 1).mono ?_
  rintro e w6 ⟨rfl, hw6⟩
  have hw6' := hw6.symm
  subst hw6'
  have hfa : flowF H2 L 1 = 3 := by rw [← HF1.out]; rfl
  rw [hfa]
  clear hw6 hfa
  go_wp2_with fail
  refine (new_no 0 (by decide) w5).mono ?_
  rintro e w6 ⟨rfl, hw6⟩
  have hw6' := hw6.symm
  subst hw6'
  clear hw6
  go_wp2
  go_ret
  exact ⟨rfl, HB5.out⟩
end Go.Proofs.Ytffghdbhjjfnlaa.F
end
section
/-
  Two nets beside each other; what Run answers, whatever its ends are.
-/
namespace Go.Proofs.Ytffghdbhjjfnlaa.F
open Go.RowKit Go.Proofs.YtffghdbhjjfnlaaW.PrintWords Go.Proofs.YtffghdbhjjfnlaaW.PrintLast Go.Proofs.YtffghdbhjjfnlaaW.PrintMore
set_option linter.unusedVariables false
set_option linter.unusedSimpArgs false
theorem NetIn.and {S T : Nat → Prop} {g : Nat} {V : Vs} (h : NetIn S g V) (k : NetIn T g V) : NetIn (fun q => S q ∧ T q) g V :=
  ⟨⟨h.g, k.g⟩, fun q e => ⟨h.vo q e, k.vo q e⟩, fun q e => ⟨h.va q e, k.va q e⟩, fun q e => ⟨h.vm q e, k.vm q e⟩, fun q e => ⟨h.vc q e, k.vc q e⟩, fun q e => ⟨h.vr q e, k.vr q e⟩, fun q e => ⟨h.vn q e, k.vn q e⟩, fun a q e => ⟨h.rows a q e, k.rows a q e⟩⟩
/-- Two nets of the same edges, that share nothing. -/
structure Duo (w : World) (base gx gy : Nat) (N : Net) (Lx Ly : Nat → Int) (Vx Vy : Vs) (cx cy : List Bool) (rx nx ry ny : List Int) (X Y : Nat → Prop) : Prop where
  x : NetAt w base gx N Lx Vx cx rx nx
  y : NetAt w base gy N Ly Vy cy ry ny
  xi : NetIn X gx Vx
  yi : NetIn Y gy Vy
  xb : ∀ k, X k → base ≤ k ∧ k < w.heap.size
  yb : ∀ k, Y k → base ≤ k ∧ k < w.heap.size
  xy : ∀ k, X k → ¬ Y k
/-- A net's blocks, and what is new. -/
def Fresh (X : Nat → Prop) (w : World) : Nat → Prop := fun k => X k ∨ w.heap.size ≤ k
/-- The blocks behind a step. -/
def After (X : Nat → Prop) (base : Nat) (w w' : World) : Nat → Prop := fun k => Fresh X w k ∧ base ≤ k ∧ k < w'.heap.size
section
variable {w w' : World} {base gx gy : Nat} {N : Net} {Lx Ly Lx' : Nat → Int} {Vx Vy Vx' : Vs} {cx cy cx' : List Bool} {rx nx ry ny rx' nx' : List Int} {X Y : Nat → Prop}
theorem Duo.low (h : Duo w base gx gy N Lx Ly Vx Vy cx cy rx nx ry ny X Y) (hk : Kept (Fresh X w) w w') : Below base w w' :=
  ⟨hk.os, hk.tape, hk.output, hk.size, fun k hlt => hk.block k fun hf => by
    rcases hf with hf | hf
    · have := (h.xb k hf).1; omega
    · have := h.x.size; omega⟩
theorem Duo.step (h : Duo w base gx gy N Lx Ly Vx Vy cx cy rx nx ry ny X Y) (hk : Kept (Fresh X w) w w') (hx : NetAt w' base gx N Lx' Vx' cx' rx' nx') (hi : NetIn (Fresh X w) gx Vx') :
    Duo w' base gx gy N Lx' Ly Vx' Vy cx' cy rx' nx' ry ny (After X base w w') Y where
  x := hx
  y := h.y.kept h.yi hk fun k hy hf => by
    rcases hf with hf | hf
    · exact h.xy k hf hy
    · have := (h.yb k hy).2; omega
  xi := (hi.and hx.in_).mono fun k hk => ⟨hk.1, hk.2.1, hk.2.2⟩
  yi := h.yi
  xb := fun k hk => hk.2
  yb := fun k hy => ⟨(h.yb k hy).1, Nat.lt_of_lt_of_le (h.yb k hy).2 hk.size⟩
  xy := fun k hk hy => by
    rcases hk.1 with hf | hf
    · exact h.xy k hf hy
    · have := (h.yb k hy).2; omega
theorem Duo.below (h : Duo w base gx gy N Lx Ly Vx Vy cx cy rx nx ry ny X Y) (hb : Below w.heap.size w w') : Duo w' base gx gy N Lx Ly Vx Vy cx cy rx nx ry ny X Y :=
  ⟨h.x.below hb, h.y.below hb, h.xi, h.yi, fun k hk => ⟨(h.xb k hk).1, Nat.lt_of_lt_of_le (h.xb k hk).2 hb.size⟩, fun k hk => ⟨(h.yb k hk).1, Nat.lt_of_lt_of_le (h.yb k hk).2 hb.size⟩, h.xy⟩
end
theorem twoE_zero2 {n : Nat} {f t : Int} (h : twoE n f t = 0) : (0 ≤ f ∧ f < (n : Int)) ∧ (0 ≤ t ∧ t < (n : Int)) ∧ f ≠ t := by
  unfold twoE at h
  by_cases c1 : (f < 0 ∨ f ≥ (n : Int)) ∨ (t < 0 ∨ t ≥ (n : Int))
  · rw [if_pos c1] at h; simp at h
  · rw [if_neg c1] at h
    by_cases c2 : f = t
    · rw [if_pos c2] at h; simp at h
    · omega
end Go.Proofs.Ytffghdbhjjfnlaa.F
end
section
/-
  The law FlowMore: its walk.
-/
namespace Go.Proofs.Ytffghdbhjjfnlaa.F
open Go.RowKit Go.Proofs.YtffghdbhjjfnlaaW.PrintWords Go.Proofs.YtffghdbhjjfnlaaW.PrintLast Go.Proofs.YtffghdbhjjfnlaaW.PrintMore
set_option linter.unusedVariables false
set_option linter.unusedSimpArgs false
/-! ### an edge more, plain -/
theorem add_cap (N : Net) (a b : Nat) (c : Int) (C : Nat → Bool) : ∀ k, k ≤ N.m → capK (N.add a b c) C k = capK N C k
  | 0, _ => rfl
  | k + 1, hk => by
    rw [capK_succ, capK_succ, add_cap N a b c C k (by omega)]
    show capK N C k + (if C (if k = N.m then a else N.fr k) && !C (if k = N.m then b else N.to k) then (if k = N.m then c else N.mo k) else 0) = _
    have hne : ¬ k = N.m := by omega
    simp only [if_neg hne]
theorem add_cap_all (N : Net) (a b : Nat) (c : Int) (C : Nat → Bool) : capK (N.add a b c) C (N.add a b c).m = capK N C N.m + if C a && !C b then c else 0 := by
  show capK (N.add a b c) C (N.m + 1) = _
  rw [capK_succ, add_cap N a b c C N.m (Nat.le_refl _)]
  show capK N C N.m + (if C (if N.m = N.m then a else N.fr N.m) && !C (if N.m = N.m then b else N.to N.m) then (if N.m = N.m then c else N.mo N.m) else 0) = _
  simp only [if_true]
theorem more_flows {N : Net} (hN : N.Ok) {a b : Nat} {c : Int} (hN2 : (N.add a b c).Ok) (hc : 0 ≤ c) {f t : Nat} (hf : f < N.n) {L L2 : Nat → Int} {sum sum2 : Int} {rk rk2 : Nat → Int} (h : Flows N f t L sum) (hr : Ranked N L f rk) (hneg : rk t < 0)
    (h2 : Flows (N.add a b c) f t L2 sum2) (hr2 : Ranked (N.add a b c) L2 f rk2) (hneg2 : rk2 t < 0) : sum ≤ sum2 ∧ sum2 ≤ sum + c := by
  obtain ⟨c1, c2, _, _, c5⟩ := ranked_cut hN hf h hr hneg
  obtain ⟨d1, d2, _, _, d5⟩ := ranked_cut hN2 (show f < (N.add a b c).n from hf) h2 hr2 hneg2
  have u1 := flow_le_cut hN2 (show f < (N.add a b c).n from hf) h2 (C := fun v => decide (rk v ≥ 0)) c1 c2
  have u2 := flow_le_cut hN hf h (C := fun v => decide (rk2 v ≥ 0)) d1 d2
  rw [add_cap_all] at u1 d5
  constructor
  · rw [d5]; split <;> omega
  · rw [c5]; refine Int.le_trans u1 ?_; split <;> omega
/-- A boxed pair and a boxed edge. -/
def PairEdge (g : Nat) (p q a b c : Int) (w : World) : Prop :=
  w.cell? ⟨g, 0, none⟩ = some (.int .i64 p) ∧ w.cell? ⟨g, 1, none⟩ = some (.int .i64 q) ∧ w.cell? ⟨g + 1, 0, none⟩ = some (.int .i64 a) ∧ w.cell? ⟨g + 1, 1, none⟩ = some (.int .i64 b) ∧ w.cell? ⟨g + 1, 2, none⟩ = some (.int .i64 c)
theorem PairEdge.below {g base : Nat} {p q a b c : Int} {w w' : World} (h : PairEdge g p q a b c w) (hb : Below base w w') (hlt : g + 1 < base) : PairEdge g p q a b c w' :=
  ⟨cell_kept h.1 (hb.block _ (show g < base by omega)), cell_kept h.2.1 (hb.block _ (show g < base by omega)), cell_kept h.2.2.1 (hb.block _ hlt), cell_kept h.2.2.2.1 (hb.block _ hlt), cell_kept h.2.2.2.2 (hb.block _ hlt)⟩
def pairEdge (w : World) (p q a b c : Int) : World := (w.alloc (.cells #[.int .i64 p, .int .i64 q] 44)).alloc (.cells #[.int .i64 a, .int .i64 b, .int .i64 c] 35)
theorem pe_size (w : World) (p q a b c : Int) : (pairEdge w p q a b c).heap.size = w.heap.size + 2 := by simp [pairEdge, World.alloc_eq]
theorem pe_below (w : World) (p q a b c : Int) : Below w.heap.size w (pairEdge w p q a b c) := below_alloc (below_alloc (Below.refl _ _) _) _
theorem pe_cells (w : World) (p q a b c : Int) : PairEdge w.heap.size p q a b c (pairEdge w p q a b c) := by
  have e1 : (w.alloc (.cells #[.int .i64 p, .int .i64 q] 44)).heap.size = w.heap.size + 1 := by simp
  have b0 : (pairEdge w p q a b c).heap[w.heap.size]? = some (.cells #[.int .i64 p, .int .i64 q] 44 (0, 0)) := (Below.heap_alloc _ _ _ (by rw [e1]; omega)).trans (heap_alloc_new w _)
  have b1 : (pairEdge w p q a b c).heap[w.heap.size + 1]? = some (.cells #[.int .i64 a, .int .i64 b, .int .i64 c] 35 (0, 0)) := by rw [← e1]; exact heap_alloc_new _ _
  exact ⟨blk_cell b0 0, blk_cell b0 1, blk_cell b1 0, blk_cell b1 1, blk_cell b1 2⟩
set_option maxRecDepth 100000 in
set_option maxHeartbeats 1000000 in
theorem more_no (n : Int) (A : Option Addr) (len cap : Nat) (p q a b c : Int) (w : World) (h : n < 1 ∨ 60 < n) :
    Calls Try.prog 7 #[.int .i64 n, .slice A len cap, .agg #[.int .i64 p, .int .i64 q], .agg #[.int .i64 a, .int .i64 b, .int .i64 c]] w fun e w' => e = .returned (.bool true) ∧ Below w.heap.size w w' := by
  have H := Aside0.mk h
  clear h
  have HB0 := Aside0.mk (pe_below w p q a b c)
  obtain ⟨W0, hW0⟩ : ∃ W0, pairEdge w p q a b c = W0 := ⟨_, rfl⟩
  rw [hW0] at HB0
  unfold pairEdge at hW0
  have HW0 := Aside0.mk hW0
  clear hW0
  go_enter Try.func7, Try.ntmps7
  go_wp2_with fail
  rw [HW0.out]
  refine (made_no n A len cap W0 H.out).mono ?_
  rintro e w1 ⟨rfl, hw⟩
  have hw' := hw.symm
  subst hw'
  clear hw
  go_wp2_with fail
  refine (heads_calls _).mono ?_
  rintro e w2 ⟨rfl, hb⟩
  have HB2 := Aside0.mk (below_then HB0.out HB0.out.size hb)
  clear hb
  go_wp2
  go_ret
  exact ⟨rfl, HB2.out⟩
set_option maxRecDepth 100000 in
set_option maxHeartbeats 1000000 in
theorem more_many (n : Nat) (h1 : 1 ≤ n) (h2 : n ≤ 60) (A : Option Addr) (cap : Nat) (l : List E3) (p q a b c : Int) (w : World) (hl : l.length ≤ 9223372036854775807) (h80 : 80 < l.length) (hE : EdgesIn w A l) :
    Calls Try.prog 7 #[.int .i64 n, .slice A l.length cap, .agg #[.int .i64 p, .int .i64 q], .agg #[.int .i64 a, .int .i64 b, .int .i64 c]] w fun e w' => e = .returned (.bool true) ∧ Below w.heap.size w w' := by
  have d0 : decide ((l.length : Int) > 80) = true := decide_eq_true (by omega)
  have HB0 := Aside0.mk (pe_below w p q a b c)
  obtain ⟨W0, hW0⟩ : ∃ W0, pairEdge w p q a b c = W0 := ⟨_, rfl⟩
  rw [hW0] at HB0
  unfold pairEdge at hW0
  have HW0 := Aside0.mk hW0
  have HE := Aside0.mk (hE.below HB0.out)
  have HL := Aside0.mk hl
  clear hW0 hE hl
  go_enter Try.func7, Try.ntmps7
  go_wp2_with fail
  rw [HW0.out]
  refine (made_yes n h1 h2 A cap l W0 HL.out HE.out).mono ?_
  rintro e w1 ⟨g, V, v, rfl, hA, hO, hB⟩
  have HB1 := Aside0.mk hB
  clear hA hO hB
  go_wp2_with fail
  refine (heads_calls _).mono ?_
  rintro e w3 ⟨rfl, hb⟩
  have HB3 := Aside0.mk (below_then (below_then HB0.out HB0.out.size HB1.out) (Nat.le_trans HB0.out.size HB1.out.size) hb)
  clear hb
  go_wp2
  go_ret
  exact ⟨rfl, HB3.out⟩
set_option maxRecDepth 100000 in
set_option maxHeartbeats 4000000 in
theorem more_ends (n : Nat) (h1 : 1 ≤ n) (h2 : n ≤ 60) (A : Option Addr) (cap : Nat) (l : List E3) (p q a b c : Int) (w : World) (hl : l.length ≤ 80) (hE : EdgesIn w A l) (hz : twoE n p q ≠ 0) :
    Calls Try.prog 7 #[.int .i64 n, .slice A l.length cap, .agg #[.int .i64 p, .int .i64 q], .agg #[.int .i64 a, .int .i64 b, .int .i64 c]] w fun e w' => e = .returned (.bool true) ∧ Below w.heap.size w w' := by
  have d0 : decide ((l.length : Int) > 80) = false := decide_eq_false (by omega)
  obtain ⟨N, hN⟩ : ∃ N, (madeOf n l).1 = N := ⟨_, rfl⟩
  have hcame := came_made h1 (by omega) l
  rw [hN] at hcame 
  have HC := Aside0.mk hcame.ok
  have HNM := Aside0.mk hN
  have HNN := Aside0.mk hcame.nn
  have HB0 := Aside0.mk (pe_below w p q a b c)
  have HP0 := Aside0.mk (pe_cells w p q a b c)
  have HS0 := Aside0.mk (pe_size w p q a b c)
  obtain ⟨W0, hW0⟩ : ∃ W0, pairEdge w p q a b c = W0 := ⟨_, rfl⟩
  rw [hW0] at HB0 HP0 HS0
  unfold pairEdge at hW0
  have HW0 := Aside0.mk hW0
  have HE := Aside0.mk (hE.below HB0.out)
  obtain ⟨base, hbase⟩ : ∃ b, W0.heap.size = b := ⟨_, rfl⟩
  have HLT : Aside0 (w.heap.size + 1 < base) := ⟨by rw [← hbase, HS0.out]; omega⟩
  have HBS := Aside0.mk hbase
  have hz2 : twoE N.n p q ≠ 0 := by rw [hcame.nn]; exact hz
  have HZ := Aside0.mk hz2
  obtain ⟨er, her⟩ : ∃ er, twoE N.n p q = er := ⟨_, rfl⟩
  have HER := Aside0.mk her
  have hne : (er != 0) = true := by simp; rw [← her]; exact hz2
  clear hW0 hE hN hcame hbase hz hz2 her
  go_enter Try.func7, Try.ntmps7
  go_wp2_with fail
  rw [HW0.out]
  refine (made_yes n h1 h2 A cap l W0 (by omega) HE.out).mono ?_
  rintro e w1 ⟨g, V, v, rfl, hA, hO, hB⟩
  rw [HNM.out, HBS.out] at hA
  rw [HBS.out] at hB
  obtain ⟨Av, cv, rfl⟩ := own_slice hO
  have HA1 := Aside0.mk hA
  have HB1 := Aside0.mk hB
  clear hA hO hB HW0 HNM HE
  obtain ⟨c0, c1, c2, c3, c4⟩ := HP0.out.below HB1.out HLT.out
  go_wp2_with fail
  clear c0 c1 c2 c3 c4

  refine (run_no HC.out HA1.out p q HZ.out).mono ?_
  rintro e wq ⟨rfl, hw⟩
  have hw' := hw.symm
  subst hw'
  clear hw
  rw [HER.out]
  obtain ⟨c0, c1, c2, c3, c4⟩ := HP0.out.below HB1.out HLT.out
  go_wp2_with fail
  clear c0 c1 c2 c3 c4
  refine (edge_calls HC.out HA1.out (a, b, c) (in_low HA1.out) (up_low HA1.out)).mono ?_
  rintro e w2 ⟨V2, rfl, hA2, hI2, hK2⟩
  have HA2 := Aside0.mk hA2
  have HB2 := Aside0.mk (HB1.out.trans hK2.below)
  clear hA2 hI2 hK2 HA1 HB1

  go_wp2_with fail
  refine (heads_calls _).mono ?_
  rintro e w9 ⟨rfl, hb⟩
  have HB9 := Aside0.mk (below_then HB0.out HB0.out.size (below_then (show Below W0.heap.size W0 _ by rw [HBS.out]; exact HB2.out) (by rw [HBS.out]; exact HA2.out.size) hb))
  clear hb
  go_wp2
  go_ret
  exact ⟨rfl, HB9.out⟩
set_option maxRecDepth 100000 in
set_option maxHeartbeats 4000000 in
theorem more_out (n : Nat) (h1 : 1 ≤ n) (h2 : n ≤ 60) (A : Option Addr) (cap : Nat) (l : List E3) (f t : Nat) (a b c : Int) (w : World) (hl : l.length ≤ 80) (hE : EdgesIn w A l) (hf : f < n) (ht : t < n) (hft : f ≠ t) (he : edgeE (madeOf n l).1 a b c ≠ 0) :
    Calls Try.prog 7 #[.int .i64 n, .slice A l.length cap, .agg #[.int .i64 f, .int .i64 t], .agg #[.int .i64 a, .int .i64 b, .int .i64 c]] w fun e w' => e = .returned (.bool true) ∧ Below w.heap.size w w' := by
  have d0 : decide ((l.length : Int) > 80) = false := decide_eq_false (by omega)
  obtain ⟨N, hN⟩ : ∃ N, (madeOf n l).1 = N := ⟨_, rfl⟩
  have hcame := came_made h1 (by omega) l
  rw [hN] at hcame he
  have HC := Aside0.mk hcame.ok
  have HNM := Aside0.mk hN
  have HNN := Aside0.mk hcame.nn
  have HB0 := Aside0.mk (pe_below w f t a b c)
  have HP0 := Aside0.mk (pe_cells w f t a b c)
  have HS0 := Aside0.mk (pe_size w f t a b c)
  obtain ⟨W0, hW0⟩ : ∃ W0, pairEdge w f t a b c = W0 := ⟨_, rfl⟩
  rw [hW0] at HB0 HP0 HS0
  unfold pairEdge at hW0
  have HW0 := Aside0.mk hW0
  have HE := Aside0.mk (hE.below HB0.out)
  obtain ⟨base, hbase⟩ : ∃ b, W0.heap.size = b := ⟨_, rfl⟩
  have HLT : Aside0 (w.heap.size + 1 < base) := ⟨by rw [← hbase, HS0.out]; omega⟩
  have HBS := Aside0.mk hbase
  have HH := Aside0.mk (And.intro hf (And.intro ht hft))
  have hNf : f < N.n := by rw [hcame.nn]; exact hf
  have hNt : t < N.n := by rw [hcame.nn]; exact ht
  obtain ⟨kf, L, rk, sum, hr, hfl, hrk, hneg⟩ := run_all hcame.ok (f := f) (t := t) hNf hNt hft
  have HR := Aside0.mk hr
  have HFN := Aside0.mk (And.intro hNf hNt)
  have hcl : (cutL N rk).length = n := by unfold cutL; rw [rowB_len, hcame.nn]
  have HCL := Aside0.mk hcl
  have HEN := Aside0.mk he
  obtain ⟨ee, hee⟩ : ∃ ee, edgeE N a b c = ee := ⟨_, rfl⟩
  have HEE := Aside0.mk hee
  have hne1 : (ee != 0) = true := by simp; rw [← hee]; exact he
  have hne2 : (ee == 0) = false := by simp; rw [← hee]; exact he
  have hn0 : ((n : Int) == 0) = false := by simp; omega
  have hss : (sum == sum) = true := by simp
  clear hW0 hE hN hcame hbase hf ht hft he hNf hNt hr hfl hrk hneg hcl hee
  go_enter Try.func7, Try.ntmps7
  go_wp2_with fail
  rw [HW0.out]
  refine (made_yes n h1 h2 A cap l W0 (by omega) HE.out).mono ?_
  rintro e w1 ⟨g, V, v, rfl, hA, hO, hB⟩
  rw [HNM.out, HBS.out] at hA
  rw [HBS.out] at hB
  obtain ⟨Av, cv, rfl⟩ := own_slice hO
  have HA1 := Aside0.mk hA
  have HB1 := Aside0.mk hB
  clear hA hO hB HW0 HNM HE
  obtain ⟨c0, c1, c2, c3, c4⟩ := HP0.out.below HB1.out HLT.out
  go_wp2_with fail
  clear c0 c1 c2 c3 c4

  refine (run_calls HC.out HFN.out.1 HFN.out.2 HH.out.2.2 HR.out HA1.out (in_low HA1.out) (up_low HA1.out)).mono ?_
  rintro e w2 ⟨V2, rank2, next2, rfl, hA2, hI2, hK2⟩
  have HA2 := Aside0.mk hA2
  have HB2 := Aside0.mk (HB1.out.trans hK2.below)
  clear hA2 hI2 hK2 HA1 HB1
  obtain ⟨c0, c1, c2, c3, c4⟩ := HP0.out.below HB2.out HLT.out
  go_wp2_with fail
  clear c0 c1 c2 c3 c4

  refine (edge_no HC.out HA2.out a b c HEN.out).mono ?_
  rintro e wq ⟨rfl, hw⟩
  have hw' := hw.symm
  subst hw'
  clear hw
  rw [HEE.out]
  go_wp2_with fail
  refine (cut_calls HA2.out (by rw [HCL.out]; omega)).mono ?_
  rintro e w3 ⟨vc, rfl, ho3, hb3⟩
  have HA3 := Aside0.mk (HA2.out.below hb3)
  have HB3 := Aside0.mk (below_then HB2.out HA2.out.size hb3)
  rw [HCL.out] at ho3
  obtain ⟨Ac, cc, rfl⟩ := own_slice ho3
  clear ho3 hb3 HA2 HB2
  obtain ⟨c0, c1, c2, c3, c4⟩ := HP0.out.below HB3.out HLT.out
  go_wp2_with fail
  clear c0 c1 c2 c3 c4
  refine (run_calls HC.out HFN.out.1 HFN.out.2 HH.out.2.2 HR.out HA3.out (in_low HA3.out) (up_low HA3.out)).mono ?_
  rintro e w4 ⟨V4, rank4, next4, rfl, hA4, hI4, hK4⟩
  have HA4 := Aside0.mk hA4
  have HB4 := Aside0.mk (HB3.out.trans hK4.below)
  clear hA4 hI4 hK4 HA3 HB3

  go_wp2_with fail
  refine (heads_calls _).mono ?_
  rintro e w9 ⟨rfl, hb⟩
  have HB9 := Aside0.mk (below_then HB0.out HB0.out.size (below_then (show Below W0.heap.size W0 _ by rw [HBS.out]; exact HB4.out) (by rw [HBS.out]; exact HA4.out.size) hb))
  clear hb
  go_wp2
  go_ret
  exact ⟨rfl, HB9.out⟩
set_option maxRecDepth 100000 in
set_option maxHeartbeats 4000000 in
theorem more_in (n : Nat) (h1 : 1 ≤ n) (h2 : n ≤ 60) (A : Option Addr) (cap : Nat) (l : List E3) (f t a b : Nat) (c : Int) (w : World) (hl : l.length ≤ 80) (hE : EdgesIn w A l) (hf : f < n) (ht : t < n) (hft : f ≠ t) (he : edgeE (madeOf n l).1 a b c = 0) :
    Calls Try.prog 7 #[.int .i64 n, .slice A l.length cap, .agg #[.int .i64 f, .int .i64 t], .agg #[.int .i64 a, .int .i64 b, .int .i64 c]] w fun e w' => e = .returned (.bool true) ∧ Below w.heap.size w w' := by
  have d0 : decide ((l.length : Int) > 80) = false := decide_eq_false (by omega)
  obtain ⟨N, hN⟩ : ∃ N, (madeOf n l).1 = N := ⟨_, rfl⟩
  have hcame := came_made h1 (by omega) l
  rw [hN] at hcame he
  have HC := Aside0.mk hcame.ok
  have HNM := Aside0.mk hN
  have HNN := Aside0.mk hcame.nn
  have HB0 := Aside0.mk (pe_below w f t a b c)
  have HP0 := Aside0.mk (pe_cells w f t a b c)
  have HS0 := Aside0.mk (pe_size w f t a b c)
  obtain ⟨W0, hW0⟩ : ∃ W0, pairEdge w f t a b c = W0 := ⟨_, rfl⟩
  rw [hW0] at HB0 HP0 HS0
  unfold pairEdge at hW0
  have HW0 := Aside0.mk hW0
  have HE := Aside0.mk (hE.below HB0.out)
  obtain ⟨base, hbase⟩ : ∃ b, W0.heap.size = b := ⟨_, rfl⟩
  have HLT : Aside0 (w.heap.size + 1 < base) := ⟨by rw [← hbase, HS0.out]; omega⟩
  have HBS := Aside0.mk hbase
  have HH := Aside0.mk (And.intro hf (And.intro ht hft))
  have hNf : f < N.n := by rw [hcame.nn]; exact hf
  have hNt : t < N.n := by rw [hcame.nn]; exact ht
  obtain ⟨kf, L, rk, sum, hr, hfl, hrk, hneg⟩ := run_all hcame.ok (f := f) (t := t) hNf hNt hft
  have HR := Aside0.mk hr
  have HFN := Aside0.mk (And.intro hNf hNt)
  have hcl : (cutL N rk).length = n := by unfold cutL; rw [rowB_len, hcame.nn]
  have HCL := Aside0.mk hcl
  obtain ⟨⟨z1, z2⟩, ⟨z3, z4⟩, z5, z6, z7, z8⟩ := edge_zero he
  have HZ : Aside0 (a < N.n ∧ b < N.n ∧ a ≠ b ∧ 0 ≤ c ∧ c ≤ 1000000 ∧ N.m < 5000) := ⟨⟨by omega, by omega, by omega, z6, z7, z8⟩⟩
  have hN2 : (N.add a b c).Ok := add_ok hcame.ok (by omega) (by omega) (by omega) z6 z7 z8
  have HC2 := Aside0.mk hN2
  obtain ⟨kf2, L2, rk2, sum2, hr2, hfl2, hrk2, hneg2⟩ := run_all hN2 (f := f) (t := t) hNf hNt hft
  have HR2 := Aside0.mk hr2
  obtain ⟨hle1, hle2⟩ := more_flows hcame.ok hN2 z6 hNf hfl hrk hneg hfl2 hrk2 hneg2
  have dle1 : decide (sum ≤ sum2) = true := decide_eq_true hle1
  have dle2 : decide (sum2 ≤ sum + c) = true := decide_eq_true hle2
  have hws : wrap64 (sum + c) = sum + c := by
    have u1 := hfl.nn
    have u2 := hfl.le
    have u3 := total_le hcame.ok
    unfold wrap64; omega
  clear hW0 hE hN hcame hbase hf ht hft he hNf hNt hr hfl hrk hneg hcl z1 z2 z3 z4 z5 z6 z7 z8 hN2 hr2 hfl2 hrk2 hneg2
  go_enter Try.func7, Try.ntmps7
  go_wp2_with fail
  rw [HW0.out]
  refine (made_yes n h1 h2 A cap l W0 (by omega) HE.out).mono ?_
  rintro e w1 ⟨g, V, v, rfl, hA, hO, hB⟩
  rw [HNM.out, HBS.out] at hA
  rw [HBS.out] at hB
  obtain ⟨Av, cv, rfl⟩ := own_slice hO
  have HA1 := Aside0.mk hA
  have HB1 := Aside0.mk hB
  clear hA hO hB HW0 HNM HE
  obtain ⟨c0, c1, c2, c3, c4⟩ := HP0.out.below HB1.out HLT.out
  go_wp2_with fail
  clear c0 c1 c2 c3 c4

  refine (run_calls HC.out HFN.out.1 HFN.out.2 HH.out.2.2 HR.out HA1.out (in_low HA1.out) (up_low HA1.out)).mono ?_
  rintro e w2 ⟨V2, rank2, next2, rfl, hA2, hI2, hK2⟩
  have HA2 := Aside0.mk hA2
  have HB2 := Aside0.mk (HB1.out.trans hK2.below)
  clear hA2 hI2 hK2 HA1 HB1
  obtain ⟨c0, c1, c2, c3, c4⟩ := HP0.out.below HB2.out HLT.out
  go_wp2_with fail
  clear c0 c1 c2 c3 c4

  refine (edge_yes HC.out HA2.out HZ.out.1 HZ.out.2.1 HZ.out.2.2.1 HZ.out.2.2.2.1 HZ.out.2.2.2.2.1 HZ.out.2.2.2.2.2 (in_low HA2.out) (up_low HA2.out)).mono ?_
  rintro e w3 ⟨V3, rfl, hA3, hI3, hK3⟩
  have HA3 := Aside0.mk hA3
  have HB3 := Aside0.mk (HB2.out.trans hK3.below)
  clear hA3 hI3 hK3 HA2 HB2
  go_wp2_with fail
  refine (cut_calls HA3.out (by simp)).mono ?_
  rintro e w4 ⟨vc, rfl, ho4, hb4⟩
  have HA4 := Aside0.mk (HA3.out.below hb4)
  have HB4 := Aside0.mk (below_then HB3.out HA3.out.size hb4)
  obtain ⟨Ac, cc, rfl⟩ := own_slice ho4
  clear ho4 hb4 HA3 HB3
  obtain ⟨c0, c1, c2, c3, c4⟩ := HP0.out.below HB4.out HLT.out
  go_wp2_with fail
  clear c0 c1 c2 c3 c4
  refine (run_calls HC2.out HFN.out.1 HFN.out.2 HH.out.2.2 HR2.out HA4.out (in_low HA4.out) (up_low HA4.out)).mono ?_
  rintro e w5 ⟨V5, rank5, next5, rfl, hA5, hI5, hK5⟩
  have HA5 := Aside0.mk hA5
  have HB5 := Aside0.mk (HB4.out.trans hK5.below)
  clear hA5 hI5 hK5 HA4 HB4
  obtain ⟨c0, c1, c2, c3, c4⟩ := HP0.out.below HB5.out HLT.out

  go_wp2_with fail
  refine (heads_calls _).mono ?_
  rintro e w9 ⟨rfl, hb⟩
  have HB9 := Aside0.mk (below_then HB0.out HB0.out.size (below_then (show Below W0.heap.size W0 _ by rw [HBS.out]; exact HB5.out) (by rw [HBS.out]; exact HA5.out.size) hb))
  clear hb
  go_wp2
  go_ret
  exact ⟨rfl, HB9.out⟩
/-- The walk for every input. -/
theorem more_walk (a0 : Int) (a1 : Option Addr) (len1 cap1 : Nat) (z1 : List E3) (a2 b2 a3 b3 c3 : Int) (w : World) (w0 : (Lit.int .i64 a0).wf = true) (w1 : z1.length = len1 ∧ len1 ≤ 9223372036854775807 ∧ EdgesIn w a1 z1) :
    Calls Try.prog 7 #[.int .i64 a0, .slice a1 len1 cap1, .agg #[.int .i64 a2, .int .i64 b2], .agg #[.int .i64 a3, .int .i64 b3, .int .i64 c3]] w fun e w' => e = .returned (.bool true) ∧ Below w.heap.size w w' := by
  obtain ⟨rfl, hlen, hE⟩ := w1
  by_cases h : a0 < 1 ∨ 60 < a0
  · exact more_no a0 a1 _ cap1 a2 b2 a3 b3 c3 w h
  · obtain ⟨n, rfl⟩ := Int.eq_ofNat_of_zero_le (show 0 ≤ a0 by omega)
    have k1 : 1 ≤ n := by omega
    have k2 : n ≤ 60 := by omega
    by_cases h80 : 80 < z1.length
    · exact more_many n k1 k2 a1 cap1 z1 a2 b2 a3 b3 c3 w hlen h80 hE
    · have k3 : z1.length ≤ 80 := by omega
      by_cases hz : twoE n a2 b2 = 0
      · obtain ⟨⟨h1, h2⟩, ⟨h3, h4⟩, h5⟩ := twoE_zero2 hz
        obtain ⟨f, rfl⟩ := Int.eq_ofNat_of_zero_le h1
        obtain ⟨t, rfl⟩ := Int.eq_ofNat_of_zero_le h3
        by_cases he : edgeE (madeOf n z1).1 a3 b3 c3 = 0
        · have hz2 := edge_zero he
          obtain ⟨x, rfl⟩ := Int.eq_ofNat_of_zero_le hz2.1.1
          obtain ⟨y, rfl⟩ := Int.eq_ofNat_of_zero_le hz2.2.1.1
          exact more_in n k1 k2 a1 cap1 z1 f t x y c3 w k3 hE (by omega) (by omega) (by omega) he
        · exact more_out n k1 k2 a1 cap1 z1 f t a3 b3 c3 w k3 hE (by omega) (by omega) (by omega) he
      · exact more_ends n k1 k2 a1 cap1 z1 a2 b2 a3 b3 c3 w k3 hE hz
end Go.Proofs.Ytffghdbhjjfnlaa.F
end
