/-
  Put together by slim.py of this session out of the session's own texts (YtffghdbhjjfnlaaLawFlowMore and what it reaches): declarations that nothing kept names are left out. Conditions: none beyond those of the law's row.
-/
import Derived.WalkKit
section
/-
  Flows, plain: the search by ranks, the pushes, and what stands behind them. No program here.
-/
namespace Go.Proofs.Ytffghdbhjjfnlaa.F
set_option linter.unusedVariables false
set_option linter.unusedSimpArgs false

/-! ### sums -/
def sm : Nat → (Nat → Int) → Int
  | 0, _ => 0
  | m + 1, f => sm m f + f m
theorem sm_congr : ∀ {m : Nat} {f g : Nat → Int}, (∀ e, e < m → f e = g e) → sm m f = sm m g
  | 0, _, _, _ => rfl
  | m + 1, f, g, h => by rw [sm, sm, sm_congr (fun e he => h e (by omega)), h m (by omega)]
theorem sm_le : ∀ {m : Nat} {f g : Nat → Int}, (∀ e, e < m → f e ≤ g e) → sm m f ≤ sm m g
  | 0, _, _, _ => Int.le_refl _
  | m + 1, f, g, h => by
    have h1 := sm_le (m := m) (f := f) (g := g) (fun e he => h e (by omega))
    have h2 := h m (by omega)
    rw [sm, sm]; omega
theorem sm_add : ∀ (m : Nat) (f g : Nat → Int), sm m (fun e => f e + g e) = sm m f + sm m g
  | 0, _, _ => rfl
  | m + 1, f, g => by rw [sm, sm, sm, sm_add m]; omega
theorem sm_zero : ∀ (m : Nat), sm m (fun _ => 0) = 0
  | 0 => rfl
  | m + 1 => by rw [sm, sm_zero m]; rfl
theorem sm_neg : ∀ (m : Nat) (f : Nat → Int), sm m (fun e => - f e) = - sm m f
  | 0, _ => rfl
  | m + 1, f => by rw [sm, sm, sm_neg m]; omega
theorem sm_nonneg {m : Nat} {f : Nat → Int} (h : ∀ e, e < m → 0 ≤ f e) : 0 ≤ sm m f := by
  have := sm_le (m := m) (f := fun _ => 0) (g := f) h
  rwa [sm_zero] at this
/-- One summand turned. -/
theorem sm_upd : ∀ (m : Nat) (f : Nat → Int) (e : Nat) (x : Int), e < m → sm m (fun i => if i = e then x else f i) = sm m f + (x - f e)
  | 0, _, _, _, h => by omega
  | m + 1, f, e, x, h => by
    rw [sm, sm]
    by_cases c : m = e
    · subst c
      rw [if_pos rfl, sm_congr (m := m) (g := f) (fun i hi => if_neg (by omega))]; omega
    · rw [if_neg c, sm_upd m f e x (by omega)]; omega
theorem sm_swap : ∀ (m n : Nat) (f : Nat → Nat → Int), sm m (fun e => sm n (fun i => f e i)) = sm n (fun i => sm m (fun e => f e i))
  | 0, n, f => by simp only [sm]; exact (sm_zero n).symm
  | m + 1, n, f => by
    rw [sm, sm_swap m n f, ← sm_add]
    exact sm_congr (fun i _ => rfl)
theorem sm_one : ∀ (n : Nat) (a : Nat) (x : Int), a < n → sm n (fun i => if i = a then x else 0) = x
  | 0, _, _, h => by omega
  | n + 1, a, x, h => by
    rw [sm]
    by_cases c : n = a
    · subst c
      rw [if_pos rfl, sm_congr (m := n) (g := fun _ => 0) (fun i hi => if_neg (by omega)), sm_zero]; omega
    · rw [if_neg c, sm_one n a x (by omega)]; omega

/-! ### nets -/
structure Net where
  n : Nat
  m : Nat
  fr : Nat → Nat
  to : Nat → Nat
  mo : Nat → Int
structure Net.Ok (N : Net) : Prop where
  pos : 1 ≤ N.n
  le : N.n ≤ 1000
  few : N.m ≤ 5000
  fr : ∀ e, e < N.m → N.fr e < N.n
  to : ∀ e, e < N.m → N.to e < N.n
  ne : ∀ e, e < N.m → N.fr e ≠ N.to e
  mo : ∀ e, e < N.m → 0 ≤ N.mo e ∧ N.mo e ≤ 1000000
def Net.hd (N : Net) (k : Nat) : Nat := if k % 2 = 0 then N.to (k / 2) else N.fr (k / 2)
def Net.tl (N : Net) (k : Nat) : Nat := if k % 2 = 0 then N.fr (k / 2) else N.to (k / 2)
def Net.out (N : Net) (a : Nat) : List Nat := (List.range (2 * N.m)).filter fun k => decide (N.tl k = a)
def twin (k : Nat) : Nat := if k % 2 = 0 then k + 1 else k - 1
theorem mem_out {N : Net} {a k : Nat} : k ∈ N.out a ↔ k < 2 * N.m ∧ N.tl k = a := by
  unfold Net.out; rw [List.mem_filter, List.mem_range, decide_eq_true_eq]
theorem out_at {N : Net} {a j : Nat} (h : j < (N.out a).length) : (N.out a).getD j 0 < 2 * N.m ∧ N.tl ((N.out a).getD j 0) = a := by
  have : (N.out a).getD j 0 ∈ N.out a := by
    rw [List.getD_eq_getElem?_getD, List.getElem?_eq_getElem h]; exact List.getElem_mem h
  exact mem_out.1 this
theorem twin_lt {k m : Nat} (h : k < 2 * m) : twin k < 2 * m := by unfold twin; split <;> omega
theorem twin_ne (k : Nat) : twin k ≠ k := by unfold twin; split <;> omega
theorem twin_twin (k : Nat) : twin (twin k) = k := by unfold twin; split <;> split <;> omega
theorem twin_hd (N : Net) (k : Nat) : N.hd (twin k) = N.tl k := by
  unfold Net.hd Net.tl twin
  by_cases c : k % 2 = 0
  · rw [if_pos c, if_neg (by omega), if_pos c]; congr 1; omega
  · rw [if_neg c, if_pos (by omega), if_neg c]; congr 1; omega
theorem twin_tl (N : Net) (k : Nat) : N.tl (twin k) = N.hd k := by
  have := twin_hd N (twin k)
  rw [twin_twin] at this; exact this.symm
theorem hd_lt {N : Net} (h : N.Ok) {k : Nat} (hk : k < 2 * N.m) : N.hd k < N.n := by
  unfold Net.hd; split
  · exact h.to _ (by omega)
  · exact h.fr _ (by omega)
/-- What is left on the arcs fits the edges. -/
def Fit (N : Net) (L : Nat → Int) : Prop := ∀ e, e < N.m → 0 ≤ L (2 * e) ∧ 0 ≤ L (2 * e + 1) ∧ L (2 * e) + L (2 * e + 1) = N.mo e
theorem Fit.nn {N : Net} {L : Nat → Int} (h : Fit N L) {k : Nat} (hk : k < 2 * N.m) : 0 ≤ L k ∧ 0 ≤ L (twin k) ∧ L k + L (twin k) = N.mo (k / 2) := by
  have := h (k / 2) (by omega)
  unfold twin
  by_cases c : k % 2 = 0
  · rw [if_pos c]
    have e : 2 * (k / 2) = k := by omega
    rw [e] at this; exact this
  · rw [if_neg c]
    have e : 2 * (k / 2) + 1 = k := by omega
    have e2 : 2 * (k / 2) = k - 1 := by omega
    rw [e, e2] at this; omega
theorem Fit.le {N : Net} (hN : N.Ok) {L : Nat → Int} (h : Fit N L) {k : Nat} (hk : k < 2 * N.m) : L k ≤ 1000000 := by
  have h1 := h.nn hk
  have h2 := hN.mo (k / 2) (by omega)
  omega
/-- What comes in more than goes out. -/
def ex (N : Net) (L : Nat → Int) (i : Nat) : Int := sm N.m fun e => (if N.to e = i then L (2 * e + 1) else 0) - (if N.fr e = i then L (2 * e + 1) else 0)
def shift (L : Nat → Int) (k : Nat) (r : Int) : Nat → Int := fun j => if j = k then L k - r else if j = twin k then L (twin k) + r else L j
theorem shift_fit {N : Net} {L : Nat → Int} (h : Fit N L) {k : Nat} (hk : k < 2 * N.m) {r : Int} (h0 : 0 ≤ r) (h1 : r ≤ L k) : Fit N (shift L k r) := fun e he => by
  have hn := h.nn hk
  by_cases c : e = k / 2
  · subst c
    unfold shift twin at *
    by_cases c2 : k % 2 = 0
    · have e1 : 2 * (k / 2) = k := by omega
      rw [e1, if_pos c2] at *
      rw [if_pos rfl, if_neg (by omega), if_pos rfl]; omega
    · have e1 : 2 * (k / 2) + 1 = k := by omega
      have e2 : 2 * (k / 2) = k - 1 := by omega
      rw [if_neg c2] at *
      rw [e1, e2, if_neg (by omega), if_pos rfl, if_pos rfl]; omega
  · have h2 := h e he
    have t1 : twin k = k + 1 ∧ k % 2 = 0 ∨ twin k = k - 1 ∧ k % 2 = 1 := by unfold twin; split <;> omega
    unfold shift
    rw [if_neg (by omega), if_neg (by omega), if_neg (by omega), if_neg (by omega)]
    exact h2
theorem shift_ex {N : Net} (hN : N.Ok) {L : Nat → Int} {k : Nat} (hk : k < 2 * N.m) (r : Int) (i : Nat) : ex N (shift L k r) i = ex N L i + (if i = N.hd k then r else 0) - (if i = N.tl k then r else 0) := by
  have hne := hN.ne (k / 2) (by omega)
  have key : ∀ d : Int, (∀ e, e < N.m → shift L k r (2 * e + 1) = if e = k / 2 then L (2 * (k / 2) + 1) + d else L (2 * e + 1)) →
      ex N (shift L k r) i = ex N L i + ((if N.to (k / 2) = i then d else 0) - (if N.fr (k / 2) = i then d else 0)) := fun d hd => by
    unfold ex
    rw [sm_congr (g := fun e => if e = k / 2 then ((if N.to (k / 2) = i then L (2 * (k / 2) + 1) + d else 0) - (if N.fr (k / 2) = i then L (2 * (k / 2) + 1) + d else 0)) else ((if N.to e = i then L (2 * e + 1) else 0) - (if N.fr e = i then L (2 * e + 1) else 0))) (fun e he => ?_)]
    · rw [sm_upd _ _ _ _ (by omega)]
      congr 1
      by_cases c1 : N.to (k / 2) = i
      · by_cases c2 : N.fr (k / 2) = i
        · exact absurd (c2.trans c1.symm) hne
        · simp only [if_pos c1, if_neg c2]; omega
      · by_cases c2 : N.fr (k / 2) = i
        · simp only [if_neg c1, if_pos c2]; omega
        · simp only [if_neg c1, if_neg c2]; omega
    · by_cases c : e = k / 2
      · rw [if_pos c, hd e he, if_pos c, c]
      · rw [if_neg c, hd e he, if_neg c]
  unfold Net.hd Net.tl
  by_cases c2 : k % 2 = 0
  · rw [key r (fun e he => ?_), if_pos c2, if_pos c2]
    · by_cases c1 : N.to (k / 2) = i
      · by_cases c3 : N.fr (k / 2) = i
        · exact absurd (c3.trans c1.symm) hne
        · rw [if_pos c1, if_neg c3, if_pos c1.symm, if_neg (fun h => c3 h.symm)]; omega
      · by_cases c3 : N.fr (k / 2) = i
        · rw [if_neg c1, if_pos c3, if_neg (fun h => c1 h.symm), if_pos c3.symm]; omega
        · rw [if_neg c1, if_neg c3, if_neg (fun h => c1 h.symm), if_neg (fun h => c3 h.symm)]; omega
    · unfold shift twin
      rw [if_pos c2]
      by_cases c : e = k / 2
      · rw [if_pos c, if_neg (by omega), if_pos (by omega)]; congr 2; omega
      · rw [if_neg c, if_neg (by omega), if_neg (by omega)]
  · rw [key (-r) (fun e he => ?_), if_neg c2, if_neg c2]
    · by_cases c1 : N.to (k / 2) = i
      · by_cases c3 : N.fr (k / 2) = i
        · exact absurd (c3.trans c1.symm) hne
        · rw [if_pos c1, if_neg c3, if_neg (fun h => c3 h.symm), if_pos c1.symm]; omega
      · by_cases c3 : N.fr (k / 2) = i
        · rw [if_neg c1, if_pos c3, if_pos c3.symm, if_neg (fun h => c1 h.symm)]; omega
        · rw [if_neg c1, if_neg c3, if_neg (fun h => c3 h.symm), if_neg (fun h => c1 h.symm)]; omega
    · unfold shift twin
      rw [if_neg c2]
      by_cases c : e = k / 2
      · rw [if_pos c, if_pos (by omega)]
        have : 2 * (k / 2) + 1 = k := by omega
        rw [this]; omega
      · rw [if_neg c, if_neg (by omega), if_neg (by omega)]

/-! ### a push -/
structure St where
  L : Nat → Int
  nx : Nat → Nat
def bump (s : St) (a : Nat) : St := ⟨s.L, fun b => if b = a then s.nx a + 1 else s.nx b⟩
theorem bump_self (s : St) (a : Nat) : (bump s a).nx a = s.nx a + 1 := if_pos rfl
theorem bump_ne (s : St) {a b : Nat} (h : b ≠ a) : (bump s a).nx b = s.nx b := if_neg h
def push (N : Net) (rk : Nat → Int) (t : Nat) : Nat → St → Nat → Int → Option (St × Int)
  | 0, _, _, _ => none
  | k + 1, s, a, m =>
    if a = t then some (s, m)
    else if s.nx a < (N.out a).length then
      if s.L ((N.out a).getD (s.nx a) 0) = 0 ∨ rk (N.hd ((N.out a).getD (s.nx a) 0)) ≠ rk a + 1 then push N rk t k (bump s a) a m
      else match push N rk t k s (N.hd ((N.out a).getD (s.nx a) 0)) (min m (s.L ((N.out a).getD (s.nx a) 0))) with
        | none => none
        | some (s', r) => if r > 0 then some (⟨shift s'.L ((N.out a).getD (s.nx a) 0) r, s'.nx⟩, r) else push N rk t k (bump s' a) a m
    else some (s, 0)
theorem push_mono (N : Net) (rk : Nat → Int) (t : Nat) : ∀ k s a m x, push N rk t k s a m = some x → push N rk t (k + 1) s a m = some x
  | 0, s, a, m, x, h => by simp [push] at h
  | k + 1, s, a, m, x, h => by
    rw [push] at h ⊢
    by_cases c1 : a = t
    · rw [if_pos c1] at h ⊢; exact h
    · rw [if_neg c1] at h ⊢
      by_cases c2 : s.nx a < (N.out a).length
      · rw [if_pos c2] at h ⊢
        by_cases c3 : s.L ((N.out a).getD (s.nx a) 0) = 0 ∨ rk (N.hd ((N.out a).getD (s.nx a) 0)) ≠ rk a + 1
        · rw [if_pos c3] at h ⊢; exact push_mono N rk t k _ _ _ _ h
        · rw [if_neg c3] at h ⊢
          cases e : push N rk t k s (N.hd ((N.out a).getD (s.nx a) 0)) (min m (s.L ((N.out a).getD (s.nx a) 0))) with
          | none => rw [e] at h; cases h
          | some y =>
            rw [e] at h
            rw [push_mono N rk t k _ _ _ _ e]
            simp only at h ⊢
            by_cases c4 : y.2 > 0
            · rw [if_pos c4] at h ⊢; exact h
            · rw [if_neg c4] at h ⊢; exact push_mono N rk t k _ _ _ _ h
      · rw [if_neg c2] at h ⊢; exact h
theorem push_le {N : Net} {rk : Nat → Int} {t : Nat} {k k' : Nat} (hk : k ≤ k') {s : St} {a : Nat} {m : Int} {x : St × Int} (h : push N rk t k s a m = some x) : push N rk t k' s a m = some x := by
  induction hk with
  | refl => exact h
  | step _ ih => exact push_mono N rk t _ _ _ _ _ ih
def dead (N : Net) (t : Nat) (s : St) (c : Nat) : Prop := s.nx c = (N.out c).length ∧ c ≠ t
/-- What a search has passed by leads nowhere. -/
structure Srch (N : Net) (rk : Nat → Int) (t : Nat) (s : St) : Prop where
  fit : Fit N s.L
  bnd : ∀ b, s.nx b ≤ (N.out b).length
  gone : ∀ b j, j < s.nx b → s.L ((N.out b).getD j 0) = 0 ∨ rk (N.hd ((N.out b).getD j 0)) ≠ rk b + 1 ∨ dead N t s (N.hd ((N.out b).getD j 0))
def remN (N : Net) (s : St) : Int := sm N.n fun b => ((N.out b).length : Int) - (s.nx b : Int)
theorem remN_bump {N : Net} {s : St} {a : Nat} (ha : a < N.n) : remN N (bump s a) = remN N s - 1 := by
  unfold remN bump
  rw [sm_congr (g := fun b => if b = a then ((N.out a).length : Int) - ((s.nx a + 1 : Nat) : Int) else ((N.out b).length : Int) - (s.nx b : Int)) (fun b hb => ?_), sm_upd _ _ _ _ ha]
  · omega
  · by_cases c : b = a
    · subst c; simp
    · simp [c]
theorem remN_nn {N : Net} {rk : Nat → Int} {t : Nat} {s : St} (h : Srch N rk t s) : 0 ≤ remN N s := sm_nonneg fun b _ => by have := h.bnd b; omega
/-- What a push answers, from a state. -/
structure Pushed (N : Net) (rk : Nat → Int) (t : Nat) (s : St) (a : Nat) (m : Int) (s' : St) (r : Int) : Prop where
  srch : Srch N rk t s'
  nn : 0 ≤ r
  le : r ≤ m
  dry : r = 0 → (∀ k, s'.L k = s.L k) ∧ dead N t s' a
  low : ∀ b, rk b < rk a → s'.nx b = s.nx b
  grow : ∀ b, s.nx b ≤ s'.nx b
  arcs : ∀ k, k < 2 * N.m → s'.L k ≠ s.L k → rk a ≤ rk (N.tl k) ∧ rk a ≤ rk (N.hd k)
  ups : ∀ k, k < 2 * N.m → s.L k < s'.L k → rk (N.hd k) ≠ rk (N.tl k) + 1
  flow : ∀ i, ex N s'.L i = ex N s.L i + (if i = t then r else 0) - (if i = a then r else 0)
theorem srch_bump {N : Net} {rk : Nat → Int} {t : Nat} {s : St} (h : Srch N rk t s) {a : Nat} (ha : s.nx a < (N.out a).length)
    (hg : s.L ((N.out a).getD (s.nx a) 0) = 0 ∨ rk (N.hd ((N.out a).getD (s.nx a) 0)) ≠ rk a + 1 ∨ dead N t s (N.hd ((N.out a).getD (s.nx a) 0))) : Srch N rk t (bump s a) := by
  have hdead : ∀ c, dead N t s c → dead N t (bump s a) c := fun c hc => by
    refine ⟨?_, hc.2⟩
    have h1 := hc.1
    unfold bump
    by_cases e : c = a
    · subst e; omega
    · simp [e, h1]
  refine ⟨h.fit, fun b => ?_, fun b j hj => ?_⟩
  · unfold bump
    by_cases c : b = a
    · subst c; simp; omega
    · simp [c]; exact h.bnd b
  · by_cases c : b = a
    · subst c
      rw [bump_self] at hj
      by_cases e : j = s.nx b
      · subst e
        rcases hg with h1 | h1 | h1
        · exact .inl h1
        · exact .inr (.inl h1)
        · exact .inr (.inr (hdead _ h1))
      · rcases h.gone b j (by omega) with h1 | h1 | h1
        · exact .inl h1
        · exact .inr (.inl h1)
        · exact .inr (.inr (hdead _ h1))
    · rw [bump_ne s c] at hj
      rcases h.gone b j hj with h1 | h1 | h1
      · exact .inl h1
      · exact .inr (.inl h1)
      · exact .inr (.inr (hdead _ h1))
theorem push_spec {N : Net} (hN : N.Ok) {rk : Nat → Int} {t : Nat} (hrk : ∀ b, rk b ≤ (N.n : Int)) : ∀ (R d : Nat) (s : St) (a : Nat) (m : Int), remN N s ≤ (R : Int) → (N.n : Int) - rk a ≤ (d : Int) → Srch N rk t s → a < N.n → 0 < m →
    ∃ k s' r, push N rk t k s a m = some (s', r) ∧ Pushed N rk t s a m s' r := by
  intro R
  induction R with
  | zero =>
    intro d s a m hR hd hs ha hm
    by_cases c1 : a = t
    · refine ⟨1, s, m, by rw [push, if_pos c1], hs, by omega, Int.le_refl _, fun h => by omega, fun _ _ => rfl, fun _ => Nat.le_refl _, fun k _ h => absurd rfl h, fun k _ h => by omega, fun i => by rw [c1]; omega⟩
    · by_cases c2 : s.nx a < (N.out a).length
      · exfalso
        have h1 := remN_nn hs
        have h2 := sm_le (m := N.n) (f := fun b => if b = a then (1 : Int) else 0) (g := fun b => ((N.out b).length : Int) - (s.nx b : Int)) (fun b hb => by
          have := hs.bnd b
          by_cases c : b = a
          · subst c; simp only [if_pos rfl]; omega
          · rw [if_neg c]; omega)
        rw [sm_one _ _ _ ha] at h2
        unfold remN at hR; omega
      · refine ⟨1, s, 0, by rw [push, if_neg c1, if_neg c2], hs, by omega, by omega, fun _ => ⟨fun _ => rfl, ?_, c1⟩, fun _ _ => rfl, fun _ => Nat.le_refl _, fun k _ h => absurd rfl h, fun k _ h => by omega, fun i => by simp⟩
        have := hs.bnd a; omega
  | succ R ihR =>
    intro d
    induction d with
    | zero =>
      intro s a m hR hd hs ha hm
      have hra := hrk a
      by_cases c1 : a = t
      · refine ⟨1, s, m, by rw [push, if_pos c1], hs, by omega, Int.le_refl _, fun h => by omega, fun _ _ => rfl, fun _ => Nat.le_refl _, fun k _ h => absurd rfl h, fun k _ h => by omega, fun i => by rw [c1]; omega⟩
      · by_cases c2 : s.nx a < (N.out a).length
        · have hmis : rk (N.hd ((N.out a).getD (s.nx a) 0)) ≠ rk a + 1 := by
            have := hrk (N.hd ((N.out a).getD (s.nx a) 0)); omega
          have hs2 := srch_bump hs c2 (.inr (.inl hmis))
          obtain ⟨k, s', r, h1, h2⟩ := ihR 0 (bump s a) a m (by rw [remN_bump ha]; omega) (by omega) hs2 ha hm
          refine ⟨k + 1, s', r, by rw [push, if_neg c1, if_pos c2, if_pos (.inr hmis)]; exact h1, h2.srch, h2.nn, h2.le, h2.dry, fun b hb => ?_, fun b => ?_, h2.arcs, h2.ups, h2.flow⟩
          · rw [h2.low b hb]; exact bump_ne s (fun e => by rw [e] at hb; omega)
          · have := h2.grow b
            by_cases e : b = a
            · rw [e, bump_self] at this; rw [e]; omega
            · rw [bump_ne s e] at this; exact this
        · refine ⟨1, s, 0, by rw [push, if_neg c1, if_neg c2], hs, by omega, by omega, fun _ => ⟨fun _ => rfl, ?_, c1⟩, fun _ _ => rfl, fun _ => Nat.le_refl _, fun k _ h => absurd rfl h, fun k _ h => by omega, fun i => by simp⟩
          have := hs.bnd a; omega
    | succ d ihd =>
      intro s a m hR hd hs ha hm
      by_cases c1 : a = t
      · refine ⟨1, s, m, by rw [push, if_pos c1], hs, by omega, Int.le_refl _, fun h => by omega, fun _ _ => rfl, fun _ => Nat.le_refl _, fun k _ h => absurd rfl h, fun k _ h => by omega, fun i => by rw [c1]; omega⟩
      by_cases c2 : s.nx a < (N.out a).length
      rotate_left
      · refine ⟨1, s, 0, by rw [push, if_neg c1, if_neg c2], hs, by omega, by omega, fun _ => ⟨fun _ => rfl, ?_, c1⟩, fun _ _ => rfl, fun _ => Nat.le_refl _, fun k _ h => absurd rfl h, fun k _ h => by omega, fun i => by simp⟩
        have := hs.bnd a; omega
      obtain ⟨q, hq⟩ : ∃ q, (N.out a).getD (s.nx a) 0 = q := ⟨_, rfl⟩
      obtain ⟨hqm, hqt⟩ := out_at c2
      rw [hq] at hqm hqt
      by_cases c3 : s.L q = 0 ∨ rk (N.hd q) ≠ rk a + 1
      · have hs2 := srch_bump hs c2 (by rw [hq]; exact c3.elim .inl (fun h => .inr (.inl h)))
        obtain ⟨k, s', r, h1, h2⟩ := ihR (d + 1) (bump s a) a m (by rw [remN_bump ha]; omega) hd hs2 ha hm
        refine ⟨k + 1, s', r, by rw [push, if_neg c1, if_pos c2, hq, if_pos c3]; exact h1, h2.srch, h2.nn, h2.le, h2.dry, fun b hb => ?_, fun b => ?_, h2.arcs, h2.ups, h2.flow⟩
        · rw [h2.low b hb]; exact bump_ne s (fun e => by rw [e] at hb; omega)
        · have := h2.grow b
          by_cases e : b = a
          · rw [e, bump_self] at this; rw [e]; omega
          · rw [bump_ne s e] at this; exact this
      · have c4 : s.L q ≠ 0 := fun h => c3 (.inl h)
        have c5 : rk (N.hd q) = rk a + 1 := Decidable.byContradiction fun h => c3 (.inr h)
        have hnn := hs.fit.nn hqm
        have hpos : 0 < min m (s.L q) := by omega
        obtain ⟨k1, s1, r1, e1, p1⟩ := ihd s (N.hd q) (min m (s.L q)) hR (by omega) hs (hd_lt hN hqm) hpos
        have hsame : s1.L q = s.L q := by
          apply Decidable.byContradiction
          intro h
          have := (p1.arcs q hqm h).1
          rw [hqt] at this; omega
        by_cases c6 : r1 > 0
        · -- sent
          have hr1 : r1 ≤ s1.L q := by rw [hsame]; have := p1.le; omega
          have htw : rk (N.hd (twin q)) ≠ rk (N.tl (twin q)) + 1 := by rw [twin_hd, twin_tl, hqt, c5]; omega
          have hups : ∀ k, k < 2 * N.m → s.L k < shift s1.L q r1 k → rk (N.hd k) ≠ rk (N.tl k) + 1 := fun k hk h => by
            unfold shift at h
            by_cases e1 : k = q
            · rw [if_pos e1, hsame, e1] at h; omega
            · rw [if_neg e1] at h
              by_cases e2 : k = twin q
              · rw [e2]; exact htw
              · rw [if_neg e2] at h; exact p1.ups k hk h
          refine ⟨k1 + 1, ⟨shift s1.L q r1, s1.nx⟩, r1, by rw [push, if_neg c1, if_pos c2, hq, if_neg c3, e1]; simp only [if_pos c6], ⟨shift_fit p1.srch.fit hqm p1.nn hr1, p1.srch.bnd, fun b j hj => ?_⟩, p1.nn, ?_, fun h => by omega, fun b hb => p1.low b (by omega), p1.grow, fun k hk h => ?_, hups, fun i => ?_⟩
          · have hb := out_at (Nat.lt_of_lt_of_le hj (p1.srch.bnd b))
            rcases p1.srch.gone b j hj with h1 | h1 | h1
            · by_cases e : shift s1.L q r1 ((N.out b).getD j 0) = 0
              · exact .inl e
              · right; left
                have hne : (N.out b).getD j 0 ≠ q := fun h => by rw [h, hsame] at h1; exact c4 h1
                unfold shift at e
                rw [if_neg hne] at e
                by_cases e2 : (N.out b).getD j 0 = twin q
                · rw [e2] at hb ⊢; rw [hb.2] at htw; exact htw
                · rw [if_neg e2] at e; exact absurd h1 e
            · exact .inr (.inl h1)
            · exact .inr (.inr h1)
          · have := p1.le; omega
          · replace h : shift s1.L q r1 k ≠ s.L k := h
            unfold shift at h
            by_cases e1 : k = q
            · rw [e1, hqt, c5]; omega
            · rw [if_neg e1] at h
              by_cases e2 : k = twin q
              · rw [e2, twin_tl, twin_hd, hqt, c5]; omega
              · rw [if_neg e2] at h
                have := p1.arcs k hk h; omega
          · show ex N (shift s1.L q r1) i = _
            rw [shift_ex hN hqm, p1.flow i, hqt]
            have : N.hd q ≠ a := fun e => by rw [e] at c5; omega
            split <;> split <;> split <;> omega
        · -- dry
          have hr0 : r1 = 0 := by have := p1.nn; omega
          obtain ⟨hL, hdd⟩ := p1.dry hr0
          have hnx : s1.nx a = s.nx a := p1.low a (by omega)
          have c2' : s1.nx a < (N.out a).length := by omega
          have hs2 := srch_bump p1.srch c2' (by rw [hnx, hq]; exact .inr (.inr hdd))
          have hrem : remN N s1 ≤ remN N s := sm_le fun b _ => by have := p1.grow b; omega
          obtain ⟨k2, s2, r2, e2, p2⟩ := ihR (d + 1) (bump s1 a) a m (by rw [remN_bump ha]; omega) hd hs2 ha hm
          refine ⟨max k1 k2 + 1, s2, r2, ?_, p2.srch, p2.nn, p2.le, fun h => ?_, fun b hb => ?_, fun b => ?_, fun k hk h => ?_, fun k hk h => ?_, fun i => ?_⟩
          · rw [push, if_neg c1, if_pos c2, hq, if_neg c3, push_le (Nat.le_max_left k1 k2) e1]
            simp only
            rw [if_neg c6]; exact push_le (Nat.le_max_right k1 k2) e2
          · obtain ⟨h1, h2⟩ := p2.dry h
            exact ⟨fun k => (h1 k).trans (hL k), h2⟩
          · rw [p2.low b hb, bump_ne s1 (fun e => by rw [e] at hb; omega)]; exact p1.low b (by omega)
          · have h1 := p2.grow b
            have h2 := p1.grow b
            by_cases e : b = a
            · rw [e, bump_self] at h1; rw [e] at h2 ⊢; omega
            · rw [bump_ne s1 e] at h1; omega
          · have : s2.L k ≠ (bump s1 a).L k := fun e => h (e.trans (hL k))
            exact p2.arcs k hk this
          · have : (bump s1 a).L k < s2.L k := by show s1.L k < _; rw [hL k]; exact h
            exact p2.ups k hk this
          · have := p2.flow i
            have e : ex N (bump s1 a).L i = ex N s.L i := by unfold ex; exact sm_congr fun e _ => by show _ = _; simp only [bump, hL]
            rw [e] at this; exact this
end Go.Proofs.Ytffghdbhjjfnlaa.F
end
section
/-
  Flows, plain: the ranks, the phases, the run.
-/
namespace Go.Proofs.Ytffghdbhjjfnlaa.F
set_option linter.unusedVariables false
set_option linter.unusedSimpArgs false
theorem push_some {N : Net} (hN : N.Ok) {rk : Nat → Int} {t : Nat} (hrk : ∀ b, rk b ≤ (N.n : Int)) {k : Nat} {s : St} {a : Nat} {m : Int} {s' : St} {r : Int} (h : push N rk t k s a m = some (s', r)) (hs : Srch N rk t s) (ha : a < N.n) (hm : 0 < m) : Pushed N rk t s a m s' r := by
  obtain ⟨k0, s0, r0, h0, hp⟩ := push_spec hN hrk (remN N s).toNat ((N.n : Int) - rk a).toNat s a m (by omega) (by omega) hs ha hm
  have h1 := push_le (Nat.le_max_left k k0) h
  have h2 := push_le (Nat.le_max_right k k0) h0
  rw [h1] at h2
  injection h2 with h2
  injection h2 with h3 h4
  subst h3 h4
  exact hp
/-! ### ranks -/
def bstep (N : Net) (L : Nat → Int) (a : Nat) (x : (Nat → Int) × List Nat) (k : Nat) : (Nat → Int) × List Nat :=
  if L k > 0 ∧ x.1 (N.hd k) < 0 then (fun v => if v = N.hd k then x.1 a + 1 else x.1 v, x.2 ++ [N.hd k]) else x
def bfs (N : Net) (L : Nat → Int) : Nat → (Nat → Int) → List Nat → Option (Nat → Int)
  | 0, _, _ => none
  | _ + 1, rk, [] => some rk
  | k + 1, rk, a :: row => bfs N L k ((N.out a).foldl (bstep N L a) (rk, row)).1 ((N.out a).foldl (bstep N L a) (rk, row)).2
def rk0 (f : Nat) : Nat → Int := fun v => if v = f then 0 else -1
def ranks (N : Net) (L : Nat → Int) (f k : Nat) : Option (Nat → Int) := bfs N L k (rk0 f) [f]
theorem bfs_mono (N : Net) (L : Nat → Int) : ∀ k rk row x, bfs N L k rk row = some x → bfs N L (k + 1) rk row = some x
  | 0, rk, row, x, h => by simp [bfs] at h
  | k + 1, rk, [], x, h => by rw [bfs] at h ⊢; exact h
  | k + 1, rk, a :: row, x, h => by
    rw [bfs] at h ⊢
    exact bfs_mono N L k _ _ _ h
theorem bfs_le {N : Net} {L : Nat → Int} {k k' : Nat} (hk : k ≤ k') {rk : Nat → Int} {row : List Nat} {x : Nat → Int} (h : bfs N L k rk row = some x) : bfs N L k' rk row = some x := by
  induction hk with
  | refl => exact h
  | step _ ih => exact bfs_mono N L _ _ _ _ ih
def unv (N : Net) (rk : Nat → Int) : Int := sm N.n fun v => if rk v < 0 then 1 else 0
theorem unv_nn (N : Net) (rk : Nat → Int) : 0 ≤ unv N rk := sm_nonneg fun v _ => by split <;> omega
theorem unv_set {N : Net} {rk : Nat → Int} {v : Nat} (hv : v < N.n) (h : rk v < 0) {x : Int} (hx : 0 ≤ x) : unv N (fun u => if u = v then x else rk u) = unv N rk - 1 := by
  unfold unv
  rw [sm_congr (g := fun u => if u = v then (0 : Int) else if rk u < 0 then 1 else 0) (fun u hu => ?_), sm_upd _ _ _ _ hv, if_pos h]
  · omega
  · by_cases c : u = v
    · simp only [if_pos c]; rw [if_neg (by omega)]
    · simp only [if_neg c]
/-- What holds while the ranks are given; a: the node whose arcs are looked at. -/
structure Bf (N : Net) (L : Nat → Int) (f : Nat) (A : Nat → Prop) (rk : Nat → Int) (row : List Nat) : Prop where
  root : rk f = 0
  neg : ∀ v, rk v = -1 ∨ 0 ≤ rk v
  far : ∀ v, N.n ≤ v → rk v = -1
  pred : ∀ v, 0 ≤ rk v → v ≠ f → ∃ k, k < 2 * N.m ∧ N.hd k = v ∧ 0 < L k ∧ 0 ≤ rk (N.tl k) ∧ rk v = rk (N.tl k) + 1
  rows : ∀ a ∈ row, 0 ≤ rk a ∧ a < N.n
  top : ∀ v, rk v + unv N rk ≤ (N.n : Int)
  shut : ∀ b, 0 ≤ rk b → A b ∨ b ∈ row ∨ ∀ k, k < 2 * N.m → N.tl k = b → 0 < L k → 0 ≤ rk (N.hd k)
theorem bstep_ok {N : Net} (hN : N.Ok) {L : Nat → Int} {f : Nat} {A : Nat → Prop} {rk : Nat → Int} {row : List Nat} (h : Bf N L f A rk row) {k a : Nat} (hk : k < 2 * N.m) (ht : N.tl k = a) (ha : 0 ≤ rk a) :
    Bf N L f A (bstep N L a (rk, row) k).1 (bstep N L a (rk, row) k).2 ∧ (∀ v, 0 ≤ rk v → (bstep N L a (rk, row) k).1 v = rk v) ∧ (0 < L k → 0 ≤ (bstep N L a (rk, row) k).1 (N.hd k)) ∧
      2 * unv N (bstep N L a (rk, row) k).1 + ((bstep N L a (rk, row) k).2.length : Int) ≤ 2 * unv N rk + (row.length : Int) := by
  unfold bstep
  by_cases c : L k > 0 ∧ rk (N.hd k) < 0
  · rw [if_pos c]
    have hh := hd_lt hN hk
    have hu := unv_set hh c.2 (x := rk a + 1) (by omega)
    have hne : ∀ v, 0 ≤ rk v → v ≠ N.hd k := fun v hv e => by rw [e] at hv; omega
    have hkeep : ∀ v, 0 ≤ rk v → (if v = N.hd k then rk a + 1 else rk v) = rk v := fun v hv => if_neg (hne v hv)
    refine ⟨⟨?_, fun v => ?_, fun v hv => ?_, fun v hv hf => ?_, fun b hb => ?_, fun v => ?_, fun b hb => ?_⟩, hkeep, fun _ => ?_, ?_⟩
    · show (if f = N.hd k then rk a + 1 else rk (f)) = _
      rw [hkeep f (by rw [h.root]; omega), h.root]
    · show (if v = N.hd k then rk a + 1 else rk (v)) = _ ∨ 0 ≤ (if v = N.hd k then rk a + 1 else rk (v))
      by_cases e : v = N.hd k
      · rw [if_pos e]; right; omega
      · rw [if_neg e]; exact h.neg v
    · show (if v = N.hd k then rk a + 1 else rk (v)) = _
      rw [if_neg (by omega)]; exact h.far v hv
    · show ∃ q, q < 2 * N.m ∧ N.hd q = v ∧ 0 < L q ∧ 0 ≤ (if N.tl q = N.hd k then rk a + 1 else rk (N.tl q)) ∧ (if v = N.hd k then rk a + 1 else rk (v)) = (if N.tl q = N.hd k then rk a + 1 else rk (N.tl q)) + 1
      by_cases e : v = N.hd k
      · refine ⟨k, hk, e.symm, c.1, ?_, ?_⟩
        · rw [ht, hkeep a ha]; exact ha
        · rw [if_pos e, ht, hkeep a ha]
      · replace hv : 0 ≤ (if v = N.hd k then rk a + 1 else rk v) := hv
        rw [if_neg e] at hv
        obtain ⟨q, q1, q2, q3, q4, q5⟩ := h.pred v hv hf
        exact ⟨q, q1, q2, q3, by rw [hkeep _ q4]; exact q4, by rw [if_neg e, hkeep _ q4]; exact q5⟩
    · show 0 ≤ (if b = N.hd k then rk a + 1 else rk (b)) ∧ _
      rcases List.mem_append.1 hb with hb | hb
      · have := h.rows b hb
        rw [hkeep b this.1]; exact this
      · have := List.mem_singleton.1 hb
        rw [if_pos this, this]; exact ⟨by omega, hh⟩
    · show (if v = N.hd k then rk a + 1 else rk (v)) + _ ≤ _
      rw [hu]
      by_cases e : v = N.hd k
      · rw [if_pos e]; have := h.top a; omega
      · rw [if_neg e]; have := h.top v; omega
    · replace hb : 0 ≤ (if b = N.hd k then rk a + 1 else rk b) := hb
      by_cases e : b = N.hd k
      · right; left; rw [e]; simp
      · rw [if_neg e] at hb
        rcases h.shut b hb with h1 | h1 | h1
        · exact .inl h1
        · exact .inr (.inl (List.mem_append_left _ h1))
        · refine .inr (.inr fun q q1 q2 q3 => ?_)
          have := h1 q q1 q2 q3
          show 0 ≤ (if N.hd q = N.hd k then rk a + 1 else rk (N.hd q))
          rw [hkeep _ this]; exact this
    · show 0 ≤ (if N.hd k = N.hd k then rk a + 1 else rk (N.hd k))
      rw [if_pos rfl]; omega
    · show 2 * unv N (fun u => if u = N.hd k then rk a + 1 else rk u) + ((row ++ [N.hd k]).length : Int) ≤ _
      rw [hu, List.length_append]; simp; omega
  · rw [if_neg c]
    exact ⟨h, fun _ _ => rfl, fun hL => by have := h.neg (N.hd k); show 0 ≤ rk (N.hd k); by_cases e : rk (N.hd k) < 0; · exact absurd ⟨hL, e⟩ c
                                           · omega, Int.le_refl _⟩
theorem bfold_ok {N : Net} (hN : N.Ok) {L : Nat → Int} {f : Nat} {A : Nat → Prop} {a : Nat} : ∀ (ks : List Nat) (rk : Nat → Int) (row : List Nat), Bf N L f A rk row → (∀ k ∈ ks, k < 2 * N.m ∧ N.tl k = a) → 0 ≤ rk a →
    Bf N L f A (ks.foldl (bstep N L a) (rk, row)).1 (ks.foldl (bstep N L a) (rk, row)).2 ∧ (∀ v, 0 ≤ rk v → (ks.foldl (bstep N L a) (rk, row)).1 v = rk v) ∧ (∀ k ∈ ks, 0 < L k → 0 ≤ (ks.foldl (bstep N L a) (rk, row)).1 (N.hd k)) ∧
      2 * unv N (ks.foldl (bstep N L a) (rk, row)).1 + ((ks.foldl (bstep N L a) (rk, row)).2.length : Int) ≤ 2 * unv N rk + (row.length : Int)
  | [], rk, row, h, _, _ => ⟨h, fun _ _ => rfl, fun _ hk => by simp at hk, Int.le_refl _⟩
  | k :: ks, rk, row, h, hks, ha => by
    obtain ⟨h1, h2, h3, h4⟩ := bstep_ok hN h (hks k (by simp)).1 (hks k (by simp)).2 ha
    have ha2 : 0 ≤ (bstep N L a (rk, row) k).1 a := by rw [h2 a ha]; exact ha
    obtain ⟨g1, g2, g3, g4⟩ := bfold_ok hN ks _ _ h1 (fun q hq => hks q (by simp [hq])) ha2
    rw [List.foldl_cons]
    have g4' : 2 * unv N (ks.foldl (bstep N L a) (bstep N L a (rk, row) k)).1 + ((ks.foldl (bstep N L a) (bstep N L a (rk, row) k)).2.length : Int) ≤ 2 * unv N (bstep N L a (rk, row) k).1 + ((bstep N L a (rk, row) k).2.length : Int) := g4
    refine ⟨g1, fun v hv => ?_, fun q hq hL => ?_, by omega⟩
    · have e := h2 v hv
      exact (g2 v (by rw [e]; exact hv)).trans e
    · rcases List.mem_cons.1 hq with rfl | hq
      · have := h3 hL
        exact (g2 _ this).symm ▸ this
      · exact g3 q hq hL
/-- The ranks stand. -/
abbrev Ranked (N : Net) (L : Nat → Int) (f : Nat) (rk : Nat → Int) : Prop := Bf N L f (fun _ => False) rk []
theorem bf_next {N : Net} (hN : N.Ok) {L : Nat → Int} {f a : Nat} {rk : Nat → Int} {row : List Nat} (h : Bf N L f (fun _ => False) rk (a :: row)) :
    Bf N L f (fun _ => False) ((N.out a).foldl (bstep N L a) (rk, row)).1 ((N.out a).foldl (bstep N L a) (rk, row)).2 ∧
      2 * unv N ((N.out a).foldl (bstep N L a) (rk, row)).1 + (((N.out a).foldl (bstep N L a) (rk, row)).2.length : Int) < 2 * unv N rk + ((a :: row).length : Int) := by
  have ha := h.rows a (by simp)
  have h' : Bf N L f (fun b => b = a) rk row := ⟨h.root, h.neg, h.far, h.pred, fun b hb => h.rows b (by simp [hb]), h.top, fun b hb => by
    rcases h.shut b hb with h1 | h1 | h1
    · exact absurd h1 id
    · rcases List.mem_cons.1 h1 with h1 | h1
      · exact .inl h1
      · exact .inr (.inl h1)
    · exact .inr (.inr h1)⟩
  obtain ⟨g1, g2, g3, g4⟩ := bfold_ok hN (N.out a) rk row h' (fun k hk => mem_out.1 hk) ha.1
  refine ⟨⟨g1.root, g1.neg, g1.far, g1.pred, g1.rows, g1.top, fun b hb => ?_⟩, by simp; omega⟩
  rcases g1.shut b hb with h1 | h1 | h1
  · right; right
    intro k k1 k2 k3
    exact g3 k (mem_out.2 ⟨k1, by rw [k2]; exact h1⟩) k3
  · exact .inr (.inl h1)
  · exact .inr (.inr h1)
theorem bfs_spec {N : Net} (hN : N.Ok) {L : Nat → Int} {f : Nat} : ∀ (M : Nat) (rk : Nat → Int) (row : List Nat), 2 * unv N rk + (row.length : Int) ≤ (M : Int) → Bf N L f (fun _ => False) rk row → ∃ k r, bfs N L k rk row = some r ∧ Ranked N L f r
  | M, rk, [], _, h => ⟨1, rk, rfl, h⟩
  | 0, rk, a :: row, hM, h => by
    have := unv_nn N rk
    simp at hM; omega
  | M + 1, rk, a :: row, hM, h => by
    obtain ⟨h1, h2⟩ := bf_next hN h
    obtain ⟨k, r, h3, h4⟩ := bfs_spec hN M _ _ (by omega) h1
    exact ⟨k + 1, r, by rw [bfs]; exact h3, h4⟩
theorem rk0_ok {N : Net} {L : Nat → Int} {f : Nat} (hf : f < N.n) : Bf N L f (fun _ => False) (rk0 f) [f] := by
  have hu : unv N (rk0 f) = (N.n : Int) - 1 := by
    unfold unv
    rw [sm_congr (g := fun u => if u = f then (0 : Int) else 1) (fun u hu => ?_)]
    · rw [sm_upd N.n (fun _ => 1) f 0 hf]
      have : ∀ n : Nat, sm n (fun _ => 1) = (n : Int) := fun n => by
        induction n with
        | zero => rfl
        | succ n ih => rw [sm, ih]; omega
      rw [this]; omega
    · unfold rk0
      by_cases c : u = f
      · simp [c]
      · simp [c]
  refine ⟨if_pos rfl, fun v => ?_, fun v hv => if_neg (by omega), fun v hv hf' => ?_, fun a ha => ?_, fun v => ?_, fun b hb => ?_⟩
  · unfold rk0; split <;> omega
  · unfold rk0 at hv; rw [if_neg hf'] at hv; omega
  · have := List.mem_singleton.1 ha
    subst this
    exact ⟨by unfold rk0; rw [if_pos rfl]; omega, hf⟩
  · rw [hu]; unfold rk0; split <;> omega
  · unfold rk0 at hb
    by_cases c : b = f
    · right; left; simp [c]
    · rw [if_neg c] at hb; omega
theorem ranks_spec {N : Net} (hN : N.Ok) (L : Nat → Int) {f : Nat} (hf : f < N.n) : ∃ k r, ranks N L f k = some r ∧ Ranked N L f r :=
  bfs_spec hN (2 * unv N (rk0 f) + 1).toNat (rk0 f) [f] (by have := unv_nn N (rk0 f); simp; omega) (rk0_ok hf)
theorem ranks_some {N : Net} (hN : N.Ok) {L : Nat → Int} {f : Nat} (hf : f < N.n) {k : Nat} {r : Nat → Int} (h : ranks N L f k = some r) : Ranked N L f r := by
  obtain ⟨k0, r0, h0, h1⟩ := ranks_spec hN L hf
  have a1 := bfs_le (Nat.le_max_left k k0) h
  have a2 := bfs_le (Nat.le_max_right k k0) h0
  rw [a1] at a2
  injection a2 with a2
  rw [a2]; exact h1
theorem Bf.le {N : Net} {L : Nat → Int} {f : Nat} {A : Nat → Prop} {rk : Nat → Int} {row : List Nat} (h : Bf N L f A rk row) (b : Nat) : rk b ≤ (N.n : Int) := by
  have := h.top b
  have := unv_nn N rk
  omega
/-! ### phases and the run -/
def BIG : Int := 5000000000
def phase (N : Net) (rk : Nat → Int) (f t : Nat) : Nat → St → Int → Option (St × Int)
  | 0, _, _ => none
  | k + 1, s, sum => match push N rk t k s f BIG with
    | none => none
    | some (s', r) => if r > 0 then phase N rk f t k s' (sum + r) else some (s', sum)
def run (N : Net) (f t : Nat) : Nat → (Nat → Int) → Int → Option ((Nat → Int) × (Nat → Int) × Int)
  | 0, _, _ => none
  | k + 1, L, sum => match ranks N L f k with
    | none => none
    | some rk => if rk t < 0 then some (L, rk, sum) else match phase N rk f t k ⟨L, fun _ => 0⟩ sum with
      | none => none
      | some (s, sum') => run N f t k s.L sum'
theorem phase_mono (N : Net) (rk : Nat → Int) (f t : Nat) : ∀ k s sum x, phase N rk f t k s sum = some x → phase N rk f t (k + 1) s sum = some x
  | 0, s, sum, x, h => by simp [phase] at h
  | k + 1, s, sum, x, h => by
    rw [phase] at h ⊢
    cases e : push N rk t k s f BIG with
    | none => rw [e] at h; cases h
    | some y =>
      rw [e] at h
      rw [push_mono N rk t k _ _ _ _ e]
      simp only at h ⊢
      by_cases c : y.2 > 0
      · rw [if_pos c] at h ⊢; exact phase_mono N rk f t k _ _ _ h
      · rw [if_neg c] at h ⊢; exact h
theorem phase_le {N : Net} {rk : Nat → Int} {f t k k' : Nat} (hk : k ≤ k') {s : St} {sum : Int} {x : St × Int} (h : phase N rk f t k s sum = some x) : phase N rk f t k' s sum = some x := by
  induction hk with
  | refl => exact h
  | step _ ih => exact phase_mono N rk f t _ _ _ _ ih
theorem run_mono (N : Net) (f t : Nat) : ∀ k L sum x, run N f t k L sum = some x → run N f t (k + 1) L sum = some x
  | 0, L, sum, x, h => by simp [run] at h
  | k + 1, L, sum, x, h => by
    rw [run] at h ⊢
    cases e : ranks N L f k with
    | none => rw [e] at h; cases h
    | some rk =>
      rw [e] at h
      have e' : ranks N L f (k + 1) = some rk := bfs_mono N L k _ _ _ e
      rw [e']
      simp only at h ⊢
      by_cases c : rk t < 0
      · rw [if_pos c] at h ⊢; exact h
      · rw [if_neg c] at h ⊢
        cases e2 : phase N rk f t k ⟨L, fun _ => 0⟩ sum with
        | none => rw [e2] at h; cases h
        | some y =>
          rw [e2] at h
          rw [phase_mono N rk f t k _ _ _ e2]
          exact run_mono N f t k _ _ _ h
theorem run_le {N : Net} {f t k k' : Nat} (hk : k ≤ k') {L : Nat → Int} {sum : Int} {x : (Nat → Int) × (Nat → Int) × Int} (h : run N f t k L sum = some x) : run N f t k' L sum = some x := by
  induction hk with
  | refl => exact h
  | step _ ih => exact run_mono N f t _ _ _ _ ih
def total (N : Net) : Int := sm N.m N.mo
theorem total_le {N : Net} (hN : N.Ok) : total N ≤ 5000000000 := by
  have h : ∀ m : Nat, (∀ e, e < m → N.mo e ≤ 1000000) → sm m N.mo ≤ 1000000 * (m : Int) := fun m => by
    induction m with
    | zero => intro _; simp [sm]
    | succ m ih =>
      intro h
      have h1 := ih (fun e he => h e (by omega))
      have h2 := h m (by omega)
      rw [sm]; omega
  have := h N.m (fun e he => (hN.mo e he).2)
  have := hN.few
  unfold total; omega
/-- What stands is a flow of a size. -/
structure Flows (N : Net) (f t : Nat) (L : Nat → Int) (sum : Int) : Prop where
  fit : Fit N L
  even : ∀ i, i ≠ f → i ≠ t → ex N L i = 0
  size : ex N L f = -sum
  nn : 0 ≤ sum
theorem Flows.le {N : Net} {f t : Nat} {L : Nat → Int} {sum : Int} (h : Flows N f t L sum) : sum ≤ total N := by
  have h1 := h.size
  have h2 : - ex N L f ≤ total N := by
    unfold ex total
    rw [← sm_neg]
    refine sm_le fun e he => ?_
    have := h.fit e he
    split <;> split <;> omega
  omega
theorem flows_push {N : Net} {rk : Nat → Int} {f t : Nat} (hft : f ≠ t) {s s' : St} {sum m r : Int} (h : Flows N f t s.L sum) (hp : Pushed N rk t s f m s' r) : Flows N f t s'.L (sum + r) := by
  refine ⟨hp.srch.fit, fun i h1 h2 => ?_, ?_, by have := h.nn; have := hp.nn; omega⟩
  · rw [hp.flow i, h.even i h1 h2, if_neg h2, if_neg h1]; omega
  · rw [hp.flow f, h.size, if_neg hft, if_pos rfl]; omega
theorem phase_spec {N : Net} (hN : N.Ok) {rk : Nat → Int} {f t : Nat} (hf : f < N.n) (hft : f ≠ t) (hrk : ∀ b, rk b ≤ (N.n : Int)) : ∀ (M : Nat) (s : St) (sum : Int), total N - sum ≤ (M : Int) → Srch N rk t s → Flows N f t s.L sum →
    ∃ k s' sum', phase N rk f t k s sum = some (s', sum') ∧ Srch N rk t s' ∧ Flows N f t s'.L sum' ∧ sum ≤ sum' ∧ (sum' = sum → dead N t s' f) := by
  intro M
  induction M with
  | zero =>
    intro s sum hM hs hfl
    obtain ⟨k, s', r, h1, hp⟩ := push_spec hN hrk (remN N s).toNat ((N.n : Int) - rk f).toNat s f BIG (by omega) (by omega) hs hf (by decide)
    have hfl' := flows_push hft hfl hp
    have h2 := hfl'.le
    have h3 := hp.nn
    have hr : r = 0 := by omega
    refine ⟨k + 1, s', sum, by rw [phase, h1]; simp only; rw [if_neg (by omega)], hp.srch, ?_, Int.le_refl _, fun _ => (hp.dry hr).2⟩
    rw [hr, Int.add_zero] at hfl'; exact hfl'
  | succ M ih =>
    intro s sum hM hs hfl
    obtain ⟨k, s', r, h1, hp⟩ := push_spec hN hrk (remN N s).toNat ((N.n : Int) - rk f).toNat s f BIG (by omega) (by omega) hs hf (by decide)
    have hfl' := flows_push hft hfl hp
    have h3 := hp.nn
    by_cases c : r > 0
    · obtain ⟨k2, s2, sum2, g1, g2, g3, g4, g5⟩ := ih s' (sum + r) (by omega) hp.srch hfl'
      refine ⟨max k k2 + 1, s2, sum2, ?_, g2, g3, by omega, fun e => by omega⟩
      rw [phase, push_le (Nat.le_max_left k k2) h1]
      simp only
      rw [if_pos c]; exact phase_le (Nat.le_max_right k k2) g1
    · have hr : r = 0 := by omega
      refine ⟨k + 1, s', sum, by rw [phase, h1]; simp only; rw [if_neg c], hp.srch, ?_, Int.le_refl _, fun _ => (hp.dry hr).2⟩
      rw [hr, Int.add_zero] at hfl'; exact hfl'
/-- The first node is not dead where the last one has a rank. -/
theorem not_dead {N : Net} {L : Nat → Int} {rk : Nat → Int} {f t : Nat} (hr : Ranked N L f rk) (ht : 0 ≤ rk t) {s : St} (hs : Srch N rk t s) (hL : ∀ k, s.L k = L k) (hd : dead N t s f) : False := by
  have key : ∀ (r : Nat) (v : Nat), rk v = (r : Int) → dead N t s v := fun r => by
    induction r with
    | zero =>
      intro v hv
      by_cases c : v = f
      · rw [c]; exact hd
      · obtain ⟨k, _, _, _, h1, h2⟩ := hr.pred v (by omega) c
        omega
    | succ r ih =>
      intro v hv
      by_cases c : v = f
      · rw [c]; exact hd
      · obtain ⟨k, k1, k2, k3, k4, k5⟩ := hr.pred v (by omega) c
        have hu := ih (N.tl k) (by omega)
        have hm : k ∈ N.out (N.tl k) := mem_out.2 ⟨k1, rfl⟩
        obtain ⟨j, hj, e⟩ := List.mem_iff_getElem.1 hm
        have hg : (N.out (N.tl k)).getD j 0 = k := by rw [List.getD_eq_getElem?_getD, List.getElem?_eq_getElem hj]; exact e
        have := hs.gone (N.tl k) j (by rw [hu.1]; exact hj)
        rw [hg] at this
        rcases this with h1 | h1 | h1
        · rw [hL] at h1; omega
        · rw [k2] at h1; omega
        · rw [k2] at h1; exact h1
  exact (key (rk t).toNat t (by omega)).2 rfl
theorem srch_zero {N : Net} {rk : Nat → Int} {t : Nat} {L : Nat → Int} (h : Fit N L) : Srch N rk t ⟨L, fun _ => 0⟩ := ⟨h, fun _ => Nat.zero_le _, fun b j hj => absurd hj (Nat.not_lt_zero j)⟩
/-- In a phase something is sent. -/
theorem phase_more {N : Net} (hN : N.Ok) {L : Nat → Int} {rk : Nat → Int} {f t : Nat} (hf : f < N.n) (hft : f ≠ t) (hr : Ranked N L f rk) (ht : 0 ≤ rk t) (sum : Int) (hfl : Flows N f t L sum) :
    ∃ k s' sum', phase N rk f t k ⟨L, fun _ => 0⟩ sum = some (s', sum') ∧ Flows N f t s'.L sum' ∧ sum < sum' := by
  obtain ⟨k, s', r, h1, hp⟩ := push_spec hN (t := t) hr.le (remN N ⟨L, fun _ => 0⟩).toNat ((N.n : Int) - rk f).toNat ⟨L, fun _ => 0⟩ f BIG (by omega) (by omega) (srch_zero hfl.fit) hf (by decide)
  have h3 := hp.nn
  by_cases c : r > 0
  · have hfl' := flows_push hft (s := ⟨L, fun _ => 0⟩) hfl hp
    have hle := hfl'.le
    obtain ⟨k2, s2, sum2, g1, g2, g3, g4, g5⟩ := phase_spec hN hf hft hr.le (total N - (sum + r)).toNat s' (sum + r) (by omega) hp.srch hfl'
    refine ⟨max k k2 + 1, s2, sum2, ?_, g3, by omega⟩
    rw [phase, push_le (Nat.le_max_left k k2) h1]
    simp only
    rw [if_pos c]; exact phase_le (Nat.le_max_right k k2) g1
  · obtain ⟨hL, hd⟩ := hp.dry (by omega)
    exact (not_dead hr ht hp.srch hL hd).elim
theorem run_spec {N : Net} (hN : N.Ok) {f t : Nat} (hf : f < N.n) (ht : t < N.n) (hft : f ≠ t) : ∀ (M : Nat) (L : Nat → Int) (sum : Int), total N - sum ≤ (M : Int) → Flows N f t L sum →
    ∃ k L' rk sum', run N f t k L sum = some (L', rk, sum') ∧ Flows N f t L' sum' ∧ Ranked N L' f rk ∧ rk t < 0 := by
  intro M
  induction M with
  | zero =>
    intro L sum hM hfl
    obtain ⟨k, rk, h1, hr⟩ := ranks_spec hN L hf
    by_cases c : rk t < 0
    · exact ⟨k + 1, L, rk, sum, by rw [run, h1]; simp only; rw [if_pos c], hfl, hr, c⟩
    · obtain ⟨k2, s', sum', _, g2, g3⟩ := phase_more hN hf hft hr (by omega) sum hfl
      have := g2.le
      omega
  | succ M ih =>
    intro L sum hM hfl
    obtain ⟨k, rk, h1, hr⟩ := ranks_spec hN L hf
    by_cases c : rk t < 0
    · exact ⟨k + 1, L, rk, sum, by rw [run, h1]; simp only; rw [if_pos c], hfl, hr, c⟩
    · obtain ⟨k2, s', sum', g1, g2, g3⟩ := phase_more hN hf hft hr (by omega) sum hfl
      obtain ⟨k3, L', rk', sum3, e1, e2, e3, e4⟩ := ih s'.L sum' (by omega) g2
      refine ⟨max k (max k2 k3) + 1, L', rk', sum3, ?_, e2, e3, e4⟩
      have hR : ranks N L f (max k (max k2 k3)) = some rk := bfs_le (Nat.le_max_left _ _) h1
      rw [run, hR]
      simp only
      rw [if_neg c, phase_le (Nat.le_trans (Nat.le_max_left k2 k3) (Nat.le_max_right _ _)) g1]
      exact run_le (Nat.le_trans (Nat.le_max_right k2 k3) (Nat.le_max_right _ _)) e1
/-- What is left before any run. -/
def L0 (N : Net) : Nat → Int := fun k => if k % 2 = 0 then N.mo (k / 2) else 0
theorem flows0 {N : Net} (hN : N.Ok) (f t : Nat) : Flows N f t (L0 N) 0 := by
  have h1 : ∀ e : Nat, L0 N (2 * e + 1) = 0 := fun e => if_neg (by omega)
  have h2 : ∀ e : Nat, L0 N (2 * e) = N.mo e := fun e => by unfold L0; rw [if_pos (by omega)]; congr 1; omega
  have hz : ∀ i, ex N (L0 N) i = 0 := fun i => by
    unfold ex
    rw [sm_congr (g := fun _ => 0) (fun e he => by rw [h1]; split <;> split <;> omega), sm_zero]
  exact ⟨fun e he => by rw [h1, h2]; have := hN.mo e he; omega, fun i _ _ => hz i, by rw [hz]; omega, Int.le_refl _⟩
theorem run_all {N : Net} (hN : N.Ok) {f t : Nat} (hf : f < N.n) (ht : t < N.n) (hft : f ≠ t) : ∃ k L rk sum, run N f t k (L0 N) 0 = some (L, rk, sum) ∧ Flows N f t L sum ∧ Ranked N L f rk ∧ rk t < 0 :=
  run_spec hN hf ht hft (total N - 0).toNat (L0 N) 0 (by omega) (flows0 hN f t)
end Go.Proofs.Ytffghdbhjjfnlaa.F
end
section
/-
  Flows and cuts, plain.
-/
namespace Go.Proofs.Ytffghdbhjjfnlaa.F
set_option linter.unusedVariables false
set_option linter.unusedSimpArgs false
theorem sm_if (m : Nat) (c : Bool) (f : Nat → Int) : (if c then sm m f else 0) = sm m fun e => if c then f e else 0 := by
  cases c
  · simp [sm_zero]
  · simp
theorem sm_at (n : Nat) (a : Nat) (ha : a < n) (g : Nat → Int) (h : ∀ i, i < n → i ≠ a → g i = 0) : sm n g = g a := by
  rw [sm_congr (g := fun i => if i = a then g a else 0) (fun i hi => ?_), sm_one n a _ ha]
  by_cases c : i = a
  · rw [if_pos c, c]
  · rw [if_neg c]; exact h i hi c
/-- What goes into a set more than out. -/
theorem cut_net {N : Net} (hN : N.Ok) (L : Nat → Int) (C : Nat → Bool) :
    sm N.n (fun v => if C v then ex N L v else 0) = sm N.m fun e => (if C (N.to e) then L (2 * e + 1) else 0) - (if C (N.fr e) then L (2 * e + 1) else 0) := by
  have e0 : sm N.n (fun v => if C v then ex N L v else 0) = sm N.n (fun v => sm N.m fun e => if C v then (if N.to e = v then L (2 * e + 1) else 0) - (if N.fr e = v then L (2 * e + 1) else 0) else 0) := sm_congr fun v _ => sm_if N.m (C v) fun e => (if N.to e = v then L (2 * e + 1) else 0) - (if N.fr e = v then L (2 * e + 1) else 0)
  rw [e0, ← sm_swap N.m N.n]
  refine sm_congr fun e he => ?_
  have h1 : sm N.n (fun v => if C v then (if N.to e = v then L (2 * e + 1) else 0) else 0) = if C (N.to e) then L (2 * e + 1) else 0 := by
    rw [sm_at N.n (N.to e) (hN.to e he) _ (fun i _ hi => ?_)]
    · simp
    · show (if C i then (if N.to e = i then L (2 * e + 1) else 0) else 0) = 0
      rw [if_neg (c := N.to e = i) (fun h => hi h.symm)]; simp
  have h2 : sm N.n (fun v => if C v then (if N.fr e = v then L (2 * e + 1) else 0) else 0) = if C (N.fr e) then L (2 * e + 1) else 0 := by
    rw [sm_at N.n (N.fr e) (hN.fr e he) _ (fun i _ hi => ?_)]
    · simp
    · show (if C i then (if N.fr e = i then L (2 * e + 1) else 0) else 0) = 0
      rw [if_neg (c := N.fr e = i) (fun h => hi h.symm)]; simp
  rw [← h1, ← h2]
  have h3 := sm_add N.n (fun v => if C v then (if N.to e = v then L (2 * e + 1) else 0) else 0) (fun v => - if C v then (if N.fr e = v then L (2 * e + 1) else 0) else 0)
  rw [sm_neg] at h3
  rw [Int.sub_eq_add_neg, ← h3]
  refine sm_congr fun v _ => ?_
  show (if C v then (if N.to e = v then L (2 * e + 1) else 0) - (if N.fr e = v then L (2 * e + 1) else 0) else 0) = (if C v then (if N.to e = v then L (2 * e + 1) else 0) else 0) + - (if C v then (if N.fr e = v then L (2 * e + 1) else 0) else 0)
  cases C v
  · simp
  · simp; omega
/-- The capacity of a cut, of the first edges. -/
def capK (N : Net) (C : Nat → Bool) (k : Nat) : Int := sm k fun e => if C (N.fr e) && !C (N.to e) then N.mo e else 0
theorem flow_cut {N : Net} (hN : N.Ok) {f t : Nat} (hf : f < N.n) {L : Nat → Int} {sum : Int} (h : Flows N f t L sum) {C : Nat → Bool} (hcf : C f = true) (hct : C t = false) :
    sum = sm N.m fun e => (if C (N.fr e) then L (2 * e + 1) else 0) - (if C (N.to e) then L (2 * e + 1) else 0) := by
  have h1 := cut_net hN L C
  have h2 : sm N.n (fun v => if C v then ex N L v else 0) = - sum := by
    rw [sm_at N.n f hf _ (fun i _ hi => ?_)]
    · rw [hcf, if_pos rfl, h.size]
    · by_cases c : i = t
      · rw [c, hct]; rfl
      · show (if C i then ex N L i else 0) = 0
        rw [h.even i hi c]; simp
  rw [h2] at h1
  have h3 : sm N.m (fun e => (if C (N.fr e) then L (2 * e + 1) else 0) - (if C (N.to e) then L (2 * e + 1) else 0)) = - sm N.m fun e => (if C (N.to e) then L (2 * e + 1) else 0) - (if C (N.fr e) then L (2 * e + 1) else 0) := by
    rw [← sm_neg]
    exact sm_congr fun e _ => by omega
  rw [h3]; omega
/-- No flow is greater than a cut. -/
theorem flow_le_cut {N : Net} (hN : N.Ok) {f t : Nat} (hf : f < N.n) {L : Nat → Int} {sum : Int} (h : Flows N f t L sum) {C : Nat → Bool} (hcf : C f = true) (hct : C t = false) : sum ≤ capK N C N.m := by
  rw [flow_cut hN hf h hcf hct]
  refine sm_le fun e he => ?_
  have := h.fit e he
  cases C (N.fr e) <;> cases C (N.to e) <;> simp <;> omega
/-- What the ranks tell is a cut of the flow's size. -/
theorem ranked_cut {N : Net} (hN : N.Ok) {f t : Nat} (hf : f < N.n) {L : Nat → Int} {sum : Int} (h : Flows N f t L sum) {rk : Nat → Int} (hr : Ranked N L f rk) (ht : rk t < 0) :
    decide (rk f ≥ 0) = true ∧ decide (rk t ≥ 0) = false ∧ (∀ e, e < N.m → 0 ≤ rk (N.fr e) → rk (N.to e) < 0 → L (2 * e + 1) = N.mo e) ∧ (∀ e, e < N.m → 0 ≤ rk (N.to e) → rk (N.fr e) < 0 → L (2 * e + 1) = 0) ∧
      sum = capK N (fun v => decide (rk v ≥ 0)) N.m := by
  have hcf : decide (rk f ≥ 0) = true := decide_eq_true (by rw [hr.root]; exact Int.le_refl 0)
  have hct : decide (rk t ≥ 0) = false := decide_eq_false (by omega)
  have shut : ∀ b, 0 ≤ rk b → ∀ k, k < 2 * N.m → N.tl k = b → 0 < L k → 0 ≤ rk (N.hd k) := fun b hb => by
    rcases hr.shut b hb with h1 | h1 | h1
    · exact absurd h1 id
    · simp at h1
    · exact h1
  have fw : ∀ e, e < N.m → 0 ≤ rk (N.fr e) → rk (N.to e) < 0 → L (2 * e + 1) = N.mo e := fun e he h1 h2 => by
    have hfit := h.fit e he
    have hs := shut (N.fr e) h1 (2 * e) (by omega) (by unfold Net.tl; rw [if_pos (by omega)]; congr 1; omega)
    have hh : N.hd (2 * e) = N.to e := by unfold Net.hd; rw [if_pos (by omega)]; congr 1; omega
    rw [hh] at hs
    by_cases c : 0 < L (2 * e)
    · have := hs c; omega
    · omega
  have bw : ∀ e, e < N.m → 0 ≤ rk (N.to e) → rk (N.fr e) < 0 → L (2 * e + 1) = 0 := fun e he h1 h2 => by
    have hfit := h.fit e he
    have hs := shut (N.to e) h1 (2 * e + 1) (by omega) (by unfold Net.tl; rw [if_neg (by omega)]; congr 1; omega)
    have hh : N.hd (2 * e + 1) = N.fr e := by unfold Net.hd; rw [if_neg (by omega)]; congr 1; omega
    rw [hh] at hs
    by_cases c : 0 < L (2 * e + 1)
    · have := hs c; omega
    · omega
  refine ⟨hcf, hct, fw, bw, ?_⟩
  rw [flow_cut hN hf h (C := fun v => decide (rk v ≥ 0)) hcf hct]
  refine sm_congr fun e he => ?_
  by_cases c1 : rk (N.fr e) ≥ 0
  · by_cases c2 : rk (N.to e) ≥ 0
    · simp [c1, c2]
    · simp only [decide_eq_true c1, decide_eq_false c2]
      simp; exact fw e he c1 (by omega)
  · by_cases c2 : rk (N.to e) ≥ 0
    · simp only [decide_eq_false c1, decide_eq_true c2]
      simp; exact bw e he c2 (by omega)
    · simp [c1, c2]
/-! ### what comes in at a node -/
theorem capK_succ (N : Net) (C : Nat → Bool) (k : Nat) : capK N C (k + 1) = capK N C k + if C (N.fr k) && !C (N.to k) then N.mo k else 0 := rfl
end Go.Proofs.Ytffghdbhjjfnlaa.F
end
