/-
  The plain side of layer 5, second part: the reference's functions make the same sets; lists and counts.
-/
import Derived.Test.YtbmnnmcnmfgbaaaSets
namespace Go.Proofs.Ytbmnnmcnmfgbaaa.PB
open Go.RowKit Go.Proofs.YtbmnnmcnmfgbaaaW.PrintWords Go.Proofs.YtbmnnmcnmfgbaaaW.PrintLast Go.Proofs.YtbmnnmcnmfgbaaaW.PrintMore
open Elems (sh)
set_option linter.unusedVariables false
set_option linter.unusedSimpArgs false

/-! ### equal rows -/
theorem rows_loop_spec (L0 : Nat → List Int → List Int → Int → Option Bool) (h : ∀ k x0 x1 x5, L0 (k + 1) x0 x1 x5 = if x5 < (x0.length : Int) then (if 0 ≤ x5 then (if x5 < (x1.length : Int) then (if (rd x0 x5) = (rd x1 x5) then (L0 k x0 x1 (wrap64 (x5 + 1))) else (some false)) else (none)) else (none)) else (some true))
    (a b : List Int) (hl : a.length = b.length) (hn : a.length < 9223372036854775807) (d : Nat) : ∀ m : Nat, m ≤ a.length → a.length - m = d → Ev (fun k => L0 k a b (m : Int)) (decide (a.drop m = b.drop m)) := by
  induction d with
  | zero =>
    intro m hm hd
    obtain rfl : m = a.length := by omega
    have e : decide (a.drop a.length = b.drop a.length) = true := by rw [hl, List.drop_length, ← hl, List.drop_length]; rfl
    rw [e]
    refine Ev.step (f := fun _ => some true) (fun k => ?_) (Ev.now _)
    rw [h, if_neg (by omega)]
  | succ d ih =>
    intro m hm hd
    have ha : a.drop m = rd a m :: a.drop (m + 1) := by rw [List.drop_eq_getElem_cons (by omega)]; simp [rd, show m < a.length from by omega]
    have hb : b.drop m = rd b m :: b.drop (m + 1) := by rw [List.drop_eq_getElem_cons (by omega)]; simp [rd, show m < b.length from by omega]
    rw [ha, hb]
    by_cases he : rd a (m : Int) = rd b (m : Int)
    · have e : decide (rd a (m : Int) :: a.drop (m + 1) = rd b (m : Int) :: b.drop (m + 1)) = decide (a.drop (m + 1) = b.drop (m + 1)) := decide_eq_decide.2 (by rw [he]; simp)
      rw [e]
      refine Ev.step (fun k => ?_) (ih (m + 1) (by omega) (by omega))
      rw [h, if_pos (by omega), if_pos (by omega), if_pos (by omega), if_pos he, wrap_succ m (by omega)]
    · have e : decide (rd a (m : Int) :: a.drop (m + 1) = rd b (m : Int) :: b.drop (m + 1)) = false := decide_eq_false (by simp [he])
      rw [e]
      refine Ev.step (f := fun _ => some false) (fun k => ?_) (Ev.now _)
      rw [h, if_pos (by omega), if_pos (by omega), if_pos (by omega), if_neg he]
theorem words_ev (a b : List Int) (hn : a.length < 9223372036854775807) : Ev (fun k => horariumref05_Words.f k a b) (decide (a = b)) := by
  by_cases hl : a.length = b.length
  · refine Ev.congr (fun k => ?_) (rows_loop_spec horariumref05_Words.l0 (fun k x0 x1 x5 => by simp only [horariumref05_Words.l0]) a b hl hn _ 0 (Nat.zero_le _) rfl)
    unfold horariumref05_Words.f
    rw [if_pos (by omega)]; rfl
  · rw [decide_eq_false (fun e => hl (by rw [e]))]
    refine Ev.congr (fun k => ?_) (Ev.now _)
    unfold horariumref05_Words.f
    rw [if_neg (by omega)]
theorem ints_ev (a b : List Int) (hn : a.length < 9223372036854775807) : Ev (fun k => horariumref03_Ints.f k a b) (decide (a = b)) := by
  by_cases hl : a.length = b.length
  · refine Ev.congr (fun k => ?_) (rows_loop_spec horariumref03_Ints.l0 (fun k x0 x1 x5 => by simp only [horariumref03_Ints.l0]) a b hl hn _ 0 (Nat.zero_le _) rfl)
    unfold horariumref03_Ints.f
    rw [if_pos (by omega)]; rfl
  · rw [decide_eq_false (fun e => hl (by rw [e]))]
    refine Ev.congr (fun k => ?_) (Ev.now _)
    unfold horariumref03_Ints.f
    rw [if_neg (by omega)]

/-! ### rows of bools -/
def tab {α : Type} (f : Nat → α) (n : Nat) : List α := (List.range n).map f
theorem tab_len {α : Type} (f : Nat → α) (n : Nat) : (tab f n).length = n := by simp [tab]
theorem tab_set {α : Type} (f : Nat → α) (n m : Nat) (x : α) : (tab f n).set m x = tab (fun i => if i = m then x else f i) n := by
  apply List.ext_getElem
  · simp [tab]
  · intro i h1 h2
    simp only [tab, List.getElem_set, List.getElem_map, List.getElem_range]
    by_cases e : m = i
    · simp [e]
    · have : ¬ i = m := fun h => e h.symm
      simp [e, this]
theorem tab_congr {α : Type} {f g : Nat → α} {n : Nat} (h : ∀ i, i < n → f i = g i) : tab f n = tab g n := by
  unfold tab
  exact List.map_congr_left (fun i hi => h i (by simpa using hi))
theorem tab_zeros (n : Nat) : List.replicate n false = tab (fun _ => false) n := by
  apply List.ext_getElem <;> simp [tab]
theorem tab_rd (f : Nat → Bool) (n i : Nat) (h : i < n) : rdOf false (tab f n) (i : Int) = f i := by
  simp [rdOf, tab, h]

theorem end_f (l : List Int) (hl : l.length ≤ 1000000) : horariumref05_end.f l = some ((64 * l.length : Nat) : Int) := by
  unfold horariumref05_end.f
  rw [show wrap64 (64 * (l.length : Int)) = ((64 * l.length : Nat) : Int) from by unfold wrap64; omega]
theorem bools_loop (s : List Int) (hs : okW s) (n : Nat) (hn : n ≤ 1000000000) (d : Nat) : ∀ m : Nat, m ≤ n → n - m = d →
    Ev (fun k => horariumref05_Bools.l0 k s (tab (fun i => decide (i < m) && tb s i) n) (m : Int)) (tab (tb s) n) := by
  induction d with
  | zero =>
    intro m hm hd
    obtain rfl : m = n := by omega
    refine Ev.step (f := fun _ => some (tab (tb s) m)) (fun k => ?_) (Ev.now _)
    simp only [horariumref05_Bools.l0]
    rw [tab_len, if_neg (by omega)]
    congr 1
    exact tab_congr (fun i hi => by simp [hi])
  | succ d ih =>
    intro m hm hd
    refine Ev.step (fun k => ?_) (ih (m + 1) (by omega) (by omega))
    simp only [horariumref05_Bools.l0]
    rw [tab_len, if_pos (by omega), ref_has_f s hs _ (by omega), Option.bind_some, if_pos (by omega), Int.toNat_natCast, wrap_succ m (by omega), tab_set]
    congr 1
    refine tab_congr (fun i hi => ?_)
    by_cases e : i = m
    · subst e; simp
    · by_cases h1 : i < m
      · have : i < m + 1 := by omega
        simp [e, h1, this]
      · have : ¬ i < m + 1 := by omega
        simp [e, h1, this]
theorem bools_ev (s : List Int) (hs : okW s) (hl : s.length ≤ 1000000) (least : Nat) (h2 : least ≤ 64000000) : Ev (fun k => horariumref05_Bools.f k s (least : Int)) (tab (tb s) (max (64 * s.length) least)) := by
  have hm : mx ((64 * s.length : Nat) : Int) (least : Int) = ((max (64 * s.length) least : Nat) : Int) := by unfold mx; split <;> omega
  obtain ⟨n, hn⟩ : ∃ n, max (64 * s.length) least = n := ⟨_, rfl⟩
  rw [hn] at hm ⊢
  refine Ev.congr (fun k => ?_) (bools_loop s hs n (by omega) _ 0 (Nat.zero_le _) rfl)
  unfold horariumref05_Bools.f
  rw [end_f s hl, Option.bind_some, hm, if_pos (by omega), if_pos (by omega), Int.toNat_natCast, tab_zeros, show tab (fun _ => false) n = tab (fun i => decide (i < 0) && tb s i) n from tab_congr (fun i _ => by simp)]
  rfl

/-! ### Made -/
theorem add_bit {x t : Nat} (hx : x < 2 ^ t) (i : Nat) : (x + 2 ^ t).testBit i = (x.testBit i || decide (i = t)) := by
  rw [Nat.add_comm]
  rcases Nat.lt_trichotomy i t with h | h | h
  · rw [Nat.testBit_two_pow_add_gt h]; simp; omega
  · subst h; rw [Nat.testBit_two_pow_add_eq, Nat.testBit_lt_two_pow hx]; simp
  · have h1 : (2 : Nat) ^ (t + 1) ≤ 2 ^ i := Nat.pow_le_pow_right (by omega) (by omega)
    have h2 : (2 : Nat) ^ (t + 1) = 2 ^ t + 2 ^ t := by rw [Nat.pow_succ]; omega
    rw [Nat.testBit_lt_two_pow (by omega), Nat.testBit_lt_two_pow (by omega)]; simp; omega
theorem lt_two_pow_of {x t : Nat} (h : ∀ i, t ≤ i → x.testBit i = false) : x < 2 ^ t := Nat.lt_pow_two_of_testBit x h

theorem made_zeros (b : List Bool) (n : Nat) (hn : b.length = n) (hb : n ≤ 1000000000) (m : Nat) (hm : m < n) (hbit : rdOf false b (m : Int) = true) (d : Nat) :
    ∀ (s : List Int) (r : List Int), s.length ≤ m / 64 + 1 → m / 64 + 1 - s.length = d →
      Ev (fun k => horariumref05_Made.l1 k b (s ++ List.replicate d 0) (m : Int)) r → Ev (fun k => horariumref05_Made.l1 k b s (m : Int)) r := by
  induction d with
  | zero => intro s r h1 h2 h; simpa using h
  | succ d ih =>
    intro s r h1 h2 h
    refine Ev.step (f := fun k => horariumref05_Made.l1 k b (s ++ [0]) (m : Int)) (fun k => ?_) (ih (s ++ [0]) r (by simp; omega) (by simp; omega) ?_)
    · simp only [horariumref05_Made.l1]
      rw [if_pos (by omega), if_pos (by omega), if_pos hbit, div64 m (by omega), if_pos (by omega), if_pos (by omega)]
    · rw [List.append_assoc, List.singleton_append, ← List.replicate_succ]; exact h
theorem made_loop (b : List Bool) (n : Nat) (hn : b.length = n) (hb : n ≤ 1000000000) (d : Nat) :
    ∀ (m : Nat) (s : List Int), m ≤ n → n - m = d → Nrm s (fun i => decide (i < m) && rdOf false b (i : Int)) →
      ∃ r, Ev (fun k => horariumref05_Made.l0 k b s (m : Int)) r ∧ Nrm r (fun i => decide (i < n) && rdOf false b (i : Int)) := by
  induction d with
  | zero =>
    intro m s hm hd hs
    obtain rfl : m = n := by omega
    refine ⟨s, Ev.step (f := fun _ => some s) (fun k => ?_) (Ev.now _), hs⟩
    simp only [horariumref05_Made.l0]
    rw [if_neg (by omega)]
  | succ d ih =>
    intro m s hm hd hs
    by_cases hbit : rdOf false b (m : Int) = true
    · -- the bit is put in
      have hlen : s.length ≤ m / 64 + 1 := hs.len _ (fun i hi => by
        have : ¬ i < m := by omega
        simp [this])
      obtain ⟨z, hz⟩ : ∃ z, s ++ List.replicate (m / 64 + 1 - s.length) 0 = z := ⟨_, rfl⟩
      have hzl : z.length = m / 64 + 1 := by rw [← hz]; simp; omega
      have hzw : okW z := by rw [← hz]; exact hs.ok.append (okW.zeros _)
      have hzt : ∀ i, tb z i = (decide (i < m) && rdOf false b (i : Int)) := fun i => by
        rw [← hs.tb, ← hz]; unfold tb; rw [rd_zeros]
      have hw := hzw.rd (m / 64)
      obtain ⟨x, hx⟩ := Int.eq_ofNat_of_zero_le hw.1
      have ht : m % 64 < 64 := Nat.mod_lt _ (by omega)
      have hxlt : x < 2 ^ (m % 64) := lt_two_pow_of (fun i hi => by
        by_cases hi64 : i < 64
        · have h1 := hzt (64 * (m / 64) + i)
          have h2 : ¬ 64 * (m / 64) + i < m := by omega
          unfold tb at h1
          rw [show (64 * (m / 64) + i) / 64 = m / 64 from by omega, show (64 * (m / 64) + i) % 64 = i from by omega, hx] at h1
          simpa [h2] using h1
        · have h1 : (2 : Nat) ^ 64 ≤ 2 ^ i := Nat.pow_le_pow_right (by omega) (by omega)
          exact Nat.testBit_lt_two_pow (by omega))
      have hsum : IntKind.u64.wrap ((x : Int) + ((2 ^ (m % 64) : Nat) : Int)) = ((x + 2 ^ (m % 64) : Nat) : Int) := by
        have h1 := (two_pow_word (m % 64) ht).2
        have h2 : (2 : Nat) ^ (m % 64) ≤ 2 ^ 63 := Nat.pow_le_pow_right (by omega) (by omega)
        obtain ⟨P, hP⟩ : ∃ P, 2 ^ (m % 64) = P := ⟨_, rfl⟩
        rw [hP] at h1 h2 hxlt ⊢
        rw [IntKind.wrap_u64]; omega
      have hsw : 0 ≤ ((x + 2 ^ (m % 64) : Nat) : Int) ∧ ((x + 2 ^ (m % 64) : Nat) : Int) < 18446744073709551616 := by
        rw [← hsum, IntKind.wrap_u64]; omega
      have hz2 : ∀ i, tb (z.set (m / 64) ((x + 2 ^ (m % 64) : Nat) : Int)) i = (decide (i < m + 1) && rdOf false b (i : Int)) := fun i => by
        rw [tb_set z _ (by omega)]
        by_cases h : i / 64 = m / 64
        · rw [if_pos h, Int.toNat_natCast, add_bit hxlt]
          have h1 := hzt i
          unfold tb at h1
          rw [h, hx, Int.toNat_natCast] at h1
          rw [h1]
          by_cases e : i = m
          · subst e; simp [hbit]
          · have e1 : ¬ i % 64 = m % 64 := by omega
            by_cases h2 : i < m
            · have : i < m + 1 := by omega
              simp [e1, h2, this]
            · have : ¬ i < m + 1 := by omega
              simp [e1, h2, this]
        · rw [if_neg h, hzt]
          by_cases h2 : i < m
          · have : i < m + 1 := by omega
            simp [h2, this]
          · have : ¬ i < m + 1 := by omega
            simp [h2, this]
      have hN : Nrm (z.set (m / 64) ((x + 2 ^ (m % 64) : Nat) : Int)) (fun i => decide (i < m + 1) && rdOf false b (i : Int)) := by
        refine ⟨hzw.set _ hsw, ?_, hz2⟩
        have e1 : z = z.take (m / 64) ++ [rd z (m / 64 : Nat)] := by
          rw [← take_succ_rd z (m / 64) (by omega), ← hzl, List.take_length]
        have e2 : z.set (m / 64) ((x + 2 ^ (m % 64) : Nat) : Int) = z.take (m / 64) ++ [((x + 2 ^ (m % 64) : Nat) : Int)] := by
          rw [List.set_eq_take_append_cons_drop, if_pos (by omega), List.drop_eq_nil_of_le (by omega)]
        rw [e2, Elems.sh_snoc, if_neg (by
          have := Nat.two_pow_pos (m % 64)
          obtain ⟨P, hP⟩ : ∃ P, 2 ^ (m % 64) = P := ⟨_, rfl⟩
          rw [hP] at this ⊢; omega)]
      obtain ⟨r, hr, hNr⟩ := ih (m + 1) _ (by omega) (by omega) hN
      refine ⟨r, Ev.step (f := fun k => horariumref05_Made.l1 k b s (m : Int)) (fun k => ?_) ?_, hNr⟩
      · simp only [horariumref05_Made.l0]
        rw [if_pos (by omega)]
      · refine made_zeros b n hn hb m (by omega) hbit _ s r hlen rfl ?_
        rw [hz]
        refine Ev.step (fun k => ?_) hr
        have hw64 : IntKind.u64.wrap ((m % 64 : Nat) : Int) = ((m % 64 : Nat) : Int) := by rw [IntKind.wrap_u64]; omega
        simp only [horariumref05_Made.l1]
        rw [if_pos (by omega), if_pos (by omega), if_pos hbit, div64 m (by omega), if_neg (by omega), if_pos (by omega), if_pos (by omega), mod64, hw64, if_pos (by omega), shl_one _ ht, hx, hsum, Int.toNat_natCast, wrap_succ m (by omega)]
    · have hf : rdOf false b (m : Int) = false := by simpa using hbit
      obtain ⟨r, hr, hNr⟩ := ih (m + 1) s (by omega) (by omega) (hs.congr (fun i => by
        by_cases e : i = m
        · subst e; simp [hf]
        · by_cases h2 : i < m
          · have : i < m + 1 := by omega
            simp [h2, this]
          · have : ¬ i < m + 1 := by omega
            simp [h2, this]))
      refine ⟨r, Ev.step (f := fun k => horariumref05_Made.l1 k b s (m : Int)) (fun k => ?_) (Ev.step (fun k => ?_) hr), hNr⟩
      · simp only [horariumref05_Made.l0]
        rw [if_pos (by omega)]
      · simp only [horariumref05_Made.l1]
        rw [if_pos (by omega), if_pos (by omega), if_neg hbit, wrap_succ m (by omega)]
theorem made_ev (p : Nat → Bool) (n : Nat) (hb : n ≤ 1000000000) : ∃ r, Ev (fun k => horariumref05_Made.f k (tab p n)) r ∧ Nrm r (fun i => decide (i < n) && p i) := by
  obtain ⟨r, hr, hN⟩ := made_loop (tab p n) n (tab_len _ _) hb _ 0 [] (Nat.zero_le _) rfl ⟨okW.nil, rfl, fun i => by rw [tb_out i (by simp)]; simp⟩
  refine ⟨r, hr, hN.congr (fun i => ?_)⟩
  by_cases h : i < n
  · rw [tab_rd p n i h]
  · simp [h]

theorem refLess_loop (a b : List Int) (ha : okW a) (hb : okW b) (n : Nat) (hn : n ≤ 1000000000) (G : Nat → Bool) (hG : ∀ i, G i = (tb a i && !tb b i)) (d : Nat) : ∀ (m : Nat) (H : Nat → Bool), m ≤ n → n - m = d → (∀ i, i < m → H i = G i) →
    ∃ r, Ev (fun k => horariumref05_Less.l0 k a b (tab H n) (m : Int)) r ∧ Nrm r (fun i => decide (i < n) && G i) := by
  induction d with
  | zero =>
    intro m H hm hd hH
    obtain rfl : m = n := by omega
    obtain ⟨r, hr, hN⟩ := made_ev H m hn
    refine ⟨r, Ev.step (f := fun k => (horariumref05_Made.f k (tab H m)).bind fun t => some t) (fun k => ?_) (Ev.bind hr (Ev.now _)), hN.congr (fun i => ?_)⟩
    · simp only [horariumref05_Less.l0]
      rw [tab_len, if_neg (by omega)]
    · by_cases h : i < m
      · rw [hH i h]
      · simp [h]
  | succ d ih =>
    intro m H hm hd hH
    obtain ⟨r, hr, hN⟩ := ih (m + 1) (fun i => if i = m then G m else H i) (by omega) (by omega) (fun i hi => by
      by_cases e : i = m
      · subst e; simp
      · rw [if_neg e]; exact hH i (by omega))
    refine ⟨r, Ev.step (fun k => ?_) hr, hN⟩
    simp only [horariumref05_Less.l0]
    rw [tab_len, if_pos (by omega), ref_has_f a ha _ (by omega), Option.bind_some, ref_has_f b hb _ (by omega)]
    simp only [Int.toNat_natCast, Int.natCast_nonneg, decide_true, Bool.true_and, Option.bind_some, if_true, tab_set, wrap_succ m (by omega : m < 9223372036854775807), hG]
    by_cases h1 : tb a m = true
    · rw [if_pos h1]; simp [h1]
    · have h1' : tb a m = false := by simpa using h1
      rw [if_neg h1]; simp [h1']
theorem refLess_ev (a b : List Int) (ha : okW a) (hb : okW b) (hla : a.length ≤ 1000000) (hlb : b.length ≤ 1000000) : ∃ r, Ev (fun k => horariumref05_Less.f k a b) r ∧ Nrm r (fun i => tb a i && !tb b i) := by
  obtain ⟨n, hn⟩ : ∃ n, max (64 * a.length) (64 * b.length) = n := ⟨_, rfl⟩
  have hB := bools_ev a ha hla (64 * b.length) (by omega)
  rw [hn] at hB
  obtain ⟨r, hr, hN⟩ := refLess_loop a b ha hb n (by omega) (fun i => tb a i && !tb b i) (fun _ => rfl) _ 0 (tb a) (Nat.zero_le _) rfl (fun i hi => by omega)
  refine ⟨r, Ev.congr (g := fun k => horariumref05_Less.f k a b) (fun k => ?_) (Ev.bind (f := fun k t => horariumref05_Less.l0 k a b t 0) hB hr), hN.congr (fun i => ?_)⟩
  · unfold horariumref05_Less.f
    rw [end_f b hlb, Option.bind_some]
  · by_cases h : i < n
    · simp [h]
    · rw [tb_out (l := a) i (by omega), tb_out (l := b) i (by omega)]; simp

theorem refAnd_loop (a b : List Int) (ha : okW a) (hb : okW b) (n : Nat) (hn : n ≤ 1000000000) (G : Nat → Bool) (hG : ∀ i, G i = (tb a i && tb b i)) (d : Nat) : ∀ (m : Nat) (H : Nat → Bool), m ≤ n → n - m = d → (∀ i, i < m → H i = G i) →
    ∃ r, Ev (fun k => horariumref05_And.l0 k a b (tab H n) (m : Int)) r ∧ Nrm r (fun i => decide (i < n) && G i) := by
  induction d with
  | zero =>
    intro m H hm hd hH
    obtain rfl : m = n := by omega
    obtain ⟨r, hr, hN⟩ := made_ev H m hn
    refine ⟨r, Ev.step (f := fun k => (horariumref05_Made.f k (tab H m)).bind fun t => some t) (fun k => ?_) (Ev.bind hr (Ev.now _)), hN.congr (fun i => ?_)⟩
    · simp only [horariumref05_And.l0]
      rw [tab_len, if_neg (by omega)]
    · by_cases h : i < m
      · rw [hH i h]
      · simp [h]
  | succ d ih =>
    intro m H hm hd hH
    obtain ⟨r, hr, hN⟩ := ih (m + 1) (fun i => if i = m then G m else H i) (by omega) (by omega) (fun i hi => by
      by_cases e : i = m
      · subst e; simp
      · rw [if_neg e]; exact hH i (by omega))
    refine ⟨r, Ev.step (fun k => ?_) hr, hN⟩
    simp only [horariumref05_And.l0]
    rw [tab_len, if_pos (by omega), ref_has_f a ha _ (by omega), Option.bind_some, ref_has_f b hb _ (by omega)]
    simp only [Int.toNat_natCast, Int.natCast_nonneg, decide_true, Bool.true_and, Option.bind_some, if_true, tab_set, wrap_succ m (by omega : m < 9223372036854775807), hG]
    by_cases h1 : tb a m = true
    · rw [if_pos h1]; simp [h1]
    · have h1' : tb a m = false := by simpa using h1
      rw [if_neg h1]; simp [h1']
theorem refAnd_ev (a b : List Int) (ha : okW a) (hb : okW b) (hla : a.length ≤ 1000000) (hlb : b.length ≤ 1000000) : ∃ r, Ev (fun k => horariumref05_And.f k a b) r ∧ Nrm r (fun i => tb a i && tb b i) := by
  obtain ⟨n, hn⟩ : ∃ n, max (64 * a.length) (64 * b.length) = n := ⟨_, rfl⟩
  have hB := bools_ev a ha hla (64 * b.length) (by omega)
  rw [hn] at hB
  obtain ⟨r, hr, hN⟩ := refAnd_loop a b ha hb n (by omega) (fun i => tb a i && tb b i) (fun _ => rfl) _ 0 (tb a) (Nat.zero_le _) rfl (fun i hi => by omega)
  refine ⟨r, Ev.congr (g := fun k => horariumref05_And.f k a b) (fun k => ?_) (Ev.bind (f := fun k t => horariumref05_And.l0 k a b t 0) hB hr), hN.congr (fun i => ?_)⟩
  · unfold horariumref05_And.f
    rw [end_f b hlb, Option.bind_some]
  · by_cases h : i < n
    · simp [h]
    · rw [tb_out (l := a) i (by omega), tb_out (l := b) i (by omega)]; simp

theorem refOr_loop (a b : List Int) (ha : okW a) (hb : okW b) (n : Nat) (hn : n ≤ 1000000000) (G : Nat → Bool) (hG : ∀ i, G i = (tb a i || tb b i)) (d : Nat) : ∀ (m : Nat) (H : Nat → Bool), m ≤ n → n - m = d → (∀ i, i < m → H i = G i) →
    ∃ r, Ev (fun k => horariumref05_Or.l0 k a b (tab H n) (m : Int)) r ∧ Nrm r (fun i => decide (i < n) && G i) := by
  induction d with
  | zero =>
    intro m H hm hd hH
    obtain rfl : m = n := by omega
    obtain ⟨r, hr, hN⟩ := made_ev H m hn
    refine ⟨r, Ev.step (f := fun k => (horariumref05_Made.f k (tab H m)).bind fun t => some t) (fun k => ?_) (Ev.bind hr (Ev.now _)), hN.congr (fun i => ?_)⟩
    · simp only [horariumref05_Or.l0]
      rw [tab_len, if_neg (by omega)]
    · by_cases h : i < m
      · rw [hH i h]
      · simp [h]
  | succ d ih =>
    intro m H hm hd hH
    obtain ⟨r, hr, hN⟩ := ih (m + 1) (fun i => if i = m then G m else H i) (by omega) (by omega) (fun i hi => by
      by_cases e : i = m
      · subst e; simp
      · rw [if_neg e]; exact hH i (by omega))
    refine ⟨r, Ev.step (fun k => ?_) hr, hN⟩
    simp only [horariumref05_Or.l0]
    rw [tab_len, if_pos (by omega), ref_has_f a ha _ (by omega), Option.bind_some, ref_has_f b hb _ (by omega)]
    simp only [Int.toNat_natCast, Int.natCast_nonneg, decide_true, Bool.true_and, Option.bind_some, if_true, tab_set, wrap_succ m (by omega : m < 9223372036854775807), hG]
    by_cases h1 : tb a m = true
    · rw [if_pos h1]; simp [h1]
    · have h1' : tb a m = false := by simpa using h1
      rw [if_neg h1]; simp [h1']
theorem refOr_ev (a b : List Int) (ha : okW a) (hb : okW b) (hla : a.length ≤ 1000000) (hlb : b.length ≤ 1000000) : ∃ r, Ev (fun k => horariumref05_Or.f k a b) r ∧ Nrm r (fun i => tb a i || tb b i) := by
  obtain ⟨n, hn⟩ : ∃ n, max (64 * a.length) (64 * b.length) = n := ⟨_, rfl⟩
  have hB := bools_ev a ha hla (64 * b.length) (by omega)
  rw [hn] at hB
  obtain ⟨r, hr, hN⟩ := refOr_loop a b ha hb n (by omega) (fun i => tb a i || tb b i) (fun _ => rfl) _ 0 (tb a) (Nat.zero_le _) rfl (fun i hi => by omega)
  refine ⟨r, Ev.congr (g := fun k => horariumref05_Or.f k a b) (fun k => ?_) (Ev.bind (f := fun k t => horariumref05_Or.l0 k a b t 0) hB hr), hN.congr (fun i => ?_)⟩
  · unfold horariumref05_Or.f
    rw [end_f b hlb, Option.bind_some]
  · by_cases h : i < n
    · simp [h]
    · rw [tb_out (l := a) i (by omega), tb_out (l := b) i (by omega)]; simp

theorem refWith_ev (a : List Int) (ha : okW a) (hl : a.length ≤ 1000000) (x : Int) : ∃ r, Ev (fun k => horariumref05_With.f k a x) r ∧ Nrm r (fun i => tb a i || (decide (i < 4096) && decide (x = (i : Int)))) := by
  have hB := bools_ev a ha hl 4096 (by omega)
  obtain ⟨n, hn⟩ : ∃ n, max (64 * a.length) 4096 = n := ⟨_, rfl⟩
  have hB' : Ev (fun k => horariumref05_Bools.f k a 4096) (tab (tb a) n) := by rw [← hn]; exact hB
  by_cases hx : 0 ≤ x ∧ x < 4096
  · obtain ⟨q, rfl⟩ := Int.eq_ofNat_of_zero_le hx.1
    obtain ⟨r, hr, hN⟩ := made_ev (fun i => if i = q then true else tb a i) n (by omega)
    refine ⟨r, Ev.bind hB' (Ev.congr (fun k => ?_) (Ev.bind hr (Ev.now _))), hN.congr (fun i => ?_)⟩
    · rw [tab_len, if_pos (by omega), if_pos (by omega), if_pos (by omega), if_pos (by omega), Int.toNat_natCast, tab_set]
    · by_cases e : i = q
      · subst e
        have h1 : i < n := by omega
        have h2 : i < 4096 := by omega
        simp [h1, h2]
      · have : ¬ (q : Int) = (i : Int) := by omega
        by_cases h : i < n
        · simp [e, this, h]
        · rw [tb_out (l := a) i (by omega)]; simp [e, this, h]
  · obtain ⟨r, hr, hN⟩ := made_ev (tb a) n (by omega)
    refine ⟨r, Ev.bind hB' (Ev.congr (fun k => ?_) (Ev.bind hr (Ev.now _))), hN.congr (fun i => ?_)⟩
    · by_cases h0 : x ≥ 0
      · rw [if_pos h0, if_neg (by omega)]
      · rw [if_neg h0]
    · have h1 : (decide (i < 4096) && decide (x = (i : Int))) = false := by
        rw [← Bool.decide_and]; exact decide_eq_false (by omega)
      rw [h1, Bool.or_false]
      by_cases h : i < n
      · simp [h]
      · rw [tb_out (l := a) i (by omega)]; simp
theorem refWithout_ev (a : List Int) (ha : okW a) (hl : a.length ≤ 1000000) (x : Int) : ∃ r, Ev (fun k => horariumref05_Without.f k a x) r ∧ Nrm r (fun i => tb a i && !decide (x = (i : Int))) := by
  have hB := bools_ev a ha hl 0 (by omega)
  obtain ⟨n, hn⟩ : ∃ n, max (64 * a.length) 0 = n := ⟨_, rfl⟩
  have hB' : Ev (fun k => horariumref05_Bools.f k a 0) (tab (tb a) n) := by rw [← hn]; exact hB
  by_cases hx : 0 ≤ x ∧ x < (n : Int)
  · obtain ⟨q, rfl⟩ := Int.eq_ofNat_of_zero_le hx.1
    obtain ⟨r, hr, hN⟩ := made_ev (fun i => if i = q then false else tb a i) n (by omega)
    refine ⟨r, Ev.bind hB' (Ev.congr (fun k => ?_) (Ev.bind hr (Ev.now _))), hN.congr (fun i => ?_)⟩
    · rw [tab_len, if_pos (by omega), if_pos (by omega), if_pos (by omega), Int.toNat_natCast, tab_set]
    · by_cases e : i = q
      · subst e; simp
      · have : ¬ (q : Int) = (i : Int) := by omega
        by_cases h : i < n
        · simp [e, this, h]
        · rw [tb_out (l := a) i (by omega)]; simp [e, this, h]
  · obtain ⟨r, hr, hN⟩ := made_ev (tb a) n (by omega)
    refine ⟨r, Ev.bind hB' (Ev.congr (fun k => ?_) (Ev.bind hr (Ev.now _))), hN.congr (fun i => ?_)⟩
    · rw [tab_len]
      by_cases h0 : x ≥ 0
      · rw [if_pos h0, if_neg (by omega)]
      · rw [if_neg h0]
    · by_cases h : i < n
      · have : ¬ x = (i : Int) := by omega
        simp [h, this]
      · rw [tb_out (l := a) i (by omega)]; simp
theorem refOf_loop (l : List Int) (hl : l.length ≤ 100000000) (d : Nat) : ∀ (m : Nat) (H : Nat → Bool), m ≤ l.length → l.length - m = d → (∀ i, i < 4096 → H i = ins (l.take m) i) →
    ∃ r, Ev (fun k => horariumref05_Of.l0 k l (tab H 4096) (m : Int)) r ∧ Nrm r (ins l) := by
  induction d with
  | zero =>
    intro m H hm hd hH
    obtain rfl : m = l.length := by omega
    rw [List.take_length] at hH
    obtain ⟨r, hr, hN⟩ := made_ev H 4096 (by omega)
    refine ⟨r, Ev.step (f := fun k => (horariumref05_Made.f k (tab H 4096)).bind fun t => some t) (fun k => ?_) (Ev.bind hr (Ev.now _)), hN.congr (fun i => ?_)⟩
    · simp only [horariumref05_Of.l0]
      rw [if_neg (by omega)]
    · by_cases h : i < 4096
      · rw [hH i h]; simp [h]
      · simp [h, ins]
  | succ d ih =>
    intro m H hm hd hH
    have htk := take_succ_rd l m (by omega)
    have hs := ins_snoc (l.take m) (rd l m)
    rw [← htk] at hs
    obtain ⟨x, hx⟩ : ∃ x, rd l (m : Int) = x := ⟨_, rfl⟩
    rw [hx] at hs
    by_cases hin : 0 ≤ x ∧ x < 4096
    · obtain ⟨q, rfl⟩ := Int.eq_ofNat_of_zero_le hin.1
      obtain ⟨r, hr, hN⟩ := ih (m + 1) (fun i => if i = q then true else H i) (by omega) (by omega) (fun i hi => by
        rw [hs]
        by_cases e : i = q
        · subst e; simp [hi]
        · have : ¬ (q : Int) = (i : Int) := by omega
          rw [if_neg e, hH i hi]; simp [this])
      refine ⟨r, Ev.step (fun k => ?_) hr, hN⟩
      simp only [horariumref05_Of.l0]
      rw [if_pos (by omega), if_pos (by omega), hx, if_pos (by omega), if_pos (by omega), if_pos (by omega), tab_len, if_pos (by omega), Int.toNat_natCast, tab_set, wrap_succ m (by omega)]
    · obtain ⟨r, hr, hN⟩ := ih (m + 1) H (by omega) (by omega) (fun i hi => by
        have h1 : (decide (i < 4096) && decide (x = (i : Int))) = false := by
          rw [← Bool.decide_and]; exact decide_eq_false (by omega)
        rw [hH i hi, hs, h1, Bool.or_false])
      refine ⟨r, Ev.step (fun k => ?_) hr, hN⟩
      simp only [horariumref05_Of.l0]
      rw [if_pos (by omega), if_pos (by omega), hx, wrap_succ m (by omega)]
      by_cases h0 : x ≥ 0
      · rw [if_pos h0, if_neg (by omega)]
      · rw [if_neg h0]
theorem refOf_ev (l : List Int) (hl : l.length ≤ 100000000) : ∃ r, Ev (fun k => horariumref05_Of.f k l) r ∧ Nrm r (ins l) := by
  obtain ⟨r, hr, hN⟩ := refOf_loop l hl _ 0 (fun _ => false) (Nat.zero_le _) rfl (fun i _ => by simp [ins])
  refine ⟨r, Ev.congr (fun k => ?_) hr, hN⟩
  unfold horariumref05_Of.f
  rw [if_pos (by omega), tab_zeros]; rfl

/-! ### lists and counts -/
def els (l : List Int) (n : Nat) : List Int := ((List.range n).filter (tb l)).map (fun (i : Nat) => (i : Int))
theorem els_succ (l : List Int) (n : Nat) : els l (n + 1) = if tb l n = true then els l n ++ [(n : Int)] else els l n := by
  unfold els
  rw [List.range_succ, List.filter_append, List.map_append]
  by_cases h : tb l n = true
  · rw [if_pos h]; simp [h]
  · rw [if_neg h]; simp [h]
theorem range_add (a b : Nat) : List.range (a + b) = List.range a ++ (List.range b).map (fun i => a + i) := by
  apply List.ext_getElem
  · simp
  · intro i h1 h2
    by_cases h : i < a
    · rw [List.getElem_append_left (by simpa using h)]; simp
    · rw [List.getElem_append_right (by simpa using h)]; simp; omega
theorem from_els (l : List Int) (hl : okW l) (k : Nat) : k ≤ l.length → Elems.from_ 0 (l.take k) = els l (64 * k) := by
  induction k with
  | zero => intro _; simp [Elems.from_, els]
  | succ k ih =>
    intro hk
    rw [Elems.from_take_succ l k (by omega), ih (by omega)]
    unfold els
    rw [show 64 * (k + 1) = 64 * k + 64 from by omega, range_add, List.filter_append, List.map_append]
    congr 1
    unfold Elems.wbits
    rw [List.filter_map, List.map_map]
    have : (List.range 64).filter (fun n => (l.getD k 0).toNat.testBit n) = (List.range 64).filter (tb l ∘ fun i => 64 * k + i) := by
      apply List.filter_congr
      intro i hi
      have hi' : i < 64 := by simpa using hi
      simp only [Function.comp, tb]
      rw [show (64 * k + i) / 64 = k from by omega, show (64 * k + i) % 64 = i from by omega, rd_nat]
    rw [this]; rfl
theorem from_all (l : List Int) (hl : okW l) : Elems.from_ 0 l = els l (64 * l.length) := by
  have := from_els l hl l.length (Nat.le_refl _)
  rwa [List.take_length] at this
theorem els_more (l : List Int) (n : Nat) (hn : 64 * l.length ≤ n) : els l n = els l (64 * l.length) := by
  obtain ⟨d, rfl⟩ : ∃ d, n = 64 * l.length + d := ⟨n - 64 * l.length, by omega⟩
  clear hn
  induction d with
  | zero => rfl
  | succ d ih =>
    rw [← ih, show 64 * l.length + (d + 1) = (64 * l.length + d) + 1 from by omega, els_succ, tb_out _ (by omega)]
    simp
theorem els_congr {a b : List Int} (n : Nat) (h : ∀ i, tb a i = tb b i) : els a n = els b n := by
  unfold els
  have : tb a = tb b := funext h
  rw [this]
theorem okWords_of {l : List Int} (h : okW l) (hl : l.length ≤ 1000000) : okWords l = true := okWords_iff.2 ⟨hl, h⟩
theorem count_f (l : List Int) (h : okW l) (hl : l.length ≤ 1000000) : bits_Count.f l = some ((els l (64 * l.length)).length : Int) := by
  unfold bits_Count.f; rw [if_pos (okWords_of h hl), from_all l h]
theorem list_f (l : List Int) (h : okW l) (hl : l.length ≤ 1000000) : bits_List.f l = some (els l (64 * l.length)) := by
  unfold bits_List.f; rw [if_pos (okWords_of h hl), from_all l h]
theorem els_len (l : List Int) (n : Nat) : (els l n).length ≤ n := by
  unfold els
  rw [List.length_map]
  have := List.length_filter_le (tb l) (List.range n)
  simpa using this
theorem refList_loop (s : List Int) (hs : okW s) (hl : s.length ≤ 1000000) (d : Nat) : ∀ m : Nat, m ≤ 64 * s.length → 64 * s.length - m = d → Ev (fun k => horariumref05_List.l0 k s (els s m) (m : Int)) (els s (64 * s.length)) := by
  induction d with
  | zero =>
    intro m hm hd
    obtain rfl : m = 64 * s.length := by omega
    refine Ev.step (f := fun _ => some (els s (64 * s.length))) (fun k => ?_) (Ev.now _)
    simp only [horariumref05_List.l0]
    rw [end_f s hl, Option.bind_some, if_neg (by omega)]
  | succ d ih =>
    intro m hm hd
    have h1 := els_len s m
    refine Ev.step (fun k => ?_) (ih (m + 1) (by omega) (by omega))
    simp only [horariumref05_List.l0]
    rw [end_f s hl, Option.bind_some, if_pos (by omega), ref_has_f s hs _ (by omega), Option.bind_some, els_succ]
    simp only [Int.toNat_natCast, Int.natCast_nonneg, decide_true, Bool.true_and]
    rw [wrap_succ m (by omega)]
    by_cases h : tb s m = true
    · rw [if_pos h, if_pos h, if_pos (by omega)]
    · rw [if_neg h, if_neg h]
theorem refList_ev (s : List Int) (hs : okW s) (hl : s.length ≤ 1000000) : Ev (fun k => horariumref05_List.f k s) (els s (64 * s.length)) := by
  refine Ev.congr (fun k => ?_) (refList_loop s hs hl _ 0 (Nat.zero_le _) rfl)
  rfl
end Go.Proofs.Ytbmnnmcnmfgbaaa.PB
