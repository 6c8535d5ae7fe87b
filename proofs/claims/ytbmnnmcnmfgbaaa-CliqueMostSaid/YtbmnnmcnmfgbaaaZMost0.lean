/-
  Put together by slim.py of this session out of the session's own texts (YtbmnnmcnmfgbaaaLawCliqueMost and what it reaches): declarations that nothing kept names are left out. Conditions: none beyond those of the law's row.
-/
import Derived.Laws.BitsAllLaws
section
/-
  The plain side of a set of small numbers: the numbers that a row of words has, in rising order; the lowest bit of a word; a row without the noughts at its end.
-/
namespace Go.Proofs.Ytbmnnmcnmfgbaaa
namespace Elems
def wbits (w : Nat) : List Nat := (List.range 64).filter (fun n => w.testBit n)

theorem lowest (w : Nat) (h : 0 < w) : ∃ t m, w = 2 ^ t * (2 * m + 1) := by
  induction w using Nat.strongRecOn with
  | ind w ih =>
    by_cases hp : w % 2 = 1
    · exact ⟨0, w / 2, by omega⟩
    · obtain ⟨t, m, e⟩ := ih (w / 2) (by omega) (by omega)
      refine ⟨t + 1, m, ?_⟩
      have : w = 2 * (w / 2) := by omega
      rw [this, e, Nat.pow_succ, Nat.mul_comm (2 ^ t) 2, Nat.mul_assoc]

theorem testBit_low (t m i : Nat) : (2 ^ t * (2 * m + 1)).testBit i = (decide (i = t) || (decide (t < i) && m.testBit (i - t - 1))) := by
  rw [Nat.mul_comm, Nat.testBit_mul_two_pow]
  by_cases h1 : i = t
  · subst h1; simp
  · by_cases h2 : t < i
    · obtain ⟨d, rfl⟩ : ∃ d, i = t + 1 + d := ⟨i - t - 1, by omega⟩
      have e1 : t + 1 + d - t = d + 1 := by omega
      have e2 : t + 1 + d - t - 1 = d := by omega
      rw [e1, Nat.testBit_succ]
      have e3 : (2 * m + 1) / 2 = m := by omega
      rw [e3]
      simp [h1, h2]; omega
    · have : ¬ t ≤ i := by omega
      simp [h1, h2, this]

theorem testBit_pred (t m i : Nat) : (2 ^ t * (2 * m + 1) - 1).testBit i = (decide (i < t) || (decide (t < i) && m.testBit (i - t - 1))) := by
  have e : 2 ^ t * (2 * m + 1) - 1 = 2 ^ t * (2 * m) + (2 ^ t - 1) := by
    have := Nat.two_pow_pos t
    rw [Nat.mul_add, Nat.mul_one]; omega
  rw [e, Nat.testBit_two_pow_mul_add _ (by have := Nat.two_pow_pos t; omega)]
  by_cases h1 : i < t
  · simp [h1]
  · obtain ⟨d, rfl⟩ : ∃ d, i = t + d := ⟨i - t, by omega⟩
    rw [if_neg h1]
    cases d with
    | zero => simp
    | succ d =>
      have e1 : t + (d + 1) - t = d + 1 := by omega
      have e2 : t + (d + 1) - t - 1 = d := by omega
      have e3 : (2 * m) / 2 = m := by omega
      rw [e1, Nat.testBit_succ, e3]
      have h3 : t < t + (d + 1) := by omega
      have h4 : ¬ t + (d + 1) < t := by omega
      simp [h3, h4]

theorem and_neg (w : Nat) (h0 : 0 < w) (h : w < 2 ^ 64) : ∃ t, t < 64 ∧ w.testBit t = true ∧ (∀ i, i < t → w.testBit i = false) ∧ w &&& (2 ^ 64 - w) = 2 ^ t := by
  obtain ⟨t, m, rfl⟩ := lowest w h0
  have ht : t < 64 := by
    apply Nat.lt_of_not_le; intro hge
    have h1 : 2 ^ 64 ≤ 2 ^ t := Nat.pow_le_pow_right (by omega) hge
    have h2 : 2 ^ t * 1 ≤ 2 ^ t * (2 * m + 1) := Nat.mul_le_mul_left _ (by omega)
    omega
  refine ⟨t, ht, by rw [testBit_low]; simp, fun i hi => by rw [testBit_low]; simp; omega, ?_⟩
  apply Nat.eq_of_testBit_eq
  intro i
  have e : 2 ^ 64 - 2 ^ t * (2 * m + 1) = 2 ^ 64 - ((2 ^ t * (2 * m + 1) - 1) + 1) := by omega
  rw [Nat.testBit_and, e, Nat.testBit_two_pow_sub_succ (by omega), testBit_low, testBit_pred, Nat.testBit_two_pow]
  by_cases h1 : i = t
  · subst h1; simp [ht]
  · by_cases h2 : t < i
    · have : ¬ i < t := by omega
      have h3 : ¬ t = i := by omega
      simp only [h1, h2, this, h3, decide_true, decide_false, Bool.false_or, Bool.true_and]
      cases m.testBit (i - t - 1) <;> simp
    · have h3 : ¬ t = i := by omega
      simp [h1, h2, h3]

theorem filter_split (p q : Nat → Bool) (t n : Nat) (ht : t < n) (hp : p t = true) (hlt : ∀ i, i < t → p i = false) (hq : ∀ i, q i = (p i && decide (i ≠ t))) :
    (List.range n).filter p = t :: (List.range n).filter q := by
  have e : List.range n = List.range t ++ t :: (List.range (n - t - 1)).map (fun x => t + 1 + x) := by
    apply List.ext_getElem
    · simp; omega
    · intro i h1 h2
      simp only [List.getElem_range]
      rcases Nat.lt_trichotomy i t with h | h | h
      · rw [List.getElem_append_left (by simpa using h)]; simp
      · subst h; rw [List.getElem_append_right (by simp)]; simp
      · rw [List.getElem_append_right (by simp; omega)]
        obtain ⟨d, rfl⟩ : ∃ d, i = t + 1 + d := ⟨i - t - 1, by omega⟩
        simp
        have : t + 1 + d - t = d + 1 := by omega
        simp [this]
  have f1 : (List.range t).filter p = [] := by
    rw [List.filter_eq_nil_iff]; intro a ha; rw [hlt a (by simpa using ha)]; simp
  have f2 : (List.range t).filter q = [] := by
    rw [List.filter_eq_nil_iff]; intro a ha; rw [hq, hlt a (by simpa using ha)]; simp
  have f3 : ((List.range (n - t - 1)).map (fun x => t + 1 + x)).filter q = ((List.range (n - t - 1)).map (fun x => t + 1 + x)).filter p := by
    apply List.filter_congr; intro a ha; simp at ha; obtain ⟨b, _, rfl⟩ := ha; rw [hq]; simp; omega
  have hqt : q t = false := by rw [hq]; simp
  rw [e, List.filter_append, List.filter_append, f1, f2]
  simp only [List.nil_append, List.filter_cons, hp, hqt, if_true, f3]
  simp

theorem wbits_step (w : Nat) (h0 : 0 < w) (h : w < 2 ^ 64) : ∃ t, t < 64 ∧ w &&& (2 ^ 64 - w) = 2 ^ t ∧ wbits w = t :: wbits (w ^^^ 2 ^ t) ∧ w ^^^ 2 ^ t < 2 ^ 64 := by
  obtain ⟨t, ht, hb, hl, he⟩ := and_neg w h0 h
  refine ⟨t, ht, he, ?_, Nat.xor_lt_two_pow h (Nat.pow_lt_pow_right (by omega) ht)⟩
  refine filter_split _ _ t 64 ht hb hl (fun i => ?_)
  rw [Nat.testBit_xor, Nat.testBit_two_pow]
  by_cases e : i = t
  · subst e; simp [hb]
  · have : ¬ t = i := fun h => e h.symm
    simp [e, this]

theorem wbits_zero : wbits 0 = [] := by simp [wbits]
theorem wbits_len (w : Nat) : (wbits w).length ≤ 64 := by
  have := List.length_filter_le (fun n => w.testBit n) (List.range 64); simpa [wbits] using this
/-- The numbers of a set, out of its words from the word with the index i on. -/
def from_ : Nat → List Int → List Int
  | _, [] => []
  | i, x :: xs => (wbits x.toNat).map (fun n => ((64 * i + n : Nat) : Int)) ++ from_ (i + 1) xs
theorem from_append (xs : List Int) : ∀ (i : Nat) (ys : List Int), from_ i (xs ++ ys) = from_ i xs ++ from_ (i + xs.length) ys := by
  induction xs with
  | nil => intro i ys; simp [from_]
  | cons x xs ih => intro i ys; simp [from_, ih, Nat.add_assoc, Nat.add_comm 1]
theorem from_take_succ (xs : List Int) (k : Nat) (h : k < xs.length) : from_ 0 (xs.take (k + 1)) = from_ 0 (xs.take k) ++ (wbits (xs.getD k 0).toNat).map (fun n => ((64 * k + n : Nat) : Int)) := by
  rw [List.take_succ_eq_append_getElem h, from_append]
  simp [from_, Nat.min_eq_left (Nat.le_of_lt h), h]
theorem from_len (xs : List Int) : ∀ i, (from_ i xs).length ≤ 64 * xs.length := by
  induction xs with
  | nil => intro i; simp [from_]
  | cons x xs ih => intro i; have := ih (i + 1); have := wbits_len x.toNat; simp [from_]; omega
theorem pow_quot (t m : Nat) (h : m ≤ t) : ((2 ^ t : Nat) : Int) / 2 ^ m = ((2 ^ (t - m) : Nat) : Int) := by
  have e : (2 : Int) ^ m = ((2 ^ m : Nat) : Int) := by simp
  rw [e, ← Int.natCast_ediv, Nat.pow_div h (by omega)]
/-- A row without the noughts at its end. -/
def sh (l : List Int) : List Int := (l.reverse.dropWhile (· == 0)).reverse
theorem sh_snoc (l : List Int) (x : Int) : sh (l ++ [x]) = if x = 0 then sh l else l ++ [x] := by
  unfold sh
  rw [List.reverse_append, List.reverse_singleton, List.singleton_append, List.dropWhile_cons]
  by_cases h : x = 0
  · simp [h]
  · simp [h]
theorem sh_split (l : List Int) : ∃ m, l = sh l ++ List.replicate m 0 := by
  induction h : l.length generalizing l with
  | zero => exact ⟨0, by simp [List.length_eq_zero_iff.1 h, sh]⟩
  | succ n ih =>
    have hne : l ≠ [] := by intro e; simp [e] at h
    obtain ⟨m, x, rfl⟩ : ∃ m x, l = m ++ [x] := ⟨l.dropLast, l.getLast hne, (List.dropLast_concat_getLast hne).symm⟩
    rw [sh_snoc]
    by_cases hx : x = 0
    · obtain ⟨q, hq⟩ := ih m (by simpa using h)
      refine ⟨q + 1, ?_⟩
      rw [if_pos hx, List.replicate_succ', ← List.append_assoc, ← hq, hx]
    · exact ⟨0, by simp [hx]⟩
theorem from_zero (m : Nat) : ∀ i, from_ i (List.replicate m 0) = [] := by
  induction m with
  | zero => intro i; rfl
  | succ m ih => intro i; simp [List.replicate_succ, from_, ih, wbits_zero]
theorem from_sh (l : List Int) (i : Nat) : from_ i (sh l) = from_ i l := by
  obtain ⟨m, h⟩ := sh_split l
  have := congrArg (from_ i) h
  rw [from_append, from_zero, List.append_nil] at this
  exact this.symm
theorem sh_len (l : List Int) : (sh l).length ≤ l.length := by
  obtain ⟨m, h⟩ := sh_split l
  have := congrArg List.length h
  rw [List.length_append] at this; omega
theorem sh_mem {l : List Int} {x : Int} (h : x ∈ sh l) : x ∈ l := by
  obtain ⟨m, e⟩ := sh_split l
  rw [e]; exact List.mem_append_left _ h
theorem sh_last (l : List Int) : sh l = [] ∨ ∃ m x, sh l = m ++ [x] ∧ x ≠ 0 := by
  induction h : l.length generalizing l with
  | zero => exact .inl (by simp [List.length_eq_zero_iff.1 h, sh])
  | succ n ih =>
    have hne : l ≠ [] := by intro e; simp [e] at h
    obtain ⟨m, x, rfl⟩ : ∃ m x, l = m ++ [x] := ⟨l.dropLast, l.getLast hne, (List.dropLast_concat_getLast hne).symm⟩
    rw [sh_snoc]
    by_cases hx : x = 0
    · rw [if_pos hx]; exact ih m (by simpa using h)
    · rw [if_neg hx]; exact .inr ⟨m, x, rfl, hx⟩
end Elems
end Go.Proofs.Ytbmnnmcnmfgbaaa
end
