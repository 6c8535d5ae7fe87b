/-
  For every input the law BitsRules answers true: the statement over the printed functions (the printed row carries it to the program). Conditions: none beyond those of the row.
-/
import Derived.Test.YtbmnnmcnmfgbaaaPLRx1
import Derived.Test.YtbmnnmcnmfgbaaaHeads
namespace Go.Proofs.Ytbmnnmcnmfgbaaa.Pure
open Go.RowKit Go.Proofs.Ytbmnnmcnmfgbaaa.PLR Go.Proofs.Ytbmnnmcnmfgbaaa.PL Go.Proofs.Ytbmnnmcnmfgbaaa.PB Go.Proofs.YtbmnnmcnmfgbaaaW.PrintWords Go.Proofs.YtbmnnmcnmfgbaaaW.PrintLast Go.Proofs.YtbmnnmcnmfgbaaaW.PrintMore
set_option linter.unusedVariables false
set_option linter.unusedSimpArgs false

/-- How many numbers below n are so. -/
def cnt (p : Nat → Bool) : Nat → Nat
  | 0 => 0
  | n + 1 => cnt p n + if p n = true then 1 else 0
theorem els_cnt (l : List Int) (n : Nat) : (els l n).length = cnt (tb l) n := by
  induction n with
  | zero => rfl
  | succ n ih =>
    rw [els_succ, cnt, ← ih]
    split <;> simp
theorem cnt_sum (p q r s : Nat → Bool) (h : ∀ i, (if p i = true then 1 else 0) + (if q i = true then 1 else 0) = (if r i = true then 1 else 0) + (if s i = true then 1 else 0)) (n : Nat) : cnt p n + cnt q n = cnt r n + cnt s n := by
  induction n with
  | zero => rfl
  | succ n ih => simp only [cnt]; have := h n; omega
theorem count_cnt (l : List Int) (h : okW l) (n : Nat) (hl : l.length ≤ n) (hn : n ≤ 1000000) : bits_Count.f l = some ((cnt (tb l) (64 * n) : Nat) : Int) := by
  rw [count_f l h (by omega), ← els_more l (64 * n) (by omega), els_cnt]
theorem cnt_le (p : Nat → Bool) (n : Nat) : cnt p n ≤ n := by
  induction n with
  | zero => exact Nat.le_refl _
  | succ n ih => simp only [cnt]; split <;> omega
theorem BitsRules : horariumlaw05_BitsRules.Pure := by
  intro a b hma hb8 hwa hmb hb8' hwb
  have ha := okW_of hwa
  have hb := okW_of hwb
  refine Ev.rounds ?_
  unfold horariumlaw05_BitsRules.f
  refine ev_now_bind (few_f a b) ?_
  by_cases hf : a.length ≤ 70 ∧ b.length ≤ 70
  · refine ev_if_pos (decide_eq_true hf) ?_
    obtain ⟨both, h1, N1, l1⟩ := and_ev a b ha hb (by omega)
    obtain ⟨either, h2, N2, l2⟩ := or_ev a b ha hb (by omega) (by omega)
    obtain ⟨x, h3, N3, l3⟩ := less_ev a b ha hb (by omega)
    obtain ⟨y, h4, N4, l4⟩ := less_ev b a hb ha (by omega)
    obtain ⟨apart, h5, N5, l5⟩ := or_ev x y N3.ok N4.ok (by omega) (by omega)
    obtain ⟨z, h6, N6, l6⟩ := or_ev both apart N1.ok N5.ok (by omega) (by omega)
    have h7 := same_true z either N6.ok N2.ok (by omega) (by omega) (fun i => by rw [N6.tb, N1.tb, N5.tb, N3.tb, N4.tb, N2.tb]; cases tb a i <;> cases tb b i <;> rfl)
    obtain ⟨u, h8, N8, l8⟩ := and_ev both apart N1.ok N5.ok (by omega)
    have hu : u = [] := N8.nil_iff.2 (fun i => by rw [N1.tb, N5.tb, N3.tb, N4.tb]; cases tb a i <;> cases tb b i <;> rfl)
    subst hu
    have h9 := inside_true both a N1.ok ha (by omega) (fun i hi => by rw [N1.tb] at hi; simp at hi; exact hi.1)
    have h10 := inside_true b either hb N2.ok (by omega) (fun i hi => by rw [N2.tb, hi]; simp)
    refine Ev.bind h1 (Ev.bind h2 (Ev.bind h3 (Ev.bind h4 (Ev.bind h5 (Ev.bind h6 (Ev.bind h7 (ev_if_pos rfl (Ev.bind h8 (ev_now_bind (count_f [] okW.nil (by simp)) (ev_if_pos rfl ?_))))))))))
    refine ev_now_bind (count_cnt a ha 70 hf.1 (by omega)) (ev_now_bind (count_cnt b hb 70 hf.2 (by omega)) (ev_now_bind (count_cnt both N1.ok 70 (by omega) (by omega)) (ev_now_bind (count_cnt either N2.ok 70 (by omega) (by omega)) (ev_if_pos ?_ ?_))))
    · have hs := cnt_sum (tb a) (tb b) (tb both) (tb either) (fun i => by rw [N1.tb, N2.tb]; cases tb a i <;> cases tb b i <;> rfl) (64 * 70)
      have c1 := cnt_le (tb a) (64 * 70)
      have c2 := cnt_le (tb b) (64 * 70)
      obtain ⟨p1, e1⟩ : ∃ p, cnt (tb a) (64 * 70) = p := ⟨_, rfl⟩
      obtain ⟨p2, e2⟩ : ∃ p, cnt (tb b) (64 * 70) = p := ⟨_, rfl⟩
      obtain ⟨p3, e3⟩ : ∃ p, cnt (tb both) (64 * 70) = p := ⟨_, rfl⟩
      obtain ⟨p4, e4⟩ : ∃ p, cnt (tb either) (64 * 70) = p := ⟨_, rfl⟩
      rw [e1, e2, e3, e4] at hs ⊢
      rw [e1] at c1
      rw [e2] at c2
      congr 1; omega
    · exact Ev.bind h9 (ev_if_pos rfl (Ev.bind h10 (ev_if_pos rfl heads_end)))
  · exact ev_if_neg (by rw [decide_eq_false hf]; simp) heads_end

end Go.Proofs.Ytbmnnmcnmfgbaaa.Pure
