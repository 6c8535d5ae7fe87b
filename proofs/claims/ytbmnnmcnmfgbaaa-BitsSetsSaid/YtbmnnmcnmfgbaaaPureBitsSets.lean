/-
  For every input the law BitsSets answers true: the statement over the printed functions (the printed row carries it to the program). Conditions: none beyond those of the row.
-/
import Derived.Test.YtbmnnmcnmfgbaaaPLSx1
import Derived.Test.YtbmnnmcnmfgbaaaHeads
namespace Go.Proofs.Ytbmnnmcnmfgbaaa.Pure
open Go.RowKit Go.Proofs.Ytbmnnmcnmfgbaaa.PLS Go.Proofs.Ytbmnnmcnmfgbaaa.PL Go.Proofs.Ytbmnnmcnmfgbaaa.PB Go.Proofs.YtbmnnmcnmfgbaaaW.PrintWords Go.Proofs.YtbmnnmcnmfgbaaaW.PrintLast Go.Proofs.YtbmnnmcnmfgbaaaW.PrintMore
set_option linter.unusedVariables false
set_option linter.unusedSimpArgs false

theorem BitsSets : horariumlaw05_BitsSets.Pure := by
  intro a b i k hma hb8 hwa hmb hb8' hwb hi hk
  have ha := okW_of hwa
  have hb := okW_of hwb
  have hi' := int_of hi
  have hk' := int_of hk
  refine Ev.rounds ?_
  unfold horariumlaw05_BitsSets.f
  refine ev_now_bind (few_f a b) ?_
  by_cases hf : a.length ≤ 70 ∧ b.length ≤ 70
  · refine ev_if_pos (decide_eq_true hf) (ev_now_bind (has_f a ha i (by omega)) (ev_now_bind (has_f b hb i (by omega)) ?_))
    obtain ⟨r1, h1, N1, l1⟩ := and_ev a b ha hb (by omega)
    obtain ⟨r2, h2, N2, l2⟩ := or_ev a b ha hb (by omega) (by omega)
    obtain ⟨r3, h3, N3, l3⟩ := less_ev a b ha hb (by omega)
    obtain ⟨r4, h4, N4, l4⟩ := with_ev a ha (by omega) k
    obtain ⟨r5, h5, N5, l5⟩ := without_ev a ha (by omega) k (by omega)
    have q1 := has_f r1 N1.ok i (by omega)
    have q2 := has_f r2 N2.ok i (by omega)
    have q3 := has_f r3 N3.ok i (by omega)
    have q4 := has_f r4 N4.ok i (by omega)
    have q5 := has_f r5 N5.ok i (by omega)
    rw [N1.tb] at q1
    rw [N2.tb] at q2
    rw [N3.tb] at q3
    rw [N4.tb] at q4
    rw [N5.tb] at q5
    have j1 : ∀ (x9 x11 : Bool), x9 = (decide (0 ≤ i) && tb a i.toNat) → x11 = decide (0 ≤ i ∧ i < 4096) → Ev (fun n => horariumlaw05_BitsSets.j1 n a i k x9 x11 false) true := by
      intro x9 x11 e9 e11
      refine Ev.step (fun n => by simp only [horariumlaw05_BitsSets.j1]; exact if_neg (by simp)) (Ev.bind h4 (ev_now_bind q4 ?_))
      by_cases h0 : 0 ≤ i
      · obtain ⟨m, rfl⟩ := Int.eq_ofNat_of_zero_le h0
        simp only [Int.toNat_natCast, Int.natCast_nonneg, decide_true, Bool.true_and] at e9 q5 ⊢
        by_cases hx : tb a m = true
        · rw [hx] at e9 q5 ⊢
          subst e9
          refine ev_if_pos rfl (ev_if_pos (by simp) (Ev.bind h5 (ev_now_bind q5 (ev_if_pos ?_ heads_end))))
          by_cases e : (m : Int) = k
          · subst e; simp
          · have : ¬ k = (m : Int) := fun h => e h.symm
            simp [e, this]
        · have hx' : tb a m = false := by simpa using hx
          rw [hx'] at e9 q5 ⊢
          subst e9
          refine ev_if_neg (by simp) ?_
          by_cases h2 : m < 4096
          · have : decide (True ∧ (m : Int) < 4096) = true := decide_eq_true ⟨trivial, by omega⟩
            have e11' : x11 = true := by rw [e11]; exact decide_eq_true ⟨by omega, by omega⟩
            subst e11'
            refine ev_if_pos rfl (ev_if_pos ?_ (Ev.bind h5 (ev_now_bind q5 (ev_if_pos (by simp) heads_end))))
            by_cases e : (m : Int) = k
            · subst e; simp [h2]
            · have : ¬ k = (m : Int) := fun h => e h.symm
              simp [h2, e, this]
          · have e11' : x11 = false := by rw [e11]; exact decide_eq_false (by omega)
            subst e11'
            refine ev_if_neg (by simp) (ev_if_pos ?_ (Ev.bind h5 (ev_now_bind q5 (ev_if_pos (by simp) heads_end))))
            simp [h2]
      · have hd : decide (0 ≤ i) = false := decide_eq_false h0
        rw [hd, Bool.false_and] at e9 q5 ⊢
        have e11' : x11 = false := by rw [e11]; exact decide_eq_false (by omega)
        subst e9 e11'
        exact ev_if_neg (by simp) (ev_if_neg (by simp) (ev_if_pos (by simp) (Ev.bind h5 (ev_now_bind q5 (ev_if_pos (by simp) heads_end)))))
    have j0 : ∀ (x11 : Bool), x11 = decide (0 ≤ i ∧ i < 4096) → Ev (fun n => horariumlaw05_BitsSets.j0 n a b i k (decide (0 ≤ i) && tb a i.toNat) (decide (0 ≤ i) && tb b i.toNat) x11) true := by
      intro x11 e11
      obtain ⟨xa, hxa⟩ : ∃ x, (decide (0 ≤ i) && tb a i.toNat) = x := ⟨_, rfl⟩
      obtain ⟨xb, hxb⟩ : ∃ x, (decide (0 ≤ i) && tb b i.toNat) = x := ⟨_, rfl⟩
      have hj := j1 xa x11 hxa.symm e11
      have e1 : (decide (0 ≤ i) && (tb a i.toNat && tb b i.toNat)) = (xa && xb) := by rw [← hxa, ← hxb]; cases decide (0 ≤ i) <;> cases tb a i.toNat <;> cases tb b i.toNat <;> rfl
      have e2 : (decide (0 ≤ i) && (tb a i.toNat || tb b i.toNat)) = (xa || xb) := by rw [← hxa, ← hxb]; cases decide (0 ≤ i) <;> cases tb a i.toNat <;> cases tb b i.toNat <;> rfl
      have e3 : (decide (0 ≤ i) && (tb a i.toNat && !tb b i.toNat)) = (xa && !xb) := by rw [← hxa, ← hxb]; cases decide (0 ≤ i) <;> cases tb a i.toNat <;> cases tb b i.toNat <;> rfl
      rw [hxa, hxb]
      rw [e1] at q1
      rw [e2] at q2
      rw [e3] at q3
      refine Ev.step (fun n => by simp only [horariumlaw05_BitsSets.j0]; rfl) (Ev.bind h1 (ev_now_bind q1 ?_))
      cases xa
      · refine ev_if_neg (by simp) (ev_if_neg (by simp) (Ev.bind h2 (ev_now_bind q2 (ev_if_neg (by simp) (Ev.bind h3 (ev_now_bind q3 ?_))))))
        simpa using hj
      · refine ev_if_pos rfl (ev_if_neg (by simp) (Ev.bind h2 (ev_now_bind q2 (ev_if_neg (by simp) (Ev.bind h3 (ev_now_bind q3 ?_))))))
        simpa using hj
    by_cases h0 : i ≥ 0
    · exact ev_if_pos h0 (j0 _ (decide_eq_decide.2 (by omega)))
    · exact ev_if_neg h0 (j0 _ (decide_eq_false (by omega)).symm)
  · exact ev_if_neg (by rw [decide_eq_false hf]; simp) heads_end

end Go.Proofs.Ytbmnnmcnmfgbaaa.Pure
