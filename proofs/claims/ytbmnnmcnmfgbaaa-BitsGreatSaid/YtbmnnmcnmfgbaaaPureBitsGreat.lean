/-
  For every input the law BitsGreat answers true: the statement over the printed functions (the printed row carries it to the program). Conditions: none beyond those of the row.
-/
import Derived.Test.YtbmnnmcnmfgbaaaPLGx1
import Derived.Test.YtbmnnmcnmfgbaaaHeads
namespace Go.Proofs.Ytbmnnmcnmfgbaaa.Pure
open Go.RowKit Go.Proofs.Ytbmnnmcnmfgbaaa.PLG Go.Proofs.Ytbmnnmcnmfgbaaa.PL Go.Proofs.Ytbmnnmcnmfgbaaa.PB Go.Proofs.YtbmnnmcnmfgbaaaW.PrintWords Go.Proofs.YtbmnnmcnmfgbaaaW.PrintLast Go.Proofs.YtbmnnmcnmfgbaaaW.PrintMore
set_option linter.unusedVariables false
set_option linter.unusedSimpArgs false

theorem BitsGreat : horariumlaw05_BitsGreat.Pure := by
  intro a x hm hb8 hw hx
  have ha := okW_of hw
  have hx' := int_of hx
  refine Ev.rounds ?_
  unfold horariumlaw05_BitsGreat.f
  by_cases h70 : (a.length : Int) > 70
  · refine ev_if_pos h70 (Ev.step (f := fun k => (horariumlaw05_heads.f k).bind fun t => some t) (fun k => ?_) heads_end)
    simp only [horariumlaw05_BitsGreat.j0]; rw [if_pos trivial]
  · refine ev_if_neg h70 ?_
    by_cases hin : 0 ≤ x ∧ x < 4096
    · refine ev_if_pos (by omega) ?_
      rw [decide_eq_true hin.2]
      refine Ev.step (f := fun k => (horariumlaw05_heads.f k).bind fun t => some t) (fun k => ?_) heads_end
      simp only [horariumlaw05_BitsGreat.j0]; rw [if_pos trivial]
    · have key : Ev (fun k => horariumlaw05_BitsGreat.j0 k a x false) true := by
        obtain ⟨r, hr, hN, hl⟩ := with_ev a ha (by omega) x
        have hsame : ∀ i, tb r i = tb a i := fun i => by
          have : (decide (i < 4096) && decide (x = (i : Int))) = false := by
            rw [← Bool.decide_and]; exact decide_eq_false (by omega)
          rw [hN.tb, this, Bool.or_false]
        have hS := same_true r a hN.ok ha (by omega) (by omega) hsame
        obtain ⟨o, ho, hNo, hlo⟩ := of_ev [x] (by simp)
        have ho0 : o = [] := hNo.nil_iff.2 (fun i => by
          simp only [ins, List.any_cons, List.any_nil, Bool.or_false]
          rw [← Bool.decide_and]; exact decide_eq_false (by omega))
        subst ho0
        refine Ev.step (fun k => by simp only [horariumlaw05_BitsGreat.j0]; exact if_neg (by simp)) ?_
        refine Ev.bind hr (Ev.bind hS (ev_if_pos rfl (Ev.bind ho (ev_now_bind (count_f [] okW.nil (by simp)) (ev_if_pos rfl (ev_now_bind (has_f a ha x (by omega)) ?_))))))
        have hwl : wrap64 (64 * (a.length : Int)) = 64 * (a.length : Int) := by unfold wrap64; omega
        by_cases h0 : x ≥ 0
        · refine ev_if_pos h0 ?_
          by_cases h1 : x < wrap64 (64 * (a.length : Int))
          · refine ev_if_pos h1 (ev_now_bind (ref_has_f a ha x (by omega)) (ev_if_pos (by simp) heads_end))
          · refine ev_if_neg h1 (ev_if_pos ?_ heads_end)
            rw [hwl] at h1
            rw [tb_out (l := a) _ (by omega)]; simp
        · refine ev_if_neg h0 (ev_if_pos ?_ heads_end)
          rw [decide_eq_false (by omega)]; simp
      by_cases h0 : x ≥ 0
      · refine ev_if_pos h0 ?_
        rw [decide_eq_false (by omega)]; exact key
      · exact ev_if_neg h0 key

end Go.Proofs.Ytbmnnmcnmfgbaaa.Pure
