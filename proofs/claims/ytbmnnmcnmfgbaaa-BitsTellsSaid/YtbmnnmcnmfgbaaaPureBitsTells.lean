/-
  For every input the law BitsTells answers true: the statement over the printed functions (the printed row carries it to the program). Conditions: none beyond those of the row.
-/
import Derived.Test.YtbmnnmcnmfgbaaaPLTx1
import Derived.Test.YtbmnnmcnmfgbaaaHeads
namespace Go.Proofs.Ytbmnnmcnmfgbaaa.Pure
open Go.RowKit Go.Proofs.Ytbmnnmcnmfgbaaa.PLT Go.Proofs.Ytbmnnmcnmfgbaaa.PL Go.Proofs.Ytbmnnmcnmfgbaaa.PB Go.Proofs.YtbmnnmcnmfgbaaaW.PrintWords Go.Proofs.YtbmnnmcnmfgbaaaW.PrintLast Go.Proofs.YtbmnnmcnmfgbaaaW.PrintMore
set_option linter.unusedVariables false
set_option linter.unusedSimpArgs false

theorem BitsTells : horariumlaw05_BitsTells.Pure := by
  intro a b i l hma hb8 hwa hmb hb8' hwb hi hml hl8 hwl
  have ha := okW_of hwa
  have hb := okW_of hwb
  have hi' := int_of hi
  refine Ev.rounds ?_
  unfold horariumlaw05_BitsTells.f
  refine ev_now_bind (few_f a b) ?_
  have jt : Ev (fun n => horariumlaw05_BitsTells.j0 n a b i l true) true :=
    Ev.step (f := fun k => (horariumlaw05_heads.f k).bind fun t => some t) (fun k => by simp only [horariumlaw05_BitsTells.j0]; rw [if_pos trivial]) heads_end
  by_cases hf : a.length ≤ 70 ∧ b.length ≤ 70
  · refine ev_if_pos (decide_eq_true hf) ?_
    by_cases h100 : (l.length : Int) > 100
    · rw [decide_eq_true h100]; exact jt
    · rw [decide_eq_false h100]
      obtain ⟨r1, h1, N1, l1⟩ := and_ev a b ha hb (by omega)
      obtain ⟨s1, g1, M1⟩ := refAnd_ev a b ha hb (by omega) (by omega)
      obtain rfl : r1 = s1 := N1.unique M1 (fun _ => rfl)
      obtain ⟨r2, h2, N2, l2⟩ := or_ev a b ha hb (by omega) (by omega)
      obtain ⟨s2, g2, M2⟩ := refOr_ev a b ha hb (by omega) (by omega)
      obtain rfl : r2 = s2 := N2.unique M2 (fun _ => rfl)
      obtain ⟨r3, h3, N3, l3⟩ := less_ev a b ha hb (by omega)
      obtain ⟨s3, g3, M3⟩ := refLess_ev a b ha hb (by omega) (by omega)
      obtain rfl : r3 = s3 := N3.unique M3 (fun _ => rfl)
      obtain ⟨r4, h4, N4, l4⟩ := with_ev a ha (by omega) i
      obtain ⟨s4, g4, M4⟩ := refWith_ev a ha (by omega) i
      obtain rfl : r4 = s4 := N4.unique M4 (fun _ => rfl)
      obtain ⟨r5, h5, N5, l5⟩ := without_ev a ha (by omega) i (by omega)
      obtain ⟨s5, g5, M5⟩ := refWithout_ev a ha (by omega) i
      obtain rfl : r5 = s5 := N5.unique M5 (fun _ => rfl)
      obtain ⟨r6, h6, N6, l6⟩ := of_ev l (by omega)
      obtain ⟨s6, g6, M6⟩ := refOf_ev l (by omega)
      obtain rfl : r6 = s6 := N6.unique M6 (fun _ => rfl)
      have w : ∀ r : List Int, r.length ≤ 1000 → Ev (fun k => horariumref05_Words.f k r r) true := fun r hr => by
        have := words_ev r r (by omega)
        rwa [decide_eq_true rfl] at this
      have j1 : Ev (fun n => horariumlaw05_BitsTells.j1 n a i l false) true := by
        refine Ev.step (fun n => by simp only [horariumlaw05_BitsTells.j1]; exact if_neg (by simp)) ?_
        refine Ev.bind h4 (Ev.bind g4 (Ev.bind (w r4 (by omega)) (ev_if_pos rfl (Ev.bind h5 (Ev.bind g5 (Ev.bind (w r5 (by omega)) (ev_if_pos rfl (Ev.bind h6 (Ev.bind g6 (Ev.bind (w r6 (by omega)) (ev_if_pos rfl ?_)))))))))))
        exact ev_now_bind (has_f a ha i (by omega)) (ev_now_bind (ref_has_f a ha i (by omega)) (ev_if_pos (by simp) heads_end))
      refine Ev.step (fun n => by simp only [horariumlaw05_BitsTells.j0]; exact if_neg (by simp)) ?_
      exact Ev.bind h1 (Ev.bind g1 (Ev.bind (w r1 (by omega)) (ev_if_pos rfl (Ev.bind h2 (Ev.bind g2 (Ev.bind (w r2 (by omega)) (ev_if_pos rfl (Ev.bind h3 (Ev.bind g3 (Ev.bind (w r3 (by omega)) j1))))))))))
  · exact ev_if_neg (by rw [decide_eq_false hf]; simp) jt

end Go.Proofs.Ytbmnnmcnmfgbaaa.Pure
