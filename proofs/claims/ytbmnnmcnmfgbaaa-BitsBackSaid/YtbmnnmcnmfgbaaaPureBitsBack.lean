/-
  For every input the law BitsBack answers true: the statement over the printed functions (the printed row carries it to the program). Conditions: none beyond those of the row.
-/
import Derived.Test.YtbmnnmcnmfgbaaaPLKx1
import Derived.Test.YtbmnnmcnmfgbaaaHeads
namespace Go.Proofs.Ytbmnnmcnmfgbaaa.Pure
open Go.RowKit Go.Proofs.Ytbmnnmcnmfgbaaa.PLK Go.Proofs.Ytbmnnmcnmfgbaaa.PL Go.Proofs.Ytbmnnmcnmfgbaaa.PB Go.Proofs.YtbmnnmcnmfgbaaaW.PrintWords Go.Proofs.YtbmnnmcnmfgbaaaW.PrintLast Go.Proofs.YtbmnnmcnmfgbaaaW.PrintMore
set_option linter.unusedVariables false
set_option linter.unusedSimpArgs false

theorem BitsBack : horariumlaw05_BitsBack.Pure := by
  intro a hm hb8 hw
  have ha := okW_of hw
  refine Ev.rounds ?_
  unfold horariumlaw05_BitsBack.f
  by_cases h64 : (a.length : Int) > 64
  · exact ev_if_pos h64 heads_end
  · refine ev_if_neg h64 (ev_now_bind (list_f a ha (by omega)) ?_)
    obtain ⟨r, hr, hN, hl⟩ := of_ev (els a (64 * a.length)) (by have := els_len a (64 * a.length); omega)
    have hins : ∀ i, ins (els a (64 * a.length)) i = tb a i := fun i => by
      unfold ins els
      by_cases hi : i < 64 * a.length
      · have h1 : decide (i < 4096) = true := decide_eq_true (by omega)
        rw [h1, Bool.true_and, Bool.eq_iff_iff, List.any_eq_true]
        constructor
        · rintro ⟨x, hx, he⟩
          simp only [List.mem_map, List.mem_filter, List.mem_range] at hx
          obtain ⟨j, ⟨_, hj⟩, rfl⟩ := hx
          have : j = i := by have := of_decide_eq_true he; omega
          subst this; exact hj
        · intro h
          refine ⟨(i : Int), ?_, by simp⟩
          simp only [List.mem_map, List.mem_filter, List.mem_range]
          exact ⟨i, ⟨hi, h⟩, rfl⟩
      · rw [tb_out (l := a) i (by omega), Bool.and_eq_false_iff]
        refine .inr ?_
        rw [List.any_eq_false]
        intro x hx
        simp only [List.mem_map, List.mem_filter, List.mem_range] at hx
        obtain ⟨j, ⟨h1, _⟩, rfl⟩ := hx
        have : ¬ (j : Int) = (i : Int) := by omega
        simp [this]
    have hsh := nrm_sh ha
    have he : r = Elems.sh a := hN.unique hsh hins
    have hS := same_true r a hN.ok ha (by omega) (by omega) (fun i => (hN.tb i).trans (hins i))
    have hrl : r.length ≤ a.length := by rw [he]; exact Elems.sh_len a
    obtain ⟨q, hq, hNq, _⟩ := or_ev a [] ha okW.nil (by omega) (by simp)
    have hqr : q = r := hNq.unique hN (fun i => by rw [hins, tb_out (l := []) i (by simp), Bool.or_false])
    subst hqr
    have hW := words_ev q q (by omega)
    rw [decide_eq_true rfl] at hW
    have hend : Ev (fun k => (bits_Or.f k a ([] : List Int)).bind fun t227 => ((horariumref05_Words.f k t227 q).bind fun t230 => (if t230 = true then ((horariumlaw05_heads.f k).bind fun t231 => (some t231)) else (some false)))) true :=
      Ev.bind hq (Ev.bind hW (ev_if_pos rfl heads_end))
    refine Ev.bind hr (Ev.bind hS (ev_if_pos rfl (ev_if_pos (by omega) ?_)))
    by_cases h0 : (q.length : Int) = 0
    · exact ev_if_pos h0 hend
    · have hwl : wrap64 ((q.length : Int) - 1) = ((q.length - 1 : Nat) : Int) := by unfold wrap64; omega
      refine ev_if_neg h0 (ev_if_pos (by rw [hwl]; omega) (ev_if_pos (by rw [hwl]; omega) (ev_if_neg ?_ hend)))
      rw [hwl]
      rcases Elems.sh_last q with e | ⟨m, x, e, hx⟩
      · rw [hN.nz] at e; rw [e] at h0; simp at h0
      · rw [hN.nz] at e
        rw [e, rd_nat]; simp [hx]

end Go.Proofs.Ytbmnnmcnmfgbaaa.Pure
