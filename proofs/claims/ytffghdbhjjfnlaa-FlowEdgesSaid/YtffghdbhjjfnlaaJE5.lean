/-
  Put together by slim.py of this session out of the session's own texts (YtffghdbhjjfnlaaLawFlowEdges and what it reaches): declarations that nothing kept names are left out. Conditions: none beyond those of the law's row.
-/
import Derived.Test.YtffghdbhjjfnlaaJE4
import Derived.Test.YtffghdbhjjfnlaaJE0
import Derived.Test.YtffghdbhjjfnlaaJE3
import Derived.Test.YtffghdbhjjfnlaaJE1
import Derived.Test.YtffghdbhjjfnlaaJE2
section
/-
  The reference's function Code: its walk.
-/
namespace Go.Proofs.Ytffghdbhjjfnlaa.F
open Go.RowKit Go.Proofs.YtffghdbhjjfnlaaW.PrintWords Go.Proofs.YtffghdbhjjfnlaaW.PrintLast Go.Proofs.YtffghdbhjjfnlaaW.PrintMore
set_option linter.unusedVariables false
set_option linter.unusedSimpArgs false
set_option maxRecDepth 100000 in
set_option maxHeartbeats 1000000 in
theorem code_calls {N : Net} (a b c : Int) (w : World) : Calls Try.prog 19 #[.int .i64 N.n, .int .i64 N.m, .agg #[.int .i64 a, .int .i64 b, .int .i64 c]] w fun e w' => e = .returned (.int .i64 (edgeE N a b c)) ∧ Below w.heap.size w w' := by
  obtain ⟨n, hn⟩ : ∃ n, N.n = n := ⟨_, rfl⟩
  obtain ⟨m, hm⟩ : ∃ m, N.m = m := ⟨_, rfl⟩
  have HB := Aside0.mk (below_alloc (Below.refl w.heap.size w) (.cells #[.int .i64 a, .int .i64 b, .int .i64 c] 35 (0, 0)))
  by_cases c0 : a < 0
  · have d0 : decide (a < 0) = true := decide_eq_true c0
    have hT : twoE n a b = 6 := by unfold twoE; rw [if_pos (by omega)]
    have hE : edgeE N a b c = 6 := by unfold edgeE; rw [hn, hm, hT]; rw [if_pos (by decide)]
    clear hT
    rw [hE, hn, hm]
    clear hE hn hm c0
    go_enter Try.func19, Try.ntmps19
    go_wp2
    go_ret
    exact ⟨rfl, HB.out⟩
  · have d0 : decide (a < 0) = false := decide_eq_false c0
    by_cases c1 : a ≥ (n : Int)
    · have d1 : decide (a ≥ (n : Int)) = true := decide_eq_true c1
      have hT : twoE n a b = 6 := by unfold twoE; rw [if_pos (by omega)]
      have hE : edgeE N a b c = 6 := by unfold edgeE; rw [hn, hm, hT]; rw [if_pos (by decide)]
      clear hT
      rw [hE, hn, hm]
      clear hE hn hm c0 c1
      go_enter Try.func19, Try.ntmps19
      go_wp2
      go_ret
      exact ⟨rfl, HB.out⟩
    · have d1 : decide (a ≥ (n : Int)) = false := decide_eq_false c1
      by_cases c2 : b < 0
      · have d2 : decide (b < 0) = true := decide_eq_true c2
        have hT : twoE n a b = 6 := by unfold twoE; rw [if_pos (by omega)]
        have hE : edgeE N a b c = 6 := by unfold edgeE; rw [hn, hm, hT]; rw [if_pos (by decide)]
        clear hT
        rw [hE, hn, hm]
        clear hE hn hm c0 c1 c2
        go_enter Try.func19, Try.ntmps19
        go_wp2
        go_ret
        exact ⟨rfl, HB.out⟩
      · have d2 : decide (b < 0) = false := decide_eq_false c2
        by_cases c3 : b ≥ (n : Int)
        · have d3 : decide (b ≥ (n : Int)) = true := decide_eq_true c3
          have hT : twoE n a b = 6 := by unfold twoE; rw [if_pos (by omega)]
          have hE : edgeE N a b c = 6 := by unfold edgeE; rw [hn, hm, hT]; rw [if_pos (by decide)]
          clear hT
          rw [hE, hn, hm]
          clear hE hn hm c0 c1 c2 c3
          go_enter Try.func19, Try.ntmps19
          go_wp2
          go_ret
          exact ⟨rfl, HB.out⟩
        · have d3 : decide (b ≥ (n : Int)) = false := decide_eq_false c3
          by_cases c4 : a = b
          · have d4 : (a == b) = true := by simp [c4]
            have hT : twoE n a b = 2 := by unfold twoE; rw [if_neg (by omega), if_pos (by omega)]
            have hE : edgeE N a b c = 2 := by unfold edgeE; rw [hn, hm, hT]; rw [if_pos (by decide)]
            clear hT
            rw [hE, hn, hm]
            clear hE hn hm c0 c1 c2 c3 c4
            go_enter Try.func19, Try.ntmps19
            go_wp2
            go_ret
            exact ⟨rfl, HB.out⟩
          · have d4 : (a == b) = false := by simp [c4]
            by_cases c5 : c < 0
            · have d5 : decide (c < 0) = true := decide_eq_true c5
              have hT : twoE n a b = 0 := by unfold twoE; rw [if_neg (by omega), if_neg (by omega)]
              have hE : edgeE N a b c = 2 := by unfold edgeE; rw [hn, hm, hT]; rw [if_neg (by decide), if_pos (by omega)]
              clear hT
              rw [hE, hn, hm]
              clear hE hn hm c0 c1 c2 c3 c4 c5
              go_enter Try.func19, Try.ntmps19
              go_wp2
              go_ret
              exact ⟨rfl, HB.out⟩
            · have d5 : decide (c < 0) = false := decide_eq_false c5
              by_cases c6 : c > 1000000
              · have d6 : decide (c > 1000000) = true := decide_eq_true c6
                have hT : twoE n a b = 0 := by unfold twoE; rw [if_neg (by omega), if_neg (by omega)]
                have hE : edgeE N a b c = 2 := by unfold edgeE; rw [hn, hm, hT]; rw [if_neg (by decide), if_pos (by omega)]
                clear hT
                rw [hE, hn, hm]
                clear hE hn hm c0 c1 c2 c3 c4 c5 c6
                go_enter Try.func19, Try.ntmps19
                go_wp2
                go_ret
                exact ⟨rfl, HB.out⟩
              · have d6 : decide (c > 1000000) = false := decide_eq_false c6
                by_cases c7 : (m : Int) ≥ 5000
                · have d7 : decide ((m : Int) ≥ 5000) = true := decide_eq_true c7
                  have hT : twoE n a b = 0 := by unfold twoE; rw [if_neg (by omega), if_neg (by omega)]
                  have hE : edgeE N a b c = 9 := by unfold edgeE; rw [hn, hm, hT]; rw [if_neg (by decide), if_neg (by omega), if_pos (by omega)]
                  clear hT
                  rw [hE, hn, hm]
                  clear hE hn hm c0 c1 c2 c3 c4 c5 c6 c7
                  go_enter Try.func19, Try.ntmps19
                  go_wp2
                  go_ret
                  exact ⟨rfl, HB.out⟩
                · have d7 : decide ((m : Int) ≥ 5000) = false := decide_eq_false c7
                  have hT : twoE n a b = 0 := by unfold twoE; rw [if_neg (by omega), if_neg (by omega)]
                  have hE : edgeE N a b c = 0 := by unfold edgeE; rw [hn, hm, hT]; rw [if_neg (by decide), if_neg (by omega), if_neg (by omega)]
                  clear hT
                  rw [hE, hn, hm]
                  clear hE hn hm c0 c1 c2 c3 c4 c5 c6 c7
                  go_enter Try.func19, Try.ntmps19
                  go_wp2
                  go_ret
                  exact ⟨rfl, HB.out⟩
end Go.Proofs.Ytffghdbhjjfnlaa.F
end
section
/-
  The law FlowEdges: its walk.
-/
namespace Go.Proofs.Ytffghdbhjjfnlaa.F
open Go.RowKit Go.Proofs.YtffghdbhjjfnlaaW.PrintWords Go.Proofs.YtffghdbhjjfnlaaW.PrintLast Go.Proofs.YtffghdbhjjfnlaaW.PrintMore
set_option linter.unusedVariables false
set_option linter.unusedSimpArgs false
set_option maxRecDepth 100000 in
set_option maxHeartbeats 1000000 in
theorem edges_no (n : Int) (A : Option Addr) (len cap : Nat) (w : World) (h : n < 1 ∨ 1000 < n) :
    Calls Try.prog 5 #[.int .i64 n, .slice A len cap] w fun e w' => e = .returned (.bool true) ∧ Below w.heap.size w w' := by
  have H := Aside0.mk h
  by_cases h1 : 1000 < n
  · have d0 : decide (n > 1000) = true := decide_eq_true h1
    clear h h1
    go_enter Try.func5, Try.ntmps5
    go_wp2_with fail
    refine (new_no n H.out w).mono ?_
    rintro e w1 ⟨rfl, hw⟩
    have hw' := hw.symm
    subst hw'
    clear hw
    go_wp2_with fail
    refine (heads_calls _).mono ?_
    rintro e w2 ⟨rfl, hb⟩
    have HB2 := Aside0.mk hb
    clear hb
    go_wp2
    go_ret
    exact ⟨rfl, HB2.out⟩
  · have d0 : decide (n > 1000) = false := decide_eq_false h1
    have d1 : decide (n < 1) = true := decide_eq_true (by omega)
    clear h h1
    go_enter Try.func5, Try.ntmps5
    go_wp2_with fail
    refine (new_no n H.out w).mono ?_
    rintro e w1 ⟨rfl, hw⟩
    have hw' := hw.symm
    subst hw'
    clear hw
    go_wp2_with fail
    refine (heads_calls _).mono ?_
    rintro e w2 ⟨rfl, hb⟩
    have HB2 := Aside0.mk hb
    clear hb
    go_wp2
    go_ret
    exact ⟨rfl, HB2.out⟩
set_option maxRecDepth 100000 in
set_option maxHeartbeats 1000000 in
theorem edges_many (n : Nat) (h1 : 1 ≤ n) (h2 : n ≤ 1000) (A : Option Addr) (len cap : Nat) (w : World) (h : 80 < len) :
    Calls Try.prog 5 #[.int .i64 n, .slice A len cap] w fun e w' => e = .returned (.bool true) ∧ Below w.heap.size w w' := by
  have d0 : decide ((n : Int) > 1000) = false := decide_eq_false (by omega)
  have d1 : decide ((n : Int) < 1) = false := decide_eq_false (by omega)
  have d2 : decide ((len : Int) > 80) = true := decide_eq_true (by omega)
  clear h h1 h2
  go_enter Try.func5, Try.ntmps5
  go_wp2_with fail
  refine (heads_calls _).mono ?_
  rintro e w2 ⟨rfl, hb⟩
  have HB2 := Aside0.mk hb
  clear hb
  go_wp2
  go_ret
  exact ⟨rfl, HB2.out⟩
set_option maxRecDepth 100000 in
set_option maxHeartbeats 4000000 in
theorem edges_yes (n : Nat) (h1 : 1 ≤ n) (h2 : n ≤ 1000) (A : Option Addr) (cap : Nat) (l : List E3) (w : World) (hl : l.length ≤ 80) (hE : EdgesIn w A l) :
    Calls Try.prog 5 #[.int .i64 n, .slice A l.length cap] w fun e w' => e = .returned (.bool true) ∧ Below w.heap.size w w' := by
  have HE := Aside0.mk hE
  have d0 : decide ((n : Int) > 1000) = false := decide_eq_false (by omega)
  have d1 : decide ((n : Int) < 1) = false := decide_eq_false (by omega)
  have d2 : decide ((l.length : Int) > 80) = false := decide_eq_false (by omega)
  have d3 : ((n : Int) != (n : Int)) = false := by simp
  obtain ⟨base, hbase⟩ : ∃ b, w.heap.size = b := ⟨_, rfl⟩
  have HBS := Aside0.mk hbase
  simp only [hbase]
  clear hE
  go_enter Try.func5, Try.ntmps5
  go_wp2_with fail
  refine (new_yes n h1 h2 (L0 (Net.none n)) w).mono ?_
  rintro e w1 ⟨g, V0, rfl, hA1, hB1⟩
  rw [hbase] at hA1 hB1
  have HA1 := Aside0.mk hA1
  have HB1 := Aside0.mk hB1
  clear hA1 hB1 hbase
  go_wp2_with fail
  refine (len_calls HA1.out).mono ?_
  rintro e wq ⟨rfl, hw⟩
  have hw' := hw.symm
  subst hw'
  rw [show (Net.none n).n = n from rfl]
  clear hw
  go_wp2
  go_loopg [6, 7] l.length (fun q v i wr => ∃ (k : Nat) (V : Vs), Aside0 (k + q = l.length) ∧ i = .int .i64 k ∧ v = .int .i64 ((madeOf n (l.take k)).1.m : Int) ∧ Aside0 (NetAt wr base g (madeOf n (l.take k)).1 (L0 (madeOf n (l.take k)).1) V [] [] []) ∧ Aside0 (Below base w wr))
  case atStart => exact ⟨0, V0, ⟨by omega⟩, rfl, rfl, by rw [List.take_zero]; exact HA1, HB1⟩
  case round =>
    clear HA1 HB1
    obtain ⟨k, V, HK, rfl, rfl, HA, HB⟩ := hrel
    by_cases hlt : k < l.length
    · obtain ⟨ad, rfl, hx1, hx2, hx3⟩ := (HE.out.below (w' := wr) (by rw [HBS.out]; exact HB.out)) k hlt
      have hcame := came_made h1 h2 (l.take k)
      have hstep := made_take (n := n) hlt
      obtain ⟨e, he⟩ : ∃ e, eAt l k = e := ⟨_, rfl⟩
      rw [he] at hx1 hx2 hx3 hstep
      obtain ⟨x, hx⟩ : ∃ x, madeOf n (l.take k) = x := ⟨_, rfl⟩
      rw [hx] at HA hcame hstep ⊢
      obtain ⟨N, out⟩ := x
      have HA : Aside0 (NetAt wr base g N (L0 N) V [] [] []) := HA
      have HCM : Aside0 (Came n N out) := ⟨hcame⟩
      have hst : madeOf n (l.take (k + 1)) = (accN N e, if edgeE N e.1 e.2.1 e.2.2 = 0 then out ++ [e] else out) := hstep
      have HST := Aside0.mk hst
      clear hcame hstep he hx hst
      have hlow : ad.block < base := by
        have := cell_in ((HE.out k hlt).choose_spec.2.1)
        have e1 := (HE.out k hlt).choose_spec.1
        injection e1 with e1
        have e2 : (ad.add (k * 3)).block = ad.block := by unfold Addr.add; split <;> rfl
        rw [← e1, e2] at this
        rw [← HBS.out]; exact this
      have HLOW := Aside0.mk hlow
      obtain ⟨x1, x2, x3⟩ := e
      simp only at hx1 hx2 hx3
      have hwi := wrap_succ (n := l.length) (by omega) hlt
      clear hlow
      obtain ⟨ee, hee⟩ : ∃ ee, edgeE N x1 x2 x3 = ee := ⟨_, rfl⟩
      obtain ⟨ea, hea⟩ : ∃ ea, edgeA N (x1, x2, x3) = ea := ⟨_, rfl⟩
      have HEE := Aside0.mk hee
      have HEA := Aside0.mk hea
      have HEZ : Aside0 (ea = if ee = 0 then (N.m : Int) else 0) := ⟨by rw [← hea, ← hee]; rfl⟩
      have hm5 := HCM.out.ok.few
      have hnn := HCM.out.nn
      clear hee hea
      show _
      go_wp2_with fail
      refine start_ (n := 22) (S := (fun w' => w'.cell? (ad.add (k * 3)) = some (.int .i64 x1) ∧ w'.cell? ⟨(ad.add (k * 3)).block, (ad.add (k * 3)).off + 1, none⟩ = some (.int .i64 x2) ∧ w'.cell? ⟨(ad.add (k * 3)).block, (ad.add (k * 3)).off + 2, none⟩ = some (.int .i64 x3))) (ds := [16]) #[false, false, false, false, false, false, false, false, false, false, false, false, false, false, false, false, false, false, false, false, false, false] (by kernel_rfl) rfl rfl (⟨hx1, hx2, hx3⟩) (fun hHeld => ?_)
      refine pure_ (i := 0) (N := some 44) (v := ?_) (a' := ?_) #[true, false, false, false, false, false, false, false, false, false, false, false, false, false, false, false, false, false, false, false, false, false] rfl rfl (by kernel_rfl) (fun _ _ _ h => h) (Or.inl ⟨by rfl, ?_⟩) ?_ ?_
      rotate_left
      · intro w'
        go_simp
        with_reducible rfl
      rotate_left
      · simp only [Act.put, List.setIfInBounds_toArray, List.set_cons_zero, List.set_cons_succ, i64_w, i32_w]
        rfl
      refine pure_ (i := 1) (N := some 45) (v := ?_) (a' := ?_) #[true, true, false, false, false, false, false, false, false, false, false, false, false, false, false, false, false, false, false, false, false, false] rfl rfl (by kernel_rfl) (fun _ _ _ h => h) (Or.inl ⟨by rfl, ?_⟩) ?_ ?_
      rotate_left
      · intro w'
        go_simp
        with_reducible rfl
      rotate_left
      · simp only [Act.put, List.setIfInBounds_toArray, List.set_cons_zero, List.set_cons_succ, i64_w, i32_w]
        rfl
      refine pure_ (i := 2) (N := some 46) (v := ?_) (a' := ?_) #[true, true, true, false, false, false, false, false, false, false, false, false, false, false, false, false, false, false, false, false, false, false] rfl rfl (by kernel_rfl) (fun _ _ _ h => h) (Or.inl ⟨by rfl, ?_⟩) ?_ ?_
      rotate_left
      · intro w'
        go_simp
        with_reducible rfl
      rotate_left
      · simp only [Act.put, List.setIfInBounds_toArray, List.set_cons_zero, List.set_cons_succ, i64_w, i32_w]
        rfl
      refine pure_ (i := 3) (N := some 47) (v := ?_) (a' := ?_) #[true, true, true, true, false, false, false, false, false, false, false, false, false, false, false, false, false, false, false, false, false, false] rfl rfl (by kernel_rfl) (fun _ _ _ h => h) (Or.inl ⟨by rfl, ?_⟩) ?_ ?_
      rotate_left
      · intro w'
        go_simp
        with_reducible rfl
      rotate_left
      · simp only [Act.put, List.setIfInBounds_toArray, List.set_cons_zero, List.set_cons_succ, i64_w, i32_w]
        rfl
      refine pure_ (i := 4) (N := some 48) (v := ?_) (a' := ?_) #[true, true, true, true, true, false, false, false, false, false, false, false, false, false, false, false, false, false, false, false, false, false] rfl rfl (by kernel_rfl) (fun _ _ _ h => h) (Or.inl ⟨by rfl, ?_⟩) ?_ ?_
      rotate_left
      · intro w'
        go_simp
        with_reducible rfl
      rotate_left
      · simp only [Act.put, List.setIfInBounds_toArray, List.set_cons_zero, List.set_cons_succ, i64_w, i32_w]
        rfl
      refine take_ (i := 5) (N := some 49) (v := ?_) (a' := ?_) #[true, true, true, true, true, true, false, false, false, false, false, false, false, false, false, false, false, false, false, false, false, false] rfl rfl (by kernel_rfl) (fun _ _ _ h => h) (Or.inl ⟨by rfl, ?_⟩) hHeld ?_ ?_
      rotate_left
      · rintro w' ⟨s0, s1, s2⟩
        go_simp
        with_reducible rfl
      rotate_left
      · simp only [Act.put, List.setIfInBounds_toArray, List.set_cons_zero, List.set_cons_succ, i64_w, i32_w]
        rfl
      refine pure_ (i := 6) (N := some 50) (v := ?_) (a' := ?_) #[true, true, true, true, true, true, true, false, false, false, false, false, false, false, false, false, false, false, false, false, false, false] rfl rfl (by kernel_rfl) (fun _ _ _ h => h) (Or.inl ⟨by rfl, ?_⟩) ?_ ?_
      rotate_left
      · intro w'
        go_simp
        with_reducible rfl
      rotate_left
      · simp only [Act.put, List.setIfInBounds_toArray, List.set_cons_zero, List.set_cons_succ, i64_w, i32_w]
        rfl
      refine pure_ (i := 7) (N := some 51) (v := ?_) (a' := ?_) #[true, true, true, true, true, true, true, true, false, false, false, false, false, false, false, false, false, false, false, false, false, false] rfl rfl (by kernel_rfl) (fun _ _ _ h => h) (Or.inl ⟨by rfl, ?_⟩) ?_ ?_
      rotate_left
      · intro w'
        go_simp
        with_reducible rfl
      rotate_left
      · simp only [Act.put, List.setIfInBounds_toArray, List.set_cons_zero, List.set_cons_succ, i64_w, i32_w]
        rfl
      refine pure_ (i := 8) (N := some 52) (v := ?_) (a' := ?_) #[true, true, true, true, true, true, true, true, true, false, false, false, false, false, false, false, false, false, false, false, false, false] rfl rfl (by kernel_rfl) (fun _ _ _ h => h) (Or.inl ⟨by rfl, ?_⟩) ?_ ?_
      rotate_left
      · intro w'
        go_simp
        with_reducible rfl
      rotate_left
      · simp only [Act.put, List.setIfInBounds_toArray, List.set_cons_zero, List.set_cons_succ, i64_w, i32_w]
        rfl
      refine pure_ (i := 9) (N := some 53) (v := ?_) (a' := ?_) #[true, true, true, true, true, true, true, true, true, true, false, false, false, false, false, false, false, false, false, false, false, false] rfl rfl (by kernel_rfl) (fun _ _ _ h => h) (Or.inl ⟨by rfl, ?_⟩) ?_ ?_
      rotate_left
      · intro w'
        go_simp
        with_reducible rfl
      rotate_left
      · simp only [Act.put, List.setIfInBounds_toArray, List.set_cons_zero, List.set_cons_succ, i64_w, i32_w]
        rfl
      refine take_ (i := 10) (N := some 54) (v := ?_) (a' := ?_) #[true, true, true, true, true, true, true, true, true, true, true, false, false, false, false, false, false, false, false, false, false, false] rfl rfl (by kernel_rfl) (fun _ _ _ h => h) (Or.inl ⟨by rfl, ?_⟩) hHeld ?_ ?_
      rotate_left
      · rintro w' ⟨s0, s1, s2⟩
        go_simp
        with_reducible rfl
      rotate_left
      · simp only [Act.put, List.setIfInBounds_toArray, List.set_cons_zero, List.set_cons_succ, i64_w, i32_w]
        rfl
      refine pure_ (i := 11) (N := some 55) (v := ?_) (a' := ?_) #[true, true, true, true, true, true, true, true, true, true, true, true, false, false, false, false, false, false, false, false, false, false] rfl rfl (by kernel_rfl) (fun _ _ _ h => h) (Or.inl ⟨by rfl, ?_⟩) ?_ ?_
      rotate_left
      · intro w'
        go_simp
        with_reducible rfl
      rotate_left
      · simp only [Act.put, List.setIfInBounds_toArray, List.set_cons_zero, List.set_cons_succ, i64_w, i32_w]
        rfl
      refine pure_ (i := 12) (N := some 56) (v := ?_) (a' := ?_) #[true, true, true, true, true, true, true, true, true, true, true, true, true, false, false, false, false, false, false, false, false, false] rfl rfl (by kernel_rfl) (fun _ _ _ h => h) (Or.inl ⟨by rfl, ?_⟩) ?_ ?_
      rotate_left
      · intro w'
        go_simp
        with_reducible rfl
      rotate_left
      · simp only [Act.put, List.setIfInBounds_toArray, List.set_cons_zero, List.set_cons_succ, i64_w, i32_w]
        rfl
      refine pure_ (i := 13) (N := some 57) (v := ?_) (a' := ?_) #[true, true, true, true, true, true, true, true, true, true, true, true, true, true, false, false, false, false, false, false, false, false] rfl rfl (by kernel_rfl) (fun _ _ _ h => h) (Or.inl ⟨by rfl, ?_⟩) ?_ ?_
      rotate_left
      · intro w'
        go_simp
        with_reducible rfl
      rotate_left
      · simp only [Act.put, List.setIfInBounds_toArray, List.set_cons_zero, List.set_cons_succ, i64_w, i32_w]
        rfl
      refine pure_ (i := 14) (N := some 58) (v := ?_) (a' := ?_) #[true, true, true, true, true, true, true, true, true, true, true, true, true, true, true, false, false, false, false, false, false, false] rfl rfl (by kernel_rfl) (fun _ _ _ h => h) (Or.inl ⟨by rfl, ?_⟩) ?_ ?_
      rotate_left
      · intro w'
        go_simp
        with_reducible rfl
      rotate_left
      · simp only [Act.put, List.setIfInBounds_toArray, List.set_cons_zero, List.set_cons_succ, i64_w, i32_w]
        rfl
      refine take_ (i := 15) (N := some 59) (v := ?_) (a' := ?_) #[true, true, true, true, true, true, true, true, true, true, true, true, true, true, true, true, false, false, false, false, false, false] rfl rfl (by kernel_rfl) (fun _ _ _ h => h) (Or.inl ⟨by rfl, ?_⟩) hHeld ?_ ?_
      rotate_left
      · rintro w' ⟨s0, s1, s2⟩
        go_simp
        with_reducible rfl
      rotate_left
      · simp only [Act.put, List.setIfInBounds_toArray, List.set_cons_zero, List.set_cons_succ, i64_w, i32_w]
        rfl
      refine last_ (i := 16) (N := some 60) #[true, true, true, true, true, true, true, true, true, true, true, true, true, true, true, true, true, false, false, false, false, false] rfl rfl (by kernel_rfl) (by decide) (fun K hK => ?_)
      refine goes_ Try.func18 (by kernel_rfl) rfl #[.pointer (some ⟨g, 0, none⟩), .int .i64 x1, .int .i64 x2, .int .i64 x3] (by rfl) rfl rfl (by simp only [List.map_toArray, List.map_cons, List.map_nil]; rfl) ?_
      refine (edge_calls HCM.out.ok HA.out.drew (x1, x2, x3) (in_low HA.out.drew) (up_low HA.out.drew)).mono ?_
      rintro r w6 ⟨V6, rfl, hA6, hI6, hK6⟩
      have HA6 := Aside0.mk hA6
      have HK6 : Aside0 (Kept (fun k => base ≤ k) wr w6) := ⟨(kept_drew (Kept.refl (fun k => base ≤ k) wr)).trans hK6⟩
      clear hA6 hI6 hK6
      rw [HEA.out, HEE.out]
      refine ⟨_, rfl, ?_⟩
      refine hK.out _ _ ?_
      clear hK K
      refine pure_ (i := 17) (N := some 43) (v := ?_) (a' := ?_) #[true, true, true, true, true, true, true, true, true, true, true, true, true, true, true, true, true, true, false, false, false, false] rfl rfl (by kernel_rfl) (fun _ _ _ h => h) (Or.inl ⟨by rfl, ?_⟩) ?_ ?_
      rotate_left
      · intro w'
        go_simp
        with_reducible rfl
      rotate_left
      · simp only [Act.put, List.setIfInBounds_toArray, List.set_cons_zero, List.set_cons_succ, i64_w, i32_w]
        rfl
      refine pure_ (i := 18) (N := some 61) (v := ?_) (a' := ?_) #[true, true, true, true, true, true, true, true, true, true, true, true, true, true, true, true, true, true, true, false, false, false] rfl rfl (by kernel_rfl) (fun _ _ _ h => h) (Or.inl ⟨by rfl, ?_⟩) ?_ ?_
      rotate_left
      · intro w'
        go_simp
        with_reducible rfl
      rotate_left
      · simp only [Act.put, List.setIfInBounds_toArray, List.set_cons_zero, List.set_cons_succ, i64_w, i32_w]
        rfl
      refine pure_ (i := 19) (N := some 62) (v := ?_) (a' := ?_) #[true, true, true, true, true, true, true, true, true, true, true, true, true, true, true, true, true, true, true, true, false, false] rfl rfl (by kernel_rfl) (fun _ _ _ h => h) (Or.inl ⟨by rfl, ?_⟩) ?_ ?_
      rotate_left
      · intro w'
        go_simp
        with_reducible rfl
      rotate_left
      · simp only [Act.put, List.setIfInBounds_toArray, List.set_cons_zero, List.set_cons_succ, i64_w, i32_w]
        rfl
      refine pure_ (i := 20) (N := some 8) (v := ?_) (a' := ?_) #[true, true, true, true, true, true, true, true, true, true, true, true, true, true, true, true, true, true, true, true, true, false] rfl rfl (by kernel_rfl) (fun _ _ _ h => h) (Or.inl ⟨by rfl, ?_⟩) ?_ ?_
      rotate_left
      · intro w'
        go_simp
        with_reducible rfl
      rotate_left
      · simp only [Act.put, List.setIfInBounds_toArray, List.set_cons_zero, List.set_cons_succ, i64_w, i32_w]
        rfl
      refine pure_ (i := 21) (N := some 9) (v := ?_) (a' := ?_) #[true, true, true, true, true, true, true, true, true, true, true, true, true, true, true, true, true, true, true, true, true, true] rfl rfl (by kernel_rfl) (fun _ _ _ h => h) (Or.inl ⟨by rfl, ?_⟩) ?_ ?_
      rotate_left
      · intro w'
        go_simp
        with_reducible rfl
      rotate_left
      · simp only [Act.put, List.setIfInBounds_toArray, List.set_cons_zero, List.set_cons_succ, i64_w, i32_w]
        rfl
      refine done_ (by kernel_rfl) ?_
      skip
      have hb6 : w6.heap[(ad.add (k * 3)).block]? = wr.heap[(ad.add (k * 3)).block]? := HK6.out.block _ (by
        have e2 : (ad.add (k * 3)).block = ad.block := by unfold Addr.add; split <;> rfl
        rw [e2]
        exact fun h => Nat.not_le_of_lt HLOW.out h)
      have hy1 := cell_kept (w' := w6) hx1 hb6
      have hy2 := cell_kept (w' := w6) hx2 hb6
      have hy3 := cell_kept (w' := w6) hx3 hb6
      have HB6 : Aside0 (Below base w w6) := ⟨HB.out.trans HK6.out.below⟩
      clear hb6 hx1 hx2 hx3 HB HA
      go_wp2_with fail
      have hcode := code_calls (N := N) x1 x2 x3 w6
      rw [HCM.out.nn, HEE.out] at hcode
      refine hcode.mono ?_
      rintro e w7 ⟨rfl, hb7⟩
      have HA7 := Aside0.mk (HA6.out.below hb7)
      have HB7 := Aside0.mk (below_then HB6.out HA6.out.size hb7)
      clear hcode hb7 HA6 HB6 HK6
      have g0 : (ee != ee) = false := by simp
      by_cases hz : ee = 0
      · subst hz
        have HAC := HEA.out
        obtain rfl : ea = (N.m : Int) := HEZ.out
        have hwm : wrap64 ((N.m : Int) + 1) = ((N.m + 1 : Nat) : Int) := by unfold wrap64; omega
        have g1 : ((N.m : Int) != (N.m : Int)) = false := by simp
        have HM : Aside0 ((madeOf n (l.take (k + 1))).1.m = N.m + 1) := ⟨by rw [HST.out]; show (accN N (x1, x2, x3)).m = _; unfold accN; rw [if_pos HEE.out]; rfl⟩
        clear HAC HEA hm5
        go_wp2
        go_roundg (gk - 1)
        case measure => exact pred_lt HK hlt
        case rel => exact ⟨k + 1, V6, next_eq HK hlt, by first | rfl | go_num, by rw [HM.out] <;> first | rfl | rw [hwm], by rw [HST.out]; exact HA7, HB7⟩
      · have hea0 : ea = 0 := by rw [HEZ.out, if_neg hz]
        subst hea0
        have hz1 : (ee != 0) = true := by simp [hz]
        have hz2 : (ee == 0) = false := by simp [hz]
        have HM : Aside0 ((madeOf n (l.take (k + 1))).1.m = N.m) := ⟨by rw [HST.out]; show (accN N (x1, x2, x3)).m = _; unfold accN; rw [if_neg (by rw [HEE.out]; exact hz)]⟩
        clear HEA hm5
        go_wp2
        go_roundg (gk - 1)
        case measure => exact pred_lt HK hlt
        case rel => exact ⟨k + 1, V6, next_eq HK hlt, by first | rfl | go_num, by rw [HM.out], by rw [HST.out]; exact HA7, HB7⟩
    · obtain rfl : k = l.length := by have := HK.out; omega
      rw [List.take_length] at HA ⊢
      have HCM := Aside0.mk (came_made h1 h2 l)
      obtain ⟨N, hN⟩ : ∃ N, (madeOf n l).1 = N := ⟨_, rfl⟩
      rw [hN] at HA HCM ⊢
      clear HK hlt hN
      go_wp2_with fail
      refine (cut_calls HA.out (by simp)).mono ?_
      rintro e w3 ⟨vc, rfl, ho3, hb3⟩
      have HA3 := Aside0.mk (HA.out.below hb3)
      have HB3 := Aside0.mk (below_then HB.out HA.out.size hb3)
      obtain ⟨Ac, cc, rfl⟩ := own_slice ho3
      clear ho3 hb3 HA HB
      go_wp2_with fail
      refine (flow_calls HCM.out.ok HA3.out 0).mono ?_
      rintro e w4 ⟨rfl, hw⟩
      have hw' := hw.symm
      subst hw'
      have hf0 : flowF N (L0 N) 0 = 0 := by unfold flowF L0; split <;> rfl
      rw [hf0]
      clear hw hf0
      go_wp2_with fail
      refine (heads_calls _).mono ?_
      rintro e w5 ⟨rfl, hb5⟩
      have HB5 := Aside0.mk (below_then HB3.out HA3.out.size hb5)
      clear hb5
      go_wp2
      go_ret
      exact ⟨rfl, HB5.out⟩
/-- The walk for every input. -/
theorem edges_walk (a0 : Int) (a1 : Option Addr) (len1 cap1 : Nat) (z1 : List E3) (w : World) (w0 : (Lit.int .i64 a0).wf = true) (w1 : z1.length = len1 ∧ len1 ≤ 9223372036854775807 ∧ EdgesIn w a1 z1) :
    Calls Try.prog 5 #[.int .i64 a0, .slice a1 len1 cap1] w fun e w' => e = .returned (.bool true) ∧ Below w.heap.size w w' := by
  obtain ⟨rfl, hlen, hE⟩ := w1
  by_cases h : a0 < 1 ∨ 1000 < a0
  · exact edges_no a0 a1 _ cap1 w h
  · obtain ⟨n, rfl⟩ := Int.eq_ofNat_of_zero_le (show 0 ≤ a0 by omega)
    by_cases h80 : 80 < z1.length
    · exact edges_many n (by omega) (by omega) a1 _ cap1 w h80
    · exact edges_yes n (by omega) (by omega) a1 cap1 z1 w (by omega) hE
end Go.Proofs.Ytffghdbhjjfnlaa.F
end
