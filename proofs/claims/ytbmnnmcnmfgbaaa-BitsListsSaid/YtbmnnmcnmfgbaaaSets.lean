/-
  The plain side of layer 5: which set each function of package bits makes, and that the reference makes the same: over the printed functions.
-/
import Derived.Test.YtbmnnmcnmfgbaaaPBx
import Derived.Test.YtbmnnmcnmfgbaaaSeq
namespace Go.Proofs.Ytbmnnmcnmfgbaaa.PB
open Go.RowKit Go.Proofs.YtbmnnmcnmfgbaaaW.PrintWords Go.Proofs.YtbmnnmcnmfgbaaaW.PrintLast Go.Proofs.YtbmnnmcnmfgbaaaW.PrintMore
open Elems (sh)
set_option linter.unusedVariables false
set_option linter.unusedSimpArgs false

/-! ### rows of words -/
def okW (l : List Int) : Prop := ∀ x ∈ l, 0 ≤ x ∧ x < 18446744073709551616
def tb (l : List Int) (i : Nat) : Bool := (rd l ((i / 64 : Nat) : Int)).toNat.testBit (i % 64)
theorem rd_nat (l : List Int) (j : Nat) : rd l (j : Int) = l.getD j 0 := by simp [rd]
theorem rd_out (l : List Int) (j : Nat) (h : l.length ≤ j) : rd l (j : Int) = 0 := by simp [rd, h]
theorem okW.rd {l : List Int} (h : okW l) (j : Nat) : 0 ≤ rd l (j : Int) ∧ rd l (j : Int) < 18446744073709551616 := by
  rw [rd_nat]
  by_cases hj : j < l.length
  · rw [List.getD_eq_getElem?_getD, List.getElem?_eq_getElem hj]; exact h _ (List.getElem_mem _)
  · rw [List.getD_eq_getElem?_getD, List.getElem?_eq_none (by omega)]; simp
theorem okW.nil : okW [] := fun _ h => by cases h
theorem okW.append {a b : List Int} (ha : okW a) (hb : okW b) : okW (a ++ b) := fun x hx => by
  rcases List.mem_append.1 hx with h | h
  · exact ha x h
  · exact hb x h
theorem okW.zeros (n : Nat) : okW (List.replicate n 0) := fun x hx => by
  have := (List.mem_replicate.1 hx).2; omega
theorem okW.sh {l : List Int} (h : okW l) : okW (sh l) := fun x hx => h x (Elems.sh_mem hx)
theorem okW.set {l : List Int} (h : okW l) (j : Nat) {x : Int} (hx : 0 ≤ x ∧ x < 18446744073709551616) : okW (l.set j x) := fun y hy => by
  rcases List.mem_or_eq_of_mem_set hy with h' | rfl
  · exact h y h'
  · exact hx
theorem sh_zeros (l : List Int) (m : Nat) : sh (l ++ List.replicate m 0) = sh l := by
  induction m with
  | zero => simp
  | succ m ih => rw [List.replicate_succ', ← List.append_assoc, Elems.sh_snoc, if_pos rfl, ih]
theorem sh_idem (l : List Int) : sh (sh l) = sh l := by
  obtain ⟨m, h⟩ := Elems.sh_split l
  have := congrArg sh h
  rw [sh_zeros] at this
  exact this.symm
theorem rd_zeros (l : List Int) (m j : Nat) : rd (l ++ List.replicate m 0) (j : Int) = rd l (j : Int) := by
  rw [rd_nat, rd_nat]
  by_cases h : j < l.length
  · simp [List.getElem?_append_left h]
  · rw [List.getD_eq_getElem?_getD, List.getD_eq_getElem?_getD, List.getElem?_append_right (by omega), List.getElem?_eq_none (l := l) (by omega), List.getElem?_replicate]
    split <;> rfl
theorem rd_sh (l : List Int) (j : Nat) : rd (sh l) (j : Int) = rd l (j : Int) := by
  obtain ⟨m, h⟩ := Elems.sh_split l
  have := congrArg (fun q => rd q (j : Int)) h
  simp only [rd_zeros] at this
  exact this.symm
theorem tb_sh (l : List Int) (i : Nat) : tb (sh l) i = tb l i := by unfold tb; rw [rd_sh]
theorem sh_ext_le {a b : List Int} (hl : a.length ≤ b.length) (h : ∀ j : Nat, rd a (j : Int) = rd b (j : Int)) : sh a = sh b := by
  have e : b = a ++ List.replicate (b.length - a.length) 0 := by
    apply List.ext_getElem
    · simp; omega
    · intro i h1 h2
      have hi := h i
      rw [rd_nat, rd_nat] at hi
      by_cases hia : i < a.length
      · rw [List.getElem_append_left hia]; simp [h1, hia] at hi; exact hi.symm
      · rw [List.getElem_append_right (by omega)]; simp [h1, hia] at hi; simp; exact hi.symm
  have := congrArg sh e
  rw [sh_zeros] at this
  exact this.symm
theorem sh_ext {a b : List Int} (h : ∀ j : Nat, rd a (j : Int) = rd b (j : Int)) : sh a = sh b := by
  rcases Nat.le_total a.length b.length with hl | hl
  · exact sh_ext_le hl h
  · exact (sh_ext_le hl (fun j => (h j).symm)).symm
theorem word_ext {x y : Int} (hx : 0 ≤ x ∧ x < 18446744073709551616) (hy : 0 ≤ y ∧ y < 18446744073709551616) (h : ∀ i, i < 64 → x.toNat.testBit i = y.toNat.testBit i) : x = y := by
  have : x.toNat = y.toNat := by
    apply Nat.eq_of_testBit_eq
    intro i
    by_cases hi : i < 64
    · exact h i hi
    · have h1 : (2 : Nat) ^ 64 ≤ 2 ^ i := Nat.pow_le_pow_right (by omega) (by omega)
      rw [Nat.testBit_lt_two_pow (by omega), Nat.testBit_lt_two_pow (by omega)]
  omega

/-- The short row of just those numbers of which p tells. -/
structure Nrm (r : List Int) (p : Nat → Bool) : Prop where
  ok : okW r
  nz : sh r = r
  tb : ∀ i, tb r i = p i
theorem rd_of_tb {a b : List Int} (ha : okW a) (hb : okW b) (h : ∀ i, tb a i = tb b i) (j : Nat) : rd a (j : Int) = rd b (j : Int) := by
  refine word_ext (ha.rd j) (hb.rd j) (fun i hi => ?_)
  have := h (64 * j + i)
  unfold tb at this
  rw [show (64 * j + i) / 64 = j from by omega, show (64 * j + i) % 64 = i from by omega] at this
  exact this
theorem Nrm.unique {a b : List Int} {p q : Nat → Bool} (ha : Nrm a p) (hb : Nrm b q) (h : ∀ i, p i = q i) : a = b := by
  have := sh_ext (rd_of_tb ha.ok hb.ok (fun i => by rw [ha.tb, hb.tb, h]))
  rw [ha.nz, hb.nz] at this
  exact this
theorem nrm_sh {l : List Int} (h : okW l) : Nrm (sh l) (PB.tb l) := ⟨h.sh, sh_idem l, tb_sh l⟩
theorem Nrm.congr {r : List Int} {p q : Nat → Bool} (h : Nrm r p) (e : ∀ i, p i = q i) : Nrm r q := ⟨h.ok, h.nz, fun i => (h.tb i).trans (e i)⟩
theorem Nrm.len {r : List Int} {p : Nat → Bool} (h : Nrm r p) (n : Nat) (hp : ∀ i, 64 * n ≤ i → p i = false) : r.length ≤ n := by
  rcases Elems.sh_last r with e | ⟨m, x, e, hx⟩
  · rw [h.nz] at e; simp [e]
  · rw [h.nz] at e
    have hx1 : 0 ≤ x ∧ x < 18446744073709551616 := h.ok x (by rw [e]; simp)
    obtain ⟨t, ht, hb, _⟩ := Elems.and_neg x.toNat (by omega) (by omega)
    apply Nat.le_of_not_lt
    intro hlt
    have h1 := h.tb (64 * m.length + t)
    have hl : r.length = m.length + 1 := by rw [e]; simp
    rw [hp _ (by omega)] at h1
    unfold PB.tb at h1
    rw [show (64 * m.length + t) / 64 = m.length from by omega, show (64 * m.length + t) % 64 = t from by omega, e, rd_nat] at h1
    simp [hb] at h1
theorem tb_out {l : List Int} (i : Nat) (h : 64 * l.length ≤ i) : tb l i = false := by
  unfold tb
  rw [rd_out l _ (by omega)]; simp
theorem Nrm.nil_iff {r : List Int} {p : Nat → Bool} (h : Nrm r p) : r = [] ↔ ∀ i, p i = false := by
  constructor
  · intro e i; rw [← h.tb, e]; exact tb_out i (by simp)
  · intro e; exact List.length_eq_zero_iff.1 (Nat.le_zero.1 (h.len 0 (fun i _ => e i)))

/-! ### rows that are filled from the front -/
def upto (F : Nat → Int) (n : Nat) : List Int := (List.range n).map F
theorem upto_len (F : Nat → Int) (n : Nat) : (upto F n).length = n := by simp [upto]
theorem rd_upto (F : Nat → Int) (n j : Nat) : rd (upto F n) (j : Int) = if j < n then F j else 0 := by
  rw [rd_nat, upto]
  by_cases h : j < n <;> simp [h]
theorem okW_upto {F : Nat → Int} {n : Nat} (h : ∀ j, j < n → 0 ≤ F j ∧ F j < 18446744073709551616) : okW (upto F n) := fun x hx => by
  simp only [upto, List.mem_map, List.mem_range] at hx
  obtain ⟨j, hj, rfl⟩ := hx
  exact h j hj
theorem tb_upto (F : Nat → Int) (n i : Nat) : tb (upto F n) i = (decide (i / 64 < n) && (F (i / 64)).toNat.testBit (i % 64)) := by
  unfold tb
  rw [rd_upto]
  by_cases h : i / 64 < n <;> simp [h]
theorem set_upto {α : Type} (F : Nat → α) (z : α) (n m : Nat) (h : m < n) : ((List.range m).map F ++ List.replicate (n - m) z).set m (F m) = (List.range (m + 1)).map F ++ List.replicate (n - (m + 1)) z := by
  have e : n - m = (n - (m + 1)) + 1 := by omega
  rw [List.set_append_right _ _ (by simp), e, List.replicate_succ, List.range_succ]
  simp
theorem upto_done {α : Type} (F : Nat → α) (z : α) (n : Nat) : (List.range n).map F ++ List.replicate (n - n) z = (List.range n).map F := by simp

/-! ### the words' operations -/
theorem bit_and {x y : Int} (hx : 0 ≤ x ∧ x < 18446744073709551616) (hy : 0 ≤ y ∧ y < 18446744073709551616) : (0 ≤ bits .and .u64 x y ∧ bits .and .u64 x y < 18446744073709551616) ∧ ∀ i, (bits .and .u64 x y).toNat.testBit i = (x.toNat.testBit i && y.toNat.testBit i) := by
  rw [u64_and x y hx.1 hx.2 hy.1 hy.2]
  refine ⟨⟨by omega, ?_⟩, fun i => by simp [Nat.testBit_and]⟩
  have : x.toNat &&& y.toNat ≤ x.toNat := Nat.and_le_left
  omega
theorem bit_or {x y : Int} (hx : 0 ≤ x ∧ x < 18446744073709551616) (hy : 0 ≤ y ∧ y < 18446744073709551616) : (0 ≤ bits .or .u64 x y ∧ bits .or .u64 x y < 18446744073709551616) ∧ ∀ i, (bits .or .u64 x y).toNat.testBit i = (x.toNat.testBit i || y.toNat.testBit i) := by
  rw [u64_or x y hx.1 hx.2 hy.1 hy.2]
  refine ⟨⟨by omega, ?_⟩, fun i => by simp [Nat.testBit_or]⟩
  have : x.toNat ||| y.toNat < 2 ^ 64 := Nat.or_lt_two_pow (by omega) (by omega)
  omega
theorem bit_andNot {x y : Int} (hx : 0 ≤ x ∧ x < 18446744073709551616) (hy : 0 ≤ y ∧ y < 18446744073709551616) : (0 ≤ bits .andNot .u64 x y ∧ bits .andNot .u64 x y < 18446744073709551616) ∧ ∀ i, (bits .andNot .u64 x y).toNat.testBit i = (x.toNat.testBit i && !y.toNat.testBit i) := by
  rw [u64_andNot x y hx.1 hx.2 hy.1 hy.2]
  refine ⟨⟨by omega, ?_⟩, fun i => ?_⟩
  · have : x.toNat &&& (18446744073709551615 - y.toNat) ≤ x.toNat := Nat.and_le_left
    omega
  · have e : 18446744073709551615 - y.toNat = 2 ^ 64 - (y.toNat + 1) := by omega
    rw [Int.toNat_natCast, Nat.testBit_and, e, Nat.testBit_two_pow_sub_succ (by omega)]
    by_cases hi : i < 64
    · simp [hi]
    · have h1 : (2 : Nat) ^ 64 ≤ 2 ^ i := Nat.pow_le_pow_right (by omega) (by omega)
      rw [Nat.testBit_lt_two_pow (x := x.toNat) (by omega)]; simp
theorem shl_one (t : Nat) (ht : t < 64) : shl .u64 1 (t : Int) = ((2 ^ t : Nat) : Int) := by
  unfold shl
  have h1 : min ((t : Int).toNat) IntKind.u64.bits = t := by simp [IntKind.bits]; omega
  have h2 : (2 : Nat) ^ t < 2 ^ 64 := Nat.pow_lt_pow_right (by omega) ht
  rw [h1, IntKind.wrap_u64, Int.one_mul]
  have e : (2 : Int) ^ t = ((2 ^ t : Nat) : Int) := by simp
  rw [e]
  obtain ⟨P, hP⟩ : ∃ P, 2 ^ t = P := ⟨_, rfl⟩
  rw [hP] at h2 ⊢
  omega
theorem two_pow_word (t : Nat) (ht : t < 64) : 0 ≤ ((2 ^ t : Nat) : Int) ∧ ((2 ^ t : Nat) : Int) < 18446744073709551616 := by
  have h2 : (2 : Nat) ^ t < 2 ^ 64 := Nat.pow_lt_pow_right (by omega) ht
  obtain ⟨P, hP⟩ : ∃ P, 2 ^ t = P := ⟨_, rfl⟩
  rw [hP] at h2 ⊢
  omega
theorem div64 (i : Nat) (h : i < 9223372036854775808) : wrap64 (Int.tdiv (i : Int) 64) = ((i / 64 : Nat) : Int) := by
  have : Int.tdiv (i : Int) 64 = ((i / 64 : Nat) : Int) := by rw [Int.tdiv_eq_ediv_of_nonneg (by omega)]; omega
  rw [this]; unfold wrap64; omega
theorem mod64 (i : Nat) : Int.tmod (i : Int) 64 = ((i % 64 : Nat) : Int) := by rw [Int.tmod_eq_emod_of_nonneg (by omega)]; omega

/-! ### Has -/
theorem has_f (l : List Int) (hl : okW l) (i : Int) (hi : i < 9223372036854775808) : bits_Has.f l i = some (decide (0 ≤ i) && tb l i.toNat) := by
  unfold bits_Has.f
  by_cases h0 : 0 ≤ i
  · obtain ⟨n, rfl⟩ := Int.eq_ofNat_of_zero_le h0
    rw [if_pos (by omega), div64 n (by omega), mod64]
    by_cases hlt : n / 64 < l.length
    · rw [if_pos (by omega), if_pos (by omega), if_pos (by omega), shl_one _ (Nat.mod_lt _ (by omega))]
      obtain ⟨h1, h2⟩ := bit_and (hl.rd (n / 64)) (two_pow_word (n % 64) (Nat.mod_lt _ (by omega)))
      obtain ⟨z, hz⟩ : ∃ z, bits .and .u64 (rd l ((n / 64 : Nat) : Int)) ((2 ^ (n % 64) : Nat) : Int) = z := ⟨_, rfl⟩
      rw [hz] at h1 h2 ⊢
      simp only [Int.toNat_natCast, decide_true, Bool.true_and, Int.natCast_nonneg]
      congr 1
      unfold tb
      by_cases hb : (rd l ((n / 64 : Nat) : Int)).toNat.testBit (n % 64) = true
      · rw [hb, bne_iff_ne]
        intro e
        have := h2 (n % 64)
        rw [e, hb, Int.toNat_natCast, Nat.testBit_two_pow_self] at this
        simp at this
      · have hb' : (rd l ((n / 64 : Nat) : Int)).toNat.testBit (n % 64) = false := by simpa using hb
        rw [hb', bne_eq_false_iff_eq]
        have : z.toNat = 0 := by
          apply Nat.eq_of_testBit_eq
          intro j
          rw [h2, Int.toNat_natCast, Nat.testBit_two_pow, Nat.zero_testBit]
          by_cases e : n % 64 = j
          · subst e; rw [hb']; rfl
          · simp [e]
        omega
    · rw [if_neg (by omega)]
      rw [Int.toNat_natCast, tb_out _ (by omega)]; simp
  · rw [if_neg (by omega)]; simp [h0]

theorem ref_has_f (l : List Int) (hl : okW l) (i : Int) (hi : i < 9223372036854775808) : horariumref05_Has.f l i = some (decide (0 ≤ i) && tb l i.toNat) := by
  unfold horariumref05_Has.f
  by_cases h0 : 0 ≤ i
  · obtain ⟨n, rfl⟩ := Int.eq_ofNat_of_zero_le h0
    rw [if_pos (by omega), div64 n (by omega), mod64]
    by_cases hlt : n / 64 < l.length
    · have hw : IntKind.u64.wrap ((n % 64 : Nat) : Int) = ((n % 64 : Nat) : Int) := by rw [IntKind.wrap_u64]; omega
      rw [if_pos (by omega), if_pos (by omega), hw, if_pos (by omega)]
      simp only [Int.toNat_natCast, decide_true, Bool.true_and, Int.natCast_nonneg]
      congr 1
      unfold tb
      have h1 := hl.rd (n / 64)
      obtain ⟨x, hx⟩ := Int.eq_ofNat_of_zero_le h1.1
      rw [hx]
      unfold shr
      have h2 : min (((n % 64 : Nat) : Int).toNat) IntKind.u64.bits = n % 64 := by simp [IntKind.bits]; omega
      have e : (2 : Int) ^ (n % 64) = ((2 ^ (n % 64) : Nat) : Int) := by simp
      rw [h2, e, ← Int.natCast_ediv, Int.tmod_eq_emod_of_nonneg (Int.natCast_nonneg _), Int.toNat_natCast, Nat.testBit_eq_decide_div_mod_eq]
      have h3 : ((x / 2 ^ (n % 64) : Nat) : Int) % 2 = ((x / 2 ^ (n % 64) % 2 : Nat) : Int) := by omega
      rw [h3]
      by_cases h4 : x / 2 ^ (n % 64) % 2 = 1
      · rw [h4]; rfl
      · rw [decide_eq_false h4, beq_eq_false_iff_ne]; omega
    · rw [if_neg (by omega)]
      rw [Int.toNat_natCast, tb_out _ (by omega)]; simp
  · rw [if_neg (by omega)]; simp [h0]

/-! ### the functions of package bits -/
theorem short_ev (l : List Int) (hl : l.length ≤ 1000000) : Ev (fun k => bits_short.f k l) (sh l) := ⟨l.length + 1, fun k hk => short_f l (by omega) k (by omega)⟩
theorem at_f (l : List Int) (j : Nat) : bits_at.f l (j : Int) = some (rd l (j : Int)) := by
  unfold bits_at.f
  by_cases h : j < l.length
  · rw [if_pos (by omega), if_pos (by omega)]
  · rw [if_neg (by omega), rd_out l j (by omega)]
theorem wrap_succ (j : Nat) (h : j < 9223372036854775807) : wrap64 ((j : Int) + 1) = ((j + 1 : Nat) : Int) := by unfold wrap64; omega

theorem less_loop (a b : List Int) (n : Nat) (ha : a.length = n) (hn : n ≤ 1000000) (F : Nat → Int) (hF : ∀ j : Nat, bits .andNot .u64 (rd a (j : Int)) (rd b (j : Int)) = F j) (d : Nat) :
    ∀ m, m ≤ n → n - m = d → Ev (fun k => bits_Less.l0 k a b ((List.range m).map F ++ List.replicate (n - m) 0) (n : Int) (m : Int)) (sh (upto F n)) := by
  induction d with
  | zero =>
    intro m hm hd
    obtain rfl : m = n := by omega
    refine Ev.step (f := fun k => (bits_short.f k (upto F m)).bind fun t => some t) (fun k => ?_) (Ev.bind (short_ev _ (by rw [upto_len]; omega)) (Ev.now _))
    simp only [bits_Less.l0]
    rw [if_neg (by omega), upto_done]; rfl
  | succ d ih =>
    intro m hm hd
    refine Ev.step (f := fun k => bits_Less.l0 k a b ((List.range (m + 1)).map F ++ List.replicate (n - (m + 1)) 0) (n : Int) ((m + 1 : Nat) : Int)) (fun k => ?_) (ih (m + 1) (by omega) (by omega))
    simp only [bits_Less.l0]
    rw [if_pos (by omega), if_pos (by omega), if_pos (by omega), at_f]
    simp only [Option.bind_some]
    rw [if_pos (by simp; omega), hF m, Int.toNat_natCast, set_upto F 0 n m (by omega), wrap_succ m (by omega)]
theorem less_ev (a b : List Int) (ha : okW a) (hb : okW b) (hn : a.length ≤ 1000000) : ∃ r, Ev (fun k => bits_Less.f k a b) r ∧ Nrm r (fun i => tb a i && !tb b i) ∧ r.length ≤ a.length := by
  obtain ⟨F, hF⟩ : ∃ F : Nat → Int, ∀ j : Nat, bits .andNot .u64 (rd a (j : Int)) (rd b (j : Int)) = F j := ⟨_, fun _ => rfl⟩
  have hw : ∀ j, 0 ≤ F j ∧ F j < 18446744073709551616 := fun j => by rw [← hF]; exact (bit_andNot (ha.rd j) (hb.rd j)).1
  have hN : Nrm (sh (upto F a.length)) (fun i => tb a i && !tb b i) := (nrm_sh (okW_upto (fun j _ => hw j))).congr (fun i => by
    rw [tb_upto]
    by_cases h : i / 64 < a.length
    · rw [← hF, (bit_andNot (ha.rd _) (hb.rd _)).2]; simp [h, tb]
    · rw [tb_out (l := a) i (by omega)]; simp [h])
  refine ⟨_, ?_, hN, by have := Elems.sh_len (upto F a.length); rw [upto_len] at this; exact this⟩
  refine Ev.congr (fun k => ?_) (less_loop a b a.length rfl hn F hF _ 0 (Nat.zero_le _) rfl)
  unfold bits_Less.f
  rw [if_pos (by omega), if_pos (by omega)]
  simp

theorem or_loop (a b : List Int) (n : Nat) (hn : n ≤ 1000000) (F : Nat → Int) (hF : ∀ j : Nat, bits .or .u64 (rd a (j : Int)) (rd b (j : Int)) = F j) (d : Nat) :
    ∀ m, m ≤ n → n - m = d → Ev (fun k => bits_Or.l0 k a b ((List.range m).map F ++ List.replicate (n - m) 0) (n : Int) (m : Int)) (sh (upto F n)) := by
  induction d with
  | zero =>
    intro m hm hd
    obtain rfl : m = n := by omega
    refine Ev.step (f := fun k => (bits_short.f k (upto F m)).bind fun t => some t) (fun k => ?_) (Ev.bind (short_ev _ (by rw [upto_len]; omega)) (Ev.now _))
    simp only [bits_Or.l0]
    rw [if_neg (by omega), upto_done]; rfl
  | succ d ih =>
    intro m hm hd
    refine Ev.step (f := fun k => bits_Or.l0 k a b ((List.range (m + 1)).map F ++ List.replicate (n - (m + 1)) 0) (n : Int) ((m + 1 : Nat) : Int)) (fun k => ?_) (ih (m + 1) (by omega) (by omega))
    simp only [bits_Or.l0]
    rw [if_pos (by omega), at_f, at_f]
    simp only [Option.bind_some]
    rw [if_pos (by omega), if_pos (by simp; omega), hF m, Int.toNat_natCast, set_upto F 0 n m (by omega), wrap_succ m (by omega)]
theorem or_ev (a b : List Int) (ha : okW a) (hb : okW b) (hna : a.length ≤ 1000000) (hnb : b.length ≤ 1000000) : ∃ r, Ev (fun k => bits_Or.f k a b) r ∧ Nrm r (fun i => tb a i || tb b i) ∧ r.length ≤ max a.length b.length := by
  obtain ⟨F, hF⟩ : ∃ F : Nat → Int, ∀ j : Nat, bits .or .u64 (rd a (j : Int)) (rd b (j : Int)) = F j := ⟨_, fun _ => rfl⟩
  have hw : ∀ j, 0 ≤ F j ∧ F j < 18446744073709551616 := fun j => by rw [← hF]; exact (bit_or (ha.rd j) (hb.rd j)).1
  obtain ⟨n, hn⟩ : ∃ n, max a.length b.length = n := ⟨_, rfl⟩
  have hN : Nrm (sh (upto F n)) (fun i => tb a i || tb b i) := (nrm_sh (okW_upto (fun j _ => hw j))).congr (fun i => by
    rw [tb_upto]
    by_cases h : i / 64 < n
    · rw [← hF, (bit_or (ha.rd _) (hb.rd _)).2]; simp [h, tb]
    · rw [tb_out (l := a) i (by omega), tb_out (l := b) i (by omega)]; simp [h])
  refine ⟨_, ?_, hN, by have := Elems.sh_len (upto F n); rw [upto_len] at this; omega⟩
  refine Ev.congr (fun k => ?_) (or_loop a b n (by omega) F hF _ 0 (Nat.zero_le _) rfl)
  have hm : mx (a.length : Int) (b.length : Int) = (n : Int) := by unfold mx; split <;> omega
  unfold bits_Or.f
  rw [hm, if_pos (by omega), if_pos (by omega)]
  simp

theorem and_loop (a b : List Int) (n : Nat) (hn : n ≤ 1000000) (hna : n ≤ a.length) (hnb : n ≤ b.length) (F : Nat → Int) (hF : ∀ j : Nat, bits .and .u64 (rd a (j : Int)) (rd b (j : Int)) = F j) (d : Nat) :
    ∀ m, m ≤ n → n - m = d → Ev (fun k => bits_And.l0 k a b ((List.range m).map F ++ List.replicate (n - m) 0) (n : Int) (m : Int)) (sh (upto F n)) := by
  induction d with
  | zero =>
    intro m hm hd
    obtain rfl : m = n := by omega
    refine Ev.step (f := fun k => (bits_short.f k (upto F m)).bind fun t => some t) (fun k => ?_) (Ev.bind (short_ev _ (by rw [upto_len]; omega)) (Ev.now _))
    simp only [bits_And.l0]
    rw [if_neg (by omega), upto_done]; rfl
  | succ d ih =>
    intro m hm hd
    refine Ev.step (f := fun k => bits_And.l0 k a b ((List.range (m + 1)).map F ++ List.replicate (n - (m + 1)) 0) (n : Int) ((m + 1 : Nat) : Int)) (fun k => ?_) (ih (m + 1) (by omega) (by omega))
    simp only [bits_And.l0]
    rw [if_pos (by omega), if_pos (by omega), if_pos (by omega), if_pos (by omega), if_pos (by simp; omega), hF m, Int.toNat_natCast, set_upto F 0 n m (by omega), wrap_succ m (by omega)]
theorem and_ev (a b : List Int) (ha : okW a) (hb : okW b) (hna : a.length ≤ 1000000) : ∃ r, Ev (fun k => bits_And.f k a b) r ∧ Nrm r (fun i => tb a i && tb b i) ∧ r.length ≤ min a.length b.length := by
  obtain ⟨F, hF⟩ : ∃ F : Nat → Int, ∀ j : Nat, bits .and .u64 (rd a (j : Int)) (rd b (j : Int)) = F j := ⟨_, fun _ => rfl⟩
  have hw : ∀ j, 0 ≤ F j ∧ F j < 18446744073709551616 := fun j => by rw [← hF]; exact (bit_and (ha.rd j) (hb.rd j)).1
  obtain ⟨n, hn⟩ : ∃ n, min a.length b.length = n := ⟨_, rfl⟩
  have hN : Nrm (sh (upto F n)) (fun i => tb a i && tb b i) := (nrm_sh (okW_upto (fun j _ => hw j))).congr (fun i => by
    rw [tb_upto]
    by_cases h : i / 64 < n
    · rw [← hF, (bit_and (ha.rd _) (hb.rd _)).2]; simp [h, tb]
    · rcases Nat.le_total a.length b.length with h1 | h1
      · rw [tb_out (l := a) i (by omega)]; simp [h]
      · rw [tb_out (l := b) i (by omega)]; simp [h])
  refine ⟨_, ?_, hN, by have := Elems.sh_len (upto F n); rw [upto_len] at this; omega⟩
  refine Ev.congr (fun k => ?_) (and_loop a b n (by omega) (by omega) (by omega) F hF _ 0 (Nat.zero_le _) rfl)
  have hm : mn (a.length : Int) (b.length : Int) = (n : Int) := by unfold mn; split <;> omega
  unfold bits_And.f
  rw [hm, if_pos (by omega), if_pos (by omega)]
  simp

theorem tb_set (l : List Int) (j : Nat) (hj : j < l.length) (x : Int) (i : Nat) : tb (l.set j x) i = if i / 64 = j then x.toNat.testBit (i % 64) else tb l i := by
  unfold tb
  rw [rd_nat, rd_nat]
  by_cases h : i / 64 = j
  · rw [if_pos h, h]; simp [hj]
  · rw [if_neg h]
    have : ¬ j = i / 64 := fun e => h e.symm
    simp [List.getElem?_set, this]

/-- A number put into a row of words that reaches so far. -/
theorem put_bit {l : List Int} (hl : okW l) (n : Nat) (hn : n / 64 < l.length) :
    okW (l.set (n / 64) (bits .or .u64 (rd l ((n / 64 : Nat) : Int)) ((2 ^ (n % 64) : Nat) : Int))) ∧ ∀ i, tb (l.set (n / 64) (bits .or .u64 (rd l ((n / 64 : Nat) : Int)) ((2 ^ (n % 64) : Nat) : Int))) i = (tb l i || decide (i = n)) := by
  obtain ⟨h1, h2⟩ := bit_or (hl.rd (n / 64)) (two_pow_word (n % 64) (Nat.mod_lt _ (by omega)))
  refine ⟨hl.set _ h1, fun i => ?_⟩
  rw [tb_set l _ hn]
  by_cases h : i / 64 = n / 64
  · rw [if_pos h, h2, Int.toNat_natCast, Nat.testBit_two_pow]
    have e : decide (n % 64 = i % 64) = decide (i = n) := by congr 1; apply propext; omega
    rw [e]
    unfold tb; rw [h]
  · rw [if_neg h]
    have : ¬ i = n := fun e => h (by rw [e])
    simp [this]
theorem cut_bit {l : List Int} (hl : okW l) (n : Nat) (hn : n / 64 < l.length) :
    okW (l.set (n / 64) (bits .andNot .u64 (rd l ((n / 64 : Nat) : Int)) ((2 ^ (n % 64) : Nat) : Int))) ∧ ∀ i, tb (l.set (n / 64) (bits .andNot .u64 (rd l ((n / 64 : Nat) : Int)) ((2 ^ (n % 64) : Nat) : Int))) i = (tb l i && !decide (i = n)) := by
  obtain ⟨h1, h2⟩ := bit_andNot (hl.rd (n / 64)) (two_pow_word (n % 64) (Nat.mod_lt _ (by omega)))
  refine ⟨hl.set _ h1, fun i => ?_⟩
  rw [tb_set l _ hn]
  by_cases h : i / 64 = n / 64
  · rw [if_pos h, h2, Int.toNat_natCast, Nat.testBit_two_pow]
    have e : decide (n % 64 = i % 64) = decide (i = n) := by congr 1; apply propext; omega
    rw [e]
    unfold tb; rw [h]
  · rw [if_neg h]
    have : ¬ i = n := fun e => h (by rw [e])
    simp [this]

/-- Is the number one of the row's that may be put in? -/
def ins (l : List Int) (i : Nat) : Bool := decide (i < 4096) && l.any fun x => decide (x = (i : Int))
theorem ins_snoc (l : List Int) (x : Int) (i : Nat) : ins (l ++ [x]) i = (ins l i || (decide (i < 4096) && decide (x = (i : Int)))) := by
  unfold ins; rw [List.any_append]; cases decide (i < 4096) <;> simp
theorem of_loop (l : List Int) (hl : l.length ≤ 100000000) (d : Nat) : ∀ (m : Nat) (s : List Int), m ≤ l.length → l.length - m = d → s.length = 64 → okW s → (∀ i, tb s i = ins (l.take m) i) →
    ∃ s', Ev (fun k => bits_Of.l0 k s l (l.length : Int) (m : Int)) (sh s') ∧ s'.length = 64 ∧ okW s' ∧ ∀ i, tb s' i = ins l i := by
  induction d with
  | zero =>
    intro m s hm hd h64 hok ht
    obtain rfl : m = l.length := by omega
    rw [List.take_length] at ht
    refine ⟨s, ?_, h64, hok, ht⟩
    refine Ev.step (f := fun k => (bits_short.f k s).bind fun t => some t) (fun k => ?_) (Ev.bind (short_ev _ (by omega)) (Ev.now _))
    simp only [bits_Of.l0]
    rw [if_neg (by omega)]
  | succ d ih =>
    intro m s hm hd h64 hok ht
    have htk := take_succ_rd l m (by omega)
    have hs := ins_snoc (l.take m) (rd l m)
    rw [← htk] at hs
    obtain ⟨x, hx⟩ : ∃ x, rd l (m : Int) = x := ⟨_, rfl⟩
    rw [hx] at hs
    by_cases hin : 0 ≤ x ∧ x < 4096
    · obtain ⟨n, rfl⟩ := Int.eq_ofNat_of_zero_le hin.1
      have hn : n / 64 < s.length := by omega
      obtain ⟨h1, h2⟩ := put_bit hok n hn
      obtain ⟨s', he, h⟩ := ih (m + 1) _ (by omega) (by omega) (by rw [List.length_set]; exact h64) h1 (fun i => by
        rw [h2, ht, hs]
        congr 1
        by_cases e : i = n
        · subst e
          have : i < 4096 := by omega
          simp [this]
        · have : ¬ (n : Int) = (i : Int) := by omega
          simp [e, this])
      refine ⟨s', Ev.step (fun k => ?_) he, h⟩
      simp only [bits_Of.l0]
      rw [if_pos (by omega), if_pos (by omega), if_pos (by omega), hx, if_pos (by omega), if_pos (by omega), div64 n (by omega), if_pos (by omega), if_pos (by omega), mod64, if_pos (by omega), shl_one _ (Nat.mod_lt _ (by omega)), Int.toNat_natCast, wrap_succ m (by omega)]
    · obtain ⟨s', he, h⟩ := ih (m + 1) s (by omega) (by omega) h64 hok (fun i => by
        rw [ht, hs]
        by_cases e : i < 4096 ∧ x = (i : Int)
        · omega
        · have : (decide (i < 4096) && decide (x = (i : Int))) = false := by
            rw [← Bool.decide_and, decide_eq_false e]
          rw [this, Bool.or_false])
      refine ⟨s', Ev.step (fun k => ?_) he, h⟩
      simp only [bits_Of.l0]
      rw [if_pos (by omega), if_pos (by omega), if_pos (by omega), hx, wrap_succ m (by omega)]
      by_cases h0 : x ≥ 0
      · rw [if_pos h0, if_neg (by omega)]
      · rw [if_neg h0]
theorem of_ev (l : List Int) (hl : l.length ≤ 100000000) : ∃ r, Ev (fun k => bits_Of.f k l) r ∧ Nrm r (ins l) ∧ r.length ≤ 64 := by
  obtain ⟨s, he, h64, hok, ht⟩ := of_loop l hl _ 0 (List.replicate 64 0) (Nat.zero_le _) rfl (by simp) (okW.zeros 64) (fun i => by
    have h1 := rd_zeros [] 64 (i / 64)
    rw [List.nil_append] at h1
    unfold tb; rw [h1]; simp [ins, rd])
  refine ⟨sh s, Ev.congr (fun k => ?_) he, (nrm_sh hok).congr ht, by have := Elems.sh_len s; omega⟩
  unfold bits_Of.f
  rw [if_pos (by omega)]; rfl
theorem with_ev (a : List Int) (ha : okW a) (hn : a.length ≤ 1000000) (x : Int) : ∃ r, Ev (fun k => bits_With.f k a x) r ∧ Nrm r (fun i => tb a i || (decide (i < 4096) && decide (x = (i : Int)))) ∧ r.length ≤ max a.length 64 := by
  obtain ⟨o, ho, hN, hlo⟩ := of_ev [x] (by simp)
  obtain ⟨r, hr, hNr, hlr⟩ := or_ev a o ha hN.ok hn (by omega)
  refine ⟨r, Ev.bind ho (Ev.bind hr (Ev.now _)), hNr.congr (fun i => ?_), by omega⟩
  simp only [hN.tb, ins, List.any_cons, List.any_nil, Bool.or_false]
theorem without_ev (a : List Int) (ha : okW a) (hn : a.length ≤ 1000000) (x : Int) (hx : x < 9223372036854775808) : ∃ r, Ev (fun k => bits_Without.f k a x) r ∧ Nrm r (fun i => tb a i && !decide (x = (i : Int))) ∧ r.length ≤ a.length := by
  by_cases h0 : 0 ≤ x
  · obtain ⟨n, rfl⟩ := Int.eq_ofNat_of_zero_le h0
    by_cases hlt : n / 64 < a.length
    · obtain ⟨h1, h2⟩ := cut_bit ha n hlt
      refine ⟨_, Ev.congr (g := fun k => bits_Without.f k a (n : Int)) (fun k => ?_) (Ev.bind (short_ev _ (by rw [List.length_set]; exact hn)) (Ev.now _)), (nrm_sh h1).congr (fun i => ?_), ?_⟩
      · unfold bits_Without.f
        rw [Option.bind_some, if_pos (by rw [List.length_nil]; omega), Option.bind_some, List.nil_append, if_pos (by omega), div64 n (by omega), if_pos (by omega), if_pos (by omega), mod64, if_pos (by omega), shl_one _ (Nat.mod_lt _ (by omega)), Int.toNat_natCast]
      · have e : decide (i = n) = decide ((n : Int) = (i : Int)) := decide_eq_decide.2 (by omega)
        rw [h2, e]
      · have := Elems.sh_len (a.set (n / 64) (bits .andNot .u64 (rd a ((n / 64 : Nat) : Int)) ((2 ^ (n % 64) : Nat) : Int))); rw [List.length_set] at this; exact this
    · refine ⟨_, Ev.congr (g := fun k => bits_Without.f k a (n : Int)) (fun k => ?_) (Ev.bind (short_ev a hn) (Ev.now _)), (nrm_sh ha).congr (fun i => ?_), Elems.sh_len a⟩
      · unfold bits_Without.f
        rw [Option.bind_some, if_pos (by rw [List.length_nil]; omega), Option.bind_some, List.nil_append, if_pos (by omega), div64 n (by omega), if_neg (by omega)]
      · by_cases e : (n : Int) = (i : Int)
        · rw [tb_out (l := a) i (by omega)]; simp
        · simp [e]
  · refine ⟨_, Ev.congr (g := fun k => bits_Without.f k a x) (fun k => ?_) (Ev.bind (short_ev a hn) (Ev.now _)), (nrm_sh ha).congr (fun i => ?_), Elems.sh_len a⟩
    · unfold bits_Without.f
      rw [Option.bind_some, if_pos (by rw [List.length_nil]; omega), Option.bind_some, List.nil_append, if_neg (by omega)]
    · have : ¬ x = (i : Int) := by omega
      simp [this]

/-- Is all of a in b? -/
def sub (a b : List Int) : Prop := ∀ i, tb a i = true → tb b i = true
open Classical in
theorem inside_ev (a b : List Int) (ha : okW a) (hb : okW b) (hn : a.length ≤ 1000000) : Ev (fun k => bits_Inside.f k a b) (decide (sub a b)) := by
  obtain ⟨r, hr, hN, _⟩ := less_ev a b ha hb hn
  have h : ((r.length : Int) == 0) = decide (sub a b) := by
    by_cases hs : sub a b
    · rw [decide_eq_true hs, hN.nil_iff.2 (fun i => ?_)]
      · rfl
      · have := hs i
        cases h1 : tb a i <;> simp_all
    · rw [decide_eq_false hs, beq_eq_false_iff_ne]
      intro e
      have h1 := hN.nil_iff.1 (List.length_eq_zero_iff.1 (by omega))
      exact hs (fun i hi => by
        have := h1 i
        rw [hi] at this; simpa using this)
  rw [← h]
  exact Ev.bind hr (Ev.now _)
theorem sub_both {a b : List Int} : (sub a b ∧ sub b a) ↔ ∀ i, tb a i = tb b i := by
  constructor
  · rintro ⟨h1, h2⟩ i
    rw [Bool.eq_iff_iff]; exact ⟨h1 i, h2 i⟩
  · intro h; exact ⟨fun i hi => by rw [← h]; exact hi, fun i hi => by rw [h]; exact hi⟩
open Classical in
theorem same_ev (a b : List Int) (ha : okW a) (hb : okW b) (hn : a.length ≤ 1000000) (hnb : b.length ≤ 1000000) : Ev (fun k => bits_Same.f k a b) (decide (∀ i, tb a i = tb b i)) := by
  by_cases h1 : sub a b
  · have e1 := inside_ev a b ha hb hn
    have e2 := inside_ev b a hb ha hnb
    rw [decide_eq_true h1] at e1
    have e : decide (∀ i, tb a i = tb b i) = decide (sub b a) := by
      congr 1; apply propext
      rw [← sub_both]; exact ⟨fun h => h.2, fun h => ⟨h1, h⟩⟩
    rw [e]
    exact Ev.bind e1 (Ev.congr (fun k => by rw [if_pos rfl]) (Ev.bind e2 (Ev.now _)))
  · have e1 := inside_ev a b ha hb hn
    rw [decide_eq_false h1] at e1
    have e : decide (∀ i, tb a i = tb b i) = false := by
      apply decide_eq_false
      intro h; exact h1 (sub_both.2 h).1
    rw [e]
    exact Ev.bind e1 (Ev.congr (fun k => by rw [if_neg (by simp)]) (Ev.now _))
end Go.Proofs.Ytbmnnmcnmfgbaaa.PB
