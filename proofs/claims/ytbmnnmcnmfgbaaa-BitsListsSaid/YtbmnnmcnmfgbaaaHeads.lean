/-
  The chapter's examples of layer 5 hold: the printed function 'heads' answers true.
-/
import Derived.Test.YtbmnnmcnmfgbaaaPLx1
import Derived.Test.YtbmnnmcnmfgbaaaRefs
namespace Go.Proofs.Ytbmnnmcnmfgbaaa.PL
open Go.RowKit Go.Proofs.YtbmnnmcnmfgbaaaW.PrintWords Go.Proofs.YtbmnnmcnmfgbaaaW.PrintLast Go.Proofs.YtbmnnmcnmfgbaaaW.PrintMore
open Go.Proofs.Ytbmnnmcnmfgbaaa.PB
theorem heads_70 : horariumlaw05_heads.f 70 = some true := by decide +kernel
theorem heads_ev : Ev (fun k => horariumlaw05_heads.f k) true := Ev.of horariumlaw05_heads.mono heads_70
theorem word_of {x : Int} (h : (Lit.int .u64 x).wf = true) : 0 ≤ x ∧ x < 18446744073709551616 := by
  simp [Lit.wf, IntKind.min, IntKind.max, IntKind.signed, IntKind.bits] at h; omega
theorem okW_of {l : List Int} (h : ∀ x ∈ l, (Lit.int .u64 x).wf = true) : okW l := fun x hx => word_of (h x hx)
theorem int_of {x : Int} (h : (Lit.int .i64 x).wf = true) : -9223372036854775808 ≤ x ∧ x < 9223372036854775808 := by
  simp [Lit.wf, IntKind.min, IntKind.max, IntKind.signed, IntKind.bits] at h; omega
theorem few_f (a b : List Int) : horariumlaw05_few.f a b = some (decide (a.length ≤ 70 ∧ b.length ≤ 70)) := by
  unfold horariumlaw05_few.f
  by_cases h1 : a.length ≤ 70
  · rw [if_pos (by omega)]; congr 1; exact decide_eq_decide.2 (by omega)
  · rw [if_neg (by omega)]; congr 1; exact (decide_eq_false (by omega)).symm
/-- What stands at the end of a law: the examples once more. -/
theorem heads_end : Ev (fun k => (horariumlaw05_heads.f k).bind fun t => some t) true := Ev.bind heads_ev (Ev.now _)
theorem ev_if_pos {α : Type} {c : Prop} [Decidable c] (h : c) {g f : Nat → Option α} {r : α} (k : Ev g r) : Ev (fun n => if c then g n else f n) r := Ev.congr (fun n => by rw [if_pos h]) k
theorem ev_if_neg {α : Type} {c : Prop} [Decidable c] (h : ¬ c) {g f : Nat → Option α} {r : α} (k : Ev f r) : Ev (fun n => if c then g n else f n) r := Ev.congr (fun n => by rw [if_neg h]) k
theorem ev_now_bind {α β : Type} {a : α} {o : Option α} (h : o = some a) {f : Nat → α → Option β} {r : β} (k : Ev (fun n => f n a) r) : Ev (fun n => o.bind (f n)) r := Ev.congr (fun n => by rw [h, Option.bind_some]) k
open Classical in
theorem same_true (a b : List Int) (ha : okW a) (hb : okW b) (hn : a.length ≤ 1000000) (hnb : b.length ≤ 1000000) (h : ∀ i, tb a i = tb b i) : Ev (fun k => bits_Same.f k a b) true := by
  have := same_ev a b ha hb hn hnb
  rwa [decide_eq_true h] at this
open Classical in
theorem inside_true (a b : List Int) (ha : okW a) (hb : okW b) (hn : a.length ≤ 1000000) (h : sub a b) : Ev (fun k => bits_Inside.f k a b) true := by
  have := inside_ev a b ha hb hn
  rwa [decide_eq_true h] at this
end Go.Proofs.Ytbmnnmcnmfgbaaa.PL
