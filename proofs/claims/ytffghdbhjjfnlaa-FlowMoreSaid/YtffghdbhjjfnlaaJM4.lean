/-
  Put together by slim.py of this session out of the session's own texts (YtffghdbhjjfnlaaLawFlowMore and what it reaches): declarations that nothing kept names are left out. Conditions: none beyond those of the law's row.
-/
import Derived.Below
import Derived.Deep.Draws
import Derived.Maps.AppendAt
import Derived.OwnWalk
import Derived.Laws.MakeOwn
import Derived.Laws.OwnMore
import Derived.Tactics
import Derived.WalkKit
import Derived.WalkMore
import Derived.KernelRfl
import Derived.RowKit3
import Derived.Deep.LoopGhost
import Derived.Deep.QuietTactic
import Derived.BigQuiet
import Derived.WideLaws
import Derived.Deep.DeepCutAuto
import Derived.Deep.CutBlock
import Derived.Deep.RegionHeld3
import Derived.Laws.BitsLemmas
import Derived.RowKit
import Derived.Laws.ResultCell
import Derived.Test.YtffghdbhjjfnlaaProg
import Derived.Test.YtffghdbhjjfnlaaJM3
import Derived.Test.YtffghdbhjjfnlaaJM0
import Derived.Test.YtffghdbhjjfnlaaJM1
import Derived.Test.YtffghdbhjjfnlaaJM2
section
/-
  What lies at a *flow.Net.
-/
namespace Go.Proofs.Ytffghdbhjjfnlaa.F
open Go.RowKit Go.Proofs.YtffghdbhjjfnlaaW.PrintWords Go.Proofs.YtffghdbhjjfnlaaW.PrintLast Go.Proofs.YtffghdbhjjfnlaaW.PrintMore
set_option linter.unusedVariables false
set_option linter.unusedSimpArgs false

/-! ### rows out of functions -/
def rowN (n : Nat) (f : Nat → Int) : List Int := (List.range n).map f
theorem rowN_len (n : Nat) (f : Nat → Int) : (rowN n f).length = n := by simp [rowN]
theorem rowN_at (n : Nat) (f : Nat → Int) (i : Nat) (h : i < n) : rd (rowN n f) (i : Int) = f i := by simp [rowN, rd, h]
theorem rowN_set (n : Nat) (f : Nat → Int) (i : Nat) (x : Int) : (rowN n f).set i x = rowN n (fun j => if j = i then x else f j) := by
  unfold rowN
  refine List.ext_getElem (by simp) (fun j h1 h2 => ?_)
  simp [List.getElem_set]
  by_cases c : i = j
  · subst c; simp
  · rw [if_neg c, if_neg (fun e => c e.symm)]
theorem rowN_congr {n : Nat} {f g : Nat → Int} (h : ∀ i, i < n → f i = g i) : rowN n f = rowN n g := by
  unfold rowN
  exact List.map_congr_left fun i hi => h i (List.mem_range.1 hi)
def arcL (N : Net) (L : Nat → Int) : List Int := rowN (2 * N.m * 2) (fun i => if i % 2 = 0 then (N.hd (i / 2) : Int) else L (i / 2))
theorem arcL_hd (N : Net) (L : Nat → Int) (k : Nat) (h : k < 2 * N.m) : rd (arcL N L) ((k * 2 : Nat) : Int) = (N.hd k : Int) := by
  unfold arcL; rw [rowN_at _ _ _ (by omega), if_pos (by omega)]; congr 2; omega
theorem arcL_L (N : Net) (L : Nat → Int) (k : Nat) (h : k < 2 * N.m) : rd (arcL N L) ((k * 2 + 1 : Nat) : Int) = L k := by
  unfold arcL; rw [rowN_at _ _ _ (by omega), if_neg (by omega)]; congr 1; omega
theorem arcL_set (N : Net) (L : Nat → Int) (k : Nat) (x : Int) : (arcL N L).set (k * 2 + 1) x = arcL N (fun j => if j = k then x else L j) := by
  unfold arcL
  rw [rowN_set]
  refine rowN_congr fun i hi => ?_
  by_cases c : i = k * 2 + 1
  · rw [if_pos c, if_neg (by omega)]
    show x = if i / 2 = k then x else _
    rw [if_pos (by omega)]
  · rw [if_neg c]
    by_cases c2 : i % 2 = 0
    · rw [if_pos c2, if_pos c2]
    · rw [if_neg c2, if_neg c2]
      show _ = if i / 2 = k then x else _
      rw [if_neg (by omega)]
def outL (N : Net) (a : Nat) : List Int := (N.out a).map fun (k : Nat) => (k : Int)
theorem outL_len (N : Net) (a : Nat) : (outL N a).length = (N.out a).length := by simp [outL]
theorem outL_at (N : Net) (a j : Nat) (h : j < (N.out a).length) : rd (outL N a) (j : Int) = ((N.out a).getD j 0 : Int) := by
  simp [outL, rd, h]
def rkL (N : Net) (rk : Nat → Int) : List Int := rowN N.n rk
def nxL (N : Net) (nx : Nat → Nat) : List Int := rowN N.n (fun i => (nx i : Int))

/-! ### own rows -/
/-- Two values own different blocks. -/
def Ap (u v : Value) : Prop := ∀ k, u.ownBlock = some k → v.ownBlock ≠ some k
theorem Ap.symm {u v : Value} (h : Ap u v) : Ap v u := fun k h1 h2 => h k h2 h1
theorem own_form {w : World} {base : Nat} {e : TypeId} {size n : Nat} {v : Value} {xs : List Value} (h : w.ownsRow base e size v n xs) (hn : 0 < n) : ∃ g cap, v = .slice (some ⟨g, 0, none⟩) n cap ∧ base ≤ g ∧ n ≤ cap := by
  rcases h.2 with ⟨_, h0⟩ | ⟨g, cap, cur, rfl, hb, _, hc, _⟩
  · omega
  · exact ⟨g, cap, rfl, hb, hc⟩
theorem own_cell {w : World} {base : Nat} {e : TypeId} {size n g cap : Nat} {k : IntKind} {xs : List Int} (h : w.ownsRow base e size (.slice (some ⟨g, 0, none⟩) n cap) n (nums k xs)) (i : Nat) (hi : i < xs.length) :
    w.cell? ⟨g, i, none⟩ = some (.int k (rd xs (i : Int))) ∧ w.frozen? ⟨g, i, none⟩ = false := by
  constructor
  · have hc := h.cells (g := g) rfl i (.int k (rd xs (i : Int))) (by simp [nums, rd, hi])
    rwa [add_plain] at hc
  · rcases h.2 with ⟨h', _⟩ | ⟨g', cap', cur, h', _, hh, _⟩
    · cases h'
    · have : g = g' := by injection h' with h'; injection h' with h'; injection h' with h'
      subst this
      simp [World.frozen?, hh]
theorem own_put {w : World} {base : Nat} {e : TypeId} {size n g cap : Nat} {k : IntKind} {xs : List Int} (h : w.ownsRow base e size (.slice (some ⟨g, 0, none⟩) n cap) n (nums k xs)) (i : Nat) (x : Int) :
    (w.setCell ⟨g, i, none⟩ (.int k x)).ownsRow base e size (.slice (some ⟨g, 0, none⟩) n cap) n (nums k (xs.set i x)) := by
  have hs := (h.stored i (.int k x)).1
  have he : (nums k xs).set i (.int k x) = nums k (xs.set i x) := by simp [nums, List.map_set]
  rwa [he] at hs
/-- A store elsewhere. -/
theorem own_far {w : World} {base : Nat} {e : TypeId} {size n : Nat} {v : Value} {xs : List Value} (h : w.ownsRow base e size v n xs) {b : Nat} (hb : v.ownBlock ≠ some b) (i : Nat) (u : Value) : (w.setCell ⟨b, i, none⟩ u).ownsRow base e size v n xs :=
  own_move h fun k hk => Below.heap_setCell w ⟨b, i, none⟩ u k (fun e => hb (by rw [hk, e]))
theorem own_apart {w : World} {base : Nat} {e : TypeId} {size n : Nat} {u : Value} {xs : List Value} (h : w.ownsRow base e size u n xs) {b : Nat} {cs : Array Value} {t : TypeId} (hb : w.heap[b]? = some (.cells cs t (0, 0))) (hne : e ≠ t) : u.ownBlock ≠ some b := fun hk => by
  obtain ⟨cells, hc⟩ := own_typed h b hk
  rw [hb] at hc
  injection hc with hc
  injection hc with _ hc _
  exact hne hc.symm
theorem own_apart2 {w : World} {base base' : Nat} {e e' : TypeId} {size n size' n' : Nat} {u v : Value} {xs xs' : List Value} (h : w.ownsRow base e size u n xs) (h' : w.ownsRow base' e' size' v n' xs') (hne : e ≠ e') : Ap u v := fun k hk hk' => by
  obtain ⟨cells, hc⟩ := own_typed h' k hk'
  exact own_apart h hc hne hk
theorem own_down {w : World} {base b2 : Nat} {e : TypeId} {size n : Nat} {v : Value} {xs : List Value} (h : w.ownsRow base e size v n xs) (hb : b2 ≤ base) : w.ownsRow b2 e size v n xs :=
  ⟨h.1, h.2.imp id fun ⟨g, cap, cur, h1, h2, h3⟩ => ⟨g, cap, cur, h1, Nat.le_trans hb h2, h3⟩⟩

/-! ### the net -/
structure Vs where
  vo : Value
  va : Value
  vm : Value
  vc : Value
  vr : Value
  vn : Value
  rows : List Value
/-- What lies at a *flow.Net. -/
structure NetAt (w : World) (base g : Nat) (N : Net) (L : Nat → Int) (V : Vs) (cut : List Bool) (rank next : List Int) : Prop where
  gb : base ≤ g
  head : w.heap[g]? = some (.cells #[.int .i64 N.n, V.vo, V.va, V.vm, V.vc, V.vr, V.vn] 51 (0, 0))
  out : w.ownsRow base 49 1 V.vo N.n V.rows
  inn : ∀ a, a < N.n → w.ownsRow base 3 1 (V.rows.getD a undef) (N.out a).length (nums .i64 (outL N a))
  arcs : w.ownsRow base 58 2 V.va (2 * N.m) (nums .i64 (arcL N L))
  most : w.ownsRow base 3 1 V.vm N.m (nums .i64 (rowN N.m N.mo))
  cut_ : w.ownsRow base 4 1 V.vc cut.length (encs Value.bool cut)
  rank_ : w.ownsRow base 3 1 V.vr rank.length (nums .i64 rank)
  next_ : w.ownsRow base 3 1 V.vn next.length (nums .i64 next)
  apR : ∀ a b, a < N.n → b < N.n → a ≠ b → Ap (V.rows.getD a undef) (V.rows.getD b undef)
  apM : ∀ a, a < N.n → Ap (V.rows.getD a undef) V.vm
  apK : ∀ a, a < N.n → Ap (V.rows.getD a undef) V.vr
  apN : ∀ a, a < N.n → Ap (V.rows.getD a undef) V.vn
  apMK : Ap V.vm V.vr
  apMN : Ap V.vm V.vn
  apKN : Ap V.vr V.vn
section
variable {w w' : World} {base g : Nat} {N : Net} {L : Nat → Int} {V : Vs} {cut : List Bool} {rank next : List Int}
theorem NetAt.move (h : NetAt w base g N L V cut rank next) (hb : ∀ k, base ≤ k → k < w.heap.size → w'.heap[k]? = w.heap[k]?) : NetAt w' base g N L V cut rank next := by
  have mv : ∀ {e : TypeId} {size n : Nat} {v : Value} {xs : List Value}, w.ownsRow base e size v n xs → w'.ownsRow base e size v n xs := fun ho => own_move ho fun k hk => hb k (own_base ho k hk) (own_lt ho k hk)
  exact ⟨h.gb, (hb g h.gb (blk_lt h.head)).trans h.head, mv h.out, fun a ha => mv (h.inn a ha), mv h.arcs, mv h.most, mv h.cut_, mv h.rank_, mv h.next_, h.apR, h.apM, h.apK, h.apN, h.apMK, h.apMN, h.apKN⟩
theorem NetAt.below (h : NetAt w base g N L V cut rank next) (hb : Below w.heap.size w w') : NetAt w' base g N L V cut rank next := h.move fun k _ hk => hb.block k hk
theorem NetAt.alloc (h : NetAt w base g N L V cut rank next) (o : Obj) : NetAt (w.alloc o) base g N L V cut rank next := h.below (below_alloc (Below.refl _ _) o)
theorem NetAt.drew (h : NetAt w base g N L V cut rank next) : NetAt w.drew base g N L V cut rank next := h.below (below_drew (Below.refl _ _))
theorem NetAt.size (h : NetAt w base g N L V cut rank next) : base ≤ w.heap.size := Nat.le_trans h.gb (Nat.le_of_lt (blk_lt h.head))
/-- A store into the arcs. -/
theorem NetAt.setL (h : NetAt w base g N L V cut rank next) {ga cap : Nat} (hv : V.va = .slice (some ⟨ga, 0, none⟩) (2 * N.m) cap) (k : Nat) (x : Int) : NetAt (w.setCell ⟨ga, k * 2 + 1, none⟩ (.int .i64 x)) base g N (fun j => if j = k then x else L j) V cut rank next := by
  have ha := h.arcs
  rw [hv] at ha
  have hst := own_put ha (k * 2 + 1) x
  rw [arcL_set] at hst
  have hob : V.va.ownBlock = some ga := by rw [hv]; rfl
  have far : ∀ {e : TypeId} {size n : Nat} {v : Value} {xs : List Value}, w.ownsRow base e size v n xs → e ≠ 58 → (w.setCell ⟨ga, k * 2 + 1, none⟩ (.int .i64 x)).ownsRow base e size v n xs := fun ho hne =>
    own_far ho (fun hk => own_apart2 ho h.arcs hne ga hk hob) _ _
  have hg : g ≠ ga := fun e => own_apart h.arcs h.head (by decide) (by rw [hob, e])
  exact ⟨h.gb, (Below.heap_setCell w ⟨ga, k * 2 + 1, none⟩ _ g hg).trans h.head, far h.out (by decide), fun a ha => far (h.inn a ha) (by decide), by rw [hv]; exact hst, far h.most (by decide), far h.cut_ (by decide), far h.rank_ (by decide), far h.next_ (by decide), h.apR, h.apM, h.apK, h.apN, h.apMK, h.apMN, h.apKN⟩
/-- A store into the row 'next'. -/
theorem NetAt.setN (h : NetAt w base g N L V cut rank next) {gn n cap : Nat} (hv : V.vn = .slice (some ⟨gn, 0, none⟩) n cap) (hn : n = next.length) (i : Nat) (x : Int) : NetAt (w.setCell ⟨gn, i, none⟩ (.int .i64 x)) base g N L V cut rank (next.set i x) := by
  subst hn
  have ha := h.next_
  rw [hv] at ha
  have hst := own_put ha i x
  have hob : V.vn.ownBlock = some gn := by rw [hv]; rfl
  have far : ∀ {e : TypeId} {size n : Nat} {v : Value} {xs : List Value}, w.ownsRow base e size v n xs → Ap v V.vn → (w.setCell ⟨gn, i, none⟩ (.int .i64 x)).ownsRow base e size v n xs := fun ho hap =>
    own_far ho (fun hk => hap gn hk hob) _ _
  have hg : g ≠ gn := fun e => own_apart h.next_ h.head (by decide) (by rw [hob, e])
  exact ⟨h.gb, (Below.heap_setCell w ⟨gn, i, none⟩ _ g hg).trans h.head, far h.out (own_apart2 h.out h.next_ (by decide)), fun a ha => far (h.inn a ha) (h.apN a ha), far h.arcs (own_apart2 h.arcs h.next_ (by decide)), far h.most h.apMN, far h.cut_ (own_apart2 h.cut_ h.next_ (by decide)), far h.rank_ h.apKN,
    by rw [hv, List.length_set]; exact hst, h.apR, h.apM, h.apK, h.apN, h.apMK, h.apMN, h.apKN⟩
theorem NetAt.cell (h : NetAt w base g N L V cut rank next) (i : Nat) : w.cell? ⟨g, i, none⟩ = #[.int .i64 N.n, V.vo, V.va, V.vm, V.vc, V.vr, V.vn][i]? := blk_cell h.head i
theorem NetAt.frozen (h : NetAt w base g N L V cut rank next) (i : Nat) : w.frozen? ⟨g, i, none⟩ = false := blk_frozen h.head i
/-- A row of rows: its cell. -/
theorem NetAt.row (h : NetAt w base g N L V cut rank next) {go cap : Nat} (hv : V.vo = .slice (some ⟨go, 0, none⟩) N.n cap) (a : Nat) (ha : a < N.n) : w.cell? ⟨go, a, none⟩ = some (V.rows.getD a undef) := by
  have ho := h.out
  rw [hv] at ho
  have hl : a < V.rows.length := by have := ho.1; omega
  have hc := ho.cells (g := go) rfl a (V.rows.getD a undef) (by rw [List.getD_eq_getElem?_getD, List.getElem?_eq_getElem hl]; rfl)
  rwa [add_plain] at hc
/-- A store into a field of the net. -/
theorem NetAt.field (h : NetAt w base g N L V cut rank next) (i : Nat) (v : Value) {V' : Vs} {cut' : List Bool} {rank' next' : List Int} (hr : V'.rows = V.rows) (ho : V'.vo = V.vo) (ha : V'.va = V.va) (hm : V'.vm = V.vm)
    (hh : (#[.int .i64 N.n, V.vo, V.va, V.vm, V.vc, V.vr, V.vn] : Array Value).setIfInBounds i v = #[.int .i64 N.n, V'.vo, V'.va, V'.vm, V'.vc, V'.vr, V'.vn])
    (hc : w.ownsRow base 4 1 V'.vc cut'.length (encs Value.bool cut')) (hk : w.ownsRow base 3 1 V'.vr rank'.length (nums .i64 rank')) (hn : w.ownsRow base 3 1 V'.vn next'.length (nums .i64 next'))
    (apK : ∀ a, a < N.n → Ap (V.rows.getD a undef) V'.vr) (apN : ∀ a, a < N.n → Ap (V.rows.getD a undef) V'.vn) (apMK : Ap V.vm V'.vr) (apMN : Ap V.vm V'.vn) (apKN : Ap V'.vr V'.vn) :
    NetAt (w.setCell ⟨g, i, none⟩ v) base g N L V' cut' rank' next' := by
  have far : ∀ {e : TypeId} {size n : Nat} {v' : Value} {xs : List Value}, w.ownsRow base e size v' n xs → e ≠ 51 → (w.setCell ⟨g, i, none⟩ v).ownsRow base e size v' n xs := fun ho hne =>
    own_far ho (own_apart ho h.head hne) _ _
  refine ⟨h.gb, ?_, by rw [ho, hr]; exact far h.out (by decide), fun a ha' => by rw [hr]; exact far (h.inn a ha') (by decide), by rw [ha]; exact far h.arcs (by decide), by rw [hm]; exact far h.most (by decide), far hc (by decide), far hk (by decide), far hn (by decide), by rw [hr]; exact h.apR, by rw [hr, hm]; exact h.apM, by rw [hr]; exact apK, by rw [hr]; exact apN, by rw [hm]; exact apMK, by rw [hm]; exact apMN, apKN⟩
  have := blk_set h.head i v
  rwa [hh] at this
theorem NetAt.setC (h : NetAt w base g N L V cut rank next) (v : Value) (cut' : List Bool) (hc : w.ownsRow base 4 1 v cut'.length (encs Value.bool cut')) : NetAt (w.setCell ⟨g, 4, none⟩ v) base g N L { V with vc := v } cut' rank next :=
  h.field 4 v rfl rfl rfl rfl rfl hc h.rank_ h.next_ h.apK h.apN h.apMK h.apMN h.apKN
theorem NetAt.setR (h : NetAt w base g N L V cut rank next) (v : Value) (rank' : List Int) (hk : w.ownsRow base 3 1 v rank'.length (nums .i64 rank')) (hap : ∀ u : Value, (∀ k, u.ownBlock = some k → ∃ n xs, w.ownsRow base 3 1 u n xs) → u = V.vm ∨ u = V.vn ∨ (∃ a, a < N.n ∧ u = V.rows.getD a undef) → Ap u v) : NetAt (w.setCell ⟨g, 5, none⟩ v) base g N L { V with vr := v } cut rank' next :=
  h.field 5 v rfl rfl rfl rfl rfl h.cut_ hk h.next_ (fun a ha => hap _ (fun _ _ => ⟨_, _, h.inn a ha⟩) (.inr (.inr ⟨a, ha, rfl⟩))) h.apN (hap _ (fun _ _ => ⟨_, _, h.most⟩) (.inl rfl)) h.apMN (hap _ (fun _ _ => ⟨_, _, h.next_⟩) (.inr (.inl rfl))).symm
theorem NetAt.setX (h : NetAt w base g N L V cut rank next) (v : Value) (next' : List Int) (hk : w.ownsRow base 3 1 v next'.length (nums .i64 next')) (hap : ∀ u : Value, (∀ k, u.ownBlock = some k → ∃ n xs, w.ownsRow base 3 1 u n xs) → u = V.vm ∨ u = V.vr ∨ (∃ a, a < N.n ∧ u = V.rows.getD a undef) → Ap u v) : NetAt (w.setCell ⟨g, 6, none⟩ v) base g N L { V with vn := v } cut rank next' :=
  h.field 6 v rfl rfl rfl rfl rfl h.cut_ h.rank_ hk h.apK (fun a ha => hap _ (fun _ _ => ⟨_, _, h.inn a ha⟩) (.inr (.inr ⟨a, ha, rfl⟩))) h.apMK (hap _ (fun _ _ => ⟨_, _, h.most⟩) (.inl rfl)) (hap _ (fun _ _ => ⟨_, _, h.rank_⟩) (.inr (.inl rfl)))
end
/-! ### which blocks are the net's -/
/-- The net's blocks. -/
structure NetIn (S : Nat → Prop) (g : Nat) (V : Vs) : Prop where
  g : S g
  vo : ∀ k, V.vo.ownBlock = some k → S k
  va : ∀ k, V.va.ownBlock = some k → S k
  vm : ∀ k, V.vm.ownBlock = some k → S k
  vc : ∀ k, V.vc.ownBlock = some k → S k
  vr : ∀ k, V.vr.ownBlock = some k → S k
  vn : ∀ k, V.vn.ownBlock = some k → S k
  rows : ∀ a k, (V.rows.getD a undef).ownBlock = some k → S k
/-- All other blocks are kept. -/
structure Kept (S : Nat → Prop) (w w' : World) : Prop where
  os : w'.os = w.os
  tape : w'.tape = w.tape
  output : w'.output = w.output
  size : w.heap.size ≤ w'.heap.size
  block : ∀ k, ¬ S k → w'.heap[k]? = w.heap[k]?
theorem Kept.refl (S : Nat → Prop) (w : World) : Kept S w w := ⟨rfl, rfl, rfl, Nat.le_refl _, fun _ _ => rfl⟩
theorem Kept.trans {S : Nat → Prop} {a b c : World} (h : Kept S a b) (k : Kept S b c) : Kept S a c :=
  ⟨k.os.trans h.os, k.tape.trans h.tape, k.output.trans h.output, Nat.le_trans h.size k.size, fun i hi => (k.block i hi).trans (h.block i hi)⟩
theorem Kept.low {S : Nat → Prop} {w w' W : World} (h : Kept S w w') (hb : Below w'.heap.size w' W) (hu : ∀ k, w.heap.size ≤ k → S k) : Kept S w W :=
  h.trans ⟨hb.os, hb.tape, hb.output, hb.size, fun k hk => hb.block k (by
    rcases Nat.lt_or_ge k w.heap.size with h1 | h1
    · exact Nat.lt_of_lt_of_le h1 h.size
    · exact absurd (hu k h1) hk)⟩
theorem Kept.alloc {S : Nat → Prop} {w w' : World} (h : Kept S w w') (hu : ∀ k, w.heap.size ≤ k → S k) (o : Obj) : Kept S w (w'.alloc o) := h.low (below_alloc (Below.refl _ _) o) hu
theorem kept_drew {S : Nat → Prop} {w w' : World} (h : Kept S w w') : Kept S w w'.drew := ⟨h.os, (below_drew (Below.refl 0 w')).tape.trans h.tape, h.output, h.size, h.block⟩
theorem kept_cell {S : Nat → Prop} {w W : World} (h : Kept S w W) {b : Nat} (hb : S b) (i : Nat) (u : Value) : Kept S w (W.setCell ⟨b, i, none⟩ u) :=
  ⟨h.os, h.tape, h.output, by rw [World.setCell]; simpa using h.size, fun k hk => (Below.heap_setCell W ⟨b, i, none⟩ u k (fun e => hk (by rw [show k = b from e]; exact hb))).trans (h.block k hk)⟩
theorem Kept.up {S : Nat → Prop} {w w' : World} (h : Kept S w w') (hu : ∀ k, w.heap.size ≤ k → S k) : ∀ k, w'.heap.size ≤ k → S k := fun k hk => hu k (Nat.le_trans h.size hk)
theorem Kept.below {base : Nat} {w w' : World} (h : Kept (fun k => base ≤ k) w w') : Below base w w' := ⟨h.os, h.tape, h.output, h.size, fun k hk => h.block k (by omega)⟩
/-- Another net is kept. -/
theorem NetAt.kept {w w' : World} {base g : Nat} {N : Net} {L : Nat → Int} {V : Vs} {cut : List Bool} {rank next : List Int} (h : NetAt w base g N L V cut rank next) {S T : Nat → Prop} (hi : NetIn T g V) (hk : Kept S w w') (hd : ∀ k, T k → ¬ S k) : NetAt w' base g N L V cut rank next := by
  have mv : ∀ {e : TypeId} {size n : Nat} {v : Value} {xs : List Value}, w.ownsRow base e size v n xs → (∀ k, v.ownBlock = some k → T k) → w'.ownsRow base e size v n xs := fun ho hv => own_move ho fun k hk' => hk.block k (hd k (hv k hk'))
  exact ⟨h.gb, (hk.block g (hd g hi.g)).trans h.head, mv h.out hi.vo, fun a ha => mv (h.inn a ha) (hi.rows a), mv h.arcs hi.va, mv h.most hi.vm, mv h.cut_ hi.vc, mv h.rank_ hi.vr, mv h.next_ hi.vn, h.apR, h.apM, h.apK, h.apN, h.apMK, h.apMN, h.apKN⟩
/-- The net lies above its base. -/
theorem NetAt.in_ {w : World} {base g : Nat} {N : Net} {L : Nat → Int} {V : Vs} {cut : List Bool} {rank next : List Int} (h : NetAt w base g N L V cut rank next) : NetIn (fun k => base ≤ k ∧ k < w.heap.size) g V := by
  have key : ∀ {e : TypeId} {size n : Nat} {v : Value} {xs : List Value}, w.ownsRow base e size v n xs → ∀ k, v.ownBlock = some k → base ≤ k ∧ k < w.heap.size := fun ho k hk => ⟨own_base ho k hk, own_lt ho k hk⟩
  refine ⟨⟨h.gb, blk_lt h.head⟩, key h.out, key h.arcs, key h.most, key h.cut_, key h.rank_, key h.next_, fun a k hk => ?_⟩
  by_cases ha : a < N.n
  · exact key (h.inn a ha) k hk
  · have hl := h.out.1
    rw [List.getD_eq_getElem?_getD, List.getElem?_eq_none (by omega)] at hk
    cases hk
theorem NetIn.mono {S T : Nat → Prop} {g : Nat} {V : Vs} (h : NetIn S g V) (hs : ∀ k, S k → T k) : NetIn T g V :=
  ⟨hs _ h.g, fun k hk => hs k (h.vo k hk), fun k hk => hs k (h.va k hk), fun k hk => hs k (h.vm k hk), fun k hk => hs k (h.vc k hk), fun k hk => hs k (h.vr k hk), fun k hk => hs k (h.vn k hk), fun a k hk => hs k (h.rows a k hk)⟩
end Go.Proofs.Ytffghdbhjjfnlaa.F
end
section
/-
  flow.Net: Len, two, Flow, Clear.
-/
namespace Go.Proofs.Ytffghdbhjjfnlaa.F
open Go.RowKit Go.Proofs.YtffghdbhjjfnlaaW.PrintWords Go.Proofs.YtffghdbhjjfnlaaW.PrintLast Go.Proofs.YtffghdbhjjfnlaaW.PrintMore
set_option linter.unusedVariables false
set_option linter.unusedSimpArgs false
theorem wrap_succ {n k : Nat} (hn : n ≤ 9223372036854775807) (hk : k < n) : wrap64 ((k : Int) + 1) = ((k + 1 : Nat) : Int) := by unfold wrap64; omega
theorem pred_lt {j m n : Nat} (h : Aside0 (j + m = n)) (hj : j < n) : m - 1 < m := by have := h.out; omega
theorem next_eq {j m n : Nat} (h : Aside0 (j + m = n)) (hj : j < n) : Aside0 (j + 1 + (m - 1) = n) := ⟨by have := h.out; omega⟩
set_option maxRecDepth 100000 in
theorem len_calls {w : World} {base g : Nat} {N : Net} {L : Nat → Int} {V : Vs} {cut : List Bool} {rank next : List Int} (h : NetAt w base g N L V cut rank next) :
    Calls Try.prog 17 #[.pointer (some ⟨g, 0, none⟩)] w fun e w' => e = .returned (.int .i64 N.n) ∧ w' = w := by
  have c0 : w.cell? ⟨g, 0, none⟩ = some (.int .i64 N.n) := (h.cell 0).trans rfl
  clear h
  go_enter Try.func17, Try.ntmps17
  go_wp2
  go_ret
  exact ⟨rfl, rfl⟩
/-- What is wrong with two nodes. -/
def twoE (n : Nat) (f t : Int) : Int := if (f < 0 ∨ f ≥ (n : Int)) ∨ (t < 0 ∨ t ≥ (n : Int)) then 6 else if f = t then 2 else 0
set_option maxRecDepth 100000 in
theorem two_calls {w : World} {base g : Nat} {N : Net} {L : Nat → Int} {V : Vs} {cut : List Bool} {rank next : List Int} (hN : 1 ≤ N.n) (h : NetAt w base g N L V cut rank next) (f t : Int) :
    Calls Try.prog 21 #[.pointer (some ⟨g, 0, none⟩), .int .i64 f, .int .i64 t] w fun e w' => e = .returned (.int .i64 (twoE N.n f t)) ∧ w' = w := by
  have c0 : w.cell? ⟨g, 0, none⟩ = some (.int .i64 N.n) := (h.cell 0).trans rfl
  have H := Aside0.mk h
  have hn0 : ¬ (N.n : Int) = 0 := by omega
  clear h
  by_cases f0 : f < 0
  · have d0 : decide (f < 0) = true := decide_eq_true f0
    have e0 : twoE N.n f t = 6 := by unfold twoE; rw [if_pos (.inl (.inl f0))]
    rw [e0]
    clear e0 f0
    go_enter Try.func21, Try.ntmps21
    go_wp2_with fail
    refine (len_calls H.out).mono ?_
    rintro e w1 ⟨rfl, rfl⟩
    go_wp2
    go_ret
    exact ⟨rfl, rfl⟩
  have d0 : decide (f < 0) = false := decide_eq_false f0
  by_cases f1 : f ≥ (N.n : Int)
  · have d1 : decide (f ≥ (N.n : Int)) = true := decide_eq_true f1
    have e0 : twoE N.n f t = 6 := by unfold twoE; rw [if_pos (.inl (.inr f1))]
    rw [e0]
    clear e0 f0 f1
    go_enter Try.func21, Try.ntmps21
    go_wp2_with fail
    refine (len_calls H.out).mono ?_
    rintro e w1 ⟨rfl, rfl⟩
    go_wp2
    go_ret
    exact ⟨rfl, rfl⟩
  have d1 : decide (f ≥ (N.n : Int)) = false := decide_eq_false f1
  by_cases t0 : t < 0
  · have d2 : decide (t < 0) = true := decide_eq_true t0
    have e0 : twoE N.n f t = 6 := by unfold twoE; rw [if_pos (.inr (.inl t0))]
    rw [e0]
    clear e0 f0 f1 t0
    go_enter Try.func21, Try.ntmps21
    go_wp2_with fail
    refine (len_calls H.out).mono ?_
    rintro e w1 ⟨rfl, rfl⟩
    go_wp2
    go_ret
    exact ⟨rfl, rfl⟩
  have d2 : decide (t < 0) = false := decide_eq_false t0
  by_cases t1 : t ≥ (N.n : Int)
  · have d3 : decide (t ≥ (N.n : Int)) = true := decide_eq_true t1
    have e0 : twoE N.n f t = 6 := by unfold twoE; rw [if_pos (.inr (.inr t1))]
    rw [e0]
    clear e0 f0 f1 t0 t1
    go_enter Try.func21, Try.ntmps21
    go_wp2_with fail
    refine (len_calls H.out).mono ?_
    rintro e w1 ⟨rfl, rfl⟩
    go_wp2
    go_ret
    exact ⟨rfl, rfl⟩
  have d3 : decide (t ≥ (N.n : Int)) = false := decide_eq_false t1
  have e1 : ¬ ((f < 0 ∨ f ≥ (N.n : Int)) ∨ (t < 0 ∨ t ≥ (N.n : Int))) := by omega
  by_cases ft : f = t
  · have e0 : twoE N.n f t = 2 := by unfold twoE; rw [if_neg e1, if_pos ft]
    rw [e0]
    subst ft
    clear e0 e1 f0 f1 t0 t1
    go_enter Try.func21, Try.ntmps21
    go_wp2_with fail
    refine (len_calls H.out).mono ?_
    rintro e w1 ⟨rfl, rfl⟩
    go_wp2
    go_ret
    exact ⟨rfl, rfl⟩
  · have e0 : twoE N.n f t = 0 := by unfold twoE; rw [if_neg e1, if_neg ft]
    rw [e0]
    have hne : (f == t) = false := by simp [ft]
    clear e0 e1 f0 f1 t0 t1
    go_enter Try.func21, Try.ntmps21
    go_wp2_with fail
    refine (len_calls H.out).mono ?_
    rintro e w1 ⟨rfl, rfl⟩
    go_wp2
    go_ret
    exact ⟨rfl, rfl⟩
/-- What the flow gives an edge. -/
def flowF (N : Net) (L : Nat → Int) (e : Int) : Int := if e < 0 ∨ e ≥ (N.m : Int) then 0 else L (2 * e.toNat + 1)
set_option maxRecDepth 100000 in
theorem flow_callsM {w : World} {base g : Nat} {N : Net} {L : Nat → Int} {V : Vs} {cut : List Bool} {rank next : List Int} (hN : N.m ≤ 5000) (h : NetAt w base g N L V cut rank next) (e : Int) :
    Calls Try.prog 14 #[.pointer (some ⟨g, 0, none⟩), .int .i64 e] w fun r w' => r = .returned (.int .i64 (flowF N L e)) ∧ w' = w := by
  have HN := Aside0.mk hN
  clear hN
  obtain ⟨Am, cm, hvm⟩ := own_slice h.most
  have c3 : w.cell? ⟨g, 3, none⟩ = some (.slice Am N.m cm) := (h.cell 3).trans (by rw [← hvm]; rfl)
  have H := Aside0.mk h
  by_cases e0 : e < 0
  · have d0 : decide (e < 0) = true := decide_eq_true e0
    have ef : flowF N L e = 0 := by unfold flowF; rw [if_pos (.inl e0)]
    rw [ef]
    clear h ef e0
    go_enter Try.func14, Try.ntmps14
    go_wp2
    go_ret
    exact ⟨rfl, rfl⟩
  have d0 : decide (e < 0) = false := decide_eq_false e0
  by_cases e1 : e ≥ (N.m : Int)
  · have d1 : decide (e ≥ (N.m : Int)) = true := decide_eq_true e1
    have ef : flowF N L e = 0 := by unfold flowF; rw [if_pos (.inr e1)]
    rw [ef]
    clear h ef e0 e1
    go_enter Try.func14, Try.ntmps14
    go_wp2
    go_ret
    exact ⟨rfl, rfl⟩
  have d1 : decide (e ≥ (N.m : Int)) = false := decide_eq_false e1
  have ef : flowF N L e = L (2 * e.toNat + 1) := by unfold flowF; rw [if_neg (by omega)]
  rw [ef]
  obtain ⟨k, rfl⟩ := Int.eq_ofNat_of_zero_le (show 0 ≤ e by omega)
  rw [Int.toNat_natCast]
  have hk : k < N.m := by omega
  obtain ⟨ga, ca, hva, hgb, hca⟩ := own_form h.arcs (by omega)
  have c2 : w.cell? ⟨g, 2, none⟩ = some (.slice (some ⟨ga, 0, none⟩) (2 * N.m) ca) := (h.cell 2).trans (by rw [← hva]; rfl)
  have ha := h.arcs
  rw [hva] at ha
  have hx := (own_cell ha ((2 * k + 1) * 2 + 1) (by unfold arcL; rw [rowN_len]; omega)).1
  rw [arcL_L N L (2 * k + 1) (by omega)] at hx
  have hm := HN.out
  obtain ⟨q, hq⟩ : ∃ q, 2 * k + 1 = q := ⟨_, rfl⟩
  rw [hq] at hx ⊢
  have w1 : wrap64 (2 * (k : Int)) = 2 * (k : Int) := by unfold wrap64; omega
  have w2 : wrap64 (2 * (k : Int) + 1) = (q : Int) := by unfold wrap64; omega
  have hlt : q < 2 * N.m := by omega
  have hlt2 : (q : Int) < 2 * (N.m : Int) := by omega
  clear h ef e0 e1 ha hm hq
  go_enter Try.func14, Try.ntmps14
  go_wp2
  go_ret
  exact ⟨rfl, rfl⟩
theorem flow_calls {w : World} {base g : Nat} {N : Net} {L : Nat → Int} {V : Vs} {cut : List Bool} {rank next : List Int} (hN : N.Ok) (h : NetAt w base g N L V cut rank next) (e : Int) :
    Calls Try.prog 14 #[.pointer (some ⟨g, 0, none⟩), .int .i64 e] w fun r w' => r = .returned (.int .i64 (flowF N L e)) ∧ w' = w := flow_callsM hN.few h e
theorem below_cell {base : Nat} {w W : World} (h : Below base w W) {b : Nat} (hb : base ≤ b) (i : Nat) (u : Value) : Below base w (W.setCell ⟨b, i, none⟩ u) :=
  ⟨h.os, h.tape, h.output, by rw [World.setCell]; simpa using h.size, fun k hk => (Below.heap_setCell W ⟨b, i, none⟩ u k (by show k ≠ b; omega)).trans (h.block k hk)⟩
/-- What is left while it is set back. -/
def clrL (N : Net) (L : Nat → Int) (k : Nat) : Nat → Int := fun j => if j < 2 * k then L0 N j else L j
theorem clrL_zero (N : Net) (L : Nat → Int) : clrL N L 0 = L := funext fun j => if_neg (by omega)
theorem clrL_step (N : Net) (L : Nat → Int) (k : Nat) : (fun j => if j = 2 * k + 1 then 0 else (fun j => if j = 2 * k then N.mo k else clrL N L k j) j) = clrL N L (k + 1) := funext fun j => by
  show (if j = 2 * k + 1 then (0 : Int) else if j = 2 * k then N.mo k else if j < 2 * k then L0 N j else L j) = if j < 2 * (k + 1) then L0 N j else L j
  by_cases c1 : j = 2 * k + 1
  · rw [if_pos c1, if_pos (by omega)]; unfold L0; rw [if_neg (by omega)]
  · rw [if_neg c1]
    by_cases c2 : j = 2 * k
    · rw [if_pos c2, if_pos (by omega)]; unfold L0; rw [if_pos (by omega)]; congr 1; omega
    · rw [if_neg c2]
      by_cases c3 : j < 2 * k
      · rw [if_pos c3, if_pos (by omega)]
      · rw [if_neg c3, if_neg (by omega)]
theorem arcL_far {N : Net} {L L' : Nat → Int} (h : ∀ k, k < 2 * N.m → L k = L' k) : arcL N L = arcL N L' := by
  unfold arcL
  refine rowN_congr fun i hi => ?_
  by_cases c : i % 2 = 0
  · rw [if_pos c, if_pos c]
  · rw [if_neg c, if_neg c, h _ (by omega)]
theorem NetAt.sameL {w : World} {base g : Nat} {N : Net} {L L' : Nat → Int} {V : Vs} {cut : List Bool} {rank next : List Int} (h : NetAt w base g N L V cut rank next) (he : ∀ k, k < 2 * N.m → L k = L' k) : NetAt w base g N L' V cut rank next :=
  ⟨h.gb, h.head, h.out, h.inn, by rw [← arcL_far he]; exact h.arcs, h.most, h.cut_, h.rank_, h.next_, h.apR, h.apM, h.apK, h.apN, h.apMK, h.apMN, h.apKN⟩
set_option maxRecDepth 100000 in
set_option maxHeartbeats 1000000 in
theorem clear_callsM {w : World} {base g : Nat} {N : Net} {L : Nat → Int} {V : Vs} {cut : List Bool} {rank next : List Int} (hN : N.m ≤ 5000) (h : NetAt w base g N L V cut rank next) {S : Nat → Prop} (hI : NetIn S g V) :
    Calls Try.prog 20 #[.pointer (some ⟨g, 0, none⟩)] w fun r w' => r = .returned (.tuple #[]) ∧ NetAt w' base g N (L0 N) { V with vc := .slice none 0 0 } [] rank next ∧ Kept S w w' := by
  obtain ⟨Am, cm, hvm⟩ := own_slice h.most
  have c3 : w.cell? ⟨g, 3, none⟩ = some (.slice Am N.m cm) := (h.cell 3).trans (by rw [← hvm]; rfl)
  have H := Aside0.mk h
  have HI := Aside0.mk hI
  have HV := Aside0.mk hvm
  have HN := Aside0.mk hN
  clear h hvm hN hI
  go_enter Try.func20, Try.ntmps20
  go_wp2
  go_loopg [11] N.m (fun q i wr => ∃ k : Nat, Aside0 (k + q = N.m) ∧ i = .int .i64 k ∧ Aside0 (NetAt wr base g N (clrL N L k) V cut rank next) ∧ Aside0 (Kept S w wr))
  case atStart => exact ⟨0, ⟨by omega⟩, rfl, ⟨by rw [clrL_zero]; exact H.out⟩, ⟨Kept.refl _ _⟩⟩
  case round =>
    obtain ⟨k, HK, rfl, HA, HB⟩ := hrel
    by_cases hlt : k < N.m
    · obtain ⟨gm, cm', hvm2, hgm, hcm⟩ := own_form HA.out.most (by omega)
      have e := HV.out.symm.trans hvm2
      injection e with e1 _ e2
      subst e1 e2
      have hcm := (own_cell (by rw [← hvm2]; exact HA.out.most) k (by rw [rowN_len]; exact hlt)).1
      rw [rowN_at _ _ _ hlt] at hcm
      obtain ⟨ga, ca, hva, hgb, hca⟩ := own_form HA.out.arcs (by omega)
      have c2 : wr.cell? ⟨g, 2, none⟩ = some (.slice (some ⟨ga, 0, none⟩) (2 * N.m) ca) := (HA.out.cell 2).trans (by rw [← hva]; rfl)
      have ha := HA.out.arcs
      rw [hva] at ha
      obtain ⟨p0, hp0⟩ : ∃ q, 2 * k = q := ⟨_, rfl⟩
      obtain ⟨p1, hp1⟩ : ∃ q, 2 * k + 1 = q := ⟨_, rfl⟩
      have hx := own_cell ha ((2 * k) * 2 + 1) (by unfold arcL; rw [rowN_len]; omega)
      rw [arcL_L N _ (2 * k) (by omega), hp0] at hx
      obtain ⟨cx, fx⟩ := hx
      obtain ⟨x0, hx0⟩ : ∃ x, clrL N L k p0 = x := ⟨_, rfl⟩
      rw [hx0] at cx
      have h1 := HA.out.setL hva (2 * k) (N.mo k)
      have h1a := h1.arcs
      rw [hva] at h1a
      have hy := own_cell h1a ((2 * k + 1) * 2 + 1) (by unfold arcL; rw [rowN_len]; omega)
      rw [hp1, hp0] at hy
      have h2 := h1.setL hva (2 * k + 1) 0
      rw [clrL_step, hp1, hp0] at h2
      have HC1 := Aside0.mk hy.1
      have HF1 := Aside0.mk hy.2
      have H2 := Aside0.mk h2
      have HGB := Aside0.mk (HI.out.va ga (by rw [hva]; rfl))
      have hm := HN.out
      have w1' : wrap64 (2 * (k : Int)) = (p0 : Int) := by unfold wrap64; omega
      have w2' : wrap64 ((p0 : Int) + 1) = (p1 : Int) := by unfold wrap64; omega
      have hlt0 : p0 < 2 * N.m := by omega
      have hlt1 : p1 < 2 * N.m := by omega
      have hlt2 : (p0 : Int) < 2 * (N.m : Int) := by omega
      have hlt3 : (p1 : Int) < 2 * (N.m : Int) := by omega
      have hw1 := wrap_succ (n := N.m) (by omega) hlt
      clear hx0 h1 h1a hy h2 ha hgb hm hp0 hp1
      go_wp2_with fail
      refine start_ (n := 20) (S := (fun w' => w'.cell? ⟨g, 2, none⟩ = some (.slice (some ⟨ga, 0, none⟩) (2 * N.m) ca) ∧ w'.cell? ⟨ga, p0 * 2 + 1, none⟩ = some (.int .i64 x0))) (ds := [16, 19]) #[false, false, false, false, false, false, false, false, false, false, false, false, false, false, false, false, false, false, false, false] (by kernel_rfl) rfl rfl (⟨c2, cx⟩) (fun hHeld => ?_)
      refine pure_ (i := 0) (N := some 16) (v := ?_) (a' := ?_) #[true, false, false, false, false, false, false, false, false, false, false, false, false, false, false, false, false, false, false, false] rfl rfl (by kernel_rfl) (fun _ _ _ h => h) (Or.inl ⟨by rfl, ?_⟩) ?_ ?_
      rotate_left
      · intro w'
        go_simp
        with_reducible rfl
      rotate_left
      · simp only [Act.put, List.setIfInBounds_toArray, List.set_cons_zero, List.set_cons_succ, i64_w, i32_w]
        rfl
      refine pure_ (i := 1) (N := some 17) (v := ?_) (a' := ?_) #[true, true, false, false, false, false, false, false, false, false, false, false, false, false, false, false, false, false, false, false] rfl rfl (by kernel_rfl) (fun _ _ _ h => h) (Or.inl ⟨by rfl, ?_⟩) ?_ ?_
      rotate_left
      · intro w'
        go_simp
        with_reducible rfl
      rotate_left
      · simp only [Act.put, List.setIfInBounds_toArray, List.set_cons_zero, List.set_cons_succ, i64_w, i32_w]
        rfl
      refine pure_ (i := 2) (N := some 18) (v := ?_) (a' := ?_) #[true, true, true, false, false, false, false, false, false, false, false, false, false, false, false, false, false, false, false, false] rfl rfl (by kernel_rfl) (fun _ _ _ h => h) (Or.inl ⟨by rfl, ?_⟩) ?_ ?_
      rotate_left
      · intro w'
        go_simp
        with_reducible rfl
      rotate_left
      · simp only [Act.put, List.setIfInBounds_toArray, List.set_cons_zero, List.set_cons_succ, i64_w, i32_w]
        rfl
      refine take_ (i := 3) (N := some 19) (v := ?_) (a' := ?_) #[true, true, true, true, false, false, false, false, false, false, false, false, false, false, false, false, false, false, false, false] rfl rfl (by kernel_rfl) (fun _ _ _ h => h) (Or.inl ⟨by rfl, ?_⟩) hHeld ?_ ?_
      rotate_left
      · rintro w' ⟨s0, s1⟩
        go_simp
        with_reducible rfl
      rotate_left
      · simp only [Act.put, List.setIfInBounds_toArray, List.set_cons_zero, List.set_cons_succ, i64_w, i32_w]
        rfl
      refine pure_ (i := 4) (N := some 20) (v := ?_) (a' := ?_) #[true, true, true, true, true, false, false, false, false, false, false, false, false, false, false, false, false, false, false, false] rfl rfl (by kernel_rfl) (fun _ _ _ h => h) (Or.inl ⟨by rfl, ?_⟩) ?_ ?_
      rotate_left
      · intro w'
        go_simp
        with_reducible rfl
      rotate_left
      · simp only [Act.put, List.setIfInBounds_toArray, List.set_cons_zero, List.set_cons_succ, i64_w, i32_w]
        rfl
      refine pure_ (i := 5) (N := some 21) (v := ?_) (a' := ?_) #[true, true, true, true, true, true, false, false, false, false, false, false, false, false, false, false, false, false, false, false] rfl rfl (by kernel_rfl) (fun _ _ _ h => h) (Or.inl ⟨by rfl, ?_⟩) ?_ ?_
      rotate_left
      · intro w'
        go_simp
        with_reducible rfl
      rotate_left
      · simp only [Act.put, List.setIfInBounds_toArray, List.set_cons_zero, List.set_cons_succ, i64_w, i32_w]
        rfl
      refine pure_ (i := 6) (N := some 22) (v := ?_) (a' := ?_) #[true, true, true, true, true, true, true, false, false, false, false, false, false, false, false, false, false, false, false, false] rfl rfl (by kernel_rfl) (fun _ _ _ h => h) (Or.inl ⟨by rfl, ?_⟩) ?_ ?_
      rotate_left
      · intro w'
        go_simp
        with_reducible rfl
      rotate_left
      · simp only [Act.put, List.setIfInBounds_toArray, List.set_cons_zero, List.set_cons_succ, i64_w, i32_w]
        rfl
      refine pure_ (i := 7) (N := some 23) (v := ?_) (a' := ?_) #[true, true, true, true, true, true, true, true, false, false, false, false, false, false, false, false, false, false, false, false] rfl rfl (by kernel_rfl) (fun _ _ _ h => h) (Or.inl ⟨by rfl, ?_⟩) ?_ ?_
      rotate_left
      · intro w'
        go_simp
        with_reducible rfl
      rotate_left
      · simp only [Act.put, List.setIfInBounds_toArray, List.set_cons_zero, List.set_cons_succ, i64_w, i32_w]
        rfl
      refine pure_ (i := 8) (N := some 24) (v := ?_) (a' := ?_) #[true, true, true, true, true, true, true, true, true, false, false, false, false, false, false, false, false, false, false, false] rfl rfl (by kernel_rfl) (fun _ _ _ h => h) (Or.inl ⟨by rfl, ?_⟩) ?_ ?_
      rotate_left
      · intro w'
        go_simp
        with_reducible rfl
      rotate_left
      · simp only [Act.put, List.setIfInBounds_toArray, List.set_cons_zero, List.set_cons_succ, i64_w, i32_w]
        rfl
      refine take_ (i := 9) (N := some 25) (v := ?_) (a' := ?_) #[true, true, true, true, true, true, true, true, true, true, false, false, false, false, false, false, false, false, false, false] rfl rfl (by kernel_rfl) (fun _ _ _ h => h) (Or.inl ⟨by rfl, ?_⟩) hHeld ?_ ?_
      rotate_left
      · rintro w' ⟨s0, s1⟩
        go_simp
        with_reducible rfl
      rotate_left
      · simp only [Act.put, List.setIfInBounds_toArray, List.set_cons_zero, List.set_cons_succ, i64_w, i32_w]
        rfl
      refine pure_ (i := 10) (N := some 26) (v := ?_) (a' := ?_) #[true, true, true, true, true, true, true, true, true, true, true, false, false, false, false, false, false, false, false, false] rfl rfl (by kernel_rfl) (fun _ _ _ h => h) (Or.inl ⟨by rfl, ?_⟩) ?_ ?_
      rotate_left
      · intro w'
        go_simp
        with_reducible rfl
      rotate_left
      · simp only [Act.put, List.setIfInBounds_toArray, List.set_cons_zero, List.set_cons_succ, i64_w, i32_w]
        rfl
      refine pure_ (i := 11) (N := some 27) (v := ?_) (a' := ?_) #[true, true, true, true, true, true, true, true, true, true, true, true, false, false, false, false, false, false, false, false] rfl rfl (by kernel_rfl) (fun _ _ _ h => h) (Or.inl ⟨by rfl, ?_⟩) ?_ ?_
      rotate_left
      · intro w'
        go_simp
        with_reducible rfl
      rotate_left
      · simp only [Act.put, List.setIfInBounds_toArray, List.set_cons_zero, List.set_cons_succ, i64_w, i32_w]
        rfl
      refine pure_ (i := 12) (N := some 28) (v := ?_) (a' := ?_) #[true, true, true, true, true, true, true, true, true, true, true, true, true, false, false, false, false, false, false, false] rfl rfl (by kernel_rfl) (fun _ _ _ h => h) (Or.inl ⟨by rfl, ?_⟩) ?_ ?_
      rotate_left
      · intro w'
        go_simp
        with_reducible rfl
      rotate_left
      · simp only [Act.put, List.setIfInBounds_toArray, List.set_cons_zero, List.set_cons_succ, i64_w, i32_w]
        rfl
      refine pure_ (i := 13) (N := some 29) (v := ?_) (a' := ?_) #[true, true, true, true, true, true, true, true, true, true, true, true, true, true, false, false, false, false, false, false] rfl rfl (by kernel_rfl) (fun _ _ _ h => h) (Or.inl ⟨by rfl, ?_⟩) ?_ ?_
      rotate_left
      · intro w'
        go_simp
        with_reducible rfl
      rotate_left
      · simp only [Act.put, List.setIfInBounds_toArray, List.set_cons_zero, List.set_cons_succ, i64_w, i32_w]
        rfl
      refine pure_ (i := 14) (N := some 30) (v := ?_) (a' := ?_) #[true, true, true, true, true, true, true, true, true, true, true, true, true, true, true, false, false, false, false, false] rfl rfl (by kernel_rfl) (fun _ _ _ h => h) (Or.inl ⟨by rfl, ?_⟩) ?_ ?_
      rotate_left
      · intro w'
        go_simp
        with_reducible rfl
      rotate_left
      · simp only [Act.put, List.setIfInBounds_toArray, List.set_cons_zero, List.set_cons_succ, i64_w, i32_w]
        rfl
      refine pure_ (i := 15) (N := some 31) (v := ?_) (a' := ?_) #[true, true, true, true, true, true, true, true, true, true, true, true, true, true, true, true, false, false, false, false] rfl rfl (by kernel_rfl) (fun _ _ _ h => h) (Or.inl ⟨by rfl, ?_⟩) ?_ ?_
      rotate_left
      · intro w'
        go_simp
        with_reducible rfl
      rotate_left
      · simp only [Act.put, List.setIfInBounds_toArray, List.set_cons_zero, List.set_cons_succ, i64_w, i32_w]
        rfl
      refine last_ (i := 16) (N := none) #[true, true, true, true, true, true, true, true, true, true, true, true, true, true, true, true, true, false, false, false] rfl rfl (by kernel_rfl) (by decide) (fun K hK => ?_)
      go_simp
      refine hK.out _ _ ?_
      clear hK K
      refine pure_ (i := 17) (N := some 32) (v := ?_) (a' := ?_) #[true, true, true, true, true, true, true, true, true, true, true, true, true, true, true, true, true, true, false, false] rfl rfl (by kernel_rfl) (fun _ _ _ h => h) (Or.inl ⟨by rfl, ?_⟩) ?_ ?_
      rotate_left
      · intro w'
        go_simp
        with_reducible rfl
      rotate_left
      · simp only [Act.put, List.setIfInBounds_toArray, List.set_cons_zero, List.set_cons_succ, i64_w, i32_w]
        rfl
      refine pure_ (i := 18) (N := some 33) (v := ?_) (a' := ?_) #[true, true, true, true, true, true, true, true, true, true, true, true, true, true, true, true, true, true, true, false] rfl rfl (by kernel_rfl) (fun _ _ _ h => h) (Or.inl ⟨by rfl, ?_⟩) ?_ ?_
      rotate_left
      · intro w'
        go_simp
        with_reducible rfl
      rotate_left
      · simp only [Act.put, List.setIfInBounds_toArray, List.set_cons_zero, List.set_cons_succ, i64_w, i32_w]
        rfl
      refine last_ (i := 19) (N := none) #[true, true, true, true, true, true, true, true, true, true, true, true, true, true, true, true, true, true, true, true] rfl rfl (by kernel_rfl) (by decide) (fun K hK => ?_)
      have g1 := HC1.out
      have g2 := HF1.out
      go_simp
      refine hK.out _ _ ?_
      clear hK K
      refine done_ (by kernel_rfl) ?_
      skip
      go_wp2
      go_roundg (gk - 1)
      case measure => exact pred_lt HK hlt
      case rel => exact ⟨k + 1, next_eq HK hlt, by rw [hw1], ⟨H2.out.drew⟩, ⟨kept_drew (kept_cell (kept_cell HB.out HGB.out _ _) HGB.out _ _)⟩⟩
    · obtain rfl : k = N.m := by have := HK.out; omega
      have HA2 := Aside0.mk (HA.out.sameL (L' := L0 N) (fun j hj => if_pos hj))
      have HE := Aside0.mk (HA2.out.setC (.slice none 0 0) [] ⟨rfl, .inl ⟨rfl, rfl⟩⟩)
      have c4 : wr.cell? ⟨g, 4, none⟩ = some V.vc := (HA.out.cell 4).trans rfl
      have f4 := HA.out.frozen 4
      have HGB := Aside0.mk HI.out.g
      clear HK hlt
      go_wp2
      go_end0
      exact ⟨rfl, HE.out, kept_cell HB.out HGB.out _ _⟩
theorem clear_calls {w : World} {base g : Nat} {N : Net} {L : Nat → Int} {V : Vs} {cut : List Bool} {rank next : List Int} (hN : N.Ok) (h : NetAt w base g N L V cut rank next) {S : Nat → Prop} (hI : NetIn S g V) :
    Calls Try.prog 20 #[.pointer (some ⟨g, 0, none⟩)] w fun r w' => r = .returned (.tuple #[]) ∧ NetAt w' base g N (L0 N) { V with vc := .slice none 0 0 } [] rank next ∧ Kept S w w' := clear_callsM hN.few h hI
end Go.Proofs.Ytffghdbhjjfnlaa.F
end
section
/-
  flow.Net: push.
-/
namespace Go.Proofs.Ytffghdbhjjfnlaa.F
open Go.RowKit Go.Proofs.YtffghdbhjjfnlaaW.PrintWords Go.Proofs.YtffghdbhjjfnlaaW.PrintLast Go.Proofs.YtffghdbhjjfnlaaW.PrintMore
set_option linter.unusedVariables false
set_option linter.unusedSimpArgs false
theorem rkL_len (N : Net) (rk : Nat → Int) : (rkL N rk).length = N.n := rowN_len _ _
theorem nxL_len (N : Net) (nx : Nat → Nat) : (nxL N nx).length = N.n := rowN_len _ _
/-- The forms of a net's rows. -/
structure Forms (V : Vs) (N : Net) (go co gn cn grk crk : Nat) : Prop where
  o : V.vo = .slice (some ⟨go, 0, none⟩) N.n co
  n : V.vn = .slice (some ⟨gn, 0, none⟩) N.n cn
  k : V.vr = .slice (some ⟨grk, 0, none⟩) N.n crk
theorem forms {w : World} {base g : Nat} {N : Net} (hN : N.Ok) {L : Nat → Int} {V : Vs} {cut : List Bool} {rk : Nat → Int} {nx : Nat → Nat} (h : NetAt w base g N L V cut (rkL N rk) (nxL N nx)) : ∃ go co gn cn grk crk, Forms V N go co gn cn grk crk := by
  have hp := hN.pos
  obtain ⟨go, co, h1, _⟩ := own_form h.out (by omega)
  obtain ⟨gn, cn, h2, _⟩ := own_form h.next_ (by rw [nxL_len]; omega)
  obtain ⟨grk, crk, h3, _⟩ := own_form h.rank_ (by rw [rkL_len]; omega)
  rw [nxL_len] at h2
  rw [rkL_len] at h3
  exact ⟨go, co, gn, cn, grk, crk, h1, h2, h3⟩
/-- What is read in a round. -/
structure Cells (w : World) (g : Nat) (N : Net) (V : Vs) (rk : Nat → Int) (nx : Nat → Nat) (go co gn cn grk crk : Nat) : Prop where
  c1 : w.cell? ⟨g, 1, none⟩ = some (.slice (some ⟨go, 0, none⟩) N.n co)
  c5 : w.cell? ⟨g, 5, none⟩ = some (.slice (some ⟨grk, 0, none⟩) N.n crk)
  c6 : w.cell? ⟨g, 6, none⟩ = some (.slice (some ⟨gn, 0, none⟩) N.n cn)
  nx : ∀ a, a < N.n → w.cell? ⟨gn, a, none⟩ = some (.int .i64 (nx a : Int)) ∧ w.frozen? ⟨gn, a, none⟩ = false
  rk : ∀ a, a < N.n → w.cell? ⟨grk, a, none⟩ = some (.int .i64 (rk a))
  row : ∀ a, a < N.n → w.cell? ⟨go, a, none⟩ = some (V.rows.getD a undef)
theorem cells {w : World} {base g : Nat} {N : Net} {L : Nat → Int} {V : Vs} {cut : List Bool} {rk : Nat → Int} {nx : Nat → Nat} (h : NetAt w base g N L V cut (rkL N rk) (nxL N nx)) {go co gn cn grk crk : Nat} (f : Forms V N go co gn cn grk crk) : Cells w g N V rk nx go co gn cn grk crk := by
  refine ⟨(h.cell 1).trans (by rw [← f.o]; rfl), (h.cell 5).trans (by rw [← f.k]; rfl), (h.cell 6).trans (by rw [← f.n]; rfl), fun a ha => ?_, fun a ha => ?_, fun a ha => h.row f.o a ha⟩
  · have ho := h.next_
    rw [f.n, nxL_len] at ho
    have := own_cell ho a (by rw [nxL_len]; exact ha)
    unfold nxL at this
    rw [rowN_at _ _ _ ha] at this
    exact this
  · have ho := h.rank_
    rw [f.k, rkL_len] at ho
    have := (own_cell ho a (by rw [rkL_len]; exact ha)).1
    unfold rkL at this
    rw [rowN_at _ _ _ ha] at this
    exact this
/-- The arc k. -/
theorem arc_cells {w : World} {base g : Nat} {N : Net} {L : Nat → Int} {V : Vs} {cut : List Bool} {rank next : List Int} (h : NetAt w base g N L V cut rank next) {k : Nat} (hk : k < 2 * N.m) : ∃ ga ca, V.va = .slice (some ⟨ga, 0, none⟩) (2 * N.m) ca ∧ w.cell? ⟨g, 2, none⟩ = some (.slice (some ⟨ga, 0, none⟩) (2 * N.m) ca) ∧
    ∀ q, q < 2 * N.m → w.cell? ⟨ga, q * 2, none⟩ = some (.int .i64 (N.hd q : Int)) ∧ w.cell? ⟨ga, q * 2 + 1, none⟩ = some (.int .i64 (L q)) ∧ w.frozen? ⟨ga, q * 2 + 1, none⟩ = false := by
  obtain ⟨ga, ca, hva, _⟩ := own_form h.arcs (by omega)
  have ha := h.arcs
  rw [hva] at ha
  refine ⟨ga, ca, hva, (h.cell 2).trans (by rw [← hva]; rfl), fun q hq => ?_⟩
  have h1 := own_cell ha (q * 2) (by unfold arcL; rw [rowN_len]; omega)
  have h2 := own_cell ha (q * 2 + 1) (by unfold arcL; rw [rowN_len]; omega)
  rw [arcL_hd N L q hq] at h1
  rw [arcL_L N L q hq] at h2
  exact ⟨h1.1, h2.1, h2.2⟩
theorem xor_one (p : Nat) : p ^^^ 1 = twin p := by
  have h1 : (p ^^^ 1) / 2 = p / 2 := by rw [Nat.xor_div_two]; simp
  have h2 : (p ^^^ 1) % 2 = (p + 1) % 2 := by
    have h := Nat.testBit_xor p 1 0
    rw [Nat.testBit_zero, Nat.testBit_zero, Nat.testBit_zero] at h
    rcases Nat.mod_two_eq_zero_or_one p with c | c
    · rw [c] at h
      have : (p ^^^ 1) % 2 = 1 := of_decide_eq_true (h.trans (by decide))
      omega
    · rw [c] at h
      have : ¬ (p ^^^ 1) % 2 = 1 := of_decide_eq_false (h.trans (by decide))
      omega
  unfold twin
  split <;> omega
theorem xor_twin (p : Nat) (h : p ≤ 10000) : bits .xor .i64 (p : Int) 1 = (twin p : Int) := by
  have ha' : p % 2 ^ 64 = p := Nat.mod_eq_of_lt (by omega)
  have hb' : 1 % 2 ^ 64 = 1 := by decide
  have e : bits .xor .i64 (p : Int) ((1 : Nat) : Int) = IntKind.i64.wrap ((p ^^^ 1 : Nat) : Int) := by
    have e3 : (BitVec.ofNat 64 p ^^^ 1#64).toNat = p ^^^ 1 := by rw [BitVec.toNat_xor, BitVec.toNat_ofNat, BitVec.toNat_ofNat, ha', hb']
    simp only [bits, BitVec.ofInt_natCast, IntKind.bits]
    exact congrArg (fun z : Nat => IntKind.i64.wrap (z : Int)) e3
  have e2 : bits .xor .i64 (p : Int) 1 = IntKind.i64.wrap ((p ^^^ 1 : Nat) : Int) := e
  rw [e2, xor_one, i64_w]
  have := twin_lt (k := p) (m := 5001) (by omega)
  unfold wrap64; omega
theorem heap_new (w : World) (o : Obj) : (w.alloc o).heap[w.heap.size]? = some o := by
  show (w.heap.push o)[w.heap.size]? = some o
  simp
theorem out_few {N : Net} (hN : N.Ok) (a : Nat) : (N.out a).length ≤ 10000 := by
  have h1 : (N.out a).length ≤ 2 * N.m := by
    unfold Net.out
    exact Nat.le_trans (List.length_filter_le _ _) (by rw [List.length_range]; exact Nat.le_refl _)
  have := hN.few
  omega
theorem net_bump {w : World} {base g : Nat} {N : Net} {s : St} {V : Vs} {cut : List Bool} {rank : List Int} (h : NetAt w base g N s.L V cut rank (nxL N s.nx)) {gn cn : Nat} (hv : V.vn = .slice (some ⟨gn, 0, none⟩) N.n cn) (a : Nat) :
    NetAt (w.setCell ⟨gn, a, none⟩ (.int .i64 ((s.nx a + 1 : Nat) : Int))) base g N (bump s a).L V cut rank (nxL N (bump s a).nx) := by
  have h1 := h.setN hv (by rw [nxL_len]) a ((s.nx a + 1 : Nat) : Int)
  have e : (nxL N s.nx).set a ((s.nx a + 1 : Nat) : Int) = nxL N (bump s a).nx := by
    unfold nxL
    rw [rowN_set]
    refine rowN_congr fun i _ => ?_
    show (if i = a then _ else _) = ((if i = a then s.nx a + 1 else s.nx i : Nat) : Int)
    by_cases c : i = a
    · rw [if_pos c, if_pos c]
    · rw [if_neg c, if_neg c]
  rw [e] at h1
  exact h1
set_option maxRecDepth 100000 in
set_option maxHeartbeats 4000000 in
theorem push_calls {N : Net} (hN : N.Ok) {rk : Nat → Int} {t : Nat} (hrk : ∀ b, rk b ≤ (N.n : Int)) (hr0 : ∀ b, -1 ≤ rk b) (ht : t < N.n) (base g : Nat) (S : Nat → Prop) : ∀ (K k : Nat), k ≤ K → ∀ (s : St) (a : Nat) (m : Int) (s' : St) (r : Int) (w : World) (V : Vs) (cut : List Bool),
    push N rk t k s a m = some (s', r) → Srch N rk t s → a < N.n → 0 < m → m ≤ BIG → NetAt w base g N s.L V cut (rkL N rk) (nxL N s.nx) → NetIn S g V → (∀ k, w.heap.size ≤ k → S k) →
    Calls Try.prog 23 #[.pointer (some ⟨g, 0, none⟩), .int .i64 (a : Int), .int .i64 (t : Int), .int .i64 m] w fun e w' => e = .returned (.int .i64 r) ∧ NetAt w' base g N s'.L V cut (rkL N rk) (nxL N s'.nx) ∧ Kept S w w' := by
  intro K
  induction K with
  | zero =>
    intro k hk s a m s' r w V cut h
    obtain rfl : k = 0 := by omega
    simp [push] at h
  | succ K ih =>
    intro k hk s a m s' r w V cut h hs ha hm hmb hA hI hU
    have HI := Aside0.mk hI
    have HU := Aside0.mk hU
    have IH := Aside0.mk ih
    have HK0 := Aside0.mk hk
    have HS := Aside0.mk hs
    have HA0 := Aside0.mk hA
    have HP := Aside0.mk h
    have HM := Aside0.mk (And.intro hm hmb)
    have HN := Aside0.mk hN
    have HRK := Aside0.mk hrk
    have HR0 := Aside0.mk hr0
    obtain ⟨go, co, gn, cn, grk, crk, hf⟩ := forms hN hA
    have HF := Aside0.mk hf
    have hcnn : N.n ≤ 1000 := hN.le
    clear ih hs hA h hf hrk hr0 hk hm hmb hI hU
    by_cases hat : a = t
    · have h1 : ((a : Int) == (t : Int)) = true := by simp [hat]
      have hp := HP.out
      have hres : s' = s ∧ r = m := by
        cases k with
        | zero => simp [push] at hp
        | succ k =>
          rw [push, if_pos hat] at hp
          injection hp with hp
          injection hp with h1 h2
          exact ⟨h1.symm, h2.symm⟩
      obtain ⟨rfl, rfl⟩ := hres
      clear hp
      go_enter Try.func23, Try.ntmps23
      go_wp2
      go_ret
      exact ⟨rfl, HA0.out, Kept.refl _ _⟩
    · have h1 : ((a : Int) == (t : Int)) = false := by simp; omega
      have HAT := Aside0.mk hat
      clear hat
      go_enter Try.func23, Try.ntmps23
      go_wp2
      go_loopg [] k (fun q wr => ∃ s1, Aside0 (push N rk t q s1 a m = some (s', r)) ∧ Aside0 (Srch N rk t s1) ∧ Aside0 (NetAt wr base g N s1.L V cut (rkL N rk) (nxL N s1.nx)) ∧ Aside0 (Kept S w wr) ∧ Aside0 (q ≤ k))
      case atStart => exact ⟨s, HP, HS, HA0, ⟨Kept.refl _ _⟩, ⟨Nat.le_refl _⟩⟩
      case round =>
        obtain ⟨s1, HQ, HS1, HA, HB, HLE⟩ := hrel
        cases gk with
        | zero => exact absurd HQ.out (by simp [push])
        | succ q1 =>
          have hq := HQ.out
          rw [push, if_neg HAT.out] at hq
          have hC := cells HA.out HF.out
          have c1 := hC.c1
          have c5 := hC.c5
          have c6 := hC.c6
          have cnx := (hC.nx a ha).1
          have fnx := (hC.nx a ha).2
          have cka := hC.rk a ha
          have cro := hC.row a ha
          obtain ⟨Ar, cr, hrow⟩ := own_slice (HA.out.inn a ha)
          rw [hrow] at cro
          have HIN : Aside0 (wr.ownsRow base 3 1 (.slice Ar (N.out a).length cr) (N.out a).length (nums .i64 (outL N a))) := ⟨by rw [← hrow]; exact HA.out.inn a ha⟩
          have HC := Aside0.mk hC
          clear hC hrow
          obtain ⟨j, hj⟩ : ∃ j, s1.nx a = j := ⟨_, rfl⟩
          rw [hj] at cnx hq
          have HJ := Aside0.mk hj
          clear hj
          by_cases c2 : j < (N.out a).length
          rotate_left
          · rw [if_neg c2] at hq
            injection hq with hq
            injection hq with e1 e2
            subst e1 e2
            go_wp2_with fail
            refine start_ (n := 16) (S := (fun w' => w'.cell? ⟨g, 6, none⟩ = some (.slice (some ⟨gn, 0, none⟩) N.n cn) ∧ w'.cell? ⟨gn, a, none⟩ = some (.int .i64 (j : Int)) ∧ w'.cell? ⟨g, 1, none⟩ = some (.slice (some ⟨go, 0, none⟩) N.n co) ∧ w'.cell? ⟨go, a, none⟩ = some (.slice Ar (N.out a).length cr))) (ds := []) #[false, false, false, false, false, false, false, false, false, false, false, false, false, false, false, false] (by kernel_rfl) rfl rfl (⟨c6, cnx, c1, cro⟩) (fun hHeld => ?_)
            refine pure_ (i := 0) (N := some 16) (v := ?_) (a' := ?_) #[true, false, false, false, false, false, false, false, false, false, false, false, false, false, false, false] rfl rfl (by kernel_rfl) (fun _ _ _ h => h) (Or.inl ⟨by rfl, ?_⟩) ?_ ?_
            rotate_left
            · intro w'
              go_simp
              with_reducible rfl
            rotate_left
            · simp only [Act.put, List.setIfInBounds_toArray, List.set_cons_zero, List.set_cons_succ, i64_w, i32_w]
              rfl
            refine pure_ (i := 1) (N := some 17) (v := ?_) (a' := ?_) #[true, true, false, false, false, false, false, false, false, false, false, false, false, false, false, false] rfl rfl (by kernel_rfl) (fun _ _ _ h => h) (Or.inl ⟨by rfl, ?_⟩) ?_ ?_
            rotate_left
            · intro w'
              go_simp
              with_reducible rfl
            rotate_left
            · simp only [Act.put, List.setIfInBounds_toArray, List.set_cons_zero, List.set_cons_succ, i64_w, i32_w]
              rfl
            refine pure_ (i := 2) (N := some 18) (v := ?_) (a' := ?_) #[true, true, true, false, false, false, false, false, false, false, false, false, false, false, false, false] rfl rfl (by kernel_rfl) (fun _ _ _ h => h) (Or.inl ⟨by rfl, ?_⟩) ?_ ?_
            rotate_left
            · intro w'
              go_simp
              with_reducible rfl
            rotate_left
            · simp only [Act.put, List.setIfInBounds_toArray, List.set_cons_zero, List.set_cons_succ, i64_w, i32_w]
              rfl
            refine take_ (i := 3) (N := some 19) (v := ?_) (a' := ?_) #[true, true, true, true, false, false, false, false, false, false, false, false, false, false, false, false] rfl rfl (by kernel_rfl) (fun _ _ _ h => h) (Or.inl ⟨by rfl, ?_⟩) hHeld ?_ ?_
            rotate_left
            · rintro w' ⟨s0, s1, s2, s3⟩
              go_simp
              with_reducible rfl
            rotate_left
            · simp only [Act.put, List.setIfInBounds_toArray, List.set_cons_zero, List.set_cons_succ, i64_w, i32_w]
              rfl
            refine pure_ (i := 4) (N := some 20) (v := ?_) (a' := ?_) #[true, true, true, true, true, false, false, false, false, false, false, false, false, false, false, false] rfl rfl (by kernel_rfl) (fun _ _ _ h => h) (Or.inl ⟨by rfl, ?_⟩) ?_ ?_
            rotate_left
            · intro w'
              go_simp
              with_reducible rfl
            rotate_left
            · simp only [Act.put, List.setIfInBounds_toArray, List.set_cons_zero, List.set_cons_succ, i64_w, i32_w]
              rfl
            refine pure_ (i := 5) (N := some 21) (v := ?_) (a' := ?_) #[true, true, true, true, true, true, false, false, false, false, false, false, false, false, false, false] rfl rfl (by kernel_rfl) (fun _ _ _ h => h) (Or.inl ⟨by rfl, ?_⟩) ?_ ?_
            rotate_left
            · intro w'
              go_simp
              with_reducible rfl
            rotate_left
            · simp only [Act.put, List.setIfInBounds_toArray, List.set_cons_zero, List.set_cons_succ, i64_w, i32_w]
              rfl
            refine take_ (i := 6) (N := some 22) (v := ?_) (a' := ?_) #[true, true, true, true, true, true, true, false, false, false, false, false, false, false, false, false] rfl rfl (by kernel_rfl) (fun _ _ _ h => h) (Or.inl ⟨by rfl, ?_⟩) hHeld ?_ ?_
            rotate_left
            · rintro w' ⟨s0, s1, s2, s3⟩
              go_simp
              with_reducible rfl
            rotate_left
            · simp only [Act.put, List.setIfInBounds_toArray, List.set_cons_zero, List.set_cons_succ, i64_w, i32_w]
              rfl
            refine pure_ (i := 7) (N := some 23) (v := ?_) (a' := ?_) #[true, true, true, true, true, true, true, true, false, false, false, false, false, false, false, false] rfl rfl (by kernel_rfl) (fun _ _ _ h => h) (Or.inl ⟨by rfl, ?_⟩) ?_ ?_
            rotate_left
            · intro w'
              go_simp
              with_reducible rfl
            rotate_left
            · simp only [Act.put, List.setIfInBounds_toArray, List.set_cons_zero, List.set_cons_succ, i64_w, i32_w]
              rfl
            refine pure_ (i := 8) (N := some 24) (v := ?_) (a' := ?_) #[true, true, true, true, true, true, true, true, true, false, false, false, false, false, false, false] rfl rfl (by kernel_rfl) (fun _ _ _ h => h) (Or.inl ⟨by rfl, ?_⟩) ?_ ?_
            rotate_left
            · intro w'
              go_simp
              with_reducible rfl
            rotate_left
            · simp only [Act.put, List.setIfInBounds_toArray, List.set_cons_zero, List.set_cons_succ, i64_w, i32_w]
              rfl
            refine pure_ (i := 9) (N := some 25) (v := ?_) (a' := ?_) #[true, true, true, true, true, true, true, true, true, true, false, false, false, false, false, false] rfl rfl (by kernel_rfl) (fun _ _ _ h => h) (Or.inl ⟨by rfl, ?_⟩) ?_ ?_
            rotate_left
            · intro w'
              go_simp
              with_reducible rfl
            rotate_left
            · simp only [Act.put, List.setIfInBounds_toArray, List.set_cons_zero, List.set_cons_succ, i64_w, i32_w]
              rfl
            refine take_ (i := 10) (N := some 26) (v := ?_) (a' := ?_) #[true, true, true, true, true, true, true, true, true, true, true, false, false, false, false, false] rfl rfl (by kernel_rfl) (fun _ _ _ h => h) (Or.inl ⟨by rfl, ?_⟩) hHeld ?_ ?_
            rotate_left
            · rintro w' ⟨s0, s1, s2, s3⟩
              go_simp
              with_reducible rfl
            rotate_left
            · simp only [Act.put, List.setIfInBounds_toArray, List.set_cons_zero, List.set_cons_succ, i64_w, i32_w]
              rfl
            refine pure_ (i := 11) (N := some 27) (v := ?_) (a' := ?_) #[true, true, true, true, true, true, true, true, true, true, true, true, false, false, false, false] rfl rfl (by kernel_rfl) (fun _ _ _ h => h) (Or.inl ⟨by rfl, ?_⟩) ?_ ?_
            rotate_left
            · intro w'
              go_simp
              with_reducible rfl
            rotate_left
            · simp only [Act.put, List.setIfInBounds_toArray, List.set_cons_zero, List.set_cons_succ, i64_w, i32_w]
              rfl
            refine pure_ (i := 12) (N := some 28) (v := ?_) (a' := ?_) #[true, true, true, true, true, true, true, true, true, true, true, true, true, false, false, false] rfl rfl (by kernel_rfl) (fun _ _ _ h => h) (Or.inl ⟨by rfl, ?_⟩) ?_ ?_
            rotate_left
            · intro w'
              go_simp
              with_reducible rfl
            rotate_left
            · simp only [Act.put, List.setIfInBounds_toArray, List.set_cons_zero, List.set_cons_succ, i64_w, i32_w]
              rfl
            refine take_ (i := 13) (N := some 29) (v := ?_) (a' := ?_) #[true, true, true, true, true, true, true, true, true, true, true, true, true, true, false, false] rfl rfl (by kernel_rfl) (fun _ _ _ h => h) (Or.inl ⟨by rfl, ?_⟩) hHeld ?_ ?_
            rotate_left
            · rintro w' ⟨s0, s1, s2, s3⟩
              go_simp
              with_reducible rfl
            rotate_left
            · simp only [Act.put, List.setIfInBounds_toArray, List.set_cons_zero, List.set_cons_succ, i64_w, i32_w]
              rfl
            refine pure_ (i := 14) (N := some 30) (v := ?_) (a' := ?_) #[true, true, true, true, true, true, true, true, true, true, true, true, true, true, true, false] rfl rfl (by kernel_rfl) (fun _ _ _ h => h) (Or.inl ⟨by rfl, ?_⟩) ?_ ?_
            rotate_left
            · intro w'
              go_simp
              with_reducible rfl
            rotate_left
            · simp only [Act.put, List.setIfInBounds_toArray, List.set_cons_zero, List.set_cons_succ, i64_w, i32_w]
              rfl
            refine pure_ (i := 15) (N := some 31) (v := ?_) (a' := ?_) #[true, true, true, true, true, true, true, true, true, true, true, true, true, true, true, true] rfl rfl (by kernel_rfl) (fun _ _ _ h => h) (Or.inl ⟨by rfl, ?_⟩) ?_ ?_
            rotate_left
            · intro w'
              go_simp
              with_reducible rfl
            rotate_left
            · simp only [Act.put, List.setIfInBounds_toArray, List.set_cons_zero, List.set_cons_succ, i64_w, i32_w]
              rfl
            refine done_ (by kernel_rfl) ?_
            skip
            go_wp2
            go_ret
            exact ⟨rfl, HA.out.drew, kept_drew HB.out⟩
          · rw [if_pos c2] at hq
            have HQR := Aside0.mk hq
            clear hq
            obtain ⟨gr, cr', hfr, hgr, _⟩ := own_form HIN.out (by omega)
            injection hfr with e1 _ e2
            subst e1 e2
            have cp := (own_cell HIN.out j (by rw [outL_len]; exact c2)).1
            rw [outL_at N a j c2] at cp
            obtain ⟨hpm, hpt⟩ := out_at c2
            obtain ⟨p, hp⟩ : ∃ p, (N.out a).getD j 0 = p := ⟨_, rfl⟩
            have HPQ := Aside0.mk hp
            rw [hp] at cp hpm hpt
            have HPT := Aside0.mk hpt
            obtain ⟨ga, ca, hva, c2a, harc⟩ := arc_cells HA.out hpm
            obtain ⟨ah, aL, fL⟩ := harc p hpm
            have HVA := Aside0.mk hva
            obtain ⟨hd, hhd⟩ : ∃ h, N.hd p = h := ⟨_, rfl⟩
            obtain ⟨lp, hlp⟩ : ∃ h, s1.L p = h := ⟨_, rfl⟩
            rw [hhd] at ah
            rw [hlp] at aL
            have HHD := Aside0.mk hhd
            have HLP := Aside0.mk hlp
            have hhn : hd < N.n := by rw [← hhd]; exact hd_lt HN.out hpm
            have hpz : (p : Int) < 2 * (N.m : Int) := by omega
            have ckh := HC.out.rk hd hhn
            clear hp hpt harc hva hhd hlp fL hgr
            go_wp2_with fail
            refine start_ (n := 16) (S := (fun w' => w'.cell? ⟨g, 6, none⟩ = some (.slice (some ⟨gn, 0, none⟩) N.n cn) ∧ w'.cell? ⟨gn, a, none⟩ = some (.int .i64 (j : Int)) ∧ w'.cell? ⟨g, 1, none⟩ = some (.slice (some ⟨go, 0, none⟩) N.n co) ∧ w'.cell? ⟨go, a, none⟩ = some (.slice (some ⟨gr, 0, none⟩) (N.out a).length cr))) (ds := []) #[false, false, false, false, false, false, false, false, false, false, false, false, false, false, false, false] (by kernel_rfl) rfl rfl (⟨c6, cnx, c1, cro⟩) (fun hHeld => ?_)
            refine pure_ (i := 0) (N := some 16) (v := ?_) (a' := ?_) #[true, false, false, false, false, false, false, false, false, false, false, false, false, false, false, false] rfl rfl (by kernel_rfl) (fun _ _ _ h => h) (Or.inl ⟨by rfl, ?_⟩) ?_ ?_
            rotate_left
            · intro w'
              go_simp
              with_reducible rfl
            rotate_left
            · simp only [Act.put, List.setIfInBounds_toArray, List.set_cons_zero, List.set_cons_succ, i64_w, i32_w]
              rfl
            refine pure_ (i := 1) (N := some 17) (v := ?_) (a' := ?_) #[true, true, false, false, false, false, false, false, false, false, false, false, false, false, false, false] rfl rfl (by kernel_rfl) (fun _ _ _ h => h) (Or.inl ⟨by rfl, ?_⟩) ?_ ?_
            rotate_left
            · intro w'
              go_simp
              with_reducible rfl
            rotate_left
            · simp only [Act.put, List.setIfInBounds_toArray, List.set_cons_zero, List.set_cons_succ, i64_w, i32_w]
              rfl
            refine pure_ (i := 2) (N := some 18) (v := ?_) (a' := ?_) #[true, true, true, false, false, false, false, false, false, false, false, false, false, false, false, false] rfl rfl (by kernel_rfl) (fun _ _ _ h => h) (Or.inl ⟨by rfl, ?_⟩) ?_ ?_
            rotate_left
            · intro w'
              go_simp
              with_reducible rfl
            rotate_left
            · simp only [Act.put, List.setIfInBounds_toArray, List.set_cons_zero, List.set_cons_succ, i64_w, i32_w]
              rfl
            refine take_ (i := 3) (N := some 19) (v := ?_) (a' := ?_) #[true, true, true, true, false, false, false, false, false, false, false, false, false, false, false, false] rfl rfl (by kernel_rfl) (fun _ _ _ h => h) (Or.inl ⟨by rfl, ?_⟩) hHeld ?_ ?_
            rotate_left
            · rintro w' ⟨s0, s1, s2, s3⟩
              go_simp
              with_reducible rfl
            rotate_left
            · simp only [Act.put, List.setIfInBounds_toArray, List.set_cons_zero, List.set_cons_succ, i64_w, i32_w]
              rfl
            refine pure_ (i := 4) (N := some 20) (v := ?_) (a' := ?_) #[true, true, true, true, true, false, false, false, false, false, false, false, false, false, false, false] rfl rfl (by kernel_rfl) (fun _ _ _ h => h) (Or.inl ⟨by rfl, ?_⟩) ?_ ?_
            rotate_left
            · intro w'
              go_simp
              with_reducible rfl
            rotate_left
            · simp only [Act.put, List.setIfInBounds_toArray, List.set_cons_zero, List.set_cons_succ, i64_w, i32_w]
              rfl
            refine pure_ (i := 5) (N := some 21) (v := ?_) (a' := ?_) #[true, true, true, true, true, true, false, false, false, false, false, false, false, false, false, false] rfl rfl (by kernel_rfl) (fun _ _ _ h => h) (Or.inl ⟨by rfl, ?_⟩) ?_ ?_
            rotate_left
            · intro w'
              go_simp
              with_reducible rfl
            rotate_left
            · simp only [Act.put, List.setIfInBounds_toArray, List.set_cons_zero, List.set_cons_succ, i64_w, i32_w]
              rfl
            refine take_ (i := 6) (N := some 22) (v := ?_) (a' := ?_) #[true, true, true, true, true, true, true, false, false, false, false, false, false, false, false, false] rfl rfl (by kernel_rfl) (fun _ _ _ h => h) (Or.inl ⟨by rfl, ?_⟩) hHeld ?_ ?_
            rotate_left
            · rintro w' ⟨s0, s1, s2, s3⟩
              go_simp
              with_reducible rfl
            rotate_left
            · simp only [Act.put, List.setIfInBounds_toArray, List.set_cons_zero, List.set_cons_succ, i64_w, i32_w]
              rfl
            refine pure_ (i := 7) (N := some 23) (v := ?_) (a' := ?_) #[true, true, true, true, true, true, true, true, false, false, false, false, false, false, false, false] rfl rfl (by kernel_rfl) (fun _ _ _ h => h) (Or.inl ⟨by rfl, ?_⟩) ?_ ?_
            rotate_left
            · intro w'
              go_simp
              with_reducible rfl
            rotate_left
            · simp only [Act.put, List.setIfInBounds_toArray, List.set_cons_zero, List.set_cons_succ, i64_w, i32_w]
              rfl
            refine pure_ (i := 8) (N := some 24) (v := ?_) (a' := ?_) #[true, true, true, true, true, true, true, true, true, false, false, false, false, false, false, false] rfl rfl (by kernel_rfl) (fun _ _ _ h => h) (Or.inl ⟨by rfl, ?_⟩) ?_ ?_
            rotate_left
            · intro w'
              go_simp
              with_reducible rfl
            rotate_left
            · simp only [Act.put, List.setIfInBounds_toArray, List.set_cons_zero, List.set_cons_succ, i64_w, i32_w]
              rfl
            refine pure_ (i := 9) (N := some 25) (v := ?_) (a' := ?_) #[true, true, true, true, true, true, true, true, true, true, false, false, false, false, false, false] rfl rfl (by kernel_rfl) (fun _ _ _ h => h) (Or.inl ⟨by rfl, ?_⟩) ?_ ?_
            rotate_left
            · intro w'
              go_simp
              with_reducible rfl
            rotate_left
            · simp only [Act.put, List.setIfInBounds_toArray, List.set_cons_zero, List.set_cons_succ, i64_w, i32_w]
              rfl
            refine take_ (i := 10) (N := some 26) (v := ?_) (a' := ?_) #[true, true, true, true, true, true, true, true, true, true, true, false, false, false, false, false] rfl rfl (by kernel_rfl) (fun _ _ _ h => h) (Or.inl ⟨by rfl, ?_⟩) hHeld ?_ ?_
            rotate_left
            · rintro w' ⟨s0, s1, s2, s3⟩
              go_simp
              with_reducible rfl
            rotate_left
            · simp only [Act.put, List.setIfInBounds_toArray, List.set_cons_zero, List.set_cons_succ, i64_w, i32_w]
              rfl
            refine pure_ (i := 11) (N := some 27) (v := ?_) (a' := ?_) #[true, true, true, true, true, true, true, true, true, true, true, true, false, false, false, false] rfl rfl (by kernel_rfl) (fun _ _ _ h => h) (Or.inl ⟨by rfl, ?_⟩) ?_ ?_
            rotate_left
            · intro w'
              go_simp
              with_reducible rfl
            rotate_left
            · simp only [Act.put, List.setIfInBounds_toArray, List.set_cons_zero, List.set_cons_succ, i64_w, i32_w]
              rfl
            refine pure_ (i := 12) (N := some 28) (v := ?_) (a' := ?_) #[true, true, true, true, true, true, true, true, true, true, true, true, true, false, false, false] rfl rfl (by kernel_rfl) (fun _ _ _ h => h) (Or.inl ⟨by rfl, ?_⟩) ?_ ?_
            rotate_left
            · intro w'
              go_simp
              with_reducible rfl
            rotate_left
            · simp only [Act.put, List.setIfInBounds_toArray, List.set_cons_zero, List.set_cons_succ, i64_w, i32_w]
              rfl
            refine take_ (i := 13) (N := some 29) (v := ?_) (a' := ?_) #[true, true, true, true, true, true, true, true, true, true, true, true, true, true, false, false] rfl rfl (by kernel_rfl) (fun _ _ _ h => h) (Or.inl ⟨by rfl, ?_⟩) hHeld ?_ ?_
            rotate_left
            · rintro w' ⟨s0, s1, s2, s3⟩
              go_simp
              with_reducible rfl
            rotate_left
            · simp only [Act.put, List.setIfInBounds_toArray, List.set_cons_zero, List.set_cons_succ, i64_w, i32_w]
              rfl
            refine pure_ (i := 14) (N := some 30) (v := ?_) (a' := ?_) #[true, true, true, true, true, true, true, true, true, true, true, true, true, true, true, false] rfl rfl (by kernel_rfl) (fun _ _ _ h => h) (Or.inl ⟨by rfl, ?_⟩) ?_ ?_
            rotate_left
            · intro w'
              go_simp
              with_reducible rfl
            rotate_left
            · simp only [Act.put, List.setIfInBounds_toArray, List.set_cons_zero, List.set_cons_succ, i64_w, i32_w]
              rfl
            refine pure_ (i := 15) (N := some 31) (v := ?_) (a' := ?_) #[true, true, true, true, true, true, true, true, true, true, true, true, true, true, true, true] rfl rfl (by kernel_rfl) (fun _ _ _ h => h) (Or.inl ⟨by rfl, ?_⟩) ?_ ?_
            rotate_left
            · intro w'
              go_simp
              with_reducible rfl
            rotate_left
            · simp only [Act.put, List.setIfInBounds_toArray, List.set_cons_zero, List.set_cons_succ, i64_w, i32_w]
              rfl
            refine done_ (by kernel_rfl) ?_
            skip
            go_wp2_with fail
            refine start_ (n := 17) (S := (fun w' => w'.cell? ⟨g, 6, none⟩ = some (.slice (some ⟨gn, 0, none⟩) N.n cn) ∧ w'.cell? ⟨gn, a, none⟩ = some (.int .i64 (j : Int)) ∧ w'.cell? ⟨g, 1, none⟩ = some (.slice (some ⟨go, 0, none⟩) N.n co) ∧ w'.cell? ⟨go, a, none⟩ = some (.slice (some ⟨gr, 0, none⟩) (N.out a).length cr) ∧ w'.cell? ⟨gr, j, none⟩ = some (.int .i64 (p : Int)))) (ds := []) #[false, false, false, false, false, false, false, false, false, false, false, false, false, false, false, false, false] (by kernel_rfl) rfl rfl (⟨c6, cnx, c1, cro, cp⟩) (fun hHeld => ?_)
            refine pure_ (i := 0) (N := some 41) (v := ?_) (a' := ?_) #[true, false, false, false, false, false, false, false, false, false, false, false, false, false, false, false, false] rfl rfl (by kernel_rfl) (fun _ _ _ h => h) (Or.inl ⟨by rfl, ?_⟩) ?_ ?_
            rotate_left
            · intro w'
              go_simp
              with_reducible rfl
            rotate_left
            · simp only [Act.put, List.setIfInBounds_toArray, List.set_cons_zero, List.set_cons_succ, i64_w, i32_w]
              rfl
            refine pure_ (i := 1) (N := some 42) (v := ?_) (a' := ?_) #[true, true, false, false, false, false, false, false, false, false, false, false, false, false, false, false, false] rfl rfl (by kernel_rfl) (fun _ _ _ h => h) (Or.inl ⟨by rfl, ?_⟩) ?_ ?_
            rotate_left
            · intro w'
              go_simp
              with_reducible rfl
            rotate_left
            · simp only [Act.put, List.setIfInBounds_toArray, List.set_cons_zero, List.set_cons_succ, i64_w, i32_w]
              rfl
            refine pure_ (i := 2) (N := some 43) (v := ?_) (a' := ?_) #[true, true, true, false, false, false, false, false, false, false, false, false, false, false, false, false, false] rfl rfl (by kernel_rfl) (fun _ _ _ h => h) (Or.inl ⟨by rfl, ?_⟩) ?_ ?_
            rotate_left
            · intro w'
              go_simp
              with_reducible rfl
            rotate_left
            · simp only [Act.put, List.setIfInBounds_toArray, List.set_cons_zero, List.set_cons_succ, i64_w, i32_w]
              rfl
            refine take_ (i := 3) (N := some 44) (v := ?_) (a' := ?_) #[true, true, true, true, false, false, false, false, false, false, false, false, false, false, false, false, false] rfl rfl (by kernel_rfl) (fun _ _ _ h => h) (Or.inl ⟨by rfl, ?_⟩) hHeld ?_ ?_
            rotate_left
            · rintro w' ⟨s0, s1, s2, s3, s4⟩
              go_simp
              with_reducible rfl
            rotate_left
            · simp only [Act.put, List.setIfInBounds_toArray, List.set_cons_zero, List.set_cons_succ, i64_w, i32_w]
              rfl
            refine pure_ (i := 4) (N := some 45) (v := ?_) (a' := ?_) #[true, true, true, true, true, false, false, false, false, false, false, false, false, false, false, false, false] rfl rfl (by kernel_rfl) (fun _ _ _ h => h) (Or.inl ⟨by rfl, ?_⟩) ?_ ?_
            rotate_left
            · intro w'
              go_simp
              with_reducible rfl
            rotate_left
            · simp only [Act.put, List.setIfInBounds_toArray, List.set_cons_zero, List.set_cons_succ, i64_w, i32_w]
              rfl
            refine pure_ (i := 5) (N := some 46) (v := ?_) (a' := ?_) #[true, true, true, true, true, true, false, false, false, false, false, false, false, false, false, false, false] rfl rfl (by kernel_rfl) (fun _ _ _ h => h) (Or.inl ⟨by rfl, ?_⟩) ?_ ?_
            rotate_left
            · intro w'
              go_simp
              with_reducible rfl
            rotate_left
            · simp only [Act.put, List.setIfInBounds_toArray, List.set_cons_zero, List.set_cons_succ, i64_w, i32_w]
              rfl
            refine take_ (i := 6) (N := some 47) (v := ?_) (a' := ?_) #[true, true, true, true, true, true, true, false, false, false, false, false, false, false, false, false, false] rfl rfl (by kernel_rfl) (fun _ _ _ h => h) (Or.inl ⟨by rfl, ?_⟩) hHeld ?_ ?_
            rotate_left
            · rintro w' ⟨s0, s1, s2, s3, s4⟩
              go_simp
              with_reducible rfl
            rotate_left
            · simp only [Act.put, List.setIfInBounds_toArray, List.set_cons_zero, List.set_cons_succ, i64_w, i32_w]
              rfl
            refine pure_ (i := 7) (N := some 48) (v := ?_) (a' := ?_) #[true, true, true, true, true, true, true, true, false, false, false, false, false, false, false, false, false] rfl rfl (by kernel_rfl) (fun _ _ _ h => h) (Or.inl ⟨by rfl, ?_⟩) ?_ ?_
            rotate_left
            · intro w'
              go_simp
              with_reducible rfl
            rotate_left
            · simp only [Act.put, List.setIfInBounds_toArray, List.set_cons_zero, List.set_cons_succ, i64_w, i32_w]
              rfl
            refine pure_ (i := 8) (N := some 49) (v := ?_) (a' := ?_) #[true, true, true, true, true, true, true, true, true, false, false, false, false, false, false, false, false] rfl rfl (by kernel_rfl) (fun _ _ _ h => h) (Or.inl ⟨by rfl, ?_⟩) ?_ ?_
            rotate_left
            · intro w'
              go_simp
              with_reducible rfl
            rotate_left
            · simp only [Act.put, List.setIfInBounds_toArray, List.set_cons_zero, List.set_cons_succ, i64_w, i32_w]
              rfl
            refine pure_ (i := 9) (N := some 50) (v := ?_) (a' := ?_) #[true, true, true, true, true, true, true, true, true, true, false, false, false, false, false, false, false] rfl rfl (by kernel_rfl) (fun _ _ _ h => h) (Or.inl ⟨by rfl, ?_⟩) ?_ ?_
            rotate_left
            · intro w'
              go_simp
              with_reducible rfl
            rotate_left
            · simp only [Act.put, List.setIfInBounds_toArray, List.set_cons_zero, List.set_cons_succ, i64_w, i32_w]
              rfl
            refine take_ (i := 10) (N := some 51) (v := ?_) (a' := ?_) #[true, true, true, true, true, true, true, true, true, true, true, false, false, false, false, false, false] rfl rfl (by kernel_rfl) (fun _ _ _ h => h) (Or.inl ⟨by rfl, ?_⟩) hHeld ?_ ?_
            rotate_left
            · rintro w' ⟨s0, s1, s2, s3, s4⟩
              go_simp
              with_reducible rfl
            rotate_left
            · simp only [Act.put, List.setIfInBounds_toArray, List.set_cons_zero, List.set_cons_succ, i64_w, i32_w]
              rfl
            refine pure_ (i := 11) (N := some 52) (v := ?_) (a' := ?_) #[true, true, true, true, true, true, true, true, true, true, true, true, false, false, false, false, false] rfl rfl (by kernel_rfl) (fun _ _ _ h => h) (Or.inl ⟨by rfl, ?_⟩) ?_ ?_
            rotate_left
            · intro w'
              go_simp
              with_reducible rfl
            rotate_left
            · simp only [Act.put, List.setIfInBounds_toArray, List.set_cons_zero, List.set_cons_succ, i64_w, i32_w]
              rfl
            refine pure_ (i := 12) (N := some 53) (v := ?_) (a' := ?_) #[true, true, true, true, true, true, true, true, true, true, true, true, true, false, false, false, false] rfl rfl (by kernel_rfl) (fun _ _ _ h => h) (Or.inl ⟨by rfl, ?_⟩) ?_ ?_
            rotate_left
            · intro w'
              go_simp
              with_reducible rfl
            rotate_left
            · simp only [Act.put, List.setIfInBounds_toArray, List.set_cons_zero, List.set_cons_succ, i64_w, i32_w]
              rfl
            refine take_ (i := 13) (N := some 54) (v := ?_) (a' := ?_) #[true, true, true, true, true, true, true, true, true, true, true, true, true, true, false, false, false] rfl rfl (by kernel_rfl) (fun _ _ _ h => h) (Or.inl ⟨by rfl, ?_⟩) hHeld ?_ ?_
            rotate_left
            · rintro w' ⟨s0, s1, s2, s3, s4⟩
              go_simp
              with_reducible rfl
            rotate_left
            · simp only [Act.put, List.setIfInBounds_toArray, List.set_cons_zero, List.set_cons_succ, i64_w, i32_w]
              rfl
            refine pure_ (i := 14) (N := some 55) (v := ?_) (a' := ?_) #[true, true, true, true, true, true, true, true, true, true, true, true, true, true, true, false, false] rfl rfl (by kernel_rfl) (fun _ _ _ h => h) (Or.inl ⟨by rfl, ?_⟩) ?_ ?_
            rotate_left
            · intro w'
              go_simp
              with_reducible rfl
            rotate_left
            · simp only [Act.put, List.setIfInBounds_toArray, List.set_cons_zero, List.set_cons_succ, i64_w, i32_w]
              rfl
            refine take_ (i := 15) (N := some 56) (v := ?_) (a' := ?_) #[true, true, true, true, true, true, true, true, true, true, true, true, true, true, true, true, false] rfl rfl (by kernel_rfl) (fun _ _ _ h => h) (Or.inl ⟨by rfl, ?_⟩) hHeld ?_ ?_
            rotate_left
            · rintro w' ⟨s0, s1, s2, s3, s4⟩
              go_simp
              with_reducible rfl
            rotate_left
            · simp only [Act.put, List.setIfInBounds_toArray, List.set_cons_zero, List.set_cons_succ, i64_w, i32_w]
              rfl
            refine pure_ (i := 16) (N := some 9) (v := ?_) (a' := ?_) #[true, true, true, true, true, true, true, true, true, true, true, true, true, true, true, true, true] rfl rfl (by kernel_rfl) (fun _ _ _ h => h) (Or.inl ⟨by rfl, ?_⟩) ?_ ?_
            rotate_left
            · intro w'
              go_simp
              with_reducible rfl
            rotate_left
            · simp only [Act.put, List.setIfInBounds_toArray, List.set_cons_zero, List.set_cons_succ, i64_w, i32_w]
              rfl
            refine done_ (by kernel_rfl) ?_
            skip
            go_wp2_with fail
            obtain ⟨w6, hw6⟩ : ∃ w6, (wr.alloc (Obj.cells #[Value.int .i64 (hd : Int), Value.int .i64 lp] 58)).drew.drew = w6 := ⟨_, rfl⟩
            obtain ⟨bx, hbx⟩ : ∃ b, wr.heap.size = b := ⟨_, rfl⟩
            have HA6 : Aside0 (NetAt w6 base g N s1.L V cut (rkL N rk) (nxL N s1.nx)) := ⟨by rw [← hw6]; exact (HA.out.alloc _).drew.drew⟩
            have HB6 : Aside0 (Kept S w w6) := ⟨by rw [← hw6]; exact kept_drew (kept_drew (HB.out.alloc HU.out _))⟩
            have hbk : w6.heap[bx]? = some (.cells #[Value.int .i64 (hd : Int), Value.int .i64 lp] 58 (0, 0)) := by rw [← hw6, ← hbx]; exact heap_new wr _
            have b0 : w6.cell? ⟨bx, 0, none⟩ = some (.int .i64 (hd : Int)) := (blk_cell hbk 0).trans rfl
            have b1 : w6.cell? ⟨bx, 1, none⟩ = some (.int .i64 lp) := (blk_cell hbk 1).trans rfl
            rw [hw6]
            simp only [hbx]
            clear hw6 hbx hbk HA HB c1 c5 c6 cnx cka cro cp c2a ah aL ckh HC fnx HIN
            have hC := cells HA6.out HF.out
            have c5 := hC.c5
            have c6 := hC.c6
            have cnx := (hC.nx a ha).1
            have fnx := (hC.nx a ha).2
            have cka := hC.rk a ha
            have ckh := hC.rk hd hhn
            rw [HJ.out] at cnx
            clear hC
            have hq := HQR.out
            rw [HPQ.out, HLP.out, HHD.out] at hq
            have hwk : wrap64 (rk a + 1) = rk a + 1 := by
              have h1 := HRK.out a
              have h2 := HR0.out a
              unfold wrap64; omega
            have hwj : wrap64 ((j : Int) + 1) = ((j + 1 : Nat) : Int) := by
              have := out_few HN.out a
              unfold wrap64; omega
            by_cases l0 : lp = 0
            · rw [if_pos (.inl l0)] at hq
              have HQ2 := Aside0.mk hq
              have HSB := Aside0.mk (srch_bump HS1.out (by rw [HJ.out]; exact c2) (.inl (by rw [HJ.out, HPQ.out, HLP.out]; exact l0)))
              have dl0 : (lp == 0) = true := by simp [l0]
              have HBUMP := Aside0.mk (net_bump HA6.out HF.out.n a)
              rw [HJ.out] at HBUMP
              clear hq
              refine start_ (n := 22) (S := (fun w' => w'.cell? ⟨bx, 0, none⟩ = some (.int .i64 (hd : Int)) ∧ w'.cell? ⟨bx, 1, none⟩ = some (.int .i64 lp) ∧ w'.cell? ⟨g, 5, none⟩ = some (.slice (some ⟨grk, 0, none⟩) N.n crk) ∧ w'.cell? ⟨grk, hd, none⟩ = some (.int .i64 (rk hd)) ∧ w'.cell? ⟨grk, a, none⟩ = some (.int .i64 (rk a)))) (ds := []) #[false, false, false, false, false, false, false, false, false, false, false, false, false, false, false, false, false, false, false, false, false, false] (by kernel_rfl) rfl rfl (⟨b0, b1, c5, ckh, cka⟩) (fun hHeld => ?_)
              refine pure_ (i := 0) (N := some 64) (v := ?_) (a' := ?_) #[true, false, false, false, false, false, false, false, false, false, false, false, false, false, false, false, false, false, false, false, false, false] rfl rfl (by kernel_rfl) (fun _ _ _ h => h) (Or.inl ⟨by rfl, ?_⟩) ?_ ?_
              rotate_left
              · intro w'
                go_simp
                with_reducible rfl
              rotate_left
              · simp only [Act.put, List.setIfInBounds_toArray, List.set_cons_zero, List.set_cons_succ, i64_w, i32_w]
                rfl
              refine take_ (i := 1) (N := some 65) (v := ?_) (a' := ?_) #[true, true, false, false, false, false, false, false, false, false, false, false, false, false, false, false, false, false, false, false, false, false] rfl rfl (by kernel_rfl) (fun _ _ _ h => h) (Or.inl ⟨by rfl, ?_⟩) hHeld ?_ ?_
              rotate_left
              · rintro w' ⟨s0, s1, s2, s3, s4⟩
                go_simp
                with_reducible rfl
              rotate_left
              · simp only [Act.put, List.setIfInBounds_toArray, List.set_cons_zero, List.set_cons_succ, i64_w, i32_w]
                rfl
              refine pure_ (i := 2) (N := some 66) (v := ?_) (a' := ?_) #[true, true, true, false, false, false, false, false, false, false, false, false, false, false, false, false, false, false, false, false, false, false] rfl rfl (by kernel_rfl) (fun _ _ _ h => h) (Or.inl ⟨by rfl, ?_⟩) ?_ ?_
              rotate_left
              · intro w'
                go_simp
                with_reducible rfl
              rotate_left
              · simp only [Act.put, List.setIfInBounds_toArray, List.set_cons_zero, List.set_cons_succ, i64_w, i32_w]
                rfl
              refine pure_ (i := 3) (N := some 67) (v := ?_) (a' := ?_) #[true, true, true, true, false, false, false, false, false, false, false, false, false, false, false, false, false, false, false, false, false, false] rfl rfl (by kernel_rfl) (fun _ _ _ h => h) (Or.inl ⟨by rfl, ?_⟩) ?_ ?_
              rotate_left
              · intro w'
                go_simp
                with_reducible rfl
              rotate_left
              · simp only [Act.put, List.setIfInBounds_toArray, List.set_cons_zero, List.set_cons_succ, i64_w, i32_w]
                rfl
              refine pure_ (i := 4) (N := some 68) (v := undef) (a' := ?_) #[true, true, true, true, true, false, false, false, false, false, false, false, false, false, false, false, false, false, false, false, false, false] rfl rfl (by kernel_rfl) (fun _ _ _ h => h) (Or.inr ⟨by rfl, rfl⟩) ?_ ?_
              rotate_left
              · simp only [Act.put, List.setIfInBounds_toArray, List.set_cons_zero, List.set_cons_succ, i64_w, i32_w]
                rfl
              refine pure_ (i := 5) (N := some 69) (v := undef) (a' := ?_) #[true, true, true, true, true, true, false, false, false, false, false, false, false, false, false, false, false, false, false, false, false, false] rfl rfl (by kernel_rfl) (fun _ _ _ h => h) (Or.inr ⟨by rfl, rfl⟩) ?_ ?_
              rotate_left
              · simp only [Act.put, List.setIfInBounds_toArray, List.set_cons_zero, List.set_cons_succ, i64_w, i32_w]
                rfl
              refine pure_ (i := 6) (N := some 70) (v := undef) (a' := ?_) #[true, true, true, true, true, true, true, false, false, false, false, false, false, false, false, false, false, false, false, false, false, false] rfl rfl (by kernel_rfl) (fun _ _ _ h => h) (Or.inr ⟨by rfl, rfl⟩) ?_ ?_
              rotate_left
              · simp only [Act.put, List.setIfInBounds_toArray, List.set_cons_zero, List.set_cons_succ, i64_w, i32_w]
                rfl
              refine pure_ (i := 7) (N := some 71) (v := undef) (a' := ?_) #[true, true, true, true, true, true, true, true, false, false, false, false, false, false, false, false, false, false, false, false, false, false] rfl rfl (by kernel_rfl) (fun _ _ _ h => h) (Or.inr ⟨by rfl, rfl⟩) ?_ ?_
              rotate_left
              · simp only [Act.put, List.setIfInBounds_toArray, List.set_cons_zero, List.set_cons_succ, i64_w, i32_w]
                rfl
              refine pure_ (i := 8) (N := some 72) (v := undef) (a' := ?_) #[true, true, true, true, true, true, true, true, true, false, false, false, false, false, false, false, false, false, false, false, false, false] rfl rfl (by kernel_rfl) (fun _ _ _ h => h) (Or.inr ⟨by rfl, rfl⟩) ?_ ?_
              rotate_left
              · simp only [Act.put, List.setIfInBounds_toArray, List.set_cons_zero, List.set_cons_succ, i64_w, i32_w]
                rfl
              refine pure_ (i := 9) (N := some 73) (v := undef) (a' := ?_) #[true, true, true, true, true, true, true, true, true, true, false, false, false, false, false, false, false, false, false, false, false, false] rfl rfl (by kernel_rfl) (fun _ _ _ h => h) (Or.inr ⟨by rfl, rfl⟩) ?_ ?_
              rotate_left
              · simp only [Act.put, List.setIfInBounds_toArray, List.set_cons_zero, List.set_cons_succ, i64_w, i32_w]
                rfl
              refine pure_ (i := 10) (N := some 74) (v := undef) (a' := ?_) #[true, true, true, true, true, true, true, true, true, true, true, false, false, false, false, false, false, false, false, false, false, false] rfl rfl (by kernel_rfl) (fun _ _ _ h => h) (Or.inr ⟨by rfl, rfl⟩) ?_ ?_
              rotate_left
              · simp only [Act.put, List.setIfInBounds_toArray, List.set_cons_zero, List.set_cons_succ, i64_w, i32_w]
                rfl
              refine pure_ (i := 11) (N := some 75) (v := undef) (a' := ?_) #[true, true, true, true, true, true, true, true, true, true, true, true, false, false, false, false, false, false, false, false, false, false] rfl rfl (by kernel_rfl) (fun _ _ _ h => h) (Or.inr ⟨by rfl, rfl⟩) ?_ ?_
              rotate_left
              · simp only [Act.put, List.setIfInBounds_toArray, List.set_cons_zero, List.set_cons_succ, i64_w, i32_w]
                rfl
              refine pure_ (i := 12) (N := some 76) (v := undef) (a' := ?_) #[true, true, true, true, true, true, true, true, true, true, true, true, true, false, false, false, false, false, false, false, false, false] rfl rfl (by kernel_rfl) (fun _ _ _ h => h) (Or.inr ⟨by rfl, rfl⟩) ?_ ?_
              rotate_left
              · simp only [Act.put, List.setIfInBounds_toArray, List.set_cons_zero, List.set_cons_succ, i64_w, i32_w]
                rfl
              refine pure_ (i := 13) (N := some 77) (v := undef) (a' := ?_) #[true, true, true, true, true, true, true, true, true, true, true, true, true, true, false, false, false, false, false, false, false, false] rfl rfl (by kernel_rfl) (fun _ _ _ h => h) (Or.inr ⟨by rfl, rfl⟩) ?_ ?_
              rotate_left
              · simp only [Act.put, List.setIfInBounds_toArray, List.set_cons_zero, List.set_cons_succ, i64_w, i32_w]
                rfl
              refine pure_ (i := 14) (N := some 78) (v := undef) (a' := ?_) #[true, true, true, true, true, true, true, true, true, true, true, true, true, true, true, false, false, false, false, false, false, false] rfl rfl (by kernel_rfl) (fun _ _ _ h => h) (Or.inr ⟨by rfl, rfl⟩) ?_ ?_
              rotate_left
              · simp only [Act.put, List.setIfInBounds_toArray, List.set_cons_zero, List.set_cons_succ, i64_w, i32_w]
                rfl
              refine pure_ (i := 15) (N := some 79) (v := undef) (a' := ?_) #[true, true, true, true, true, true, true, true, true, true, true, true, true, true, true, true, false, false, false, false, false, false] rfl rfl (by kernel_rfl) (fun _ _ _ h => h) (Or.inr ⟨by rfl, rfl⟩) ?_ ?_
              rotate_left
              · simp only [Act.put, List.setIfInBounds_toArray, List.set_cons_zero, List.set_cons_succ, i64_w, i32_w]
                rfl
              refine pure_ (i := 16) (N := some 80) (v := undef) (a' := ?_) #[true, true, true, true, true, true, true, true, true, true, true, true, true, true, true, true, true, false, false, false, false, false] rfl rfl (by kernel_rfl) (fun _ _ _ h => h) (Or.inr ⟨by rfl, rfl⟩) ?_ ?_
              rotate_left
              · simp only [Act.put, List.setIfInBounds_toArray, List.set_cons_zero, List.set_cons_succ, i64_w, i32_w]
                rfl
              refine pure_ (i := 17) (N := some 81) (v := undef) (a' := ?_) #[true, true, true, true, true, true, true, true, true, true, true, true, true, true, true, true, true, true, false, false, false, false] rfl rfl (by kernel_rfl) (fun _ _ _ h => h) (Or.inr ⟨by rfl, rfl⟩) ?_ ?_
              rotate_left
              · simp only [Act.put, List.setIfInBounds_toArray, List.set_cons_zero, List.set_cons_succ, i64_w, i32_w]
                rfl
              refine pure_ (i := 18) (N := some 82) (v := undef) (a' := ?_) #[true, true, true, true, true, true, true, true, true, true, true, true, true, true, true, true, true, true, true, false, false, false] rfl rfl (by kernel_rfl) (fun _ _ _ h => h) (Or.inr ⟨by rfl, rfl⟩) ?_ ?_
              rotate_left
              · simp only [Act.put, List.setIfInBounds_toArray, List.set_cons_zero, List.set_cons_succ, i64_w, i32_w]
                rfl
              refine pure_ (i := 19) (N := some 83) (v := undef) (a' := ?_) #[true, true, true, true, true, true, true, true, true, true, true, true, true, true, true, true, true, true, true, true, false, false] rfl rfl (by kernel_rfl) (fun _ _ _ h => h) (Or.inr ⟨by rfl, rfl⟩) ?_ ?_
              rotate_left
              · simp only [Act.put, List.setIfInBounds_toArray, List.set_cons_zero, List.set_cons_succ, i64_w, i32_w]
                rfl
              refine pure_ (i := 20) (N := some 84) (v := undef) (a' := ?_) #[true, true, true, true, true, true, true, true, true, true, true, true, true, true, true, true, true, true, true, true, true, false] rfl rfl (by kernel_rfl) (fun _ _ _ h => h) (Or.inr ⟨by rfl, rfl⟩) ?_ ?_
              rotate_left
              · simp only [Act.put, List.setIfInBounds_toArray, List.set_cons_zero, List.set_cons_succ, i64_w, i32_w]
                rfl
              refine pure_ (i := 21) (N := some 85) (v := ?_) (a' := ?_) #[true, true, true, true, true, true, true, true, true, true, true, true, true, true, true, true, true, true, true, true, true, true] rfl rfl (by kernel_rfl) (fun _ _ _ h => h) (Or.inl ⟨by rfl, ?_⟩) ?_ ?_
              rotate_left
              · intro w'
                go_simp
                with_reducible rfl
              rotate_left
              · simp only [Act.put, List.setIfInBounds_toArray, List.set_cons_zero, List.set_cons_succ, i64_w, i32_w]
                rfl
              refine done_ (by kernel_rfl) ?_
              skip
              go_wp2
              go_roundg q1
              case measure => omega
              case rel => exact ⟨bump s1 a, HQ2, HSB, ⟨HBUMP.out.drew⟩, ⟨kept_drew (kept_cell HB6.out (HI.out.vn gn (by rw [HF.out.n]; rfl)) _ _)⟩, ⟨by have := HLE.out; omega⟩⟩
            · have dl0 : (lp == 0) = false := by simp [l0]
              by_cases rm : rk hd ≠ rk a + 1
              · rw [if_pos (.inr rm)] at hq
                have HQ2 := Aside0.mk hq
                have HSB := Aside0.mk (srch_bump HS1.out (by rw [HJ.out]; exact c2) (.inr (.inl (by rw [HJ.out, HPQ.out, HHD.out]; exact rm))))
                have drm : (rk hd == rk a + 1) = false := by simp [rm]
                have HBUMP := Aside0.mk (net_bump HA6.out HF.out.n a)
                rw [HJ.out] at HBUMP
                clear hq
                refine start_ (n := 22) (S := (fun w' => w'.cell? ⟨bx, 0, none⟩ = some (.int .i64 (hd : Int)) ∧ w'.cell? ⟨bx, 1, none⟩ = some (.int .i64 lp) ∧ w'.cell? ⟨g, 5, none⟩ = some (.slice (some ⟨grk, 0, none⟩) N.n crk) ∧ w'.cell? ⟨grk, hd, none⟩ = some (.int .i64 (rk hd)) ∧ w'.cell? ⟨grk, a, none⟩ = some (.int .i64 (rk a)))) (ds := []) #[false, false, false, false, false, false, false, false, false, false, false, false, false, false, false, false, false, false, false, false, false, false] (by kernel_rfl) rfl rfl (⟨b0, b1, c5, ckh, cka⟩) (fun hHeld => ?_)
                refine pure_ (i := 0) (N := some 64) (v := ?_) (a' := ?_) #[true, false, false, false, false, false, false, false, false, false, false, false, false, false, false, false, false, false, false, false, false, false] rfl rfl (by kernel_rfl) (fun _ _ _ h => h) (Or.inl ⟨by rfl, ?_⟩) ?_ ?_
                rotate_left
                · intro w'
                  go_simp
                  with_reducible rfl
                rotate_left
                · simp only [Act.put, List.setIfInBounds_toArray, List.set_cons_zero, List.set_cons_succ, i64_w, i32_w]
                  rfl
                refine take_ (i := 1) (N := some 65) (v := ?_) (a' := ?_) #[true, true, false, false, false, false, false, false, false, false, false, false, false, false, false, false, false, false, false, false, false, false] rfl rfl (by kernel_rfl) (fun _ _ _ h => h) (Or.inl ⟨by rfl, ?_⟩) hHeld ?_ ?_
                rotate_left
                · rintro w' ⟨s0, s1, s2, s3, s4⟩
                  go_simp
                  with_reducible rfl
                rotate_left
                · simp only [Act.put, List.setIfInBounds_toArray, List.set_cons_zero, List.set_cons_succ, i64_w, i32_w]
                  rfl
                refine pure_ (i := 2) (N := some 66) (v := ?_) (a' := ?_) #[true, true, true, false, false, false, false, false, false, false, false, false, false, false, false, false, false, false, false, false, false, false] rfl rfl (by kernel_rfl) (fun _ _ _ h => h) (Or.inl ⟨by rfl, ?_⟩) ?_ ?_
                rotate_left
                · intro w'
                  go_simp
                  with_reducible rfl
                rotate_left
                · simp only [Act.put, List.setIfInBounds_toArray, List.set_cons_zero, List.set_cons_succ, i64_w, i32_w]
                  rfl
                refine pure_ (i := 3) (N := some 67) (v := ?_) (a' := ?_) #[true, true, true, true, false, false, false, false, false, false, false, false, false, false, false, false, false, false, false, false, false, false] rfl rfl (by kernel_rfl) (fun _ _ _ h => h) (Or.inl ⟨by rfl, ?_⟩) ?_ ?_
                rotate_left
                · intro w'
                  go_simp
                  with_reducible rfl
                rotate_left
                · simp only [Act.put, List.setIfInBounds_toArray, List.set_cons_zero, List.set_cons_succ, i64_w, i32_w]
                  rfl
                refine pure_ (i := 4) (N := some 68) (v := ?_) (a' := ?_) #[true, true, true, true, true, false, false, false, false, false, false, false, false, false, false, false, false, false, false, false, false, false] rfl rfl (by kernel_rfl) (fun _ _ _ h => h) (Or.inl ⟨by rfl, ?_⟩) ?_ ?_
                rotate_left
                · intro w'
                  go_simp
                  with_reducible rfl
                rotate_left
                · simp only [Act.put, List.setIfInBounds_toArray, List.set_cons_zero, List.set_cons_succ, i64_w, i32_w]
                  rfl
                refine pure_ (i := 5) (N := some 69) (v := ?_) (a' := ?_) #[true, true, true, true, true, true, false, false, false, false, false, false, false, false, false, false, false, false, false, false, false, false] rfl rfl (by kernel_rfl) (fun _ _ _ h => h) (Or.inl ⟨by rfl, ?_⟩) ?_ ?_
                rotate_left
                · intro w'
                  go_simp
                  with_reducible rfl
                rotate_left
                · simp only [Act.put, List.setIfInBounds_toArray, List.set_cons_zero, List.set_cons_succ, i64_w, i32_w]
                  rfl
                refine pure_ (i := 6) (N := some 70) (v := ?_) (a' := ?_) #[true, true, true, true, true, true, true, false, false, false, false, false, false, false, false, false, false, false, false, false, false, false] rfl rfl (by kernel_rfl) (fun _ _ _ h => h) (Or.inl ⟨by rfl, ?_⟩) ?_ ?_
                rotate_left
                · intro w'
                  go_simp
                  with_reducible rfl
                rotate_left
                · simp only [Act.put, List.setIfInBounds_toArray, List.set_cons_zero, List.set_cons_succ, i64_w, i32_w]
                  rfl
                refine take_ (i := 7) (N := some 71) (v := ?_) (a' := ?_) #[true, true, true, true, true, true, true, true, false, false, false, false, false, false, false, false, false, false, false, false, false, false] rfl rfl (by kernel_rfl) (fun _ _ _ h => h) (Or.inl ⟨by rfl, ?_⟩) hHeld ?_ ?_
                rotate_left
                · rintro w' ⟨s0, s1, s2, s3, s4⟩
                  go_simp
                  with_reducible rfl
                rotate_left
                · simp only [Act.put, List.setIfInBounds_toArray, List.set_cons_zero, List.set_cons_succ, i64_w, i32_w]
                  rfl
                refine pure_ (i := 8) (N := some 72) (v := ?_) (a' := ?_) #[true, true, true, true, true, true, true, true, true, false, false, false, false, false, false, false, false, false, false, false, false, false] rfl rfl (by kernel_rfl) (fun _ _ _ h => h) (Or.inl ⟨by rfl, ?_⟩) ?_ ?_
                rotate_left
                · intro w'
                  go_simp
                  with_reducible rfl
                rotate_left
                · simp only [Act.put, List.setIfInBounds_toArray, List.set_cons_zero, List.set_cons_succ, i64_w, i32_w]
                  rfl
                refine take_ (i := 9) (N := some 73) (v := ?_) (a' := ?_) #[true, true, true, true, true, true, true, true, true, true, false, false, false, false, false, false, false, false, false, false, false, false] rfl rfl (by kernel_rfl) (fun _ _ _ h => h) (Or.inl ⟨by rfl, ?_⟩) hHeld ?_ ?_
                rotate_left
                · rintro w' ⟨s0, s1, s2, s3, s4⟩
                  go_simp
                  with_reducible rfl
                rotate_left
                · simp only [Act.put, List.setIfInBounds_toArray, List.set_cons_zero, List.set_cons_succ, i64_w, i32_w]
                  rfl
                refine pure_ (i := 10) (N := some 74) (v := ?_) (a' := ?_) #[true, true, true, true, true, true, true, true, true, true, true, false, false, false, false, false, false, false, false, false, false, false] rfl rfl (by kernel_rfl) (fun _ _ _ h => h) (Or.inl ⟨by rfl, ?_⟩) ?_ ?_
                rotate_left
                · intro w'
                  go_simp
                  with_reducible rfl
                rotate_left
                · simp only [Act.put, List.setIfInBounds_toArray, List.set_cons_zero, List.set_cons_succ, i64_w, i32_w]
                  rfl
                refine take_ (i := 11) (N := some 75) (v := ?_) (a' := ?_) #[true, true, true, true, true, true, true, true, true, true, true, true, false, false, false, false, false, false, false, false, false, false] rfl rfl (by kernel_rfl) (fun _ _ _ h => h) (Or.inl ⟨by rfl, ?_⟩) hHeld ?_ ?_
                rotate_left
                · rintro w' ⟨s0, s1, s2, s3, s4⟩
                  go_simp
                  with_reducible rfl
                rotate_left
                · simp only [Act.put, List.setIfInBounds_toArray, List.set_cons_zero, List.set_cons_succ, i64_w, i32_w]
                  rfl
                refine pure_ (i := 12) (N := some 76) (v := ?_) (a' := ?_) #[true, true, true, true, true, true, true, true, true, true, true, true, true, false, false, false, false, false, false, false, false, false] rfl rfl (by kernel_rfl) (fun _ _ _ h => h) (Or.inl ⟨by rfl, ?_⟩) ?_ ?_
                rotate_left
                · intro w'
                  go_simp
                  with_reducible rfl
                rotate_left
                · simp only [Act.put, List.setIfInBounds_toArray, List.set_cons_zero, List.set_cons_succ, i64_w, i32_w]
                  rfl
                refine pure_ (i := 13) (N := some 77) (v := ?_) (a' := ?_) #[true, true, true, true, true, true, true, true, true, true, true, true, true, true, false, false, false, false, false, false, false, false] rfl rfl (by kernel_rfl) (fun _ _ _ h => h) (Or.inl ⟨by rfl, ?_⟩) ?_ ?_
                rotate_left
                · intro w'
                  go_simp
                  with_reducible rfl
                rotate_left
                · simp only [Act.put, List.setIfInBounds_toArray, List.set_cons_zero, List.set_cons_succ, i64_w, i32_w]
                  rfl
                refine pure_ (i := 14) (N := some 78) (v := ?_) (a' := ?_) #[true, true, true, true, true, true, true, true, true, true, true, true, true, true, true, false, false, false, false, false, false, false] rfl rfl (by kernel_rfl) (fun _ _ _ h => h) (Or.inl ⟨by rfl, ?_⟩) ?_ ?_
                rotate_left
                · intro w'
                  go_simp
                  with_reducible rfl
                rotate_left
                · simp only [Act.put, List.setIfInBounds_toArray, List.set_cons_zero, List.set_cons_succ, i64_w, i32_w]
                  rfl
                refine take_ (i := 15) (N := some 79) (v := ?_) (a' := ?_) #[true, true, true, true, true, true, true, true, true, true, true, true, true, true, true, true, false, false, false, false, false, false] rfl rfl (by kernel_rfl) (fun _ _ _ h => h) (Or.inl ⟨by rfl, ?_⟩) hHeld ?_ ?_
                rotate_left
                · rintro w' ⟨s0, s1, s2, s3, s4⟩
                  go_simp
                  with_reducible rfl
                rotate_left
                · simp only [Act.put, List.setIfInBounds_toArray, List.set_cons_zero, List.set_cons_succ, i64_w, i32_w]
                  rfl
                refine pure_ (i := 16) (N := some 80) (v := ?_) (a' := ?_) #[true, true, true, true, true, true, true, true, true, true, true, true, true, true, true, true, true, false, false, false, false, false] rfl rfl (by kernel_rfl) (fun _ _ _ h => h) (Or.inl ⟨by rfl, ?_⟩) ?_ ?_
                rotate_left
                · intro w'
                  go_simp
                  with_reducible rfl
                rotate_left
                · simp only [Act.put, List.setIfInBounds_toArray, List.set_cons_zero, List.set_cons_succ, i64_w, i32_w]
                  rfl
                refine pure_ (i := 17) (N := some 81) (v := ?_) (a' := ?_) #[true, true, true, true, true, true, true, true, true, true, true, true, true, true, true, true, true, true, false, false, false, false] rfl rfl (by kernel_rfl) (fun _ _ _ h => h) (Or.inl ⟨by rfl, ?_⟩) ?_ ?_
                rotate_left
                · intro w'
                  go_simp
                  with_reducible rfl
                rotate_left
                · simp only [Act.put, List.setIfInBounds_toArray, List.set_cons_zero, List.set_cons_succ, i64_w, i32_w]
                  rfl
                refine take_ (i := 18) (N := some 82) (v := ?_) (a' := ?_) #[true, true, true, true, true, true, true, true, true, true, true, true, true, true, true, true, true, true, true, false, false, false] rfl rfl (by kernel_rfl) (fun _ _ _ h => h) (Or.inl ⟨by rfl, ?_⟩) hHeld ?_ ?_
                rotate_left
                · rintro w' ⟨s0, s1, s2, s3, s4⟩
                  go_simp
                  with_reducible rfl
                rotate_left
                · simp only [Act.put, List.setIfInBounds_toArray, List.set_cons_zero, List.set_cons_succ, i64_w, i32_w]
                  rfl
                refine pure_ (i := 19) (N := some 83) (v := ?_) (a' := ?_) #[true, true, true, true, true, true, true, true, true, true, true, true, true, true, true, true, true, true, true, true, false, false] rfl rfl (by kernel_rfl) (fun _ _ _ h => h) (Or.inl ⟨by rfl, ?_⟩) ?_ ?_
                rotate_left
                · intro w'
                  go_simp
                  with_reducible rfl
                rotate_left
                · simp only [Act.put, List.setIfInBounds_toArray, List.set_cons_zero, List.set_cons_succ, i64_w, i32_w]
                  rfl
                refine pure_ (i := 20) (N := some 84) (v := ?_) (a' := ?_) #[true, true, true, true, true, true, true, true, true, true, true, true, true, true, true, true, true, true, true, true, true, false] rfl rfl (by kernel_rfl) (fun _ _ _ h => h) (Or.inl ⟨by rfl, ?_⟩) ?_ ?_
                rotate_left
                · intro w'
                  go_simp
                  with_reducible rfl
                rotate_left
                · simp only [Act.put, List.setIfInBounds_toArray, List.set_cons_zero, List.set_cons_succ, i64_w, i32_w]
                  rfl
                refine pure_ (i := 21) (N := some 85) (v := ?_) (a' := ?_) #[true, true, true, true, true, true, true, true, true, true, true, true, true, true, true, true, true, true, true, true, true, true] rfl rfl (by kernel_rfl) (fun _ _ _ h => h) (Or.inl ⟨by rfl, ?_⟩) ?_ ?_
                rotate_left
                · intro w'
                  go_simp
                  with_reducible rfl
                rotate_left
                · simp only [Act.put, List.setIfInBounds_toArray, List.set_cons_zero, List.set_cons_succ, i64_w, i32_w]
                  rfl
                refine done_ (by kernel_rfl) ?_
                skip
                go_wp2
                go_roundg q1
                case measure => omega
                case rel => exact ⟨bump s1 a, HQ2, HSB, ⟨HBUMP.out.drew⟩, ⟨kept_drew (kept_cell HB6.out (HI.out.vn gn (by rw [HF.out.n]; rfl)) _ _)⟩, ⟨by have := HLE.out; omega⟩⟩
              · have hrm : rk hd = rk a + 1 := Decidable.byContradiction rm
                rw [if_neg (by rintro (h | h); exact l0 h; exact rm h)] at hq
                have HQR := Aside0.mk hq
                have drm : (rk hd == rk a + 1) = true := by simp [hrm]
                clear hq
                refine start_ (n := 22) (S := (fun w' => w'.cell? ⟨bx, 0, none⟩ = some (.int .i64 (hd : Int)) ∧ w'.cell? ⟨bx, 1, none⟩ = some (.int .i64 lp) ∧ w'.cell? ⟨g, 5, none⟩ = some (.slice (some ⟨grk, 0, none⟩) N.n crk) ∧ w'.cell? ⟨grk, hd, none⟩ = some (.int .i64 (rk hd)) ∧ w'.cell? ⟨grk, a, none⟩ = some (.int .i64 (rk a)))) (ds := []) #[false, false, false, false, false, false, false, false, false, false, false, false, false, false, false, false, false, false, false, false, false, false] (by kernel_rfl) rfl rfl (⟨b0, b1, c5, ckh, cka⟩) (fun hHeld => ?_)
                refine pure_ (i := 0) (N := some 64) (v := ?_) (a' := ?_) #[true, false, false, false, false, false, false, false, false, false, false, false, false, false, false, false, false, false, false, false, false, false] rfl rfl (by kernel_rfl) (fun _ _ _ h => h) (Or.inl ⟨by rfl, ?_⟩) ?_ ?_
                rotate_left
                · intro w'
                  go_simp
                  with_reducible rfl
                rotate_left
                · simp only [Act.put, List.setIfInBounds_toArray, List.set_cons_zero, List.set_cons_succ, i64_w, i32_w]
                  rfl
                refine take_ (i := 1) (N := some 65) (v := ?_) (a' := ?_) #[true, true, false, false, false, false, false, false, false, false, false, false, false, false, false, false, false, false, false, false, false, false] rfl rfl (by kernel_rfl) (fun _ _ _ h => h) (Or.inl ⟨by rfl, ?_⟩) hHeld ?_ ?_
                rotate_left
                · rintro w' ⟨s0, s1, s2, s3, s4⟩
                  go_simp
                  with_reducible rfl
                rotate_left
                · simp only [Act.put, List.setIfInBounds_toArray, List.set_cons_zero, List.set_cons_succ, i64_w, i32_w]
                  rfl
                refine pure_ (i := 2) (N := some 66) (v := ?_) (a' := ?_) #[true, true, true, false, false, false, false, false, false, false, false, false, false, false, false, false, false, false, false, false, false, false] rfl rfl (by kernel_rfl) (fun _ _ _ h => h) (Or.inl ⟨by rfl, ?_⟩) ?_ ?_
                rotate_left
                · intro w'
                  go_simp
                  with_reducible rfl
                rotate_left
                · simp only [Act.put, List.setIfInBounds_toArray, List.set_cons_zero, List.set_cons_succ, i64_w, i32_w]
                  rfl
                refine pure_ (i := 3) (N := some 67) (v := ?_) (a' := ?_) #[true, true, true, true, false, false, false, false, false, false, false, false, false, false, false, false, false, false, false, false, false, false] rfl rfl (by kernel_rfl) (fun _ _ _ h => h) (Or.inl ⟨by rfl, ?_⟩) ?_ ?_
                rotate_left
                · intro w'
                  go_simp
                  with_reducible rfl
                rotate_left
                · simp only [Act.put, List.setIfInBounds_toArray, List.set_cons_zero, List.set_cons_succ, i64_w, i32_w]
                  rfl
                refine pure_ (i := 4) (N := some 68) (v := ?_) (a' := ?_) #[true, true, true, true, true, false, false, false, false, false, false, false, false, false, false, false, false, false, false, false, false, false] rfl rfl (by kernel_rfl) (fun _ _ _ h => h) (Or.inl ⟨by rfl, ?_⟩) ?_ ?_
                rotate_left
                · intro w'
                  go_simp
                  with_reducible rfl
                rotate_left
                · simp only [Act.put, List.setIfInBounds_toArray, List.set_cons_zero, List.set_cons_succ, i64_w, i32_w]
                  rfl
                refine pure_ (i := 5) (N := some 69) (v := ?_) (a' := ?_) #[true, true, true, true, true, true, false, false, false, false, false, false, false, false, false, false, false, false, false, false, false, false] rfl rfl (by kernel_rfl) (fun _ _ _ h => h) (Or.inl ⟨by rfl, ?_⟩) ?_ ?_
                rotate_left
                · intro w'
                  go_simp
                  with_reducible rfl
                rotate_left
                · simp only [Act.put, List.setIfInBounds_toArray, List.set_cons_zero, List.set_cons_succ, i64_w, i32_w]
                  rfl
                refine pure_ (i := 6) (N := some 70) (v := ?_) (a' := ?_) #[true, true, true, true, true, true, true, false, false, false, false, false, false, false, false, false, false, false, false, false, false, false] rfl rfl (by kernel_rfl) (fun _ _ _ h => h) (Or.inl ⟨by rfl, ?_⟩) ?_ ?_
                rotate_left
                · intro w'
                  go_simp
                  with_reducible rfl
                rotate_left
                · simp only [Act.put, List.setIfInBounds_toArray, List.set_cons_zero, List.set_cons_succ, i64_w, i32_w]
                  rfl
                refine take_ (i := 7) (N := some 71) (v := ?_) (a' := ?_) #[true, true, true, true, true, true, true, true, false, false, false, false, false, false, false, false, false, false, false, false, false, false] rfl rfl (by kernel_rfl) (fun _ _ _ h => h) (Or.inl ⟨by rfl, ?_⟩) hHeld ?_ ?_
                rotate_left
                · rintro w' ⟨s0, s1, s2, s3, s4⟩
                  go_simp
                  with_reducible rfl
                rotate_left
                · simp only [Act.put, List.setIfInBounds_toArray, List.set_cons_zero, List.set_cons_succ, i64_w, i32_w]
                  rfl
                refine pure_ (i := 8) (N := some 72) (v := ?_) (a' := ?_) #[true, true, true, true, true, true, true, true, true, false, false, false, false, false, false, false, false, false, false, false, false, false] rfl rfl (by kernel_rfl) (fun _ _ _ h => h) (Or.inl ⟨by rfl, ?_⟩) ?_ ?_
                rotate_left
                · intro w'
                  go_simp
                  with_reducible rfl
                rotate_left
                · simp only [Act.put, List.setIfInBounds_toArray, List.set_cons_zero, List.set_cons_succ, i64_w, i32_w]
                  rfl
                refine take_ (i := 9) (N := some 73) (v := ?_) (a' := ?_) #[true, true, true, true, true, true, true, true, true, true, false, false, false, false, false, false, false, false, false, false, false, false] rfl rfl (by kernel_rfl) (fun _ _ _ h => h) (Or.inl ⟨by rfl, ?_⟩) hHeld ?_ ?_
                rotate_left
                · rintro w' ⟨s0, s1, s2, s3, s4⟩
                  go_simp
                  with_reducible rfl
                rotate_left
                · simp only [Act.put, List.setIfInBounds_toArray, List.set_cons_zero, List.set_cons_succ, i64_w, i32_w]
                  rfl
                refine pure_ (i := 10) (N := some 74) (v := ?_) (a' := ?_) #[true, true, true, true, true, true, true, true, true, true, true, false, false, false, false, false, false, false, false, false, false, false] rfl rfl (by kernel_rfl) (fun _ _ _ h => h) (Or.inl ⟨by rfl, ?_⟩) ?_ ?_
                rotate_left
                · intro w'
                  go_simp
                  with_reducible rfl
                rotate_left
                · simp only [Act.put, List.setIfInBounds_toArray, List.set_cons_zero, List.set_cons_succ, i64_w, i32_w]
                  rfl
                refine take_ (i := 11) (N := some 75) (v := ?_) (a' := ?_) #[true, true, true, true, true, true, true, true, true, true, true, true, false, false, false, false, false, false, false, false, false, false] rfl rfl (by kernel_rfl) (fun _ _ _ h => h) (Or.inl ⟨by rfl, ?_⟩) hHeld ?_ ?_
                rotate_left
                · rintro w' ⟨s0, s1, s2, s3, s4⟩
                  go_simp
                  with_reducible rfl
                rotate_left
                · simp only [Act.put, List.setIfInBounds_toArray, List.set_cons_zero, List.set_cons_succ, i64_w, i32_w]
                  rfl
                refine pure_ (i := 12) (N := some 76) (v := ?_) (a' := ?_) #[true, true, true, true, true, true, true, true, true, true, true, true, true, false, false, false, false, false, false, false, false, false] rfl rfl (by kernel_rfl) (fun _ _ _ h => h) (Or.inl ⟨by rfl, ?_⟩) ?_ ?_
                rotate_left
                · intro w'
                  go_simp
                  with_reducible rfl
                rotate_left
                · simp only [Act.put, List.setIfInBounds_toArray, List.set_cons_zero, List.set_cons_succ, i64_w, i32_w]
                  rfl
                refine pure_ (i := 13) (N := some 77) (v := ?_) (a' := ?_) #[true, true, true, true, true, true, true, true, true, true, true, true, true, true, false, false, false, false, false, false, false, false] rfl rfl (by kernel_rfl) (fun _ _ _ h => h) (Or.inl ⟨by rfl, ?_⟩) ?_ ?_
                rotate_left
                · intro w'
                  go_simp
                  with_reducible rfl
                rotate_left
                · simp only [Act.put, List.setIfInBounds_toArray, List.set_cons_zero, List.set_cons_succ, i64_w, i32_w]
                  rfl
                refine pure_ (i := 14) (N := some 78) (v := ?_) (a' := ?_) #[true, true, true, true, true, true, true, true, true, true, true, true, true, true, true, false, false, false, false, false, false, false] rfl rfl (by kernel_rfl) (fun _ _ _ h => h) (Or.inl ⟨by rfl, ?_⟩) ?_ ?_
                rotate_left
                · intro w'
                  go_simp
                  with_reducible rfl
                rotate_left
                · simp only [Act.put, List.setIfInBounds_toArray, List.set_cons_zero, List.set_cons_succ, i64_w, i32_w]
                  rfl
                refine take_ (i := 15) (N := some 79) (v := ?_) (a' := ?_) #[true, true, true, true, true, true, true, true, true, true, true, true, true, true, true, true, false, false, false, false, false, false] rfl rfl (by kernel_rfl) (fun _ _ _ h => h) (Or.inl ⟨by rfl, ?_⟩) hHeld ?_ ?_
                rotate_left
                · rintro w' ⟨s0, s1, s2, s3, s4⟩
                  go_simp
                  with_reducible rfl
                rotate_left
                · simp only [Act.put, List.setIfInBounds_toArray, List.set_cons_zero, List.set_cons_succ, i64_w, i32_w]
                  rfl
                refine pure_ (i := 16) (N := some 80) (v := ?_) (a' := ?_) #[true, true, true, true, true, true, true, true, true, true, true, true, true, true, true, true, true, false, false, false, false, false] rfl rfl (by kernel_rfl) (fun _ _ _ h => h) (Or.inl ⟨by rfl, ?_⟩) ?_ ?_
                rotate_left
                · intro w'
                  go_simp
                  with_reducible rfl
                rotate_left
                · simp only [Act.put, List.setIfInBounds_toArray, List.set_cons_zero, List.set_cons_succ, i64_w, i32_w]
                  rfl
                refine pure_ (i := 17) (N := some 81) (v := ?_) (a' := ?_) #[true, true, true, true, true, true, true, true, true, true, true, true, true, true, true, true, true, true, false, false, false, false] rfl rfl (by kernel_rfl) (fun _ _ _ h => h) (Or.inl ⟨by rfl, ?_⟩) ?_ ?_
                rotate_left
                · intro w'
                  go_simp
                  with_reducible rfl
                rotate_left
                · simp only [Act.put, List.setIfInBounds_toArray, List.set_cons_zero, List.set_cons_succ, i64_w, i32_w]
                  rfl
                refine take_ (i := 18) (N := some 82) (v := ?_) (a' := ?_) #[true, true, true, true, true, true, true, true, true, true, true, true, true, true, true, true, true, true, true, false, false, false] rfl rfl (by kernel_rfl) (fun _ _ _ h => h) (Or.inl ⟨by rfl, ?_⟩) hHeld ?_ ?_
                rotate_left
                · rintro w' ⟨s0, s1, s2, s3, s4⟩
                  go_simp
                  with_reducible rfl
                rotate_left
                · simp only [Act.put, List.setIfInBounds_toArray, List.set_cons_zero, List.set_cons_succ, i64_w, i32_w]
                  rfl
                refine pure_ (i := 19) (N := some 83) (v := ?_) (a' := ?_) #[true, true, true, true, true, true, true, true, true, true, true, true, true, true, true, true, true, true, true, true, false, false] rfl rfl (by kernel_rfl) (fun _ _ _ h => h) (Or.inl ⟨by rfl, ?_⟩) ?_ ?_
                rotate_left
                · intro w'
                  go_simp
                  with_reducible rfl
                rotate_left
                · simp only [Act.put, List.setIfInBounds_toArray, List.set_cons_zero, List.set_cons_succ, i64_w, i32_w]
                  rfl
                refine pure_ (i := 20) (N := some 84) (v := ?_) (a' := ?_) #[true, true, true, true, true, true, true, true, true, true, true, true, true, true, true, true, true, true, true, true, true, false] rfl rfl (by kernel_rfl) (fun _ _ _ h => h) (Or.inl ⟨by rfl, ?_⟩) ?_ ?_
                rotate_left
                · intro w'
                  go_simp
                  with_reducible rfl
                rotate_left
                · simp only [Act.put, List.setIfInBounds_toArray, List.set_cons_zero, List.set_cons_succ, i64_w, i32_w]
                  rfl
                refine pure_ (i := 21) (N := some 85) (v := ?_) (a' := ?_) #[true, true, true, true, true, true, true, true, true, true, true, true, true, true, true, true, true, true, true, true, true, true] rfl rfl (by kernel_rfl) (fun _ _ _ h => h) (Or.inl ⟨by rfl, ?_⟩) ?_ ?_
                rotate_left
                · intro w'
                  go_simp
                  with_reducible rfl
                rotate_left
                · simp only [Act.put, List.setIfInBounds_toArray, List.set_cons_zero, List.set_cons_succ, i64_w, i32_w]
                  rfl
                refine done_ (by kernel_rfl) ?_
                skip
                have hlp0 : 0 < lp := by
                  have := HS1.out.fit.nn hpm
                  rw [HLP.out] at this; omega
                have hlp1 : lp ≤ 1000000 := by
                  have := Fit.le HN.out HS1.out.fit hpm
                  rw [HLP.out] at this; exact this
                cases hrec : push N rk t q1 s1 hd (min m lp) with
                | none =>
                  have := HQR.out
                  rw [hrec] at this; cases this
                | some y =>
                  obtain ⟨s2, r2⟩ := y
                  have hq := HQR.out
                  rw [hrec] at hq
                  replace hq : (if r2 > 0 then some (⟨shift s2.L p r2, s2.nx⟩, r2) else push N rk t q1 (bump s2 a) a m) = some (s', r) := hq
                  have hmp : 0 < min m lp := by have := HM.out.1; omega
                  have HPD := Aside0.mk (push_some HN.out HRK.out hrec HS1.out hhn hmp)
                  have hcall := Aside0.mk (IH.out q1 (by have := HLE.out; have := HK0.out; omega) s1 hd (min m lp) s2 r2 w6.drew V cut hrec HS1.out hhn hmp (by have := HM.out.2; omega) HA6.out.drew HI.out (kept_drew HB6.out |>.up HU.out))
                  have HRC := Aside0.mk hrec
                  have HQ3 := Aside0.mk hq
                  have hsame : s2.L p = lp := by
                    rw [← HLP.out]
                    apply Decidable.byContradiction
                    intro h
                    have := (HPD.out.arcs p hpm h).1
                    rw [HPT.out] at this; omega
                  clear hq HQR hrec
                  by_cases hml : m ≤ lp
                  · rw [show min m lp = m by omega] at hcall HPD HRC
                    go_wp2_with fail
                    refine hcall.out.mono ?_
                    rintro e w8 ⟨rfl, hA8, hB8⟩
                    have HA8 := Aside0.mk hA8
                    have HB8 := Aside0.mk ((kept_drew HB6.out).trans hB8)
                    clear hA8 hB8 hcall c5 c6 cnx fnx cka ckh b0 b1
                    have hr2 : 0 ≤ r2 ∧ r2 ≤ 1000000 := by
                      have h1 := HPD.out.nn
                      have h2 := HPD.out.le
                      omega
                    by_cases hr : r2 > 0
                    · have hq := HQ3.out
                      rw [if_pos hr] at hq
                      injection hq with hq
                      injection hq with e1 e2
                      subst e1 e2
                      have hdr : decide (r2 > 0) = true := decide_eq_true hr
                      obtain ⟨ga2, ca2, hva2, c2b, harc2⟩ := arc_cells HA8.out hpm
                      obtain ⟨_, aL, fL⟩ := harc2 p hpm
                      have htm := twin_lt hpm
                      have htn := twin_ne p
                      have hA9 := HA8.out.setL hva2 p (s2.L p - r2)
                      obtain ⟨_, aT, fT⟩ := harc2 (twin p) htm
                      have hfit := HPD.out.srch.fit.nn hpm
                      have hfl := Fit.le HN.out HPD.out.srch.fit htm
                      have hA10 := hA9.setL hva2 (twin p) (s2.L (twin p) + r2)
                      have hsh : (fun j => if j = twin p then s2.L (twin p) + r2 else (fun j => if j = p then s2.L p - r2 else s2.L j) j) = shift s2.L p r2 := funext fun j => by
                        show (if j = twin p then s2.L (twin p) + r2 else if j = p then s2.L p - r2 else s2.L j) = if j = p then s2.L p - r2 else if j = twin p then s2.L (twin p) + r2 else s2.L j
                        by_cases e1 : j = p
                        · rw [if_pos e1, if_neg (fun h => htn (by rw [← h, e1])), if_pos e1]
                        · rw [if_neg e1, if_neg e1]
                      rw [hsh, hsame] at hA10
                      have HA10 := Aside0.mk hA10
                      have HGB := Aside0.mk (HI.out.va ga2 (by rw [hva2]; rfl))
                      have HTX := Aside0.mk (xor_twin p (by have := HN.out.few; omega))
                      have hwa : wrap64 (s2.L p - r2) = s2.L p - r2 := by unfold wrap64; omega
                      have hwb : wrap64 (s2.L (twin p) + r2) = s2.L (twin p) + r2 := by unfold wrap64; omega
                      have hptz : (twin p : Int) < 2 * (N.m : Int) := by omega
                      have hx := HTX.out
                      clear hA9 hA10 harc2 hsh
                      go_wp2
                      go_ret
                      exact ⟨rfl, HA10.out, kept_cell (kept_cell HB8.out HGB.out _ _) HGB.out _ _⟩
                    · have hr0 : r2 = 0 := by omega
                      have hdr : decide (r2 > 0) = false := decide_eq_false hr
                      have hq := HQ3.out
                      rw [if_neg hr] at hq
                      have HQ4 := Aside0.mk hq
                      obtain ⟨hLs, hdd⟩ := HPD.out.dry hr0
                      have hnx : s2.nx a = j := by rw [← HJ.out]; exact HPD.out.low a (by omega)
                      have HSB := Aside0.mk (srch_bump HPD.out.srch (a := a) (by rw [hnx]; exact c2) (by rw [hnx, HPQ.out, HHD.out]; exact .inr (.inr hdd)))
                      have HBUMP := Aside0.mk (net_bump HA8.out HF.out.n a)
                      rw [hnx] at HBUMP
                      have hC := cells HA8.out HF.out
                      have c6 := hC.c6
                      have cnx := (hC.nx a ha).1
                      have fnx := (hC.nx a ha).2
                      rw [hnx] at cnx
                      clear hC hq hLs hdd
                      go_wp2
                      go_roundg q1
                      case measure => omega
                      case rel => exact ⟨bump s2 a, HQ4, HSB, HBUMP, ⟨kept_cell HB8.out (HI.out.vn gn (by rw [HF.out.n]; rfl)) _ _⟩, ⟨by have := HLE.out; omega⟩⟩
                  · rw [show min m lp = lp by omega] at hcall HPD HRC
                    go_wp2_with fail
                    refine hcall.out.mono ?_
                    rintro e w8 ⟨rfl, hA8, hB8⟩
                    have HA8 := Aside0.mk hA8
                    have HB8 := Aside0.mk ((kept_drew HB6.out).trans hB8)
                    clear hA8 hB8 hcall c5 c6 cnx fnx cka ckh b0 b1
                    have hr2 : 0 ≤ r2 ∧ r2 ≤ 1000000 := by
                      have h1 := HPD.out.nn
                      have h2 := HPD.out.le
                      omega
                    by_cases hr : r2 > 0
                    · have hq := HQ3.out
                      rw [if_pos hr] at hq
                      injection hq with hq
                      injection hq with e1 e2
                      subst e1 e2
                      have hdr : decide (r2 > 0) = true := decide_eq_true hr
                      obtain ⟨ga2, ca2, hva2, c2b, harc2⟩ := arc_cells HA8.out hpm
                      obtain ⟨_, aL, fL⟩ := harc2 p hpm
                      have htm := twin_lt hpm
                      have htn := twin_ne p
                      have hA9 := HA8.out.setL hva2 p (s2.L p - r2)
                      obtain ⟨_, aT, fT⟩ := harc2 (twin p) htm
                      have hfit := HPD.out.srch.fit.nn hpm
                      have hfl := Fit.le HN.out HPD.out.srch.fit htm
                      have hA10 := hA9.setL hva2 (twin p) (s2.L (twin p) + r2)
                      have hsh : (fun j => if j = twin p then s2.L (twin p) + r2 else (fun j => if j = p then s2.L p - r2 else s2.L j) j) = shift s2.L p r2 := funext fun j => by
                        show (if j = twin p then s2.L (twin p) + r2 else if j = p then s2.L p - r2 else s2.L j) = if j = p then s2.L p - r2 else if j = twin p then s2.L (twin p) + r2 else s2.L j
                        by_cases e1 : j = p
                        · rw [if_pos e1, if_neg (fun h => htn (by rw [← h, e1])), if_pos e1]
                        · rw [if_neg e1, if_neg e1]
                      rw [hsh, hsame] at hA10
                      have HA10 := Aside0.mk hA10
                      have HGB := Aside0.mk (HI.out.va ga2 (by rw [hva2]; rfl))
                      have HTX := Aside0.mk (xor_twin p (by have := HN.out.few; omega))
                      have hwa : wrap64 (s2.L p - r2) = s2.L p - r2 := by unfold wrap64; omega
                      have hwb : wrap64 (s2.L (twin p) + r2) = s2.L (twin p) + r2 := by unfold wrap64; omega
                      have hptz : (twin p : Int) < 2 * (N.m : Int) := by omega
                      have hx := HTX.out
                      clear hA9 hA10 harc2 hsh
                      go_wp2
                      go_ret
                      exact ⟨rfl, HA10.out, kept_cell (kept_cell HB8.out HGB.out _ _) HGB.out _ _⟩
                    · have hr0 : r2 = 0 := by omega
                      have hdr : decide (r2 > 0) = false := decide_eq_false hr
                      have hq := HQ3.out
                      rw [if_neg hr] at hq
                      have HQ4 := Aside0.mk hq
                      obtain ⟨hLs, hdd⟩ := HPD.out.dry hr0
                      have hnx : s2.nx a = j := by rw [← HJ.out]; exact HPD.out.low a (by omega)
                      have HSB := Aside0.mk (srch_bump HPD.out.srch (a := a) (by rw [hnx]; exact c2) (by rw [hnx, HPQ.out, HHD.out]; exact .inr (.inr hdd)))
                      have HBUMP := Aside0.mk (net_bump HA8.out HF.out.n a)
                      rw [hnx] at HBUMP
                      have hC := cells HA8.out HF.out
                      have c6 := hC.c6
                      have cnx := (hC.nx a ha).1
                      have fnx := (hC.nx a ha).2
                      rw [hnx] at cnx
                      clear hC hq hLs hdd
                      go_wp2
                      go_roundg q1
                      case measure => omega
                      case rel => exact ⟨bump s2 a, HQ4, HSB, HBUMP, ⟨kept_cell HB8.out (HI.out.vn gn (by rw [HF.out.n]; rfl)) _ _⟩, ⟨by have := HLE.out; omega⟩⟩
end Go.Proofs.Ytffghdbhjjfnlaa.F
end
section
/-
  flow.Net: ranks.
-/
namespace Go.Proofs.Ytffghdbhjjfnlaa.F
open Go.RowKit Go.Proofs.YtffghdbhjjfnlaaW.PrintWords Go.Proofs.YtffghdbhjjfnlaaW.PrintLast Go.Proofs.YtffghdbhjjfnlaaW.PrintMore
set_option linter.unusedVariables false
set_option linter.unusedSimpArgs false
theorem info3 : (Try.prog.info? 3).map (fun i => (i.zero, i.size, i.bytes)) = some (some (.int .i64 0), 1, 8) := by kernel_rfl
def fillK (n k : Nat) : List Int := rowN n (fun i => if i < k then -1 else 0)
theorem fillK_zero (n : Nat) : fillK n 0 = List.replicate n 0 := by
  unfold fillK rowN
  refine List.ext_getElem (by simp) (fun i h1 h2 => by simp)
theorem fillK_set (n k : Nat) : (fillK n k).set k (-1) = fillK n (k + 1) := by
  unfold fillK
  rw [rowN_set]
  refine rowN_congr fun i _ => ?_
  by_cases c : i = k
  · rw [if_pos c, if_pos (by omega)]
  · rw [if_neg c]
    by_cases c2 : i < k
    · rw [if_pos c2, if_pos (by omega)]
    · rw [if_neg c2, if_neg (by omega)]
theorem fillK_root (N : Net) (f : Nat) : (fillK N.n N.n).set f 0 = rkL N (rk0 f) := by
  unfold fillK rkL
  rw [rowN_set]
  refine rowN_congr fun i hi => ?_
  unfold rk0
  by_cases c : i = f
  · rw [if_pos c, if_pos c]
  · rw [if_neg c, if_neg c, if_pos hi]
def ints (row : List Nat) : List Int := row.map fun (k : Nat) => (k : Int)
set_option maxRecDepth 100000 in
set_option maxHeartbeats 4000000 in
theorem ranks_calls {N : Net} (hN : N.Ok) {L : Nat → Int} {f : Nat} (hf : f < N.n) {kf : Nat} {r : Nat → Int} (hr : ranks N L f kf = some r) {w : World} {base g : Nat} {V : Vs} {cut : List Bool} {rank next : List Int} (hA : NetAt w base g N L V cut rank next) :
    Calls Try.prog 22 #[.pointer (some ⟨g, 0, none⟩), .int .i64 (f : Int)] w fun e w' => ∃ v, e = .returned v ∧ w'.ownsRow w.heap.size 3 1 v N.n (nums .i64 (rkL N r)) ∧ Below w.heap.size w w' := by
  have HN := Aside0.mk hN
  have HA := Aside0.mk hA
  have HR := Aside0.mk hr
  have hle : N.n ≤ 1000 := hN.le
  have hmk := print_make (P := Try.prog) 49 3 .i64 8 Try.underlying49 info3 (by decide) N.n (by omega)
  have c0 : w.cell? ⟨g, 0, none⟩ = some (.int .i64 N.n) := (hA.cell 0).trans rfl
  clear hA hr
  go_enter Try.func22, Try.ntmps22
  go_wp2
  obtain ⟨gr, hgr⟩ : ∃ b, w.heap.size = b := ⟨_, rfl⟩
  have HGR := Aside0.mk hgr
  simp only [hgr]
  go_loopg [19] N.n (fun q i wr => ∃ k : Nat, Aside0 (k + q = N.n) ∧ i = .int .i64 k ∧ Aside0 (wr.ownsRow gr 3 1 (.slice (some ⟨gr, 0, none⟩) N.n N.n) N.n (nums .i64 (fillK N.n k))) ∧ Aside0 (Below gr w wr))
  case atStart =>
    refine ⟨0, ⟨by omega⟩, rfl, ⟨?_⟩, ⟨?_⟩⟩
    · rw [fillK_zero]
      have := own_made w w.heap.size 3 .i64 N.n (Nat.le_refl _) (by omega)
      rw [hgr] at this
      simpa using this
    · have := below_alloc (Below.refl w.heap.size w) (Obj.cells (madeCells #[.int .i64 0] N.n) 3)
      rw [hgr] at this; exact this
  case round =>
    obtain ⟨k, HK, rfl, HO, HB⟩ := hrel
    by_cases hlt : k < N.n
    · obtain ⟨hcell, hfr⟩ := own_at HO.out (k : Int) (by omega) (by omega)
      rw [Int.toNat_natCast] at hcell hfr
      have hst := own_store HO.out (k : Int) (-1)
      rw [Int.toNat_natCast, fillK_set] at hst
      have HST := Aside0.mk hst.1
      clear hst
      have hw1 := wrap_succ (n := N.n) (by omega) hlt
      go_wp2
      go_roundg (gk - 1)
      case measure => exact pred_lt HK hlt
      case rel => exact ⟨k + 1, next_eq HK hlt, by first | rfl | go_num, HST, ⟨below_cell HB.out (Nat.le_refl _) _ _⟩⟩
    · obtain ⟨nn, hnn⟩ : ∃ nn, N.n = nn := ⟨_, rfl⟩
      have hkn : k = N.n := by have := HK.out; omega
      subst hkn
      obtain ⟨hcell, hfr⟩ := own_at HO.out (f : Int) (by omega) (by omega)
      rw [Int.toNat_natCast] at hcell hfr
      have hst := own_store HO.out (f : Int) 0
      rw [Int.toNat_natCast, fillK_root] at hst
      have HST := Aside0.mk hst.1
      clear hst HK hlt hnn
      go_wp2
      have hgs : gr < wr.heap.size := by
        obtain ⟨cells, hc⟩ := own_typed HO.out gr rfl
        exact blk_lt hc
      obtain ⟨w1, hw1⟩ : ∃ w1, (wr.setCell ⟨gr, f, none⟩ (.int .i64 0)).alloc (Obj.cells #[Value.int .i64 (f : Int)] 3) = w1 := ⟨_, rfl⟩
      have hsz : (wr.setCell ⟨gr, f, none⟩ (.int .i64 0)).heap.size = wr.heap.size := by simp [World.setCell]
      have HB1 : Aside0 (Below gr w w1) := ⟨by rw [← hw1]; exact (below_cell HB.out (Nat.le_refl _) _ _).alloc (by rw [hsz]; omega) _⟩
      have HO1 : Aside0 (w1.ownsRow gr 3 1 (.slice (some ⟨gr, 0, none⟩) N.n N.n) N.n (nums .i64 (rkL N (rk0 f)))) := ⟨by
        rw [← hw1]; exact own_move HST.out fun q hq => (below_alloc (Below.refl _ _) _).block q (own_lt HST.out q hq)⟩
      have HQ1 : Aside0 (Kd.Q (Kd.int .i64) 3 w1 gr (fun q => q ≠ gr) (.slice (some ⟨wr.heap.size, 0, none⟩) 1 1) (ints [f])) := ⟨by
        have h := own_lit (wr.setCell ⟨gr, f, none⟩ (.int .i64 0)) gr 3 .i64 [(f : Int)] (by rw [hsz]; omega) (by simp)
        rw [hsz] at h
        rw [← hw1]
        exact Kd.Q_of_R (Kd.R_of_own h (fun q hq => by have : wr.heap.size = q := by simpa [Value.ownBlock] using hq
                                                       omega))⟩
      rw [hw1]
      clear hw1 hsz HST hcell hfr hgs HB HO
      go_loopg [7] kf (fun q v wx => ∃ (rk : Nat → Int) (row : List Nat), Aside0 (bfs N L q rk row = some r) ∧ Aside0 (Bf N L f (fun _ => False) rk row) ∧ Aside0 (wx.ownsRow gr 3 1 (.slice (some ⟨gr, 0, none⟩) N.n N.n) N.n (nums .i64 (rkL N rk))) ∧ Aside0 (Kd.Q (Kd.int .i64) 3 wx gr (fun q => q ≠ gr) v (ints row)) ∧ Aside0 (Below gr w wx) ∧ Aside0 (2 * unv N rk + (row.length : Int) ≤ 2 * (N.n : Int) + 1))
      case atStart =>
        refine ⟨rk0 f, [f], HR, ⟨rk0_ok hf⟩, HO1, HQ1, HB1, ⟨?_⟩⟩
        have h1 := (rk0_ok (L := L) hf).top f
        unfold rk0 at h1
        rw [if_pos rfl] at h1
        simp
        unfold rk0
        omega
      case round =>
        clear HO1 HQ1 HB1
        obtain ⟨rk, row, HX, HF, HO, HQ, HB, HM⟩ := hrel
        obtain ⟨A7, c7, rfl, hc7⟩ := Kd.Q_slice HQ.out
        cases gk with
        | zero => exact absurd HX.out (by simp [bfs])
        | succ q1 =>
          cases row with
          | nil =>
            have hx := HX.out
            rw [bfs] at hx
            injection hx with hx
            subst hx
            have e0 : (ints ([] : List Nat)).length = 0 := rfl
            simp only [e0]
            go_wp2
            go_ret
            exact ⟨_, rfl, by rw [HGR.out]; exact HO.out, by rw [HGR.out]; exact HB.out⟩
          | cons a row =>
            have hlen : (ints (a :: row)).length = row.length + 1 := by simp [ints]
            obtain ⟨g7, o7, c7', hv7, _, hg7, _⟩ := Kd.Q_form HQ.out (by rw [hlen]; omega)
            injection hv7 with e1 _ e2
            subst e1 e2
            have hq7 := (Kd.Q_cell (0 : Int) HQ.out 0 (by omega) (by rw [hlen]; omega)).1
            have hqd := Kd.Q_drop HQ.out (k := 1) (by rw [hlen]; omega)
            have HQD := Aside0.mk hqd
            have e7 : rdOf (0 : Int) (ints (a :: row)) 0 = (a : Int) := rfl
            rw [e7] at hq7
            have hq8 : wr.cell? ⟨g7, o7, none⟩ = some (.int .i64 (a : Int)) := by simpa using hq7
            clear hq7
            have ha := HF.out.rows a (by simp)
            have HAN := Aside0.mk ha
            have hc7b : 1 ≤ c7 := by rw [hlen] at hc7; omega
            have HAW := Aside0.mk (HA.out.below (w' := wr) (by rw [HGR.out]; exact HB.out))
            obtain ⟨go, co, hvo, _⟩ := own_form HAW.out.out (by omega)
            have c1 : wr.cell? ⟨g, 1, none⟩ = some (.slice (some ⟨go, 0, none⟩) N.n co) := (HAW.out.cell 1).trans (by rw [← hvo]; rfl)
            have cro := HAW.out.row hvo a ha.2
            obtain ⟨Ar, cr, hrow⟩ := own_slice (HAW.out.inn a ha.2)
            rw [hrow] at cro
            have HROW := Aside0.mk hrow
            have hE7 : (ints (a :: row)).drop 1 = ints row := rfl
            rw [hE7] at HQD
            rw [hlen] at hc7
            have han := ha.2
            clear hvo hrow ha hE7
            simp only [hlen]
            by_cases c71 : c7 = 1
            · have HQE : Aside0 (Kd.Q (Kd.int .i64) 3 wr gr (fun q => q ≠ gr) (.slice (some ⟨g7, o7, none⟩) row.length 0) (ints row)) := ⟨by
                have h := HQD.out
                rw [if_pos c71, hlen, Nat.add_sub_cancel, c71] at h
                exact h⟩
              clear HQD
              go_wp2
              go_loopg [7, 47] (N.out a).length (fun q2 v i wx => ∃ k : Nat, Aside0 (k + q2 = (N.out a).length) ∧ i = .int .i64 k ∧ Aside0 (wx.ownsRow gr 3 1 (.slice (some ⟨gr, 0, none⟩) N.n N.n) N.n (nums .i64 (rkL N (((N.out a).take k).foldl (bstep N L a) (rk, row)).1))) ∧ Aside0 (Kd.Q (Kd.int .i64) 3 wx gr (fun q => q ≠ gr) v (ints (((N.out a).take k).foldl (bstep N L a) (rk, row)).2)) ∧ Aside0 (Below gr w wx))
              case atStart => exact ⟨0, ⟨by omega⟩, rfl, HO, HQE, HB⟩
              case round =>
                clear HQE HO HB HQ
                obtain ⟨k, HK, rfl, HO, HQ, HB⟩ := hrel
                by_cases hlt : k < (N.out a).length
                · obtain ⟨p, hp⟩ : ∃ p, (N.out a).getD k 0 = p := ⟨_, rfl⟩
                  obtain ⟨hpm, hpt⟩ := out_at hlt
                  rw [hp] at hpm hpt
                  have HPT := Aside0.mk hpt
                  have HAX := Aside0.mk (HA.out.below (w' := wr) (by rw [HGR.out]; exact HB.out))
                  obtain ⟨gra, cr', hfr, _, _⟩ := own_form (HAX.out.inn a han) (by omega)
                  have e := HROW.out.symm.trans hfr
                  injection e with e1 _ e2
                  subst e1 e2
                  have HIN : Aside0 (wr.ownsRow base 3 1 (.slice (some ⟨gra, 0, none⟩) (N.out a).length cr) (N.out a).length (nums .i64 (outL N a))) := ⟨by rw [← hfr]; exact HAX.out.inn a han⟩
                  have cp := (own_cell HIN.out k (by rw [outL_len]; exact hlt)).1
                  rw [outL_at N a k hlt, hp] at cp
                  obtain ⟨ga, ca, hva, c2a, harc⟩ := arc_cells HAX.out hpm
                  obtain ⟨ah, aL, _⟩ := harc p hpm
                  obtain ⟨hd, hhd⟩ : ∃ h, N.hd p = h := ⟨_, rfl⟩
                  obtain ⟨lp, hlp⟩ : ∃ h, L p = h := ⟨_, rfl⟩
                  rw [hhd] at ah
                  rw [hlp] at aL
                  have hhn : hd < N.n := by rw [← hhd]; exact hd_lt HN.out hpm
                  have hpz : (p : Int) < 2 * (N.m : Int) := by omega
                  obtain ⟨x, hx⟩ : ∃ x, ((N.out a).take k).foldl (bstep N L a) (rk, row) = x := ⟨_, rfl⟩
                  have hstep : ((N.out a).take (k + 1)).foldl (bstep N L a) (rk, row) = bstep N L a x p := by
                    rw [List.take_succ_eq_append_getElem hlt, List.foldl_append, hx]
                    have : (N.out a)[k] = p := by rw [← hp, List.getD_eq_getElem?_getD, List.getElem?_eq_getElem hlt]; rfl
                    rw [this]; rfl
                  have HSTEP := Aside0.mk hstep
                  have hxf := bfold_ok HN.out ((N.out a).take k) rk row (A := fun b => b = a) (L := L) (f := f) (a := a) ⟨HF.out.root, HF.out.neg, HF.out.far, HF.out.pred, fun b hb => HF.out.rows b (by simp [hb]), HF.out.top, fun b hb => by
                    rcases HF.out.shut b hb with h1 | h1 | h1
                    · exact absurd h1 id
                    · rcases List.mem_cons.1 h1 with h1 | h1
                      · exact .inl h1
                      · exact .inr (.inl h1)
                    · exact .inr (.inr h1)⟩ (fun q hq => mem_out.1 (List.mem_of_mem_take hq)) HAN.out.1
                  rw [hx] at hxf HO HQ
                  have HXF := Aside0.mk hxf
                  obtain ⟨xr, xq⟩ := x
                  have hxa : 0 ≤ xr a := by
                    have h : xr a = rk a := HXF.out.2.1 a HAN.out.1
                    rw [h]; exact HAN.out.1
                  have hxt := HXF.out.1.le a
                  have hhneg := HXF.out.1.neg hd
                  have hwk : wrap64 (xr a + 1) = xr a + 1 := by
                    have : xr a ≤ (N.n : Int) := hxt
                    unfold wrap64; omega
                  have HLEN : Aside0 (xq.length ≤ 4000) := ⟨by
                    have h1 := HXF.out.2.2.2
                    have h2 := HM.out
                    have h3 : 0 ≤ unv N xr := unv_nn N xr
                    simp at h1 h2
                    have h4 : 2 * unv N xr + (xq.length : Int) ≤ 2 * unv N rk + (row.length : Int) := h1
                    omega⟩
                  have HO : Aside0 (wr.ownsRow gr 3 1 (.slice (some ⟨gr, 0, none⟩) N.n N.n) N.n (nums .i64 (rkL N xr))) := HO
                  replace HQ : Aside0 (Kd.Q (Kd.int .i64) 3 wr gr (fun q => q ≠ gr) _ (ints xq)) := HQ
                  have hwi := wrap_succ (n := (N.out a).length) (by have := out_few HN.out a; omega) hlt
                  obtain ⟨A9, c9, rfl, _⟩ := Kd.Q_slice HQ.out
                  clear hxf hxt hx harc hva hfr hstep hp hpt
                  have hrk := own_cell HO.out hd (by rw [rkL_len]; exact hhn)
                  unfold rkL at hrk
                  rw [rowN_at _ _ _ hhn] at hrk
                  obtain ⟨ckh, fkh⟩ := hrk
                  have hrka := own_cell HO.out a (by rw [rkL_len]; exact han)
                  unfold rkL at hrka
                  rw [rowN_at _ _ _ han] at hrka
                  have cka := hrka.1
                  have hgs : gr < wr.heap.size := by
                    obtain ⟨cells, hc⟩ := own_typed HO.out gr rfl
                    exact blk_lt hc
                  obtain ⟨w6, hw6⟩ : ∃ w6, wr.alloc (Obj.cells #[Value.int .i64 (hd : Int), Value.int .i64 lp] 58) = w6 := ⟨_, rfl⟩
                  obtain ⟨bx, hbx⟩ : ∃ b, wr.heap.size = b := ⟨_, rfl⟩
                  have HO6 : Aside0 (w6.ownsRow gr 3 1 (.slice (some ⟨gr, 0, none⟩) N.n N.n) N.n (nums .i64 (rkL N xr))) := ⟨by rw [← hw6]; exact own_move HO.out fun q hq => (below_alloc (Below.refl _ _) _).block q (own_lt HO.out q hq)⟩
                  have HQ6 : Aside0 (Kd.Q (Kd.int .i64) 3 w6 gr (fun q => q ≠ gr) (.slice A9 (ints xq).length c9) (ints xq)) := ⟨by rw [← hw6]; exact Kd.Q_alloc HQ.out _⟩
                  have HB6 : Aside0 (Below gr w w6) := ⟨by rw [← hw6]; exact HB.out.alloc (Nat.le_of_lt hgs) _⟩
                  have HBK : Aside0 (w6.heap[bx]? = some (.cells #[Value.int .i64 (hd : Int), Value.int .i64 lp] 58 (0, 0))) := ⟨by rw [← hw6, ← hbx]; exact heap_new wr _⟩
                  have hbgr : ¬ bx = gr := by omega
                  have b0 : w6.cell? ⟨bx, 0, none⟩ = some (.int .i64 (hd : Int)) := (blk_cell HBK.out 0).trans rfl
                  have b1 : w6.cell? ⟨bx, 1, none⟩ = some (.int .i64 lp) := (blk_cell HBK.out 1).trans rfl
                  have hrk6 := own_cell HO6.out hd (by rw [rkL_len]; exact hhn)
                  unfold rkL at hrk6
                  rw [rowN_at _ _ _ hhn] at hrk6
                  obtain ⟨ckh6, fkh6⟩ := hrk6
                  have hrka6 := own_cell HO6.out a (by rw [rkL_len]; exact han)
                  unfold rkL at hrka6
                  rw [rowN_at _ _ _ han] at hrka6
                  have cka6 := hrka6.1
                  clear hrka6
                  clear hrka HO HQ HB
                  by_cases hl : lp > 0
                  rotate_left
                  · have hE : bstep N L a (xr, xq) p = (xr, xq) := by unfold bstep; rw [if_neg (by rw [hlp]; exact fun h => hl h.1)]
                    rw [hE] at HSTEP
                    have hdl : decide (lp > 0) = false := decide_eq_false hl
                    clear hE hl
                    go_wp2
                    go_roundg (gk - 1)
                    case measure => exact pred_lt HK hlt
                    case rel => exact ⟨k + 1, next_eq HK hlt, by first | rfl | go_num, by rw [HSTEP.out]; exact HO6, by rw [HSTEP.out]; exact HQ6, HB6⟩
                  · have hdl : decide (lp > 0) = true := decide_eq_true hl
                    by_cases hneg : xr hd < 0
                    rotate_left
                    · have hE : bstep N L a (xr, xq) p = (xr, xq) := by unfold bstep; rw [if_neg (by rw [hhd]; exact fun h => hneg h.2)]
                      rw [hE] at HSTEP
                      have hdh : decide (xr hd < 0) = false := decide_eq_false hneg
                      clear hE
                      go_wp2
                      go_roundg (gk - 1)
                      case measure => exact pred_lt HK hlt
                      case rel => exact ⟨k + 1, next_eq HK hlt, by first | rfl | go_num, by rw [HSTEP.out]; exact HO6, by rw [HSTEP.out]; exact HQ6, HB6⟩
                    · have hdh : decide (xr hd < 0) = true := decide_eq_true hneg
                      have hE : bstep N L a (xr, xq) p = (fun v => if v = hd then xr a + 1 else xr v, xq ++ [hd]) := by unfold bstep; rw [if_pos ⟨by rw [hlp]; exact hl, by rw [hhd]; exact hneg⟩, hhd]
                      rw [hE] at HSTEP
                      clear hE
                      go_wp2_with fail
                      clear ckh fkh cka cp c2a ah aL hw6 hbx
                      refine start_ (n := 10) (S := (fun w' => w'.cell? ⟨bx, 0, none⟩ = some (.int .i64 (hd : Int)) ∧ w'.cell? ⟨gr, a, none⟩ = some (.int .i64 (xr a)))) (ds := [9]) #[false, false, false, false, false, false, false, false, false, false] (by kernel_rfl) rfl rfl (⟨b0, cka6⟩) (fun hHeld => ?_)
                      refine pure_ (i := 0) (N := some 69) (v := ?_) (a' := ?_) #[true, false, false, false, false, false, false, false, false, false] rfl rfl (by kernel_rfl) (fun _ _ _ h => h) (Or.inl ⟨by rfl, ?_⟩) ?_ ?_
                      rotate_left
                      · intro w'
                        go_simp
                        with_reducible rfl
                      rotate_left
                      · simp only [Act.put, List.setIfInBounds_toArray, List.set_cons_zero, List.set_cons_succ, i64_w, i32_w]
                        rfl
                      refine pure_ (i := 1) (N := some 70) (v := ?_) (a' := ?_) #[true, true, false, false, false, false, false, false, false, false] rfl rfl (by kernel_rfl) (fun _ _ _ h => h) (Or.inl ⟨by rfl, ?_⟩) ?_ ?_
                      rotate_left
                      · intro w'
                        go_simp
                        with_reducible rfl
                      rotate_left
                      · simp only [Act.put, List.setIfInBounds_toArray, List.set_cons_zero, List.set_cons_succ, i64_w, i32_w]
                        rfl
                      refine take_ (i := 2) (N := some 71) (v := ?_) (a' := ?_) #[true, true, true, false, false, false, false, false, false, false] rfl rfl (by kernel_rfl) (fun _ _ _ h => h) (Or.inl ⟨by rfl, ?_⟩) hHeld ?_ ?_
                      rotate_left
                      · rintro w' ⟨s0, s1⟩
                        go_simp
                        with_reducible rfl
                      rotate_left
                      · simp only [Act.put, List.setIfInBounds_toArray, List.set_cons_zero, List.set_cons_succ, i64_w, i32_w]
                        rfl
                      refine pure_ (i := 3) (N := some 72) (v := ?_) (a' := ?_) #[true, true, true, true, false, false, false, false, false, false] rfl rfl (by kernel_rfl) (fun _ _ _ h => h) (Or.inl ⟨by rfl, ?_⟩) ?_ ?_
                      rotate_left
                      · intro w'
                        go_simp
                        with_reducible rfl
                      rotate_left
                      · simp only [Act.put, List.setIfInBounds_toArray, List.set_cons_zero, List.set_cons_succ, i64_w, i32_w]
                        rfl
                      refine pure_ (i := 4) (N := some 73) (v := ?_) (a' := ?_) #[true, true, true, true, true, false, false, false, false, false] rfl rfl (by kernel_rfl) (fun _ _ _ h => h) (Or.inl ⟨by rfl, ?_⟩) ?_ ?_
                      rotate_left
                      · intro w'
                        go_simp
                        with_reducible rfl
                      rotate_left
                      · simp only [Act.put, List.setIfInBounds_toArray, List.set_cons_zero, List.set_cons_succ, i64_w, i32_w]
                        rfl
                      refine pure_ (i := 5) (N := some 74) (v := ?_) (a' := ?_) #[true, true, true, true, true, true, false, false, false, false] rfl rfl (by kernel_rfl) (fun _ _ _ h => h) (Or.inl ⟨by rfl, ?_⟩) ?_ ?_
                      rotate_left
                      · intro w'
                        go_simp
                        with_reducible rfl
                      rotate_left
                      · simp only [Act.put, List.setIfInBounds_toArray, List.set_cons_zero, List.set_cons_succ, i64_w, i32_w]
                        rfl
                      refine take_ (i := 6) (N := some 75) (v := ?_) (a' := ?_) #[true, true, true, true, true, true, true, false, false, false] rfl rfl (by kernel_rfl) (fun _ _ _ h => h) (Or.inl ⟨by rfl, ?_⟩) hHeld ?_ ?_
                      rotate_left
                      · rintro w' ⟨s0, s1⟩
                        go_simp
                        with_reducible rfl
                      rotate_left
                      · simp only [Act.put, List.setIfInBounds_toArray, List.set_cons_zero, List.set_cons_succ, i64_w, i32_w]
                        rfl
                      refine pure_ (i := 7) (N := some 76) (v := ?_) (a' := ?_) #[true, true, true, true, true, true, true, true, false, false] rfl rfl (by kernel_rfl) (fun _ _ _ h => h) (Or.inl ⟨by rfl, ?_⟩) ?_ ?_
                      rotate_left
                      · intro w'
                        go_simp
                        with_reducible rfl
                      rotate_left
                      · simp only [Act.put, List.setIfInBounds_toArray, List.set_cons_zero, List.set_cons_succ, i64_w, i32_w]
                        rfl
                      refine pure_ (i := 8) (N := some 77) (v := ?_) (a' := ?_) #[true, true, true, true, true, true, true, true, true, false] rfl rfl (by kernel_rfl) (fun _ _ _ h => h) (Or.inl ⟨by rfl, ?_⟩) ?_ ?_
                      rotate_left
                      · intro w'
                        go_simp
                        with_reducible rfl
                      rotate_left
                      · simp only [Act.put, List.setIfInBounds_toArray, List.set_cons_zero, List.set_cons_succ, i64_w, i32_w]
                        rfl
                      refine last_ (i := 9) (N := none) #[true, true, true, true, true, true, true, true, true, true] rfl rfl (by kernel_rfl) (by decide) (fun K hK => ?_)
                      go_simp
                      refine hK.out _ _ ?_
                      clear hK K
                      refine done_ (by kernel_rfl) ?_
                      skip
                      obtain ⟨w7, hw7⟩ : ∃ w7, (w6.setCell ⟨gr, hd, none⟩ (.int .i64 (xr a + 1))).drew = w7 := ⟨_, rfl⟩
                      have HO7 : Aside0 (w7.ownsRow gr 3 1 (.slice (some ⟨gr, 0, none⟩) N.n N.n) N.n (nums .i64 (rkL N (fun v => if v = hd then xr a + 1 else xr v)))) := ⟨by
                        have h := own_put HO6.out hd (xr a + 1)
                        unfold rkL at h ⊢
                        rw [rowN_set] at h
                        rw [← hw7]
                        exact own_move h fun _ _ => rfl⟩
                      have HQ7 : Aside0 (Kd.Q (Kd.int .i64) 3 w7 gr (fun q => q ≠ gr) (.slice A9 (ints xq).length c9) (ints xq)) := ⟨by rw [← hw7]; exact Kd.Q_drew (Kd.Q_far HQ6.out (fun q hq => hq) _)⟩
                      have HB7 : Aside0 (Below gr w w7) := ⟨by rw [← hw7]; exact below_drew (below_cell HB6.out (Nat.le_refl _) _ _)⟩
                      have hbk7 : w7.heap[bx]? = some (.cells #[Value.int .i64 (hd : Int), Value.int .i64 lp] 58 (0, 0)) := by
                        rw [← hw7]; exact (Below.heap_setCell w6 ⟨gr, hd, none⟩ _ bx hbgr).trans HBK.out
                      have b07 : w7.cell? ⟨bx, 0, none⟩ = some (.int .i64 (hd : Int)) := (blk_cell hbk7 0).trans rfl
                      have HGS7 : Aside0 (gr < w7.heap.size) := ⟨by
                        obtain ⟨cells, hc⟩ := own_typed HO7.out gr rfl
                        exact blk_lt hc⟩
                      rw [hw7]
                      clear hw7 hbk7 b0 b1 ckh6 fkh6 cka6 HO6 HQ6 HB6 HBK hbgr
                      have hln : ((ints xq).length + 1) * 8 ≤ 140737488355328 := by have := HLEN.out; unfold ints; rw [List.length_map]; omega
                      have HLN := Aside0.mk hln
                      clear hln
                      go_wp2_with (first
                        | (at_builtin; refine Kd.Q_append (Kd.int .i64) (w0 := w) gr rfl _ _ 49 3 (.int .i64 0) 8 rfl Try.underlying49 info3 rfl (by decide) (by decide) (.slice A9 (ints xq).length c9) (ints xq) (hd : Int) [.int .i64 (hd : Int)] (fun q => q ≠ gr) (fun _ => False) rfl rfl rfl (fun _ h => h.elim) (fun q hq => by have := HGS7.out; omega) HQ7.out HB7.out (Nat.le_of_lt HGS7.out) HLN.out ?_; intro v1 wz hq1 hb1 hg1 hat1)
                        | fail)
                      have HOZ : Aside0 (wz.ownsRow gr 3 1 (.slice (some ⟨gr, 0, none⟩) N.n N.n) N.n (nums .i64 (rkL N (fun v => if v = hd then xr a + 1 else xr v)))) := ⟨own_other HO7.out hg1 (.inr (fun h => HQ7.out.1 gr h.symm rfl))⟩
                      have HQZ : Aside0 (Kd.Q (Kd.int .i64) 3 wz gr (fun q => q ≠ gr) v1 (ints (xq ++ [hd]))) := ⟨by
                        have e : ints (xq ++ [hd]) = ints xq ++ [(hd : Int)] := by simp [ints]
                        rw [e]; exact hq1⟩
                      have HBZ := Aside0.mk hb1
                      clear hq1 hb1 hg1 hat1
                      go_wp2
                      go_roundg (gk - 1)
                      case measure => exact pred_lt HK hlt
                      case rel => exact ⟨k + 1, next_eq HK hlt, by first | rfl | go_num, by rw [HSTEP.out]; exact HOZ, by rw [HSTEP.out]; exact HQZ, HBZ⟩
                · obtain rfl : k = (N.out a).length := by have := HK.out; omega
                  rw [List.take_length] at HO HQ
                  have hx := HX.out
                  rw [bfs] at hx
                  have HX2 := Aside0.mk hx
                  obtain ⟨hn1, hn2⟩ := bf_next HN.out HF.out
                  have HN1 := Aside0.mk hn1
                  have HN2 := Aside0.mk hn2
                  clear hx hn1 hn2 hlt
                  go_wp2
                  go_roundg q1
                  case measure => omega
                  case rel => exact ⟨_, _, HX2, HN1, HO, HQ, HB, ⟨by have := HN2.out; have := HM.out; omega⟩⟩
            · have HQE : Aside0 (Kd.Q (Kd.int .i64) 3 wr gr (fun q => q ≠ gr) (.slice (some ⟨g7, o7 + 1, none⟩) row.length (c7 - 1)) (ints row)) := ⟨by
                have h := HQD.out
                rw [if_neg c71, hlen, Nat.add_sub_cancel] at h
                exact h⟩
              clear HQD
              go_wp2
              go_loopg [7, 47] (N.out a).length (fun q2 v i wx => ∃ k : Nat, Aside0 (k + q2 = (N.out a).length) ∧ i = .int .i64 k ∧ Aside0 (wx.ownsRow gr 3 1 (.slice (some ⟨gr, 0, none⟩) N.n N.n) N.n (nums .i64 (rkL N (((N.out a).take k).foldl (bstep N L a) (rk, row)).1))) ∧ Aside0 (Kd.Q (Kd.int .i64) 3 wx gr (fun q => q ≠ gr) v (ints (((N.out a).take k).foldl (bstep N L a) (rk, row)).2)) ∧ Aside0 (Below gr w wx))
              case atStart => exact ⟨0, ⟨by omega⟩, rfl, HO, HQE, HB⟩
              case round =>
                clear HQE HO HB HQ
                obtain ⟨k, HK, rfl, HO, HQ, HB⟩ := hrel
                by_cases hlt : k < (N.out a).length
                · obtain ⟨p, hp⟩ : ∃ p, (N.out a).getD k 0 = p := ⟨_, rfl⟩
                  obtain ⟨hpm, hpt⟩ := out_at hlt
                  rw [hp] at hpm hpt
                  have HPT := Aside0.mk hpt
                  have HAX := Aside0.mk (HA.out.below (w' := wr) (by rw [HGR.out]; exact HB.out))
                  obtain ⟨gra, cr', hfr, _, _⟩ := own_form (HAX.out.inn a han) (by omega)
                  have e := HROW.out.symm.trans hfr
                  injection e with e1 _ e2
                  subst e1 e2
                  have HIN : Aside0 (wr.ownsRow base 3 1 (.slice (some ⟨gra, 0, none⟩) (N.out a).length cr) (N.out a).length (nums .i64 (outL N a))) := ⟨by rw [← hfr]; exact HAX.out.inn a han⟩
                  have cp := (own_cell HIN.out k (by rw [outL_len]; exact hlt)).1
                  rw [outL_at N a k hlt, hp] at cp
                  obtain ⟨ga, ca, hva, c2a, harc⟩ := arc_cells HAX.out hpm
                  obtain ⟨ah, aL, _⟩ := harc p hpm
                  obtain ⟨hd, hhd⟩ : ∃ h, N.hd p = h := ⟨_, rfl⟩
                  obtain ⟨lp, hlp⟩ : ∃ h, L p = h := ⟨_, rfl⟩
                  rw [hhd] at ah
                  rw [hlp] at aL
                  have hhn : hd < N.n := by rw [← hhd]; exact hd_lt HN.out hpm
                  have hpz : (p : Int) < 2 * (N.m : Int) := by omega
                  obtain ⟨x, hx⟩ : ∃ x, ((N.out a).take k).foldl (bstep N L a) (rk, row) = x := ⟨_, rfl⟩
                  have hstep : ((N.out a).take (k + 1)).foldl (bstep N L a) (rk, row) = bstep N L a x p := by
                    rw [List.take_succ_eq_append_getElem hlt, List.foldl_append, hx]
                    have : (N.out a)[k] = p := by rw [← hp, List.getD_eq_getElem?_getD, List.getElem?_eq_getElem hlt]; rfl
                    rw [this]; rfl
                  have HSTEP := Aside0.mk hstep
                  have hxf := bfold_ok HN.out ((N.out a).take k) rk row (A := fun b => b = a) (L := L) (f := f) (a := a) ⟨HF.out.root, HF.out.neg, HF.out.far, HF.out.pred, fun b hb => HF.out.rows b (by simp [hb]), HF.out.top, fun b hb => by
                    rcases HF.out.shut b hb with h1 | h1 | h1
                    · exact absurd h1 id
                    · rcases List.mem_cons.1 h1 with h1 | h1
                      · exact .inl h1
                      · exact .inr (.inl h1)
                    · exact .inr (.inr h1)⟩ (fun q hq => mem_out.1 (List.mem_of_mem_take hq)) HAN.out.1
                  rw [hx] at hxf HO HQ
                  have HXF := Aside0.mk hxf
                  obtain ⟨xr, xq⟩ := x
                  have hxa : 0 ≤ xr a := by
                    have h : xr a = rk a := HXF.out.2.1 a HAN.out.1
                    rw [h]; exact HAN.out.1
                  have hxt := HXF.out.1.le a
                  have hhneg := HXF.out.1.neg hd
                  have hwk : wrap64 (xr a + 1) = xr a + 1 := by
                    have : xr a ≤ (N.n : Int) := hxt
                    unfold wrap64; omega
                  have HLEN : Aside0 (xq.length ≤ 4000) := ⟨by
                    have h1 := HXF.out.2.2.2
                    have h2 := HM.out
                    have h3 : 0 ≤ unv N xr := unv_nn N xr
                    simp at h1 h2
                    have h4 : 2 * unv N xr + (xq.length : Int) ≤ 2 * unv N rk + (row.length : Int) := h1
                    omega⟩
                  have HO : Aside0 (wr.ownsRow gr 3 1 (.slice (some ⟨gr, 0, none⟩) N.n N.n) N.n (nums .i64 (rkL N xr))) := HO
                  replace HQ : Aside0 (Kd.Q (Kd.int .i64) 3 wr gr (fun q => q ≠ gr) _ (ints xq)) := HQ
                  have hwi := wrap_succ (n := (N.out a).length) (by have := out_few HN.out a; omega) hlt
                  obtain ⟨A9, c9, rfl, _⟩ := Kd.Q_slice HQ.out
                  clear hxf hxt hx harc hva hfr hstep hp hpt
                  have hrk := own_cell HO.out hd (by rw [rkL_len]; exact hhn)
                  unfold rkL at hrk
                  rw [rowN_at _ _ _ hhn] at hrk
                  obtain ⟨ckh, fkh⟩ := hrk
                  have hrka := own_cell HO.out a (by rw [rkL_len]; exact han)
                  unfold rkL at hrka
                  rw [rowN_at _ _ _ han] at hrka
                  have cka := hrka.1
                  have hgs : gr < wr.heap.size := by
                    obtain ⟨cells, hc⟩ := own_typed HO.out gr rfl
                    exact blk_lt hc
                  obtain ⟨w6, hw6⟩ : ∃ w6, wr.alloc (Obj.cells #[Value.int .i64 (hd : Int), Value.int .i64 lp] 58) = w6 := ⟨_, rfl⟩
                  obtain ⟨bx, hbx⟩ : ∃ b, wr.heap.size = b := ⟨_, rfl⟩
                  have HO6 : Aside0 (w6.ownsRow gr 3 1 (.slice (some ⟨gr, 0, none⟩) N.n N.n) N.n (nums .i64 (rkL N xr))) := ⟨by rw [← hw6]; exact own_move HO.out fun q hq => (below_alloc (Below.refl _ _) _).block q (own_lt HO.out q hq)⟩
                  have HQ6 : Aside0 (Kd.Q (Kd.int .i64) 3 w6 gr (fun q => q ≠ gr) (.slice A9 (ints xq).length c9) (ints xq)) := ⟨by rw [← hw6]; exact Kd.Q_alloc HQ.out _⟩
                  have HB6 : Aside0 (Below gr w w6) := ⟨by rw [← hw6]; exact HB.out.alloc (Nat.le_of_lt hgs) _⟩
                  have HBK : Aside0 (w6.heap[bx]? = some (.cells #[Value.int .i64 (hd : Int), Value.int .i64 lp] 58 (0, 0))) := ⟨by rw [← hw6, ← hbx]; exact heap_new wr _⟩
                  have hbgr : ¬ bx = gr := by omega
                  have b0 : w6.cell? ⟨bx, 0, none⟩ = some (.int .i64 (hd : Int)) := (blk_cell HBK.out 0).trans rfl
                  have b1 : w6.cell? ⟨bx, 1, none⟩ = some (.int .i64 lp) := (blk_cell HBK.out 1).trans rfl
                  have hrk6 := own_cell HO6.out hd (by rw [rkL_len]; exact hhn)
                  unfold rkL at hrk6
                  rw [rowN_at _ _ _ hhn] at hrk6
                  obtain ⟨ckh6, fkh6⟩ := hrk6
                  have hrka6 := own_cell HO6.out a (by rw [rkL_len]; exact han)
                  unfold rkL at hrka6
                  rw [rowN_at _ _ _ han] at hrka6
                  have cka6 := hrka6.1
                  clear hrka6
                  clear hrka HO HQ HB
                  by_cases hl : lp > 0
                  rotate_left
                  · have hE : bstep N L a (xr, xq) p = (xr, xq) := by unfold bstep; rw [if_neg (by rw [hlp]; exact fun h => hl h.1)]
                    rw [hE] at HSTEP
                    have hdl : decide (lp > 0) = false := decide_eq_false hl
                    clear hE hl
                    go_wp2
                    go_roundg (gk - 1)
                    case measure => exact pred_lt HK hlt
                    case rel => exact ⟨k + 1, next_eq HK hlt, by first | rfl | go_num, by rw [HSTEP.out]; exact HO6, by rw [HSTEP.out]; exact HQ6, HB6⟩
                  · have hdl : decide (lp > 0) = true := decide_eq_true hl
                    by_cases hneg : xr hd < 0
                    rotate_left
                    · have hE : bstep N L a (xr, xq) p = (xr, xq) := by unfold bstep; rw [if_neg (by rw [hhd]; exact fun h => hneg h.2)]
                      rw [hE] at HSTEP
                      have hdh : decide (xr hd < 0) = false := decide_eq_false hneg
                      clear hE
                      go_wp2
                      go_roundg (gk - 1)
                      case measure => exact pred_lt HK hlt
                      case rel => exact ⟨k + 1, next_eq HK hlt, by first | rfl | go_num, by rw [HSTEP.out]; exact HO6, by rw [HSTEP.out]; exact HQ6, HB6⟩
                    · have hdh : decide (xr hd < 0) = true := decide_eq_true hneg
                      have hE : bstep N L a (xr, xq) p = (fun v => if v = hd then xr a + 1 else xr v, xq ++ [hd]) := by unfold bstep; rw [if_pos ⟨by rw [hlp]; exact hl, by rw [hhd]; exact hneg⟩, hhd]
                      rw [hE] at HSTEP
                      clear hE
                      go_wp2_with fail
                      clear ckh fkh cka cp c2a ah aL hw6 hbx
                      refine start_ (n := 10) (S := (fun w' => w'.cell? ⟨bx, 0, none⟩ = some (.int .i64 (hd : Int)) ∧ w'.cell? ⟨gr, a, none⟩ = some (.int .i64 (xr a)))) (ds := [9]) #[false, false, false, false, false, false, false, false, false, false] (by kernel_rfl) rfl rfl (⟨b0, cka6⟩) (fun hHeld => ?_)
                      refine pure_ (i := 0) (N := some 69) (v := ?_) (a' := ?_) #[true, false, false, false, false, false, false, false, false, false] rfl rfl (by kernel_rfl) (fun _ _ _ h => h) (Or.inl ⟨by rfl, ?_⟩) ?_ ?_
                      rotate_left
                      · intro w'
                        go_simp
                        with_reducible rfl
                      rotate_left
                      · simp only [Act.put, List.setIfInBounds_toArray, List.set_cons_zero, List.set_cons_succ, i64_w, i32_w]
                        rfl
                      refine pure_ (i := 1) (N := some 70) (v := ?_) (a' := ?_) #[true, true, false, false, false, false, false, false, false, false] rfl rfl (by kernel_rfl) (fun _ _ _ h => h) (Or.inl ⟨by rfl, ?_⟩) ?_ ?_
                      rotate_left
                      · intro w'
                        go_simp
                        with_reducible rfl
                      rotate_left
                      · simp only [Act.put, List.setIfInBounds_toArray, List.set_cons_zero, List.set_cons_succ, i64_w, i32_w]
                        rfl
                      refine take_ (i := 2) (N := some 71) (v := ?_) (a' := ?_) #[true, true, true, false, false, false, false, false, false, false] rfl rfl (by kernel_rfl) (fun _ _ _ h => h) (Or.inl ⟨by rfl, ?_⟩) hHeld ?_ ?_
                      rotate_left
                      · rintro w' ⟨s0, s1⟩
                        go_simp
                        with_reducible rfl
                      rotate_left
                      · simp only [Act.put, List.setIfInBounds_toArray, List.set_cons_zero, List.set_cons_succ, i64_w, i32_w]
                        rfl
                      refine pure_ (i := 3) (N := some 72) (v := ?_) (a' := ?_) #[true, true, true, true, false, false, false, false, false, false] rfl rfl (by kernel_rfl) (fun _ _ _ h => h) (Or.inl ⟨by rfl, ?_⟩) ?_ ?_
                      rotate_left
                      · intro w'
                        go_simp
                        with_reducible rfl
                      rotate_left
                      · simp only [Act.put, List.setIfInBounds_toArray, List.set_cons_zero, List.set_cons_succ, i64_w, i32_w]
                        rfl
                      refine pure_ (i := 4) (N := some 73) (v := ?_) (a' := ?_) #[true, true, true, true, true, false, false, false, false, false] rfl rfl (by kernel_rfl) (fun _ _ _ h => h) (Or.inl ⟨by rfl, ?_⟩) ?_ ?_
                      rotate_left
                      · intro w'
                        go_simp
                        with_reducible rfl
                      rotate_left
                      · simp only [Act.put, List.setIfInBounds_toArray, List.set_cons_zero, List.set_cons_succ, i64_w, i32_w]
                        rfl
                      refine pure_ (i := 5) (N := some 74) (v := ?_) (a' := ?_) #[true, true, true, true, true, true, false, false, false, false] rfl rfl (by kernel_rfl) (fun _ _ _ h => h) (Or.inl ⟨by rfl, ?_⟩) ?_ ?_
                      rotate_left
                      · intro w'
                        go_simp
                        with_reducible rfl
                      rotate_left
                      · simp only [Act.put, List.setIfInBounds_toArray, List.set_cons_zero, List.set_cons_succ, i64_w, i32_w]
                        rfl
                      refine take_ (i := 6) (N := some 75) (v := ?_) (a' := ?_) #[true, true, true, true, true, true, true, false, false, false] rfl rfl (by kernel_rfl) (fun _ _ _ h => h) (Or.inl ⟨by rfl, ?_⟩) hHeld ?_ ?_
                      rotate_left
                      · rintro w' ⟨s0, s1⟩
                        go_simp
                        with_reducible rfl
                      rotate_left
                      · simp only [Act.put, List.setIfInBounds_toArray, List.set_cons_zero, List.set_cons_succ, i64_w, i32_w]
                        rfl
                      refine pure_ (i := 7) (N := some 76) (v := ?_) (a' := ?_) #[true, true, true, true, true, true, true, true, false, false] rfl rfl (by kernel_rfl) (fun _ _ _ h => h) (Or.inl ⟨by rfl, ?_⟩) ?_ ?_
                      rotate_left
                      · intro w'
                        go_simp
                        with_reducible rfl
                      rotate_left
                      · simp only [Act.put, List.setIfInBounds_toArray, List.set_cons_zero, List.set_cons_succ, i64_w, i32_w]
                        rfl
                      refine pure_ (i := 8) (N := some 77) (v := ?_) (a' := ?_) #[true, true, true, true, true, true, true, true, true, false] rfl rfl (by kernel_rfl) (fun _ _ _ h => h) (Or.inl ⟨by rfl, ?_⟩) ?_ ?_
                      rotate_left
                      · intro w'
                        go_simp
                        with_reducible rfl
                      rotate_left
                      · simp only [Act.put, List.setIfInBounds_toArray, List.set_cons_zero, List.set_cons_succ, i64_w, i32_w]
                        rfl
                      refine last_ (i := 9) (N := none) #[true, true, true, true, true, true, true, true, true, true] rfl rfl (by kernel_rfl) (by decide) (fun K hK => ?_)
                      go_simp
                      refine hK.out _ _ ?_
                      clear hK K
                      refine done_ (by kernel_rfl) ?_
                      skip
                      obtain ⟨w7, hw7⟩ : ∃ w7, (w6.setCell ⟨gr, hd, none⟩ (.int .i64 (xr a + 1))).drew = w7 := ⟨_, rfl⟩
                      have HO7 : Aside0 (w7.ownsRow gr 3 1 (.slice (some ⟨gr, 0, none⟩) N.n N.n) N.n (nums .i64 (rkL N (fun v => if v = hd then xr a + 1 else xr v)))) := ⟨by
                        have h := own_put HO6.out hd (xr a + 1)
                        unfold rkL at h ⊢
                        rw [rowN_set] at h
                        rw [← hw7]
                        exact own_move h fun _ _ => rfl⟩
                      have HQ7 : Aside0 (Kd.Q (Kd.int .i64) 3 w7 gr (fun q => q ≠ gr) (.slice A9 (ints xq).length c9) (ints xq)) := ⟨by rw [← hw7]; exact Kd.Q_drew (Kd.Q_far HQ6.out (fun q hq => hq) _)⟩
                      have HB7 : Aside0 (Below gr w w7) := ⟨by rw [← hw7]; exact below_drew (below_cell HB6.out (Nat.le_refl _) _ _)⟩
                      have hbk7 : w7.heap[bx]? = some (.cells #[Value.int .i64 (hd : Int), Value.int .i64 lp] 58 (0, 0)) := by
                        rw [← hw7]; exact (Below.heap_setCell w6 ⟨gr, hd, none⟩ _ bx hbgr).trans HBK.out
                      have b07 : w7.cell? ⟨bx, 0, none⟩ = some (.int .i64 (hd : Int)) := (blk_cell hbk7 0).trans rfl
                      have HGS7 : Aside0 (gr < w7.heap.size) := ⟨by
                        obtain ⟨cells, hc⟩ := own_typed HO7.out gr rfl
                        exact blk_lt hc⟩
                      rw [hw7]
                      clear hw7 hbk7 b0 b1 ckh6 fkh6 cka6 HO6 HQ6 HB6 HBK hbgr
                      have hln : ((ints xq).length + 1) * 8 ≤ 140737488355328 := by have := HLEN.out; unfold ints; rw [List.length_map]; omega
                      have HLN := Aside0.mk hln
                      clear hln
                      go_wp2_with (first
                        | (at_builtin; refine Kd.Q_append (Kd.int .i64) (w0 := w) gr rfl _ _ 49 3 (.int .i64 0) 8 rfl Try.underlying49 info3 rfl (by decide) (by decide) (.slice A9 (ints xq).length c9) (ints xq) (hd : Int) [.int .i64 (hd : Int)] (fun q => q ≠ gr) (fun _ => False) rfl rfl rfl (fun _ h => h.elim) (fun q hq => by have := HGS7.out; omega) HQ7.out HB7.out (Nat.le_of_lt HGS7.out) HLN.out ?_; intro v1 wz hq1 hb1 hg1 hat1)
                        | fail)
                      have HOZ : Aside0 (wz.ownsRow gr 3 1 (.slice (some ⟨gr, 0, none⟩) N.n N.n) N.n (nums .i64 (rkL N (fun v => if v = hd then xr a + 1 else xr v)))) := ⟨own_other HO7.out hg1 (.inr (fun h => HQ7.out.1 gr h.symm rfl))⟩
                      have HQZ : Aside0 (Kd.Q (Kd.int .i64) 3 wz gr (fun q => q ≠ gr) v1 (ints (xq ++ [hd]))) := ⟨by
                        have e : ints (xq ++ [hd]) = ints xq ++ [(hd : Int)] := by simp [ints]
                        rw [e]; exact hq1⟩
                      have HBZ := Aside0.mk hb1
                      clear hq1 hb1 hg1 hat1
                      go_wp2
                      go_roundg (gk - 1)
                      case measure => exact pred_lt HK hlt
                      case rel => exact ⟨k + 1, next_eq HK hlt, by first | rfl | go_num, by rw [HSTEP.out]; exact HOZ, by rw [HSTEP.out]; exact HQZ, HBZ⟩
                · obtain rfl : k = (N.out a).length := by have := HK.out; omega
                  rw [List.take_length] at HO HQ
                  have hx := HX.out
                  rw [bfs] at hx
                  have HX2 := Aside0.mk hx
                  obtain ⟨hn1, hn2⟩ := bf_next HN.out HF.out
                  have HN1 := Aside0.mk hn1
                  have HN2 := Aside0.mk hn2
                  clear hx hn1 hn2 hlt
                  go_wp2
                  go_roundg q1
                  case measure => omega
                  case rel => exact ⟨_, _, HX2, HN1, HO, HQ, HB, ⟨by have := HN2.out; have := HM.out; omega⟩⟩
end Go.Proofs.Ytffghdbhjjfnlaa.F
end
section
/-
  flow.New and flow.Net: Edge.
-/
namespace Go.Proofs.Ytffghdbhjjfnlaa.F
open Go.RowKit Go.Proofs.YtffghdbhjjfnlaaW.PrintWords Go.Proofs.YtffghdbhjjfnlaaW.PrintLast Go.Proofs.YtffghdbhjjfnlaaW.PrintMore
set_option linter.unusedVariables false
set_option linter.unusedSimpArgs false
/-- What lies at a *flow.Net, by its rows. -/
structure RawAt (w : World) (base g n : Nat) (V : Vs) (R : Nat → List Int) (ma : Nat) (A M : List Int) (cut : List Bool) (rank next : List Int) : Prop where
  gb : base ≤ g
  head : w.heap[g]? = some (.cells #[.int .i64 n, V.vo, V.va, V.vm, V.vc, V.vr, V.vn] 51 (0, 0))
  out : w.ownsRow base 49 1 V.vo n V.rows
  inn : ∀ a, a < n → w.ownsRow base 3 1 (V.rows.getD a undef) (R a).length (nums .i64 (R a))
  arcs : w.ownsRow base 58 2 V.va ma (nums .i64 A)
  most : w.ownsRow base 3 1 V.vm M.length (nums .i64 M)
  cut_ : w.ownsRow base 4 1 V.vc cut.length (encs Value.bool cut)
  rank_ : w.ownsRow base 3 1 V.vr rank.length (nums .i64 rank)
  next_ : w.ownsRow base 3 1 V.vn next.length (nums .i64 next)
  apR : ∀ a b, a < n → b < n → a ≠ b → Ap (V.rows.getD a undef) (V.rows.getD b undef)
  apM : ∀ a, a < n → Ap (V.rows.getD a undef) V.vm
  apK : ∀ a, a < n → Ap (V.rows.getD a undef) V.vr
  apN : ∀ a, a < n → Ap (V.rows.getD a undef) V.vn
  apMK : Ap V.vm V.vr
  apMN : Ap V.vm V.vn
  apKN : Ap V.vr V.vn
theorem NetAt.raw {w : World} {base g : Nat} {N : Net} {L : Nat → Int} {V : Vs} {cut : List Bool} {rank next : List Int} (h : NetAt w base g N L V cut rank next) : RawAt w base g N.n V (outL N) (2 * N.m) (arcL N L) (rowN N.m N.mo) cut rank next :=
  ⟨h.gb, h.head, h.out, fun a ha => by rw [outL_len]; exact h.inn a ha, h.arcs, by rw [rowN_len]; exact h.most, h.cut_, h.rank_, h.next_, h.apR, h.apM, h.apK, h.apN, h.apMK, h.apMN, h.apKN⟩
theorem RawAt.net {w : World} {base g : Nat} {N : Net} {L : Nat → Int} {V : Vs} {R : Nat → List Int} {ma : Nat} {A M : List Int} {cut : List Bool} {rank next : List Int} (h : RawAt w base g N.n V R ma A M cut rank next) (hR : ∀ a, a < N.n → R a = outL N a) (hm : ma = 2 * N.m) (hA : A = arcL N L) (hM : M = rowN N.m N.mo) : NetAt w base g N L V cut rank next := by
  subst hm hA hM
  exact ⟨h.gb, h.head, h.out, fun a ha => by rw [← outL_len, ← hR a ha]; exact h.inn a ha, h.arcs, by have := h.most; rwa [rowN_len] at this, h.cut_, h.rank_, h.next_, h.apR, h.apM, h.apK, h.apN, h.apMK, h.apMN, h.apKN⟩
theorem ap_ne {u v : Value} (h : Ap u v) : u.ownBlock = none ∨ u.ownBlock ≠ v.ownBlock := by
  cases e : u.ownBlock with
  | none => exact .inl rfl
  | some k => exact .inr fun h2 => h k e h2.symm
theorem ap_new {w : World} {base : Nat} {e : TypeId} {size n : Nat} {u v v1 : Value} {xs : List Value} (hu : w.ownsRow base e size u n xs) (h : Ap u v) (hat : v1.ownBlock = v.ownBlock ∨ ∃ b, v1.ownBlock = some b ∧ w.heap.size ≤ b) : Ap u v1 := fun k hk hk1 => by
  rcases hat with e | ⟨b, e, hb⟩
  · exact h k hk (by rw [← e]; exact hk1)
  · rw [e] at hk1
    injection hk1 with hk1
    have := own_lt hu k hk
    omega
section
variable {w w1 : World} {base g n : Nat} {V : Vs} {R : Nat → List Int} {ma : Nat} {A M : List Int} {cut : List Bool} {rank next : List Int}
theorem grown_head (h : RawAt w base g n V R ma A M cut rank next) {row : Option Nat} (hg : w.grownBy w1 row) (hne : some g ≠ row) : w1.heap[g]? = some (.cells #[.int .i64 n, V.vo, V.va, V.vm, V.vc, V.vr, V.vn] 51 (0, 0)) :=
  (hg.block g (blk_lt h.head) hne).trans h.head
theorem RawAt.putA (h : RawAt w base g n V R ma A M cut rank next) {v1 : Value} {ma' : Nat} {A' : List Int} (hg : w.grownBy w1 V.va.ownBlock) (ho : w1.ownsRow base 58 2 v1 ma' (nums .i64 A')) :
    RawAt (w1.setCell ⟨g, 2, none⟩ v1) base g n { V with va := v1 } R ma' A' M cut rank next := by
  have hh := grown_head h hg (own_ne h.arcs h.head (by decide))
  have far : ∀ {e : TypeId} {size n : Nat} {u : Value} {xs : List Value}, w.ownsRow base e size u n xs → e ≠ 58 → e ≠ 51 → (w1.setCell ⟨g, 2, none⟩ v1).ownsRow base e size u n xs := fun hu h1 h2 => by
    have hu1 := own_other hu hg (own_type_ne hu h.arcs h1)
    exact own_far hu1 (own_apart hu1 hh h2) _ _
  refine ⟨h.gb, ?_, far h.out (by decide) (by decide), fun a ha => far (h.inn a ha) (by decide) (by decide), own_far ho (own_apart ho hh (by decide)) _ _, far h.most (by decide) (by decide), far h.cut_ (by decide) (by decide), far h.rank_ (by decide) (by decide), far h.next_ (by decide) (by decide), h.apR, h.apM, h.apK, h.apN, h.apMK, h.apMN, h.apKN⟩
  exact blk_set hh 2 v1
theorem RawAt.putM (h : RawAt w base g n V R ma A M cut rank next) {v1 : Value} {M' : List Int} (hg : w.grownBy w1 V.vm.ownBlock) (hat : v1.ownBlock = V.vm.ownBlock ∨ ∃ b, v1.ownBlock = some b ∧ w.heap.size ≤ b) (ho : w1.ownsRow base 3 1 v1 M'.length (nums .i64 M')) :
    RawAt (w1.setCell ⟨g, 3, none⟩ v1) base g n { V with vm := v1 } R ma A M' cut rank next := by
  have hh := grown_head h hg (own_ne h.most h.head (by decide))
  have far' : ∀ {e : TypeId} {size n : Nat} {u : Value} {xs : List Value}, w.ownsRow base e size u n xs → (u.ownBlock = none ∨ u.ownBlock ≠ V.vm.ownBlock) → e ≠ 51 → (w1.setCell ⟨g, 3, none⟩ v1).ownsRow base e size u n xs := fun hu h1 h2 => by
    have hu1 := own_other hu hg h1
    exact own_far hu1 (own_apart hu1 hh h2) _ _
  have far : ∀ {e : TypeId} {size n : Nat} {u : Value} {xs : List Value}, w.ownsRow base e size u n xs → e ≠ 3 → e ≠ 51 → (w1.setCell ⟨g, 3, none⟩ v1).ownsRow base e size u n xs := fun hu h1 h2 => far' hu (own_type_ne hu h.most h1) h2
  refine ⟨h.gb, ?_, far h.out (by decide) (by decide), fun a ha => far' (h.inn a ha) (ap_ne (h.apM a ha)) (by decide), far h.arcs (by decide) (by decide), own_far ho (own_apart ho hh (by decide)) _ _, far h.cut_ (by decide) (by decide), far' h.rank_ (ap_ne h.apMK.symm) (by decide), far' h.next_ (ap_ne h.apMN.symm) (by decide), h.apR, fun a ha => ap_new (h.inn a ha) (h.apM a ha) hat, h.apK, h.apN, (ap_new h.rank_ h.apMK.symm hat).symm, (ap_new h.next_ h.apMN.symm hat).symm, h.apKN⟩
  exact blk_set hh 3 v1
theorem RawAt.putC (h : RawAt w base g n V R ma A M cut rank next) :
    RawAt (w.setCell ⟨g, 4, none⟩ (.slice none 0 0)) base g n { V with vc := .slice none 0 0 } R ma A M [] rank next := by
  have far : ∀ {e : TypeId} {size n : Nat} {u : Value} {xs : List Value}, w.ownsRow base e size u n xs → e ≠ 51 → (w.setCell ⟨g, 4, none⟩ (.slice none 0 0)).ownsRow base e size u n xs := fun hu h2 => own_far hu (own_apart hu h.head h2) _ _
  refine ⟨h.gb, ?_, far h.out (by decide), fun a ha => far (h.inn a ha) (by decide), far h.arcs (by decide), far h.most (by decide), ⟨rfl, .inl ⟨rfl, rfl⟩⟩, far h.rank_ (by decide), far h.next_ (by decide), h.apR, h.apM, h.apK, h.apN, h.apMK, h.apMN, h.apKN⟩
  exact blk_set h.head 4 _
theorem getD_set_same {α : Type} (l : List α) (a : Nat) (x d : α) (h : a < l.length) : (l.set a x).getD a d = x := by simp [List.getD_eq_getElem?_getD, h]
theorem getD_set_other {α : Type} (l : List α) {a b : Nat} (x d : α) (h : b ≠ a) : (l.set a x).getD b d = l.getD b d := by
  simp [List.getD_eq_getElem?_getD, List.getElem?_set, Ne.symm h]
theorem RawAt.putR (h : RawAt w base g n V R ma A M cut rank next) {go co a : Nat} (ha : a < n) (hv : V.vo = .slice (some ⟨go, 0, none⟩) n co) {v1 : Value} {x : List Int} (hg : w.grownBy w1 (V.rows.getD a undef).ownBlock) (hat : v1.ownBlock = (V.rows.getD a undef).ownBlock ∨ ∃ b, v1.ownBlock = some b ∧ w.heap.size ≤ b) (ho : w1.ownsRow base 3 1 v1 x.length (nums .i64 x)) :
    RawAt (w1.setCell ⟨go, a, none⟩ v1) base g n { V with rows := V.rows.set a v1 } (fun b => if b = a then x else R b) ma A M cut rank next := by
  have hra := h.inn a ha
  have hh := grown_head h hg (own_ne hra h.head (by decide))
  have hob : V.vo.ownBlock = some go := by rw [hv]; rfl
  have hout1 := own_other h.out hg (own_type_ne h.out hra (by decide))
  have far' : ∀ {e : TypeId} {size n : Nat} {u : Value} {xs : List Value}, w.ownsRow base e size u n xs → (u.ownBlock = none ∨ u.ownBlock ≠ (V.rows.getD a undef).ownBlock) → e ≠ 49 → (w1.setCell ⟨go, a, none⟩ v1).ownsRow base e size u n xs := fun hu h1 h2 => by
    have hu1 := own_other hu hg h1
    exact own_far hu1 (fun hk => own_apart2 hu1 hout1 h2 go hk hob) _ _
  have far : ∀ {e : TypeId} {size n : Nat} {u : Value} {xs : List Value}, w.ownsRow base e size u n xs → e ≠ 3 → e ≠ 49 → (w1.setCell ⟨go, a, none⟩ v1).ownsRow base e size u n xs := fun hu h1 h2 => far' hu (own_type_ne hu hra h1) h2
  have hlen : V.rows.length = n := by have := h.out.1; omega
  have hne : g ≠ go := fun e => own_apart hout1 hh (by decide) (by rw [hob, e])
  have hr1 : (V.rows.set a v1).getD a undef = v1 := getD_set_same _ _ _ _ (by omega)
  have hr2 : ∀ b, b ≠ a → (V.rows.set a v1).getD b undef = V.rows.getD b undef := fun b hb => getD_set_other _ _ _ hb
  have hst := (show w1.ownsRow base 49 1 (.slice (some ⟨go, 0, none⟩) n co) n V.rows by rw [← hv]; exact hout1).stored a v1
  refine ⟨h.gb, (Below.heap_setCell w1 ⟨go, a, none⟩ _ g hne).trans hh, by rw [hv]; exact hst.1, fun b hb => ?_, far h.arcs (by decide) (by decide), far' h.most (ap_ne (h.apM a ha).symm) (by decide), far h.cut_ (by decide) (by decide), far' h.rank_ (ap_ne (h.apK a ha).symm) (by decide), far' h.next_ (ap_ne (h.apN a ha).symm) (by decide), fun b c hb hc hbc => ?_, fun b hb => ?_, fun b hb => ?_, fun b hb => ?_, h.apMK, h.apMN, h.apKN⟩
  · show (w1.setCell ⟨go, a, none⟩ v1).ownsRow base 3 1 ((V.rows.set a v1).getD b undef) (if b = a then x else R b).length (nums .i64 (if b = a then x else R b))
    by_cases e : b = a
    · subst e
      rw [hr1, if_pos rfl]
      exact own_far ho (fun hk => own_apart2 ho hout1 (by decide) go hk hob) _ _
    · rw [hr2 b e, if_neg e]
      exact far' (h.inn b hb) (ap_ne (h.apR b a hb ha e)) (by decide)
  · show Ap ((V.rows.set a v1).getD b undef) ((V.rows.set a v1).getD c undef)
    by_cases e : b = a
    · subst e
      rw [hr1, hr2 c (Ne.symm hbc)]
      exact (ap_new (h.inn c hc) (h.apR c b hc hb (Ne.symm hbc)) hat).symm
    · rw [hr2 b e]
      by_cases e2 : c = a
      · subst e2
        rw [hr1]
        exact ap_new (h.inn b hb) (h.apR b c hb hc e) hat
      · rw [hr2 c e2]
        exact h.apR b c hb hc hbc
  · show Ap ((V.rows.set a v1).getD b undef) V.vm
    by_cases e : b = a
    · subst e; rw [hr1]; exact (ap_new h.most (h.apM b hb).symm hat).symm
    · rw [hr2 b e]; exact h.apM b hb
  · show Ap ((V.rows.set a v1).getD b undef) V.vr
    by_cases e : b = a
    · subst e; rw [hr1]; exact (ap_new h.rank_ (h.apK b hb).symm hat).symm
    · rw [hr2 b e]; exact h.apK b hb
  · show Ap ((V.rows.set a v1).getD b undef) V.vn
    by_cases e : b = a
    · subst e; rw [hr1]; exact (ap_new h.next_ (h.apN b hb).symm hat).symm
    · rw [hr2 b e]; exact h.apN b hb
theorem RawAt.move (h : RawAt w base g n V R ma A M cut rank next) (hb : ∀ k, base ≤ k → k < w.heap.size → w1.heap[k]? = w.heap[k]?) : RawAt w1 base g n V R ma A M cut rank next := by
  have mv : ∀ {e : TypeId} {size n : Nat} {v : Value} {xs : List Value}, w.ownsRow base e size v n xs → w1.ownsRow base e size v n xs := fun ho => own_move ho fun k hk => hb k (own_base ho k hk) (own_lt ho k hk)
  exact ⟨h.gb, (hb g h.gb (blk_lt h.head)).trans h.head, mv h.out, fun a ha => mv (h.inn a ha), mv h.arcs, mv h.most, mv h.cut_, mv h.rank_, mv h.next_, h.apR, h.apM, h.apK, h.apN, h.apMK, h.apMN, h.apKN⟩
theorem RawAt.below (h : RawAt w base g n V R ma A M cut rank next) (hb : Below w.heap.size w w1) : RawAt w1 base g n V R ma A M cut rank next := h.move fun k _ hk => hb.block k hk
theorem RawAt.size (h : RawAt w base g n V R ma A M cut rank next) : base ≤ w.heap.size := Nat.le_trans h.gb (Nat.le_of_lt (blk_lt h.head))
theorem RawAt.cell (h : RawAt w base g n V R ma A M cut rank next) (i : Nat) : w.cell? ⟨g, i, none⟩ = #[.int .i64 n, V.vo, V.va, V.vm, V.vc, V.vr, V.vn][i]? := blk_cell h.head i
theorem RawAt.frozen (h : RawAt w base g n V R ma A M cut rank next) (i : Nat) : w.frozen? ⟨g, i, none⟩ = false := blk_frozen h.head i
theorem RawAt.row (h : RawAt w base g n V R ma A M cut rank next) {go cap : Nat} (hv : V.vo = .slice (some ⟨go, 0, none⟩) n cap) (a : Nat) (ha : a < n) : w.cell? ⟨go, a, none⟩ = some (V.rows.getD a undef) := by
  have ho := h.out
  rw [hv] at ho
  have hl : a < V.rows.length := by have := ho.1; omega
  have hc := ho.cells (g := go) rfl a (V.rows.getD a undef) (by rw [List.getD_eq_getElem?_getD, List.getElem?_eq_getElem hl]; rfl)
  rwa [add_plain] at hc
end

/-! ### a net without edges; an edge more -/
def Net.none (n : Nat) : Net := ⟨n, 0, fun _ => 0, fun _ => 0, fun _ => 0⟩
def Net.add (N : Net) (f t : Nat) (c : Int) : Net := ⟨N.n, N.m + 1, fun e => if e = N.m then f else N.fr e, fun e => if e = N.m then t else N.to e, fun e => if e = N.m then c else N.mo e⟩
def addL (N : Net) (L : Nat → Int) (c : Int) : Nat → Int := fun k => if k = 2 * N.m then c else if k = 2 * N.m + 1 then 0 else L k
theorem none_ok {n : Nat} (h1 : 1 ≤ n) (h2 : n ≤ 1000) : (Net.none n).Ok := ⟨h1, h2, Nat.zero_le _, fun _ h => absurd h (Nat.not_lt_zero _), fun _ h => absurd h (Nat.not_lt_zero _), fun _ h => absurd h (Nat.not_lt_zero _), fun _ h => absurd h (Nat.not_lt_zero _)⟩
theorem add_ok {N : Net} (h : N.Ok) {f t : Nat} {c : Int} (hf : f < N.n) (ht : t < N.n) (hft : f ≠ t) (h0 : 0 ≤ c) (h1 : c ≤ 1000000) (hm : N.m < 5000) : (N.add f t c).Ok := by
  have key : ∀ {P : Nat → Prop}, P N.m → (∀ e, e < N.m → P e) → ∀ e, e < N.m + 1 → P e := fun p0 p1 e he => by
    rcases Nat.lt_or_ge e N.m with c | c
    · exact p1 e c
    · rw [show e = N.m by omega]; exact p0
  have e0 : ∀ {α : Type} (x : α) (y : Nat → α), (if N.m = N.m then x else y N.m) = x := fun x y => if_pos rfl
  have e1 : ∀ {α : Type} (x : α) (y : Nat → α) (e : Nat), e < N.m → (if e = N.m then x else y e) = y e := fun x y e he => if_neg (by omega)
  refine ⟨h.pos, h.le, hm, ?_, ?_, ?_, ?_⟩
  · exact key (P := fun e => (if e = N.m then f else N.fr e) < N.n) (by rw [e0]; exact hf) (fun e he => by rw [e1 _ _ e he]; exact h.fr e he)
  · exact key (P := fun e => (if e = N.m then t else N.to e) < N.n) (by rw [e0]; exact ht) (fun e he => by rw [e1 _ _ e he]; exact h.to e he)
  · exact key (P := fun e => (if e = N.m then f else N.fr e) ≠ (if e = N.m then t else N.to e)) (by rw [e0, e0]; exact hft) (fun e he => by rw [e1 _ _ e he, e1 _ _ e he]; exact h.ne e he)
  · exact key (P := fun e => 0 ≤ (if e = N.m then c else N.mo e) ∧ (if e = N.m then c else N.mo e) ≤ 1000000) (by rw [e0]; exact ⟨h0, h1⟩) (fun e he => by rw [e1 _ _ e he]; exact h.mo e he)
theorem rowN_succ (n : Nat) (f : Nat → Int) : rowN (n + 1) f = rowN n f ++ [f n] := by simp [rowN, List.range_succ]
theorem add_most (N : Net) (f t : Nat) (c : Int) : rowN (N.add f t c).m (N.add f t c).mo = rowN N.m N.mo ++ [c] := by
  show rowN (N.m + 1) (fun e => if e = N.m then c else N.mo e) = _
  rw [rowN_succ, if_pos rfl, rowN_congr (g := N.mo) (fun i hi => if_neg (by omega))]
theorem add_hd (N : Net) (f t : Nat) (c : Int) (k : Nat) (h : k < 2 * N.m) : (N.add f t c).hd k = N.hd k := by
  unfold Net.hd Net.add
  by_cases e : k % 2 = 0
  · rw [if_pos e, if_pos e]; exact if_neg (by omega)
  · rw [if_neg e, if_neg e]; exact if_neg (by omega)
theorem add_tl (N : Net) (f t : Nat) (c : Int) (k : Nat) (h : k < 2 * N.m) : (N.add f t c).tl k = N.tl k := by
  unfold Net.tl Net.add
  by_cases e : k % 2 = 0
  · rw [if_pos e, if_pos e]; exact if_neg (by omega)
  · rw [if_neg e, if_neg e]; exact if_neg (by omega)
theorem add_tl0 (N : Net) (f t : Nat) (c : Int) : (N.add f t c).tl (2 * N.m) = f := by
  unfold Net.tl Net.add
  rw [if_pos (by omega)]; exact if_pos (by omega)
theorem add_tl1 (N : Net) (f t : Nat) (c : Int) : (N.add f t c).tl (2 * N.m + 1) = t := by
  unfold Net.tl Net.add
  rw [if_neg (by omega)]; exact if_pos (by omega)
theorem add_hd0 (N : Net) (f t : Nat) (c : Int) : (N.add f t c).hd (2 * N.m) = t := by
  unfold Net.hd Net.add
  rw [if_pos (by omega)]; exact if_pos (by omega)
theorem add_hd1 (N : Net) (f t : Nat) (c : Int) : (N.add f t c).hd (2 * N.m + 1) = f := by
  unfold Net.hd Net.add
  rw [if_neg (by omega)]; exact if_pos (by omega)
theorem add_arcs (N : Net) (L : Nat → Int) (f t : Nat) (c : Int) : arcL (N.add f t c) (addL N L c) = arcL N L ++ [(t : Int), c, (f : Int), 0] := by
  unfold arcL
  rw [show 2 * (N.add f t c).m * 2 = 2 * N.m * 2 + 1 + 1 + 1 + 1 by show 2 * (N.m + 1) * 2 = _; omega, rowN_succ, rowN_succ, rowN_succ, rowN_succ]
  rw [rowN_congr (g := fun i => if i % 2 = 0 then (N.hd (i / 2) : Int) else L (i / 2)) (fun i hi => ?_)]
  · rw [if_pos (by omega), if_neg (by omega), if_pos (by omega), if_neg (by omega)]
    rw [show 2 * N.m * 2 / 2 = 2 * N.m by omega, show (2 * N.m * 2 + 1) / 2 = 2 * N.m by omega, show (2 * N.m * 2 + 1 + 1) / 2 = 2 * N.m + 1 by omega, show (2 * N.m * 2 + 1 + 1 + 1) / 2 = 2 * N.m + 1 by omega]
    rw [add_hd0, add_hd1]
    have a1 : addL N L c (2 * N.m) = c := if_pos rfl
    have a2 : addL N L c (2 * N.m + 1) = 0 := by unfold addL; rw [if_neg (by omega), if_pos rfl]
    rw [a1, a2]
    simp [List.append_assoc]
  · by_cases e : i % 2 = 0
    · rw [if_pos e, if_pos e, add_hd _ _ _ _ _ (by omega)]
    · rw [if_neg e, if_neg e]
      unfold addL
      rw [if_neg (by omega), if_neg (by omega)]
theorem add_out (N : Net) (f t : Nat) (c : Int) (a : Nat) : (N.add f t c).out a = N.out a ++ ((if a = f then [2 * N.m] else []) ++ (if a = t then [2 * N.m + 1] else [])) := by
  unfold Net.out
  rw [show 2 * (N.add f t c).m = 2 * N.m + 1 + 1 by show 2 * (N.m + 1) = _; omega, List.range_succ, List.range_succ, List.filter_append, List.filter_append]
  rw [List.filter_congr (q := fun k => decide (N.tl k = a)) (fun k hk => by rw [add_tl _ _ _ _ _ (List.mem_range.1 hk)])]
  rw [List.append_assoc]
  congr 1
  congr 1
  · simp only [List.filter_cons, List.filter_nil, add_tl0]
    by_cases e : a = f
    · rw [if_pos e, if_pos (by simp [e])]
    · rw [if_neg e, if_neg (by simpa using fun h => e h.symm)]
  · simp only [List.filter_cons, List.filter_nil, add_tl1]
    by_cases e : a = t
    · rw [if_pos e, if_pos (by simp [e])]
    · rw [if_neg e, if_neg (by simpa using fun h => e h.symm)]
theorem add_outL (N : Net) (f t : Nat) (c : Int) (hft : f ≠ t) (a : Nat) : (if a = t then outL N t ++ [((2 * N.m + 1 : Nat) : Int)] else if a = f then outL N f ++ [((2 * N.m : Nat) : Int)] else outL N a) = outL (N.add f t c) a := by
  unfold outL
  rw [add_out]
  by_cases e : a = t
  · subst e
    rw [if_pos rfl, if_neg (Ne.symm hft), if_pos rfl]; simp
  · by_cases e2 : a = f
    · subst e2
      rw [if_neg e, if_pos rfl, if_pos rfl, if_neg e]; simp
    · rw [if_neg e, if_neg e2, if_neg e2, if_neg e]; simp
theorem info49 : (Try.prog.info? 49).map (fun i => (i.zero, i.size, i.bytes)) = some (some (.slice none 0 0), 1, 24) := by kernel_rfl
theorem info58 : (Try.prog.info? 58).map (fun i => (i.zero, i.size, i.bytes)) = some (some (.agg #[.int .i64 0, .int .i64 0]), 2, 16) := by kernel_rfl
set_option maxRecDepth 100000 in
theorem new_no (n : Int) (h : n < 1 ∨ 1000 < n) (w : World) : Calls Try.prog 16 #[.int .i64 n] w fun e w' => e = .returned (.pointer none) ∧ w' = w := by
  by_cases h1 : n < 1
  · have d1 : decide (n < 1) = true := decide_eq_true h1
    clear h h1
    go_enter Try.func16, Try.ntmps16
    go_wp2
    go_ret
    exact ⟨rfl, rfl⟩
  · have d1 : decide (n < 1) = false := decide_eq_false h1
    have d2 : decide (1000 < n) = true := decide_eq_true (by omega)
    have d3 : decide (n > 1000) = true := decide_eq_true (by omega)
    clear h h1
    go_enter Try.func16, Try.ntmps16
    go_wp2
    go_ret
    exact ⟨rfl, rfl⟩
set_option maxRecDepth 100000 in
theorem new_yes (n : Nat) (h1 : 1 ≤ n) (h2 : n ≤ 1000) (L : Nat → Int) (w : World) : Calls Try.prog 16 #[.int .i64 n] w fun e w' => ∃ g V, e = .returned (.pointer (some ⟨g, 0, none⟩)) ∧ NetAt w' w.heap.size g (Net.none n) L V [] [] [] ∧ Below w.heap.size w w' := by
  have hmk := print_make_of (P := Try.prog) 47 49 (.slice none 0 0) 24 Try.underlying47 info49 rfl (by decide) n (by omega)
  have d1 : decide ((n : Int) < 1) = false := decide_eq_false (by omega)
  have d2 : decide ((n : Int) > 1000) = false := decide_eq_false (by omega)
  go_enter Try.func16, Try.ntmps16
  go_wp2
  go_ret
  have e1 : (w.alloc (Obj.cells (madeCells #[Value.slice none 0 0] n) 49)).heap.size = w.heap.size + 1 := World.size_alloc _ _
  have hmade := own_made_of (enc := fun v : Value => v) (d := Value.slice none 0 0) w w.heap.size 49 n (Nat.le_refl _) (by omega)
  have henc : encs (fun v : Value => v) (List.replicate n (Value.slice none 0 0)) = List.replicate n (Value.slice none 0 0) := by simp [encs]
  rw [henc] at hmade
  have hno : ∀ (x : World) (e : TypeId) (s : Nat), x.ownsRow w.heap.size e s (.slice none 0 0) 0 [] := fun x e s => own_nil _ _ _ _
  have hgd : ∀ a, a < n → (List.replicate n (Value.slice none 0 0)).getD a undef = .slice none 0 0 := fun a ha => by simp [List.getD_eq_getElem?_getD, ha]
  have apn : ∀ v : Value, Ap (.slice none 0 0) v := fun v k hk => by cases hk
  have hout0 : ∀ a, (Net.none n).out a = [] := fun a => rfl
  refine ⟨w.heap.size + 1, ⟨.slice (some ⟨w.heap.size, 0, none⟩) n n, .slice none 0 0, .slice none 0 0, .slice none 0 0, .slice none 0 0, .slice none 0 0, List.replicate n (.slice none 0 0)⟩, rfl, ⟨by omega, ?_, ?_, fun a ha => ?_, hno _ _ _, hno _ _ _, hno _ _ _, hno _ _ _, hno _ _ _, fun a b ha hb hab => ?_, fun a ha => ?_, fun a ha => ?_, fun a ha => ?_, apn _, apn _, apn _⟩, below_alloc (below_alloc (Below.refl _ _) _) _⟩
  · have h := heap_new (w.alloc (Obj.cells (madeCells #[Value.slice none 0 0] n) 49)) (Obj.cells #[Value.int IntKind.i64 ↑n, Value.slice (some { block := w.heap.size, off := 0 }) n n, Value.slice none 0 0, Value.slice none 0 0, Value.slice none 0 0, Value.slice none 0 0, Value.slice none 0 0] 51)
    rw [e1] at h
    exact h
  · exact own_move hmade fun k hk => (below_alloc (Below.refl _ _) _).block k (own_lt hmade k hk)
  · rw [hgd a ha]; exact hno _ _ _
  · rw [hgd a ha]; exact apn _
  · rw [hgd a ha]; exact apn _
  · rw [hgd a ha]; exact apn _
  · rw [hgd a ha]; exact apn _
theorem row_cell {w : World} {base n : Nat} {v : Value} {rows : List Value} (ho : w.ownsRow base 49 1 v n rows) {go cap : Nat} (hv : v = .slice (some ⟨go, 0, none⟩) n cap) (a : Nat) (ha : a < n) : w.cell? ⟨go, a, none⟩ = some (rows.getD a undef) := by
  subst hv
  have hl : a < rows.length := by have := ho.1; omega
  have hc := ho.cells (g := go) rfl a (rows.getD a undef) (by rw [List.getD_eq_getElem?_getD, List.getElem?_eq_getElem hl]; rfl)
  rwa [add_plain] at hc
theorem row_frozen {w : World} {base n : Nat} {v : Value} {rows : List Value} (ho : w.ownsRow base 49 1 v n rows) {go cap : Nat} (hv : v = .slice (some ⟨go, 0, none⟩) n cap) (a : Nat) : w.frozen? ⟨go, a, none⟩ = false := by
  subst hv
  rcases ho.2 with ⟨h', _⟩ | ⟨g', cap', cur, h', _, hh, _⟩
  · cases h'
  · have : go = g' := by injection h' with h'; injection h' with h'; injection h' with h'
    subst this
    simp [World.frozen?, hh]
/-- Why there is no such edge. -/
def edgeE (N : Net) (f t c : Int) : Int := if twoE N.n f t ≠ 0 then twoE N.n f t else if c < 0 ∨ c > 1000000 then 2 else if N.m ≥ 5000 then 9 else 0
set_option maxRecDepth 100000 in
theorem edge_no {N : Net} (hN : N.Ok) {w : World} {base g : Nat} {L : Nat → Int} {V : Vs} {cut : List Bool} {rank next : List Int} (hA : NetAt w base g N L V cut rank next) (f t c : Int) (hE : edgeE N f t c ≠ 0) :
    Calls Try.prog 18 #[.pointer (some ⟨g, 0, none⟩), .int .i64 f, .int .i64 t, .int .i64 c] w fun e w' => e = .returned (.tuple #[.int .i64 0, .int .i64 (edgeE N f t c)]) ∧ w' = w := by
  have HA := Aside0.mk hA
  have hpos := hN.pos
  obtain ⟨E, hEE⟩ : ∃ E, twoE N.n f t = E := ⟨_, rfl⟩
  have HEE := Aside0.mk hEE
  obtain ⟨Am, cm, hvm⟩ := own_slice hA.most
  have c3 : w.cell? ⟨g, 3, none⟩ = some (.slice Am N.m cm) := (hA.cell 3).trans (by rw [← hvm]; rfl)
  have hm5 := hN.few
  clear hA hvm
  by_cases h0 : E = 0
  · subst h0
    have h1 : ((0 : Int) == 0) = true := rfl
    by_cases hc : c < 0
    · have d1 : decide (c < 0) = true := decide_eq_true hc
      have e2 : edgeE N f t c = 2 := by unfold edgeE; rw [if_neg (by rw [hEE]; omega), if_pos (.inl hc)]
      rw [e2]
      clear hEE hE e2 hc
      go_enter Try.func18, Try.ntmps18
      go_wp2_with fail
      refine (two_calls hpos HA.out f t).mono ?_
      rintro e wq ⟨rfl, hwq⟩
      have hwq' := hwq.symm
      subst hwq'
      rw [HEE.out]
      go_wp2
      go_ret2
      exact ⟨rfl, rfl⟩
    · have d1 : decide (c < 0) = false := decide_eq_false hc
      by_cases hc2 : c > 1000000
      · have d2 : decide (c > 1000000) = true := decide_eq_true hc2
        have e2 : edgeE N f t c = 2 := by unfold edgeE; rw [if_neg (by rw [hEE]; omega), if_pos (.inr hc2)]
        rw [e2]
        clear hEE hE e2 hc hc2
        go_enter Try.func18, Try.ntmps18
        go_wp2_with fail
        refine (two_calls hpos HA.out f t).mono ?_
        rintro e wq ⟨rfl, hwq⟩
        have hwq' := hwq.symm
        subst hwq'
        rw [HEE.out]
        go_wp2
        go_ret2
        exact ⟨rfl, rfl⟩
      · have d2 : decide (c > 1000000) = false := decide_eq_false hc2
        have hm : 5000 ≤ N.m := by
          rcases Nat.lt_or_ge N.m 5000 with h | h
          · exact absurd (show edgeE N f t c = 0 by unfold edgeE; rw [if_neg (by rw [hEE]; omega), if_neg (by omega), if_neg (by omega)]) hE
          · exact h
        have e2 : edgeE N f t c = 9 := by unfold edgeE; rw [if_neg (by rw [hEE]; omega), if_neg (by omega), if_pos (by omega)]
        have d3 : decide ((N.m : Int) ≥ 5000) = true := decide_eq_true (by omega)
        rw [e2]
        clear hEE hE e2 hc hc2 hm
        go_enter Try.func18, Try.ntmps18
        go_wp2_with fail
        refine (two_calls hpos HA.out f t).mono ?_
        rintro e wq ⟨rfl, hwq⟩
        have hwq' := hwq.symm
        subst hwq'
        rw [HEE.out]
        go_wp2
        go_ret2
        exact ⟨rfl, rfl⟩
  · have h1 : (E == 0) = false := by simp [h0]
    have e2 : edgeE N f t c = E := by unfold edgeE; rw [if_pos (by rw [hEE]; exact h0), hEE]
    rw [e2]
    clear hEE hE e2 h0
    go_enter Try.func18, Try.ntmps18
    go_wp2_with fail
    refine (two_calls hpos HA.out f t).mono ?_
    rintro e wq ⟨rfl, hwq⟩
    have hwq' := hwq.symm
    subst hwq'
    rw [HEE.out]
    go_wp2
    go_ret2
    exact ⟨rfl, rfl⟩
section
variable {ops : Array Oper} {rest : List Oper} {o : Oper} {a : Act} {Q : Exit → Act → World → Prop} {K : Act → World → Prop}
theorem NetIn.putC {S : Nat → Prop} {g : Nat} {V : Vs} (h : NetIn S g V) : NetIn S g { V with vc := .slice none 0 0 } := ⟨h.g, h.vo, h.va, h.vm, fun k hk => absurd (show (none : Option Nat) = some k from hk) (by simp), h.vr, h.vn, h.rows⟩
theorem Kept.grown {S : Nat → Prop} {w0 W w1 : World} (h : Kept S w0 W) {row : Option Nat} (hg : W.grownBy w1 row) (hr : ∀ k, row = some k → S k) (hU : ∀ k, w0.heap.size ≤ k → S k) : Kept S w0 w1 :=
  ⟨hg.os.trans h.os, hg.tape.trans h.tape, hg.output.trans h.output, Nat.le_trans h.size hg.size, fun k hk => (hg.block k (by
    rcases Nat.lt_or_ge k w0.heap.size with h1 | h1
    · exact Nat.lt_of_lt_of_le h1 h.size
    · exact absurd (hU k h1) hk) (fun e => hk (hr k e.symm))).trans (h.block k hk)⟩
theorem new_in {S : Nat → Prop} {W : World} {v v1 : Value} (hat : v1.ownBlock = v.ownBlock ∨ ∃ b, v1.ownBlock = some b ∧ W.heap.size ≤ b) (hv : ∀ k, v.ownBlock = some k → S k) (hU : ∀ k, W.heap.size ≤ k → S k) : ∀ k, v1.ownBlock = some k → S k := fun k hk => by
  rcases hat with e | ⟨b, e, hb⟩
  · exact hv k (by rw [← e]; exact hk)
  · rw [e] at hk
    injection hk with hk
    exact hU k (by omega)
/-- x.arcs = append(x.arcs, arc{t, c}, arc{f, 0}): the call. -/
theorem append_arcs {w0 W : World} {base g n : Nat} {V : Vs} {R : Nat → List Int} {ma : Nat} {A M : List Int} {cut : List Bool} {rank next : List Int} {S : Nat → Prop} (hI : NetIn S g V) (hU : ∀ k, w0.heap.size ≤ k → S k) (hgd : o.guard = none) (s x : Operand)
    (ho : o.op = .call { callee := .builtin .append, args := #[s, x], argTypes := #[48, 48] }) (h : RawAt W base g n V R ma A M cut rank next) (hB : Kept S w0 W) (hs : a.eval s = V.va) (hx : a.eval x = .slice (some ⟨W.heap.size, 0, none⟩) 2 2) (hl : (ma + 2) * 16 ≤ 140737488355328) (t c f : Int)
    (K : ∀ A1 c1 w1, RawAt (w1.setCell ⟨g, 2, none⟩ (.slice A1 (ma + 2) c1)) base g n { V with va := .slice A1 (ma + 2) c1 } R (ma + 2) (A ++ [t, c, f, 0]) M cut rank next → w1.cell? ⟨g, 2, none⟩ = some V.va → w1.frozen? ⟨g, 2, none⟩ = false → NetIn S g { V with va := .slice A1 (ma + 2) c1 } → Kept S w0 (w1.setCell ⟨g, 2, none⟩ (.slice A1 (ma + 2) c1)) → wpList Try.prog ops Q rest (a.put o.dst (.slice A1 (ma + 2) c1)) w1) :
    wpList Try.prog ops Q (o :: rest) a (W.alloc (Obj.cells #[.int .i64 t, .int .i64 c, .int .i64 f, .int .i64 0] 58)) := by
  obtain ⟨i58, hi58, hzz⟩ := Option.map_eq_some_iff.1 info58
  simp only [Prod.mk.injEq] at hzz
  obtain ⟨hz0, hz1, hz2⟩ := hzz
  have hA := h.below (below_alloc (Below.refl _ _) (Obj.cells #[.int .i64 t, .int .i64 c, .int .i64 f, .int .i64 0] 58))
  refine wpList_append_own_at _ hgd s x 48 ho base 58 i58 _ 2 16 Try.underlying48 hi58 hz0 hz1 hz2 rfl (by decide) V.va ma (nums .i64 A) hs hA.arcs ⟨W.heap.size, 0, none⟩ 2 2 [.int .i64 t, .int .i64 c, .int .i64 f, .int .i64 0] hx rfl (World.news_of_block (cs := #[.int .i64 t, .int .i64 c, .int .i64 f, .int .i64 0]) (t := 58) (fr := (0, 0)) (heap_new W _)) (fun u hu => by simp only [List.mem_cons, List.not_mem_nil, or_false] at hu; rcases hu with rfl | rfl | rfl | rfl <;> rfl) (by simp only [maxLen]; omega) hl hA.size ?_
  intro v1 w1 ho1 hg1 _ hat0
  have hat1 : v1.ownBlock = V.va.ownBlock ∨ ∃ b, v1.ownBlock = some b ∧ W.heap.size ≤ b := hat0.imp id fun e => ⟨_, e, by rw [World.size_alloc]; omega⟩
  have hin := new_in hat1 hI.va (hB.up hU)
  obtain ⟨A1, c1, hv1⟩ := own_slice ho1
  subst hv1
  have hh1 := grown_head hA hg1 (own_ne hA.arcs hA.head (by decide))
  have hraw := hA.putA hg1 (v1 := .slice A1 (ma + 2) c1) (ma' := ma + 2) (A' := A ++ [t, c, f, 0]) (by simpa [nums] using ho1)
  exact K A1 c1 w1 hraw ((blk_cell hh1 2).trans rfl) (blk_frozen hh1 2) ⟨hI.g, hI.vo, hin, hI.vm, hI.vc, hI.vr, hI.vn, hI.rows⟩ (kept_cell ((hB.alloc hU _).grown hg1 hI.va hU) hI.g _ _)
/-- x.most = append(x.most, c): the call. -/
theorem append_most {w0 W : World} {base g n : Nat} {V : Vs} {R : Nat → List Int} {ma : Nat} {A M : List Int} {cut : List Bool} {rank next : List Int} {S : Nat → Prop} (hI : NetIn S g V) (hU : ∀ k, w0.heap.size ≤ k → S k) (hgd : o.guard = none) (s x : Operand)
    (ho : o.op = .call { callee := .builtin .append, args := #[s, x], argTypes := #[49, 49] }) (h : RawAt W base g n V R ma A M cut rank next) (hB : Kept S w0 W) (hs : a.eval s = V.vm) (hx : a.eval x = .slice (some ⟨W.heap.size, 0, none⟩) 1 1) (hl : (M.length + 1) * 8 ≤ 140737488355328) (c : Int)
    (K : ∀ A1 c1 w1, RawAt (w1.setCell ⟨g, 3, none⟩ (.slice A1 (M.length + 1) c1)) base g n { V with vm := .slice A1 (M.length + 1) c1 } R ma A (M ++ [c]) cut rank next → w1.cell? ⟨g, 3, none⟩ = some V.vm → w1.frozen? ⟨g, 3, none⟩ = false → NetIn S g { V with vm := .slice A1 (M.length + 1) c1 } → Kept S w0 (w1.setCell ⟨g, 3, none⟩ (.slice A1 (M.length + 1) c1)) → wpList Try.prog ops Q rest (a.put o.dst (.slice A1 (M.length + 1) c1)) w1) :
    wpList Try.prog ops Q (o :: rest) a (W.alloc (Obj.cells #[.int .i64 c] 3)) := by
  refine print_append_num (w0 := W) base hgd s x 49 3 .i64 8 ho Try.underlying49 info3 (by decide) V.vm M c hs hx h.most (Below.refl _ _) h.size hl ?_
  intro v1 w1 ho1 hb1 hg1 hat1
  have hin := new_in hat1 hI.vm (hB.up hU)
  have e : (M ++ [c]).length = M.length + 1 := by simp
  obtain ⟨A1, c1, hv1⟩ := own_slice ho1
  rw [e] at hv1
  subst hv1
  have hh1 := grown_head h hg1 (own_ne h.most h.head (by decide))
  exact K A1 c1 w1 (h.putM hg1 hat1 ho1) ((blk_cell hh1 3).trans rfl) (blk_frozen hh1 3) ⟨hI.g, hI.vo, hI.va, hin, hI.vc, hI.vr, hI.vn, hI.rows⟩ (kept_cell (hB.grown hg1 hI.vm hU) hI.g _ _)
/-- x.out[k] = append(x.out[k], c): the call. -/
theorem step_row {w0 W : World} {base g n go co k : Nat} {V : Vs} {R : Nat → List Int} {ma : Nat} {A M : List Int} {cut : List Bool} {rank next : List Int} {S : Nat → Prop} (hI : NetIn S g V) (hU : ∀ k, w0.heap.size ≤ k → S k) (hw : Region.wanted o (yielded ops a.tmps) = true) (s x : Operand)
    (ho : o.op = .call { callee := .builtin .append, args := #[s, x], argTypes := #[49, 49] }) (h : RawAt W base g n V R ma A M cut rank next) (hk : k < n) (hv : V.vo = .slice (some ⟨go, 0, none⟩) n co) (hB : Kept S w0 W) (hs : a.eval s = V.rows.getD k undef) (hx : a.eval x = .slice (some ⟨W.heap.size, 0, none⟩) 1 1) (hl : ((R k).length + 1) * 8 ≤ 140737488355328) (c : Int)
    (hK : ∀ A1 c1 w1, RawAt (w1.setCell ⟨go, k, none⟩ (.slice A1 ((R k).length + 1) c1)) base g n { V with rows := V.rows.set k (.slice A1 ((R k).length + 1) c1) } (fun b => if b = k then R k ++ [c] else R b) ma A M cut rank next → w1.cell? ⟨g, 1, none⟩ = some V.vo → w1.cell? ⟨go, k, none⟩ = some (V.rows.getD k undef) → w1.frozen? ⟨go, k, none⟩ = false → NetIn S g { V with rows := V.rows.set k (.slice A1 ((R k).length + 1) c1) } → Kept S w0 (w1.setCell ⟨go, k, none⟩ (.slice A1 ((R k).length + 1) c1)) → K (a.put o.dst (.slice A1 ((R k).length + 1) c1)) w1) :
    if Region.wanted o (yielded ops a.tmps) = true then Oper.wp Try.prog o a (W.alloc (Obj.cells #[.int .i64 c] 3)) K Q else K (a.put o.dst undef) (W.alloc (Obj.cells #[.int .i64 c] 3)) := by
  refine step_append_cells (w0 := W) (W := W) base hw s x 49 3 (.int .i64 0) 1 8 ho Try.underlying49 info3 rfl (by decide) (by decide) (V.rows.getD k undef) (R k).length (nums .i64 (R k)) [.int .i64 c] hs hx rfl (fun u hu => by rw [List.mem_singleton.1 hu]; rfl) (h.inn k hk) (Below.refl _ _) h.size hl ?_
  intro v1 w1 ho1 hb1 hg1 hat1
  have hin := new_in hat1 (hI.rows k) (hB.up hU)
  obtain ⟨A1, c1, hv1⟩ := own_slice ho1
  subst hv1
  have ho1' : w1.ownsRow base 3 1 (.slice A1 ((R k).length + 1) c1) (R k ++ [c]).length (nums .i64 (R k ++ [c])) := by simpa [nums] using ho1
  have hh1 := grown_head h hg1 (own_ne (h.inn k hk) h.head (by decide))
  have hout1 := own_other h.out hg1 (own_type_ne h.out (h.inn k hk) (by decide))
  exact hK A1 c1 w1 (h.putR hk hv hg1 hat1 ho1') ((blk_cell hh1 1).trans rfl) (row_cell hout1 hv k hk) (row_frozen hout1 hv k) ⟨hI.g, hI.vo, hI.va, hI.vm, hI.vc, hI.vr, hI.vn, fun b q hq => by
    have hlen : V.rows.length = n := by have := h.out.1; omega
    replace hq : ((V.rows.set k (.slice A1 ((R k).length + 1) c1)).getD b undef).ownBlock = some q := hq
    by_cases e : b = k
    · subst e
      rw [getD_set_same _ _ _ _ (by omega)] at hq
      exact hin q hq
    · rw [getD_set_other _ _ _ e] at hq
      exact hI.rows b q hq⟩ (kept_cell (hB.grown hg1 (hI.rows k) hU) (hI.vo go (by rw [hv]; rfl)) _ _)
end
set_option maxRecDepth 100000 in
set_option maxHeartbeats 4000000 in
theorem edge_yes {N : Net} (hN : N.Ok) {w : World} {base g : Nat} {L : Nat → Int} {V : Vs} {cut : List Bool} {rank next : List Int} (hA : NetAt w base g N L V cut rank next) {f t : Nat} {c : Int} (hf : f < N.n) (ht : t < N.n) (hft : f ≠ t) (hc0 : 0 ≤ c) (hc1 : c ≤ 1000000) (hm : N.m < 5000) {S : Nat → Prop} (hI : NetIn S g V) (hU : ∀ k, w.heap.size ≤ k → S k) :
    Calls Try.prog 18 #[.pointer (some ⟨g, 0, none⟩), .int .i64 (f : Int), .int .i64 (t : Int), .int .i64 c] w fun e w' => ∃ V', e = .returned (.tuple #[.int .i64 N.m, .int .i64 0]) ∧ NetAt w' base g (N.add f t c) (addL N L c) V' [] rank next ∧ NetIn S g V' ∧ Kept S w w' := by
  have HA := Aside0.mk hA
  have hpos := hN.pos
  have HN := Aside0.mk hN
  have hle := hN.le
  have HE : Aside0 (twoE N.n (f : Int) (t : Int) = 0) := ⟨by unfold twoE; rw [if_neg (by omega), if_neg (by omega)]⟩
  have HW := Aside0.mk hA.raw
  have HI := Aside0.mk hI
  have HU := Aside0.mk hU
  obtain ⟨Am, cm, hvm⟩ := own_slice hA.most
  have c3 : w.cell? ⟨g, 3, none⟩ = some (.slice Am N.m cm) := (hA.cell 3).trans (by rw [← hvm]; rfl)
  obtain ⟨Aa, ca, hva⟩ := own_slice hA.arcs
  have c2 : w.cell? ⟨g, 2, none⟩ = some (.slice Aa (2 * N.m) ca) := (hA.cell 2).trans (by rw [← hva]; rfl)
  have f2 := hA.frozen 2
  have d1 : decide (c < 0) = false := decide_eq_false (by omega)
  have d2 : decide (c > 1000000) = false := decide_eq_false (by omega)
  have d3 : decide ((N.m : Int) ≥ 5000) = false := decide_eq_false (by omega)
  obtain ⟨m2, hm2⟩ : ∃ x, 2 * N.m = x := ⟨_, rfl⟩
  rw [hm2] at c2 hva
  have HVA := Aside0.mk hva
  have HVM := Aside0.mk hvm
  clear hA hvm hva hN hI hU
  go_enter Try.func18, Try.ntmps18
  go_wp2_with fail
  refine (two_calls hpos HA.out _ _).mono ?_
  rintro e wq ⟨rfl, hwq⟩
  have hwq' := hwq.symm
  subst hwq'
  clear hwq
  rw [HE.out]
  -- the arcs
  have hraw0 := HW.out
  rw [hm2] at hraw0
  have HR0 := Aside0.mk hraw0
  have hbytes : (m2 + 2) * 16 ≤ 140737488355328 := by omega
  clear hraw0
  go_wp2_with (first
    | (at_builtin; go_loud (refine append_arcs (w0 := w) HI.out HU.out rfl (.tmp 42) (.tmp 48) (by rfl) HR0.out (Kept.refl _ _) (by exact HVA.out.symm) (by rfl) hbytes (t : Int) c (f : Int) ?_); intro A1 c1 w1 hraw1 e2 g2 hI2 hB1; have e2' : w1.cell? ⟨g, 2, none⟩ = some (.slice Aa m2 ca) := e2.trans (by rw [HVA.out]); clear e2)
    | fail)
  obtain ⟨w2, hw2⟩ : ∃ w2, w1.setCell ⟨g, 2, none⟩ (.slice A1 (m2 + 2) c1) = w2 := ⟨_, rfl⟩
  rw [hw2] at hraw1 hB1
  have HR2 := Aside0.mk hraw1
  have HB2 := Aside0.mk hB1
  have HI2 := Aside0.mk hI2
  rw [hw2]
  clear hraw1 hB1 hw2 hI2 HI e2' g2 c2 c3 f2 HR0 HW
  -- the first end's row
  obtain ⟨go, co, hvo, _⟩ := own_form HR2.out.out (by omega)
  have hvo' : V.vo = .slice (some ⟨go, 0, none⟩) N.n co := hvo
  have HVO := Aside0.mk hvo'
  have hof := HR2.out.inn f hf
  obtain ⟨Af, cf, hrf⟩ := own_slice hof
  have hrf' : V.rows.getD f undef = .slice Af (outL N f).length cf := hrf
  have HRF := Aside0.mk hrf'
  have hrd := HR2.out.below (below_drew (Below.refl _ w2))
  have HRD := Aside0.mk hrd
  have hra := hrd.below (below_alloc (Below.refl _ _) (Obj.cells #[.int .i64 (m2 : Int)] 3))
  have b1 : w2.drew.cell? ⟨g, 1, none⟩ = some (.slice (some ⟨go, 0, none⟩) N.n co) := (hrd.cell 1).trans (by rw [← hvo]; rfl)
  have b2 : w2.drew.cell? ⟨go, f, none⟩ = some (.slice Af (outL N f).length cf) := (hrd.row hvo f hf).trans (by rw [← hrf])
  have HAL : Aside0 ((w2.drew.alloc (Obj.cells #[.int .i64 (m2 : Int)] 3)).cell? ⟨g, 1, none⟩ = some (.slice (some ⟨go, 0, none⟩) N.n co) ∧ (w2.drew.alloc (Obj.cells #[.int .i64 (m2 : Int)] 3)).cell? ⟨go, f, none⟩ = some (.slice Af (outL N f).length cf)) := ⟨⟨(hra.cell 1).trans (by rw [← hvo]; rfl), (hra.row hvo f hf).trans (by rw [← hrf])⟩⟩
  have hfo := out_few HN.out f
  have HBY : Aside0 (((outL N f).length + 1) * 8 ≤ 140737488355328) := ⟨by rw [outL_len]; omega⟩
  have HBD : Aside0 (Kept S w w2.drew) := ⟨kept_drew HB2.out⟩
  clear hvo hvo' hof hrf hrf' hrd hra hfo
  refine start_ (n := 17) (S := (fun w' => w'.cell? ⟨g, 1, none⟩ = some (.slice (some ⟨go, 0, none⟩) N.n co) ∧ w'.cell? ⟨go, f, none⟩ = some (.slice Af (outL N f).length cf))) (ds := [16]) #[false, false, false, false, false, false, false, false, false, false, false, false, false, false, false, false, false] (by kernel_rfl) rfl rfl (⟨b1, b2⟩) (fun hHeld => ?_)
  refine pure_ (i := 0) (N := some 52) (v := ?_) (a' := ?_) #[true, false, false, false, false, false, false, false, false, false, false, false, false, false, false, false, false] rfl rfl (by kernel_rfl) (fun _ _ _ h => h) (Or.inl ⟨by rfl, ?_⟩) ?_ ?_
  rotate_left
  · intro w'
    go_simp
    with_reducible rfl
  rotate_left
  · simp only [Act.put, List.setIfInBounds_toArray, List.set_cons_zero, List.set_cons_succ, i64_w, i32_w]
    rfl
  refine pure_ (i := 1) (N := some 53) (v := ?_) (a' := ?_) #[true, true, false, false, false, false, false, false, false, false, false, false, false, false, false, false, false] rfl rfl (by kernel_rfl) (fun _ _ _ h => h) (Or.inl ⟨by rfl, ?_⟩) ?_ ?_
  rotate_left
  · intro w'
    go_simp
    with_reducible rfl
  rotate_left
  · simp only [Act.put, List.setIfInBounds_toArray, List.set_cons_zero, List.set_cons_succ, i64_w, i32_w]
    rfl
  refine pure_ (i := 2) (N := some 54) (v := ?_) (a' := ?_) #[true, true, true, false, false, false, false, false, false, false, false, false, false, false, false, false, false] rfl rfl (by kernel_rfl) (fun _ _ _ h => h) (Or.inl ⟨by rfl, ?_⟩) ?_ ?_
  rotate_left
  · intro w'
    go_simp
    with_reducible rfl
  rotate_left
  · simp only [Act.put, List.setIfInBounds_toArray, List.set_cons_zero, List.set_cons_succ, i64_w, i32_w]
    rfl
  refine take_ (i := 3) (N := some 55) (v := ?_) (a' := ?_) #[true, true, true, true, false, false, false, false, false, false, false, false, false, false, false, false, false] rfl rfl (by kernel_rfl) (fun _ _ _ h => h) (Or.inl ⟨by rfl, ?_⟩) hHeld ?_ ?_
  rotate_left
  · rintro w' ⟨s0, s1⟩
    go_simp
    with_reducible rfl
  rotate_left
  · simp only [Act.put, List.setIfInBounds_toArray, List.set_cons_zero, List.set_cons_succ, i64_w, i32_w]
    rfl
  refine pure_ (i := 4) (N := some 56) (v := ?_) (a' := ?_) #[true, true, true, true, true, false, false, false, false, false, false, false, false, false, false, false, false] rfl rfl (by kernel_rfl) (fun _ _ _ h => h) (Or.inl ⟨by rfl, ?_⟩) ?_ ?_
  rotate_left
  · intro w'
    go_simp
    with_reducible rfl
  rotate_left
  · simp only [Act.put, List.setIfInBounds_toArray, List.set_cons_zero, List.set_cons_succ, i64_w, i32_w]
    rfl
  refine pure_ (i := 5) (N := some 57) (v := ?_) (a' := ?_) #[true, true, true, true, true, true, false, false, false, false, false, false, false, false, false, false, false] rfl rfl (by kernel_rfl) (fun _ _ _ h => h) (Or.inl ⟨by rfl, ?_⟩) ?_ ?_
  rotate_left
  · intro w'
    go_simp
    with_reducible rfl
  rotate_left
  · simp only [Act.put, List.setIfInBounds_toArray, List.set_cons_zero, List.set_cons_succ, i64_w, i32_w]
    rfl
  refine pure_ (i := 6) (N := some 58) (v := ?_) (a' := ?_) #[true, true, true, true, true, true, true, false, false, false, false, false, false, false, false, false, false] rfl rfl (by kernel_rfl) (fun _ _ _ h => h) (Or.inl ⟨by rfl, ?_⟩) ?_ ?_
  rotate_left
  · intro w'
    go_simp
    with_reducible rfl
  rotate_left
  · simp only [Act.put, List.setIfInBounds_toArray, List.set_cons_zero, List.set_cons_succ, i64_w, i32_w]
    rfl
  refine pure_ (i := 7) (N := some 59) (v := ?_) (a' := ?_) #[true, true, true, true, true, true, true, true, false, false, false, false, false, false, false, false, false] rfl rfl (by kernel_rfl) (fun _ _ _ h => h) (Or.inl ⟨by rfl, ?_⟩) ?_ ?_
  rotate_left
  · intro w'
    go_simp
    with_reducible rfl
  rotate_left
  · simp only [Act.put, List.setIfInBounds_toArray, List.set_cons_zero, List.set_cons_succ, i64_w, i32_w]
    rfl
  refine take_ (i := 8) (N := some 60) (v := ?_) (a' := ?_) #[true, true, true, true, true, true, true, true, true, false, false, false, false, false, false, false, false] rfl rfl (by kernel_rfl) (fun _ _ _ h => h) (Or.inl ⟨by rfl, ?_⟩) hHeld ?_ ?_
  rotate_left
  · rintro w' ⟨s0, s1⟩
    go_simp
    with_reducible rfl
  rotate_left
  · simp only [Act.put, List.setIfInBounds_toArray, List.set_cons_zero, List.set_cons_succ, i64_w, i32_w]
    rfl
  refine pure_ (i := 9) (N := some 61) (v := ?_) (a' := ?_) #[true, true, true, true, true, true, true, true, true, true, false, false, false, false, false, false, false] rfl rfl (by kernel_rfl) (fun _ _ _ h => h) (Or.inl ⟨by rfl, ?_⟩) ?_ ?_
  rotate_left
  · intro w'
    go_simp
    with_reducible rfl
  rotate_left
  · simp only [Act.put, List.setIfInBounds_toArray, List.set_cons_zero, List.set_cons_succ, i64_w, i32_w]
    rfl
  refine pure_ (i := 10) (N := some 62) (v := ?_) (a' := ?_) #[true, true, true, true, true, true, true, true, true, true, true, false, false, false, false, false, false] rfl rfl (by kernel_rfl) (fun _ _ _ h => h) (Or.inl ⟨by rfl, ?_⟩) ?_ ?_
  rotate_left
  · intro w'
    go_simp
    with_reducible rfl
  rotate_left
  · simp only [Act.put, List.setIfInBounds_toArray, List.set_cons_zero, List.set_cons_succ, i64_w, i32_w]
    rfl
  refine take_ (i := 11) (N := some 63) (v := ?_) (a' := ?_) #[true, true, true, true, true, true, true, true, true, true, true, true, false, false, false, false, false] rfl rfl (by kernel_rfl) (fun _ _ _ h => h) (Or.inl ⟨by rfl, ?_⟩) hHeld ?_ ?_
  rotate_left
  · rintro w' ⟨s0, s1⟩
    go_simp
    with_reducible rfl
  rotate_left
  · simp only [Act.put, List.setIfInBounds_toArray, List.set_cons_zero, List.set_cons_succ, i64_w, i32_w]
    rfl
  refine pure_ (i := 12) (N := some 64) (v := ?_) (a' := ?_) #[true, true, true, true, true, true, true, true, true, true, true, true, true, false, false, false, false] rfl rfl (by kernel_rfl) (fun _ _ _ h => h) (Or.inl ⟨by rfl, ?_⟩) ?_ ?_
  rotate_left
  · intro w'
    go_simp
    with_reducible rfl
  rotate_left
  · simp only [Act.put, List.setIfInBounds_toArray, List.set_cons_zero, List.set_cons_succ, i64_w, i32_w]
    rfl
  refine one_ (i := 13) (N := some 65) #[true, true, true, true, true, true, true, true, true, true, true, true, true, true, false, false, false] rfl rfl (by kernel_rfl) (by decide) (fun K hK => ?_)
  go_simp
  refine hK.out _ _ (HAL.out) (fun hHeld => ?_)
  clear hK K
  refine norm_ (a' := ?_) ?_ ?_
  rotate_left
  · first
    | (show Act.put _ (some 65) _ = _
       simp only [Act.put, List.setIfInBounds_toArray, List.set_cons_zero, List.set_cons_succ, i64_w, i32_w]
       rfl)
    | rfl
  refine one_ (i := 14) (N := some 66) #[true, true, true, true, true, true, true, true, true, true, true, true, true, true, true, false, false] rfl rfl (by kernel_rfl) (by decide) (fun K hK => ?_)
  refine step_row (w0 := w) (W := w2.drew) (co := co) HI2.out HU.out (by rfl) (.tmp 63) (.tmp 65) (by rfl) HRD.out hf HVO.out HBD.out (by exact HRF.out.symm) (by rfl) HBY.out (m2 : Int) ?_
  intro A3 c3 w3 hraw3 p1 p2 p3 hi p4
  have HR3 := Aside0.mk hraw3
  have HQF := Aside0.mk p3
  have HB3 := Aside0.mk p4
  have HI3 := Aside0.mk hi
  have q1 := p1.trans (congrArg some HVO.out)
  have q2 := p2.trans (congrArg some HRF.out)
  clear hraw3 p1 p2 p3 p4 hi
  refine hK.out _ _ (⟨q1, q2⟩) (fun hHeld => ?_)
  clear hK K
  refine norm_ (a' := ?_) ?_ ?_
  rotate_left
  · first
    | (show Act.put _ (some 66) _ = _
       simp only [Act.put, List.setIfInBounds_toArray, List.set_cons_zero, List.set_cons_succ, i64_w, i32_w]
       rfl)
    | rfl
  refine pure_ (i := 15) (N := some 67) (v := ?_) (a' := ?_) #[true, true, true, true, true, true, true, true, true, true, true, true, true, true, true, true, false] rfl rfl (by kernel_rfl) (fun _ _ _ h => h) (Or.inl ⟨by rfl, ?_⟩) ?_ ?_
  rotate_left
  · intro w'
    go_simp
    with_reducible rfl
  rotate_left
  · simp only [Act.put, List.setIfInBounds_toArray, List.set_cons_zero, List.set_cons_succ, i64_w, i32_w]
    rfl
  refine last_ (i := 16) (N := none) #[true, true, true, true, true, true, true, true, true, true, true, true, true, true, true, true, true] rfl rfl (by kernel_rfl) (by decide) (fun K hK => ?_)
  have g2 := HQF.out
  go_simp
  refine hK.out _ _ ?_
  clear hK K
  refine done_ (by kernel_rfl) ?_
  skip
  clear hHeld g2 HQF HRF HRD HAL HBY HBD q1 q2 b1 b2 HB2 HR2
  obtain ⟨w4, hw4⟩ : ∃ w4, w3.setCell ⟨go, f, none⟩ (.slice A3 ((outL N f).length + 1) c3) = w4 := ⟨_, rfl⟩
  rw [hw4] at HR3 HB3 ⊢
  obtain ⟨R4, hR4⟩ : ∃ R4, (fun b => if b = f then outL N f ++ [(m2 : Int)] else outL N b) = R4 := ⟨_, rfl⟩
  rw [hR4] at HR3
  have HRE := Aside0.mk hR4
  have hRt : R4 t = outL N t := by rw [← hR4]; exact if_neg (Ne.symm hft)
  clear hw4 hR4 hf
  -- the second end's row
  have hof := HR3.out.inn t ht
  obtain ⟨At, ct, hrf⟩ := own_slice hof
  have HRF := Aside0.mk hrf
  have hrd := HR3.out.below (below_drew (Below.refl _ w4))
  have HRD := Aside0.mk hrd
  have hm3 : wrap64 ((m2 : Int) + 1) = ((m2 + 1 : Nat) : Int) := by unfold wrap64; omega
  obtain ⟨m3, hm3e⟩ : ∃ x, m2 + 1 = x := ⟨_, rfl⟩
  rw [hm3e] at hm3
  have hra := hrd.below (below_alloc (Below.refl _ _) (Obj.cells #[.int .i64 (m3 : Int)] 3))
  have b1 : w4.drew.cell? ⟨g, 1, none⟩ = some (.slice (some ⟨go, 0, none⟩) N.n co) := (hrd.cell 1).trans (by show some V.vo = _; rw [HVO.out])
  have b2 : w4.drew.cell? ⟨go, t, none⟩ = some (.slice At (R4 t).length ct) := (hrd.row HVO.out t ht).trans (congrArg some hrf)
  have HAL : Aside0 ((w4.drew.alloc (Obj.cells #[.int .i64 (m3 : Int)] 3)).cell? ⟨g, 1, none⟩ = some (.slice (some ⟨go, 0, none⟩) N.n co) ∧ (w4.drew.alloc (Obj.cells #[.int .i64 (m3 : Int)] 3)).cell? ⟨go, t, none⟩ = some (.slice At (R4 t).length ct)) := ⟨⟨(hra.cell 1).trans (by show some V.vo = _; rw [HVO.out]), (hra.row HVO.out t ht).trans (congrArg some hrf)⟩⟩
  have hfo := out_few HN.out t
  have HBY : Aside0 (((R4 t).length + 1) * 8 ≤ 140737488355328) := ⟨by rw [hRt, outL_len]; omega⟩
  have HBD : Aside0 (Kept S w w4.drew) := ⟨kept_drew HB3.out⟩
  have HRT := Aside0.mk hRt
  clear hof hrf hrd hra hfo hRt
  go_wp2_with fail
  refine start_ (n := 18) (S := (fun w' => w'.cell? ⟨g, 1, none⟩ = some (.slice (some ⟨go, 0, none⟩) N.n co) ∧ w'.cell? ⟨go, t, none⟩ = some (.slice At (R4 t).length ct))) (ds := [17]) #[false, false, false, false, false, false, false, false, false, false, false, false, false, false, false, false, false, false] (by kernel_rfl) rfl rfl (⟨b1, b2⟩) (fun hHeld => ?_)
  refine pure_ (i := 0) (N := some 68) (v := ?_) (a' := ?_) #[true, false, false, false, false, false, false, false, false, false, false, false, false, false, false, false, false, false] rfl rfl (by kernel_rfl) (fun _ _ _ h => h) (Or.inl ⟨by rfl, ?_⟩) ?_ ?_
  rotate_left
  · intro w'
    go_simp
    with_reducible rfl
  rotate_left
  · simp only [Act.put, List.setIfInBounds_toArray, List.set_cons_zero, List.set_cons_succ, i64_w, i32_w]
    rfl
  refine pure_ (i := 1) (N := some 69) (v := ?_) (a' := ?_) #[true, true, false, false, false, false, false, false, false, false, false, false, false, false, false, false, false, false] rfl rfl (by kernel_rfl) (fun _ _ _ h => h) (Or.inl ⟨by rfl, ?_⟩) ?_ ?_
  rotate_left
  · intro w'
    go_simp
    with_reducible rfl
  rotate_left
  · simp only [Act.put, List.setIfInBounds_toArray, List.set_cons_zero, List.set_cons_succ, i64_w, i32_w]
    rfl
  refine pure_ (i := 2) (N := some 70) (v := ?_) (a' := ?_) #[true, true, true, false, false, false, false, false, false, false, false, false, false, false, false, false, false, false] rfl rfl (by kernel_rfl) (fun _ _ _ h => h) (Or.inl ⟨by rfl, ?_⟩) ?_ ?_
  rotate_left
  · intro w'
    go_simp
    with_reducible rfl
  rotate_left
  · simp only [Act.put, List.setIfInBounds_toArray, List.set_cons_zero, List.set_cons_succ, i64_w, i32_w]
    rfl
  refine take_ (i := 3) (N := some 71) (v := ?_) (a' := ?_) #[true, true, true, true, false, false, false, false, false, false, false, false, false, false, false, false, false, false] rfl rfl (by kernel_rfl) (fun _ _ _ h => h) (Or.inl ⟨by rfl, ?_⟩) hHeld ?_ ?_
  rotate_left
  · rintro w' ⟨s0, s1⟩
    go_simp
    with_reducible rfl
  rotate_left
  · simp only [Act.put, List.setIfInBounds_toArray, List.set_cons_zero, List.set_cons_succ, i64_w, i32_w]
    rfl
  refine pure_ (i := 4) (N := some 72) (v := ?_) (a' := ?_) #[true, true, true, true, true, false, false, false, false, false, false, false, false, false, false, false, false, false] rfl rfl (by kernel_rfl) (fun _ _ _ h => h) (Or.inl ⟨by rfl, ?_⟩) ?_ ?_
  rotate_left
  · intro w'
    go_simp
    with_reducible rfl
  rotate_left
  · simp only [Act.put, List.setIfInBounds_toArray, List.set_cons_zero, List.set_cons_succ, i64_w, i32_w]
    rfl
  refine pure_ (i := 5) (N := some 73) (v := ?_) (a' := ?_) #[true, true, true, true, true, true, false, false, false, false, false, false, false, false, false, false, false, false] rfl rfl (by kernel_rfl) (fun _ _ _ h => h) (Or.inl ⟨by rfl, ?_⟩) ?_ ?_
  rotate_left
  · intro w'
    go_simp
    with_reducible rfl
  rotate_left
  · simp only [Act.put, List.setIfInBounds_toArray, List.set_cons_zero, List.set_cons_succ, i64_w, i32_w]
    rfl
  refine pure_ (i := 6) (N := some 74) (v := ?_) (a' := ?_) #[true, true, true, true, true, true, true, false, false, false, false, false, false, false, false, false, false, false] rfl rfl (by kernel_rfl) (fun _ _ _ h => h) (Or.inl ⟨by rfl, ?_⟩) ?_ ?_
  rotate_left
  · intro w'
    go_simp
    with_reducible rfl
  rotate_left
  · simp only [Act.put, List.setIfInBounds_toArray, List.set_cons_zero, List.set_cons_succ, i64_w, i32_w]
    rfl
  refine pure_ (i := 7) (N := some 75) (v := ?_) (a' := ?_) #[true, true, true, true, true, true, true, true, false, false, false, false, false, false, false, false, false, false] rfl rfl (by kernel_rfl) (fun _ _ _ h => h) (Or.inl ⟨by rfl, ?_⟩) ?_ ?_
  rotate_left
  · intro w'
    go_simp
    with_reducible rfl
  rotate_left
  · simp only [Act.put, List.setIfInBounds_toArray, List.set_cons_zero, List.set_cons_succ, i64_w, i32_w]
    rfl
  refine take_ (i := 8) (N := some 76) (v := ?_) (a' := ?_) #[true, true, true, true, true, true, true, true, true, false, false, false, false, false, false, false, false, false] rfl rfl (by kernel_rfl) (fun _ _ _ h => h) (Or.inl ⟨by rfl, ?_⟩) hHeld ?_ ?_
  rotate_left
  · rintro w' ⟨s0, s1⟩
    go_simp
    with_reducible rfl
  rotate_left
  · simp only [Act.put, List.setIfInBounds_toArray, List.set_cons_zero, List.set_cons_succ, i64_w, i32_w]
    rfl
  refine pure_ (i := 9) (N := some 77) (v := ?_) (a' := ?_) #[true, true, true, true, true, true, true, true, true, true, false, false, false, false, false, false, false, false] rfl rfl (by kernel_rfl) (fun _ _ _ h => h) (Or.inl ⟨by rfl, ?_⟩) ?_ ?_
  rotate_left
  · intro w'
    go_simp
    with_reducible rfl
  rotate_left
  · simp only [Act.put, List.setIfInBounds_toArray, List.set_cons_zero, List.set_cons_succ, i64_w, i32_w]
    rfl
  refine pure_ (i := 10) (N := some 78) (v := ?_) (a' := ?_) #[true, true, true, true, true, true, true, true, true, true, true, false, false, false, false, false, false, false] rfl rfl (by kernel_rfl) (fun _ _ _ h => h) (Or.inl ⟨by rfl, ?_⟩) ?_ ?_
  rotate_left
  · intro w'
    go_simp
    with_reducible rfl
  rotate_left
  · simp only [Act.put, List.setIfInBounds_toArray, List.set_cons_zero, List.set_cons_succ, i64_w, i32_w]
    rfl
  refine take_ (i := 11) (N := some 79) (v := ?_) (a' := ?_) #[true, true, true, true, true, true, true, true, true, true, true, true, false, false, false, false, false, false] rfl rfl (by kernel_rfl) (fun _ _ _ h => h) (Or.inl ⟨by rfl, ?_⟩) hHeld ?_ ?_
  rotate_left
  · rintro w' ⟨s0, s1⟩
    go_simp
    with_reducible rfl
  rotate_left
  · simp only [Act.put, List.setIfInBounds_toArray, List.set_cons_zero, List.set_cons_succ, i64_w, i32_w]
    rfl
  refine pure_ (i := 12) (N := some 80) (v := ?_) (a' := ?_) #[true, true, true, true, true, true, true, true, true, true, true, true, true, false, false, false, false, false] rfl rfl (by kernel_rfl) (fun _ _ _ h => h) (Or.inl ⟨by rfl, ?_⟩) ?_ ?_
  rotate_left
  · intro w'
    go_simp
    with_reducible rfl
  rotate_left
  · simp only [Act.put, List.setIfInBounds_toArray, List.set_cons_zero, List.set_cons_succ, i64_w, i32_w]
    rfl
  refine pure_ (i := 13) (N := some 81) (v := ?_) (a' := ?_) #[true, true, true, true, true, true, true, true, true, true, true, true, true, true, false, false, false, false] rfl rfl (by kernel_rfl) (fun _ _ _ h => h) (Or.inl ⟨by rfl, ?_⟩) ?_ ?_
  rotate_left
  · intro w'
    go_simp
    with_reducible rfl
  rotate_left
  · simp only [Act.put, List.setIfInBounds_toArray, List.set_cons_zero, List.set_cons_succ, i64_w, i32_w]
    rfl
  refine one_ (i := 14) (N := some 82) #[true, true, true, true, true, true, true, true, true, true, true, true, true, true, true, false, false, false] rfl rfl (by kernel_rfl) (by decide) (fun K hK => ?_)
  go_simp
  refine hK.out _ _ (HAL.out) (fun hHeld => ?_)
  clear hK K
  refine norm_ (a' := ?_) ?_ ?_
  rotate_left
  · first
    | (show Act.put _ (some 82) _ = _
       simp only [Act.put, List.setIfInBounds_toArray, List.set_cons_zero, List.set_cons_succ, i64_w, i32_w]
       rfl)
    | rfl
  refine one_ (i := 15) (N := some 83) #[true, true, true, true, true, true, true, true, true, true, true, true, true, true, true, true, false, false] rfl rfl (by kernel_rfl) (by decide) (fun K hK => ?_)
  refine step_row (w0 := w) (W := w4.drew) (co := co) HI3.out HU.out (by rfl) (.tmp 79) (.tmp 82) (by rfl) HRD.out ht HVO.out HBD.out (by exact HRF.out.symm) (by rfl) HBY.out (m3 : Int) ?_
  intro A5 c5 w5 hraw5 p1 p2 p3 hi p4
  have HR5 := Aside0.mk hraw5
  have HQF := Aside0.mk p3
  have HB5 := Aside0.mk p4
  have HI5 := Aside0.mk hi
  have q1 := p1.trans (congrArg some HVO.out)
  have q2 := p2.trans (congrArg some HRF.out)
  clear hraw5 p1 p2 p3 p4 hi
  refine hK.out _ _ (⟨q1, q2⟩) (fun hHeld => ?_)
  clear hK K
  refine norm_ (a' := ?_) ?_ ?_
  rotate_left
  · first
    | (show Act.put _ (some 83) _ = _
       simp only [Act.put, List.setIfInBounds_toArray, List.set_cons_zero, List.set_cons_succ, i64_w, i32_w]
       rfl)
    | rfl
  refine pure_ (i := 16) (N := some 84) (v := ?_) (a' := ?_) #[true, true, true, true, true, true, true, true, true, true, true, true, true, true, true, true, true, false] rfl rfl (by kernel_rfl) (fun _ _ _ h => h) (Or.inl ⟨by rfl, ?_⟩) ?_ ?_
  rotate_left
  · intro w'
    go_simp
    with_reducible rfl
  rotate_left
  · simp only [Act.put, List.setIfInBounds_toArray, List.set_cons_zero, List.set_cons_succ, i64_w, i32_w]
    rfl
  refine last_ (i := 17) (N := none) #[true, true, true, true, true, true, true, true, true, true, true, true, true, true, true, true, true, true] rfl rfl (by kernel_rfl) (by decide) (fun K hK => ?_)
  have g2 := HQF.out
  go_simp
  refine hK.out _ _ ?_
  clear hK K
  refine done_ (by kernel_rfl) ?_
  skip
  clear hHeld g2 HQF HRF HRD HAL HBY HBD q1 q2 b1 b2 HB3 HR3 ht
  obtain ⟨w6, hw6⟩ : ∃ w6, w5.setCell ⟨go, t, none⟩ (.slice A5 ((R4 t).length + 1) c5) = w6 := ⟨_, rfl⟩
  rw [hw6] at HR5 HB5 ⊢
  clear hw6
  have c3 : w6.cell? ⟨g, 3, none⟩ = some (.slice Am N.m cm) := (HR5.out.cell 3).trans (by show some V.vm = _; rw [HVM.out])
  obtain ⟨m5, hm5⟩ : ∃ x, N.m + 1 = x := ⟨_, rfl⟩
  have hl7 : ((rowN N.m N.mo).length + 1) * 8 ≤ 140737488355328 := by rw [rowN_len]; omega
  have HM5 := Aside0.mk hm5
  go_wp2_with (first
    | (at_builtin
       go_loud (refine append_most (w0 := w) HI5.out HU.out rfl (.tmp 89) (.tmp 91) (by rfl) HR5.out HB5.out (by exact HVM.out.symm) (by rfl) hl7 c ?_)
       intro A7 c7 w7 hraw7 e3 g3 hI7 hB7
       rw [rowN_len, hm5] at hraw7 hB7 hI7 ⊢
       have e3' : w7.cell? ⟨g, 3, none⟩ = some (.slice Am N.m cm) := e3.trans (by show some V.vm = _; rw [HVM.out])
       clear e3 c3
       obtain ⟨w8, hw8⟩ : ∃ w8, w7.setCell ⟨g, 3, none⟩ (.slice A7 m5 c7) = w8 := ⟨_, rfl⟩
       rw [hw8] at hraw7 hB7
       have e4 : w8.cell? ⟨g, 4, none⟩ = some V.vc := (hraw7.cell 4).trans rfl
       have g4 : w8.frozen? ⟨g, 4, none⟩ = false := hraw7.frozen 4
       have hraw9 := hraw7.putC
       have hB9 := kept_cell hB7 hI7.g 4 (.slice none 0 0)
       have hI9 := hI7.putC
       have HI9 := Aside0.mk hI9
       obtain ⟨w9, hw9⟩ : ∃ w9, w8.setCell ⟨g, 4, none⟩ (.slice none 0 0) = w9 := ⟨_, rfl⟩
       rw [hw9] at hraw9 hB9
       have e5 : w9.cell? ⟨g, 3, none⟩ = some (.slice A7 m5 c7) := (hraw9.cell 3).trans rfl
       have HR9 := Aside0.mk hraw9
       have HB9 := Aside0.mk hB9
       clear hraw7 hraw9 hB7 hB9 hI7 hI9)
    | fail)
  go_ret2
  refine ⟨?_, _, HR9.out.net (N := N.add f t c) (L := addL N L c) (fun a ha => ?_) ?_ ?_ ?_, HI9.out, HB9.out⟩
  · show Ending.returned (Value.tuple #[.int .i64 ((m5 : Int) - 1), .int .i64 0]) = _
    rw [show (m5 : Int) - 1 = (N.m : Int) by omega]
  · rw [← add_outL N f t c hft a]
    show (if a = t then R4 t ++ [(m3 : Int)] else R4 a) = _
    rw [HRT.out, ← HRE.out, ← hm3e, ← hm2]
  · show m2 + 2 = 2 * (N.m + 1)
    omega
  · exact (add_arcs N L f t c).symm
  · exact (add_most N f t c).symm
end Go.Proofs.Ytffghdbhjjfnlaa.F
end
section
/-
  flow.Net: Run.
-/
namespace Go.Proofs.Ytffghdbhjjfnlaa.F
open Go.RowKit Go.Proofs.YtffghdbhjjfnlaaW.PrintWords Go.Proofs.YtffghdbhjjfnlaaW.PrintLast Go.Proofs.YtffghdbhjjfnlaaW.PrintMore
set_option linter.unusedVariables false
set_option linter.unusedSimpArgs false
theorem info4 : (Try.prog.info? 4).map (fun i => (i.zero, i.size, i.bytes)) = some (some (.bool false), 1, 1) := by kernel_rfl
def rowB (n : Nat) (f : Nat → Bool) : List Bool := (List.range n).map f
theorem rowB_len (n : Nat) (f : Nat → Bool) : (rowB n f).length = n := by simp [rowB]
theorem rowB_set (n : Nat) (f : Nat → Bool) (i : Nat) (x : Bool) : (rowB n f).set i x = rowB n (fun j => if j = i then x else f j) := by
  unfold rowB
  refine List.ext_getElem (by simp) (fun j h1 h2 => ?_)
  simp [List.getElem_set]
  by_cases c : i = j
  · subst c; simp
  · rw [if_neg c, if_neg (fun e => c e.symm)]
theorem rowB_congr {n : Nat} {f g : Nat → Bool} (h : ∀ i, i < n → f i = g i) : rowB n f = rowB n g := by
  unfold rowB
  exact List.map_congr_left fun i hi => h i (List.mem_range.1 hi)
/-- The cut that the ranks tell. -/
def cutL (N : Net) (rk : Nat → Int) : List Bool := rowB N.n (fun i => decide (rk i ≥ 0))
def cutK (N : Net) (rk : Nat → Int) (k : Nat) : List Bool := rowB N.n (fun i => if i < k then decide (rk i ≥ 0) else false)
theorem cutK_zero (N : Net) (rk : Nat → Int) : cutK N rk 0 = List.replicate N.n false := by
  unfold cutK rowB
  refine List.ext_getElem (by simp) (fun i h1 h2 => by simp)
theorem cutK_set (N : Net) (rk : Nat → Int) (k : Nat) : (cutK N rk k).set k (decide (rk k ≥ 0)) = cutK N rk (k + 1) := by
  unfold cutK
  rw [rowB_set]
  refine rowB_congr fun i _ => ?_
  by_cases c : i = k
  · rw [if_pos c, if_pos (by omega), c]
  · rw [if_neg c]
    by_cases c2 : i < k
    · rw [if_pos c2, if_pos (by omega)]
    · rw [if_neg c2, if_neg (by omega)]
theorem cutK_all (N : Net) (rk : Nat → Int) : cutK N rk N.n = cutL N rk := rowB_congr fun i hi => if_pos hi
theorem own_cellB {w : World} {base : Nat} {n g cap : Nat} {xs : List Bool} (h : w.ownsRow base 4 1 (.slice (some ⟨g, 0, none⟩) n cap) n (encs Value.bool xs)) (i : Nat) (hi : i < xs.length) :
    w.cell? ⟨g, i, none⟩ = some (.bool (xs.getD i false)) ∧ w.frozen? ⟨g, i, none⟩ = false := by
  constructor
  · have hc := h.cells (g := g) rfl i (.bool (xs.getD i false)) (by simp [encs, hi])
    rwa [add_plain] at hc
  · rcases h.2 with ⟨h', _⟩ | ⟨g', cap', cur, h', _, hh, _⟩
    · cases h'
    · have : g = g' := by injection h' with h'; injection h' with h'; injection h' with h'
      subst this
      simp [World.frozen?, hh]
/-- A store into the cut's row. -/
theorem NetAt.setB {w : World} {base g : Nat} {N : Net} {L : Nat → Int} {V : Vs} {cut : List Bool} {rank next : List Int} (h : NetAt w base g N L V cut rank next) {gc n cap : Nat} (hv : V.vc = .slice (some ⟨gc, 0, none⟩) n cap) (hn : n = cut.length) (i : Nat) (x : Bool) : NetAt (w.setCell ⟨gc, i, none⟩ (.bool x)) base g N L V (cut.set i x) rank next := by
  subst hn
  have ha := h.cut_
  rw [hv] at ha
  have hst := (ha.stored i (.bool x)).1
  have he : (encs Value.bool cut).set i (.bool x) = encs Value.bool (cut.set i x) := by simp [encs, List.map_set]
  rw [he] at hst
  have hob : V.vc.ownBlock = some gc := by rw [hv]; rfl
  have far : ∀ {e : TypeId} {size n : Nat} {v : Value} {xs : List Value}, w.ownsRow base e size v n xs → e ≠ 4 → (w.setCell ⟨gc, i, none⟩ (.bool x)).ownsRow base e size v n xs := fun ho hne =>
    own_far ho (fun hk => own_apart2 ho h.cut_ hne gc hk hob) _ _
  have hg : g ≠ gc := fun e => own_apart h.cut_ h.head (by decide) (by rw [hob, e])
  exact ⟨h.gb, (Below.heap_setCell w ⟨gc, i, none⟩ _ g hg).trans h.head, far h.out (by decide), fun a ha => far (h.inn a ha) (by decide), far h.arcs (by decide), far h.most (by decide), by rw [hv, List.length_set]; exact hst, far h.rank_ (by decide), far h.next_ (by decide), h.apR, h.apM, h.apK, h.apN, h.apMK, h.apMN, h.apKN⟩
/-- A row that is younger than the net's. -/
theorem young {w : World} {base g : Nat} {N : Net} {L : Nat → Int} {V : Vs} {cut : List Bool} {rank next : List Int} (h : NetAt w base g N L V cut rank next) {w' : World} {b n : Nat} {v : Value} {xs : List Value} {e : TypeId} (hv : w'.ownsRow b e 1 v n xs) (hb : w.heap.size ≤ b) :
    Ap V.vm v ∧ Ap V.vn v ∧ Ap V.vr v ∧ ∀ a, a < N.n → Ap (V.rows.getD a undef) v := by
  have key : ∀ {e : TypeId} {size n : Nat} {u : Value} {xs : List Value}, w.ownsRow base e size u n xs → Ap u v := fun hu k hk hk' => by
    have h1 := own_lt hu k hk
    have h2 := own_base hv k hk'
    omega
  exact ⟨key h.most, key h.next_, key h.rank_, fun a ha => key (h.inn a ha)⟩
set_option maxRecDepth 100000 in
theorem run_no {N : Net} (hN : N.Ok) {w : World} {base g : Nat} {L : Nat → Int} {V : Vs} {cut : List Bool} {rank next : List Int} (hA : NetAt w base g N L V cut rank next) (f t : Int) (hE : twoE N.n f t ≠ 0) :
    Calls Try.prog 11 #[.pointer (some ⟨g, 0, none⟩), .int .i64 f, .int .i64 t] w fun e w' => e = .returned (.tuple #[.int .i64 0, .int .i64 (twoE N.n f t)]) ∧ w' = w := by
  have HA := Aside0.mk hA
  have h1 : (twoE N.n f t == 0) = false := by simp [hE]
  have hpos := hN.pos
  clear hA
  obtain ⟨E, hEE⟩ : ∃ E, twoE N.n f t = E := ⟨_, rfl⟩
  have HEE := Aside0.mk hEE
  rw [hEE] at h1 hE ⊢
  clear hEE
  go_enter Try.func11, Try.ntmps11
  go_wp2_with fail
  refine (two_calls hpos HA.out f t).mono ?_
  rintro e wq ⟨rfl, hwq⟩
  have hwq' := hwq.symm
  subst hwq'
  rw [HEE.out]
  go_wp2
  go_ret2
  exact ⟨rfl, rfl⟩
set_option maxRecDepth 100000 in
set_option maxHeartbeats 4000000 in
theorem run_calls {N : Net} (hN : N.Ok) {f t : Nat} (hf : f < N.n) (ht : t < N.n) (hft : f ≠ t) {kf : Nat} {L' : Nat → Int} {rk' : Nat → Int} {sum' : Int} (hrun : run N f t kf (L0 N) 0 = some (L', rk', sum')) {w : World} {base g : Nat} {L : Nat → Int} {V : Vs} {cut : List Bool} {rank next : List Int} (hA : NetAt w base g N L V cut rank next) {S : Nat → Prop} (hI : NetIn S g V) (hU : ∀ k, w.heap.size ≤ k → S k) :
    Calls Try.prog 11 #[.pointer (some ⟨g, 0, none⟩), .int .i64 (f : Int), .int .i64 (t : Int)] w fun e w' => ∃ V' rank' next', e = .returned (.tuple #[.int .i64 sum', .int .i64 0]) ∧ NetAt w' base g N L' V' (cutL N rk') rank' next' ∧ NetIn S g V' ∧ Kept S w w' := by
  have HA := Aside0.mk hA
  have HN := Aside0.mk hN
  have HR := Aside0.mk hrun
  have HI := Aside0.mk hI
  have HU := Aside0.mk hU
  have hpos := hN.pos
  have hle := hN.le
  have hE : twoE N.n (f : Int) (t : Int) = 0 := by
    unfold twoE
    rw [if_neg (by omega), if_neg (by omega)]
  have HEE := Aside0.mk hE
  have hmk := print_make (P := Try.prog) 49 3 .i64 8 Try.underlying49 info3 (by decide) N.n (by omega)
  have hmkb := print_make_of (P := Try.prog) 30 4 (.bool false) 1 Try.underlying30 info4 rfl (by decide) N.n (by omega)
  clear hA hrun hE hI hU
  go_enter Try.func11, Try.ntmps11
  go_wp2_with fail
  refine (two_calls hpos HA.out _ _).mono ?_
  rintro e wq ⟨rfl, hwq⟩
  have hwq' := hwq.symm
  subst hwq'
  clear hwq
  rw [HEE.out]
  go_wp2_with fail
  refine (clear_calls HN.out HA.out HI.out).mono ?_
  rintro e w1 ⟨rfl, hA1, hB1⟩
  have HA1 := Aside0.mk hA1
  have HB1 := Aside0.mk hB1
  clear hA1 hB1
  go_wp2
  go_loopg [9] kf (fun q v wr => ∃ (L1 : Nat → Int) (sum1 : Int) (V1 : Vs) (rank1 next1 : List Int), Aside0 (run N f t q L1 sum1 = some (L', rk', sum')) ∧ v = .int .i64 sum1 ∧ Aside0 (NetAt wr base g N L1 V1 [] rank1 next1) ∧ Aside0 (Flows N f t L1 sum1) ∧ Aside0 (NetIn S g V1) ∧ Aside0 (Kept S w wr))
  case atStart => exact ⟨L0 N, 0, _, _, _, HR, rfl, HA1, ⟨flows0 HN.out f t⟩, ⟨⟨HI.out.g, HI.out.vo, HI.out.va, HI.out.vm, fun k hk => absurd (show (none : Option Nat) = some k from hk) (by simp), HI.out.vr, HI.out.vn, HI.out.rows⟩⟩, HB1⟩
  case round =>
    clear HA1 HB1 HA HI
    obtain ⟨L1, sum1, V1, rank1, next1, HQ, rfl, HA, HFL, HI, HB⟩ := hrel
    cases gk with
    | zero => exact absurd HQ.out (by simp [run])
    | succ q1 =>
      have hq := HQ.out
      rw [run] at hq
      cases hrk : ranks N L1 f q1 with
      | none => rw [hrk] at hq; cases hq
      | some rk =>
        rw [hrk] at hq
        replace hq : (if rk t < 0 then some (L1, rk, sum1) else match phase N rk f t q1 ⟨L1, fun _ => 0⟩ sum1 with | none => none | some (s, sum'') => run N f t q1 s.L sum'') = some (L', rk', sum') := hq
        have HQ1 := Aside0.mk hq
        have HRK := Aside0.mk hrk
        clear hq hrk
        go_wp2_with fail
        refine (ranks_calls HN.out hf HRK.out HA.out).mono ?_
        rintro e w2 ⟨v2, rfl, ho2, hb2⟩
        obtain ⟨gr2, cr2, hv2, _⟩ := own_form ho2 (by omega)
        subst hv2
        have hy := young HA.out ho2 (Nat.le_refl _)
        have HA2 := HA.out.below hb2
        have hod := own_down ho2 HA.out.size
        have HIR : Aside0 (∀ k, (Value.slice (some ⟨gr2, 0, none⟩) N.n cr2).ownBlock = some k → S k) := ⟨fun k hk => HB.out.up HU.out k (own_base ho2 k hk)⟩
        have hA3 := HA2.setR _ (rkL N rk) (by rw [rkL_len]; exact hod) (fun u _ hu => by
          rcases hu with rfl | rfl | ⟨a, ha, rfl⟩
          · exact hy.1
          · exact hy.2.1
          · exact hy.2.2.2 a ha)
        have c5 : w2.cell? ⟨g, 5, none⟩ = some V1.vr := (HA2.cell 5).trans rfl
        have f5 := HA2.frozen 5
        have HA3 := Aside0.mk hA3
        have HB2 := Aside0.mk (kept_cell (HB.out.low hb2 HU.out) HI.out.g 5 (.slice (some ⟨gr2, 0, none⟩) N.n cr2))
        have HRD := Aside0.mk (ranks_some HN.out hf HRK.out)
        clear ho2 hb2 hy HA2 hod hA3
        obtain ⟨w3, hw3⟩ : ∃ w3, w2.setCell ⟨g, 5, none⟩ (.slice (some ⟨gr2, 0, none⟩) N.n cr2) = w3 := ⟨_, rfl⟩
        obtain ⟨gx, hgx⟩ : ∃ b, w3.heap.size = b := ⟨_, rfl⟩
        rw [hw3] at HA3 HB2
        have HIX : Aside0 (∀ c k, (Value.slice (some ⟨gx, 0, none⟩) N.n c).ownBlock = some k → S k) := ⟨fun c k hk => by
          have e : gx = k := by injection hk
          rw [← e, ← hgx]; exact HB2.out.up HU.out _ (Nat.le_refl _)⟩
        have HK := Aside0.mk HA3.out.rank_
        have crk : ∀ i, i < N.n → w3.cell? ⟨gr2, i, none⟩ = some (.int .i64 (rk i)) := fun i hi => by
          have ho := HK.out
          rw [rkL_len] at ho
          have := (own_cell ho i (by rw [rkL_len]; exact hi)).1
          unfold rkL at this
          rwa [rowN_at _ _ _ hi] at this
        have HCRK := Aside0.mk crk
        have crt := crk t ht
        have d0 : w3.cell? ⟨g, 0, none⟩ = some (.int .i64 N.n) := (HA3.out.cell 0).trans rfl
        have d5 : w3.cell? ⟨g, 5, none⟩ = some (.slice (some ⟨gr2, 0, none⟩) N.n cr2) := (HA3.out.cell 5).trans rfl
        clear crk HK
        by_cases hneg : rk t < 0
        · have hdn : decide (rk t < 0) = true := decide_eq_true hneg
          have hq := HQ1.out
          rw [if_pos hneg] at hq
          injection hq with hq
          injection hq with e1 hq
          injection hq with e2 e3
          subst e1 e2 e3
          have hAa := HA3.out.alloc (Obj.cells (madeCells #[.bool false] N.n) 4)
          have hmade := own_made_of (enc := Value.bool) (d := false) w3 base 4 N.n HA3.out.size (by omega)
          rw [hgx] at hmade
          have hA4 := hAa.setC (.slice (some ⟨gx, 0, none⟩) N.n N.n) (cutK N rk 0) (by rw [cutK_zero, List.length_replicate]; exact hmade)
          obtain ⟨wa, hwa⟩ : ∃ wa, w3.alloc (Obj.cells (madeCells #[.bool false] N.n) 4) = wa := ⟨_, rfl⟩
          have d4 : wa.cell? ⟨g, 4, none⟩ = some V1.vc := by rw [← hwa]; exact (hAa.cell 4).trans rfl
          have f4 : wa.frozen? ⟨g, 4, none⟩ = false := by rw [← hwa]; exact hAa.frozen 4
          have hBa : Kept S w wa := by rw [← hwa]; exact HB2.out.alloc HU.out _
          rw [hwa] at hA4
          obtain ⟨w4, hw4⟩ : ∃ w4, wa.setCell ⟨g, 4, none⟩ (.slice (some ⟨gx, 0, none⟩) N.n N.n) = w4 := ⟨_, rfl⟩
          have HB4 : Aside0 (Kept S w w4) := ⟨by rw [← hw4]; exact kept_cell hBa HI.out.g _ _⟩
          rw [hw4] at hA4
          have HA4 := Aside0.mk hA4
          have g5 : w4.cell? ⟨g, 5, none⟩ = some (.slice (some ⟨gr2, 0, none⟩) N.n cr2) := (HA4.out.cell 5).trans rfl
          clear hmade hA4 hAa hBa hneg HQ1 HQ
          go_wp2
          go_loopg [73] N.n (fun q i wr => ∃ k : Nat, Aside0 (k + q = N.n) ∧ i = .int .i64 k ∧ Aside0 (NetAt wr base g N L1 ⟨V1.vo, V1.va, V1.vm, .slice (some ⟨gx, 0, none⟩) N.n N.n, .slice (some ⟨gr2, 0, none⟩) N.n cr2, V1.vn, V1.rows⟩ (cutK N rk k) (rkL N rk) next1) ∧ Aside0 (Kept S w wr))
          case atStart => exact ⟨0, ⟨by omega⟩, rfl, HA4, HB4⟩
          case round =>
            clear HA4 HB4 HA3 HB2 d4 f4 g5 d0 d5 hdn crt HCRK hw4 hwa hw3
            obtain ⟨k, HK, rfl, HA, HB⟩ := hrel
            by_cases hlt : k < N.n
            · have hlen : (cutK N rk k).length = N.n := rowB_len _ _
              have hbk := own_cellB (by have h := HA.out.cut_; rw [hlen] at h; exact h) k (by rw [hlen]; exact hlt)
              obtain ⟨cb, fb⟩ := hbk
              have ck : wr.cell? ⟨gr2, k, none⟩ = some (.int .i64 (rk k)) := by
                have ho := HA.out.rank_
                rw [rkL_len] at ho
                have := (own_cell ho k (by rw [rkL_len]; exact hlt)).1
                unfold rkL at this
                rwa [rowN_at _ _ _ hlt] at this
              have e4 : wr.cell? ⟨g, 4, none⟩ = some (.slice (some ⟨gx, 0, none⟩) N.n N.n) := (HA.out.cell 4).trans rfl
              have hset := HA.out.setB (gc := gx) (n := N.n) (cap := N.n) rfl hlen.symm k (decide (rk k ≥ 0))
              rw [cutK_set] at hset
              have HS := Aside0.mk hset
              have HGX := Aside0.mk (HIX.out N.n gx rfl)
              have hw1 := wrap_succ (n := N.n) (by omega) hlt
              obtain ⟨cb0, hcb0⟩ : ∃ b, (cutK N rk k).getD k false = b := ⟨_, rfl⟩
              rw [hcb0] at cb
              clear hset hlen hcb0
              go_wp2
              go_roundg (gk - 1)
              case measure => exact pred_lt HK hlt
              case rel => exact ⟨k + 1, next_eq HK hlt, by first | rfl | go_num, HS, ⟨kept_cell HB.out HGX.out _ _⟩⟩
            · obtain ⟨nn, hnn⟩ : ∃ nn, N.n = nn := ⟨_, rfl⟩
              have hkn : k = N.n := by have := HK.out; omega
              have hA := HA.out
              rw [hkn, cutK_all] at hA
              have HA9 := Aside0.mk hA
              subst hkn
              clear hA HK hlt hnn
              go_wp2
              go_ret2
              exact ⟨_, _, _, rfl, HA9.out, ⟨HI.out.g, HI.out.vo, HI.out.va, HI.out.vm, HIX.out N.n, HIR.out, HI.out.vn, HI.out.rows⟩, HB.out⟩
        · have hdn : decide (rk t < 0) = false := decide_eq_false hneg
          have hq := HQ1.out
          rw [if_neg hneg] at hq
          have HQ2 := Aside0.mk hq
          clear hq HQ1 HQ
          have hAa := HA3.out.alloc (Obj.cells (madeCells #[.int .i64 0] N.n) 3)
          have hmade := own_made w3 w3.heap.size 3 .i64 N.n (Nat.le_refl _) (by omega)
          have hyy := young HA3.out hmade (Nat.le_refl _)
          have hod := own_down hmade HA3.out.size
          rw [hgx] at hmade hyy hod
          have hz : List.replicate N.n 0 = nxL N (fun _ => 0) := by
            unfold nxL rowN
            refine List.ext_getElem (by simp) (fun i h1 h2 => by simp)
          obtain ⟨w4, hw4⟩ : ∃ w4, w3.alloc (Obj.cells (madeCells #[.int .i64 0] N.n) 3) = w4 := ⟨_, rfl⟩
          have d6 : w4.cell? ⟨g, 6, none⟩ = some V1.vn := by rw [← hw4]; exact (hAa.cell 6).trans rfl
          have f6 : w4.frozen? ⟨g, 6, none⟩ = false := by rw [← hw4]; exact hAa.frozen 6
          go_wp2_with fail
          have hA4 : NetAt w4 base g N L1 _ [] (rkL N rk) next1 := hw4 ▸ hAa
          have HB4 : Aside0 (Kept S w w4) := ⟨by rw [← hw4]; exact HB2.out.alloc HU.out _⟩
          rw [hw4] at hod
          have hA5 := hA4.setX (.slice (some ⟨gx, 0, none⟩) N.n N.n) (nxL N (fun _ => 0)) (by rw [nxL_len, ← hz]; simpa using hod) (fun u _ hu => by
            rcases hu with rfl | rfl | ⟨a, ha, rfl⟩
            · exact hyy.1
            · exact hyy.2.2.1
            · exact hyy.2.2.2 a ha)
          obtain ⟨w5, hw5⟩ : ∃ w5, w4.setCell ⟨g, 6, none⟩ (.slice (some ⟨gx, 0, none⟩) N.n N.n) = w5 := ⟨_, rfl⟩
          rw [hw5] at hA5
          have HA5 : Aside0 (NetAt w5 base g N L1 ⟨V1.vo, V1.va, V1.vm, V1.vc, .slice (some ⟨gr2, 0, none⟩) N.n cr2, .slice (some ⟨gx, 0, none⟩) N.n N.n, V1.rows⟩ [] (rkL N rk) (nxL N (fun _ => 0))) := ⟨hA5⟩
          have HB5 : Aside0 (Kept S w w5) := ⟨by rw [← hw5]; exact kept_cell HB4.out HI.out.g _ _⟩
          have HI5 : Aside0 (NetIn S g ⟨V1.vo, V1.va, V1.vm, V1.vc, .slice (some ⟨gr2, 0, none⟩) N.n cr2, .slice (some ⟨gx, 0, none⟩) N.n N.n, V1.rows⟩) := ⟨⟨HI.out.g, HI.out.vo, HI.out.va, HI.out.vm, HI.out.vc, HIR.out, HIX.out N.n, HI.out.rows⟩⟩
          rw [hw5]
          clear hA5 hA4 hAa hmade hyy hod hz hw4 hw5 d6 f6 d0 d5 crt HCRK hneg hdn HB4 HA3 HB2 hw3
          have hq := HQ2.out
          cases q1 with
          | zero => exact absurd hq (by simp [phase])
          | succ q2 =>
            cases hph : phase N rk f t (q2 + 1) ⟨L1, fun _ => 0⟩ sum1 with
            | none => rw [hph] at hq; cases hq
            | some x =>
              obtain ⟨sf, sumf⟩ := x
              rw [hph] at hq
              replace hq : run N f t (q2 + 1) sf.L sumf = some (L', rk', sum') := hq
              have HQ3 := Aside0.mk hq
              rw [phase] at hph
              cases hpu : push N rk t q2 ⟨L1, fun _ => 0⟩ f BIG with
              | none => rw [hpu] at hph; cases hph
              | some y =>
                obtain ⟨s1, r1⟩ := y
                rw [hpu] at hph
                replace hph : (if r1 > 0 then phase N rk f t q2 s1 (sum1 + r1) else some (s1, sum1)) = some (sf, sumf) := hph
                have HPH := Aside0.mk hph
                have HPU := Aside0.mk hpu
                have HR1 : Aside0 (∀ b, -1 ≤ rk b) := ⟨fun b => by have := HRD.out.neg b; omega⟩
                have HP1 := Aside0.mk (push_some HN.out HRD.out.le hpu (srch_zero HFL.out.fit) hf (by decide))
                clear hq hph hpu HQ2
                refine (push_calls HN.out HRD.out.le HR1.out ht base g S q2 q2 (Nat.le_refl _) ⟨L1, fun _ => 0⟩ f BIG s1 r1 w5 _ [] HPU.out (srch_zero HFL.out.fit) hf (by decide) (Int.le_refl _) HA5.out HI5.out (HB5.out.up HU.out)).mono ?_
                rintro e w6 ⟨rfl, hA6, hB6⟩
                have HA6 := Aside0.mk hA6
                have HB6 := Aside0.mk (HB5.out.trans hB6)
                have HF6 := Aside0.mk (flows_push hft (s := ⟨L1, fun _ => 0⟩) HFL.out HP1.out)
                clear hA6 hB6 HA5 HB5 HFL
                go_wp2
                go_loopg [9, 11] q2 (fun q v9 v11 wr => ∃ (s : St) (sum r : Int), v9 = .int .i64 sum ∧ v11 = .int .i64 r ∧ Aside0 ((if r > 0 then phase N rk f t q s (sum + r) else some (s, sum)) = some (sf, sumf)) ∧ Aside0 (NetAt wr base g N s.L ⟨V1.vo, V1.va, V1.vm, V1.vc, .slice (some ⟨gr2, 0, none⟩) N.n cr2, .slice (some ⟨gx, 0, none⟩) N.n N.n, V1.rows⟩ [] (rkL N rk) (nxL N s.nx)) ∧ Aside0 (Srch N rk t s) ∧ Aside0 (Flows N f t s.L (sum + r)) ∧ Aside0 (0 ≤ r) ∧ Aside0 (Kept S w wr))
                case atStart => exact ⟨s1, sum1, r1, rfl, rfl, HPH, HA6, ⟨HP1.out.srch⟩, HF6, ⟨HP1.out.nn⟩, HB6⟩
                case round =>
                  clear HPH HA6 HP1 HF6 HB6 HPU
                  obtain ⟨s, sum, r, rfl, rfl, HPH, HA, HS, HF, HR0, HB⟩ := hrel
                  by_cases hr : r > 0
                  · have hdr : decide (r > 0) = true := decide_eq_true hr
                    have hph := HPH.out
                    rw [if_pos hr] at hph
                    have hws : wrap64 (sum + r) = sum + r := by
                      have h1 := HF.out.le
                      have h2 := total_le HN.out
                      have h3 := HF.out.nn
                      unfold wrap64; omega
                    have hr0 := hr
                    clear hr HPH
                    cases gk with
                    | zero => exact absurd hph (by simp [phase])
                    | succ q3 =>
                      rw [phase] at hph
                      cases hpu : push N rk t q3 s f BIG with
                      | none => rw [hpu] at hph; cases hph
                      | some y =>
                        obtain ⟨s2, r2⟩ := y
                        rw [hpu] at hph
                        replace hph : (if r2 > 0 then phase N rk f t q3 s2 (sum + r + r2) else some (s2, sum + r)) = some (sf, sumf) := hph
                        have HPH := Aside0.mk hph
                        have HPU := Aside0.mk hpu
                        have HP1 := Aside0.mk (push_some HN.out HRD.out.le hpu HS.out hf (by decide))
                        have HF2 := Aside0.mk (flows_push hft HF.out HP1.out)
                        clear hph hpu
                        go_wp2_with fail
                        refine (push_calls HN.out HRD.out.le HR1.out ht base g S q3 q3 (Nat.le_refl _) s f BIG s2 r2 wr _ [] HPU.out HS.out hf (by decide) (Int.le_refl _) HA.out HI5.out (HB.out.up HU.out)).mono ?_
                        rintro e w7 ⟨rfl, hA7, hB7⟩
                        have HA7 := Aside0.mk hA7
                        have HB7 := Aside0.mk (HB.out.trans hB7)
                        clear hA7 hB7 HA HB HS HF
                        go_wp2
                        go_roundg q3
                        case measure => omega
                        case rel => exact ⟨s2, sum + r, r2, rfl, rfl, HPH, HA7, ⟨HP1.out.srch⟩, HF2, ⟨HP1.out.nn⟩, HB7⟩
                  · have hdr : decide (r > 0) = false := decide_eq_false hr
                    have hph := HPH.out
                    rw [if_neg hr] at hph
                    injection hph with hph
                    injection hph with e1 e2
                    subst e1 e2
                    have hr0 : r = 0 := by have := HR0.out; omega
                    have hf9 := HF.out
                    rw [hr0, Int.add_zero] at hf9
                    have HF9 := Aside0.mk hf9
                    clear hr HPH hr0 hf9
                    go_wp2
                    go_roundg (q2 + 1)
                    case measure => omega
                    case rel => exact ⟨_, _, _, _, _, HQ3, rfl, HA, HF9, HI5, HB⟩
end Go.Proofs.Ytffghdbhjjfnlaa.F
end
section
/-
  slices.Clone of booleans; flow.Net: Cut.
-/
namespace Go.Proofs.Ytffghdbhjjfnlaa.F
open Go.RowKit Go.Proofs.YtffghdbhjjfnlaaW.PrintWords Go.Proofs.YtffghdbhjjfnlaaW.PrintLast Go.Proofs.YtffghdbhjjfnlaaW.PrintMore
set_option linter.unusedVariables false
set_option linter.unusedSimpArgs false
set_option maxRecDepth 100000 in
theorem clone_calls {w : World} {base : Nat} {v : Value} {l : List Bool} (h : w.ownsRow base 4 1 v l.length (encs Value.bool l)) (hl : l.length ≤ 1000) :
    Calls Try.prog 24 #[v] w fun e w' => ∃ v', e = .returned v' ∧ w'.ownsRow w.heap.size 4 1 v' l.length (encs Value.bool l) ∧ Below w.heap.size w w' := by
  rcases h.2 with ⟨rfl, h0⟩ | ⟨g, cap, cur, rfl, hb, hh, hnc, _⟩
  · obtain rfl : l = [] := List.eq_nil_of_length_eq_zero h0
    clear h
    have he : ∀ w : World, (binOp .eql 30 (.slice none 0 0) (.slice none 0 0)).run Try.prog w = .ok (.bool true) w := fun _ => rfl
    go_enter Try.func24, Try.ntmps24
    go_wp2
    go_ret
    exact ⟨_, rfl, own_nil _ _ _ _, Below.refl _ _⟩
  · have HH := Aside0.mk h
    have hsz : g < w.heap.size := blk_lt hh
    clear h hh
    have he : ∀ w : World, (binOp .eql 30 (.slice (some ⟨g, 0, none⟩) l.length cap) (.slice none 0 0)).run Try.prog w = .ok (.bool false) w := fun _ => rfl
    go_enter Try.func24, Try.ntmps24
    have hoe := own_made_of (enc := Value.bool) (d := false) w w.heap.size 4 0 (Nat.le_refl _) (by omega)
    rw [show madeCells #[Value.bool false] 0 = #[] from by simp [madeCells]] at hoe
    have hoe' : (w.alloc (Obj.cells #[] 4)).ownsRow w.heap.size 4 1 (.slice (some ⟨w.heap.size, 0, none⟩) 0 0) ([] : List Bool).length (encs Value.bool []) := hoe
    have hr : ReadsOf Value.bool false (w.alloc (Obj.cells #[] 4)) (some ⟨g, 0, none⟩) l.length l := ⟨rfl, by omega, fun _ => ⟨_, rfl, fun j hj => by
      rw [add_plain]; exact (own_cellB (HH.out.alloc (Obj.cells #[] 4)) j hj).1⟩⟩
    have hbw : Below w.heap.size w (w.alloc (Obj.cells #[] 4)) := below_alloc (Below.refl _ _) _
    clear hoe
    go_wp2_with (first
      | (at_builtin
         go_loud (refine print_append_row_of (w0 := w) Value.bool false w.heap.size rfl (.tmp 5) (.tmp 6) 30 4 (.bool false) 1 rfl Try.underlying30 info4 rfl (by decide) (fun _ => rfl) (.slice (some ⟨w.heap.size, 0, none⟩) 0 0) [] l (some ⟨g, 0, none⟩) l.length cap rfl rfl hoe' hr hbw hbw.size (by simp; omega) ?_)
         intro v1 w1 ho1 hb1 hg1 hat1
         have HO1 := Aside0.mk ho1
         have HB1 := Aside0.mk hb1
         clear ho1 hb1 hg1 hat1 hoe' hr hbw)
      | fail)
    go_ret
    exact ⟨_, rfl, by have h := HO1.out; rwa [List.nil_append] at h, HB1.out⟩
set_option maxRecDepth 100000 in
theorem cut_calls {w : World} {base g : Nat} {N : Net} {L : Nat → Int} {V : Vs} {cut : List Bool} {rank next : List Int} (h : NetAt w base g N L V cut rank next) (hl : cut.length ≤ 1000) :
    Calls Try.prog 12 #[.pointer (some ⟨g, 0, none⟩)] w fun e w' => ∃ v, e = .returned v ∧ w'.ownsRow w.heap.size 4 1 v cut.length (encs Value.bool cut) ∧ Below w.heap.size w w' := by
  have c4 : w.cell? ⟨g, 4, none⟩ = some V.vc := (h.cell 4).trans rfl
  have H := Aside0.mk h
  clear h
  obtain ⟨A, cc, hv⟩ := own_slice H.out.cut_
  have HV := Aside0.mk hv
  rw [hv] at c4
  clear hv
  go_enter Try.func12, Try.ntmps12
  go_wp2_with fail
  refine (clone_calls (w := w) (base := base) (l := cut) (by rw [← HV.out]; exact H.out.cut_) hl).mono ?_
  rintro e w1 ⟨v', rfl, ho, hb⟩
  have HO := Aside0.mk ho
  have HB := Aside0.mk hb
  clear ho hb
  go_wp2
  go_ret
  exact ⟨_, rfl, HO.out, HB.out⟩
end Go.Proofs.Ytffghdbhjjfnlaa.F
end
