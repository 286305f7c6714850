/- A stream put together of its pieces: the bytes that are laid. -/
import Derived.Test.YtfakpdegiobpaaaSe26
namespace Go.Proofs.Ytfakpdegiobpaaa
open Go Go.Ev Go.RowKit
open Go.Proofs

/-! ## Truths in a row -/

def bc (b : Bool) : List Value := [.bool b]
theorem und56 : Try.prog.underlying 56 = some (.slice 4) := by kernel_rfl
theorem inf4z : ∃ i, Try.prog.info? 4 = some i ∧ i.size = 1 ∧ i.zero = some (.bool false) ∧ i.bytes = 1 := ⟨(Try.prog.info? 4).get (by kernel_rfl), by kernel_rfl, by kernel_rfl, by kernel_rfl, by kernel_rfl⟩
theorem one4 : one Try.prog 4 = true := by kernel_rfl
def OwnS (w : World) (v : Value) (l : List Bool) : Prop := w.ownsRow 0 4 1 v l.length (l.flatMap bc)
theorem OwnS.chg {w w' : World} {v : Value} {l : List Bool} {S : Nat → Prop} (h : OwnS w v l) (hc : Chg S w w') (hs : ∀ k, v.ownBlock = some k → ¬ S k) : OwnS w' v l := hc.owns h hs
theorem OwnS.view {w : World} {v : Value} {l : List Bool} (h : OwnS w v l) : View bc 1 w v l := View.of_owns h fun _ _ => rfl
theorem made56 {n : Nat} (hn : n ≤ 1000000) (w : World) : ∃ v w', XmakeSlice Try.prog 56 (.int .i64 (n : Int)) (.int .i64 (n : Int)) w = some (v, w') ∧ OwnS w' v (List.replicate n false) ∧ Bel w w' ∧ v.ownBlock = some w.heap.size := by
  obtain ⟨i, hi, hs, hz, hb⟩ := inf4z
  obtain ⟨w', e1, e2, e3⟩ := Xmade (w := w) (kl := .i64) (kc := .i64) (f := bc) (d := false) und56 hi hz hs rfl rfl rfl (n := n) (by rw [hb]; omega) (by unfold maxLen; omega)
  refine ⟨_, w', e1, ?_, e3, rfl⟩
  unfold OwnS
  rw [List.length_replicate]
  exact e2
theorem map_one {α : Type} {f : α → List Value} {c : α → Value} (hf : ∀ x, f x = [c x]) : ∀ l : List α, l.flatMap f = l.map c
  | [] => rfl
  | x :: l => by rw [List.flatMap_cons, hf, map_one hf l]; rfl
theorem flat_set {α : Type} {f : α → List Value} {c : α → Value} (hf : ∀ x, f x = [c x]) (l : List α) (j : Nat) (y : α) : (l.flatMap f).set j (c y) = (l.set j y).flatMap f := by
  rw [map_one hf, map_one hf, List.map_set]
theorem put34 {w : World} {v : Value} {l : List By} (h : OwnB w v l) {j : Nat} (hj : j < l.length) (y : By) :
    ∃ g, v.ownBlock = some g ∧ (∀ w2, QindexAddr Try.prog 34 v (.int .i64 (j : Int)) w2 = some (.pointer (some ⟨g, j, none⟩))) ∧
      ∃ w', Xstore Try.prog 5 (.pointer (some ⟨g, j, none⟩)) y.v w = some (undef, w') ∧ OwnB w' v (l.set j y) ∧ Chg (fun k => k = g) w w' := by
  obtain ⟨i, hi, hs⟩ := inf5
  obtain ⟨g, h1, h2, w', h3, h4, h5⟩ := own_set1 By.und34 hi hs h hj (u := y.v) rfl rfl
  refine ⟨g, h1, h2, w', h3, ?_, h5⟩
  unfold OwnB
  rw [List.length_set, ← flat_set (f := By.cs) (c := By.v) fun _ => rfl]
  exact h4
theorem put56 {w : World} {v : Value} {l : List Bool} (h : OwnS w v l) {j : Nat} (hj : j < l.length) (y : Bool) :
    ∃ g, v.ownBlock = some g ∧ (∀ w2, QindexAddr Try.prog 56 v (.int .i64 (j : Int)) w2 = some (.pointer (some ⟨g, j, none⟩))) ∧
      ∃ w', Xstore Try.prog 4 (.pointer (some ⟨g, j, none⟩)) (.bool y) w = some (undef, w') ∧ OwnS w' v (l.set j y) ∧ Chg (fun k => k = g) w w' := by
  obtain ⟨i, hi, hs, _⟩ := inf4z
  obtain ⟨g, h1, h2, w', h3, h4, h5⟩ := own_set1 und56 hi hs h hj (u := .bool y) rfl rfl
  refine ⟨g, h1, h2, w', h3, ?_, h5⟩
  unfold OwnS
  rw [List.length_set, ← flat_set (f := bc) (c := Value.bool) fun _ => rfl]
  exact h4
theorem get56 {w : World} {v : Value} {l : List Bool} (h : OwnS w v l) {j : Nat} {b : Bool} (hj : l[j]? = some b) {g : Nat} (hg : ∀ w2, QindexAddr Try.prog 56 v (.int .i64 (j : Int)) w2 = some (.pointer (some ⟨g, j, none⟩))) : Qload Try.prog 4 (.pointer (some ⟨g, j, none⟩)) w = some (.bool b) := by
  obtain ⟨i, hi, hs, _⟩ := inf4z
  have hl := (List.getElem?_eq_some_iff.1 hj).1
  obtain ⟨y, g', o, hy, _, hix, hc⟩ := h.view.get und56 hi hs (n := j) (by omega) (by omega)
  rw [Int.toNat_natCast, hj] at hy
  injection hy with hy
  subst hy
  have := (hix w).symm.trans (hg w)
  injection this with this; injection this with this; injection this with this; injection this with h1 h2
  subst h1 h2
  exact Qload_cell one4 (hc 0 _ rfl)
theorem len56 {w : World} {v : Value} {l : List Bool} (h : OwnS w v l) {ty : TypeId} (w2 : World) : Qlen Try.prog #[56] ty #[v] w2 = some (.int .i64 l.length) := h.view.len und56 w2

/-! ## What is laid, so far -/

def filled (W : List By) (m : Nat) : List By := W.take m ++ List.replicate (W.length - m) By.zero
def marked (n m : Nat) : List Bool := List.replicate m true ++ List.replicate (n - m) false
theorem filled_len {W : List By} {m : Nat} (h : m ≤ W.length) : (filled W m).length = W.length := by simp [filled]; omega
theorem marked_len {n m : Nat} (h : m ≤ n) : (marked n m).length = n := by simp [marked]; omega
theorem marked_at {n m : Nat} (h : m < n) : (marked n m)[m]? = some false := by
  unfold marked
  rw [List.getElem?_append_right (by simp), List.length_replicate, Nat.sub_self, List.getElem?_replicate, if_pos (by omega)]
theorem filled_set {W : List By} {m : Nat} {x : By} (hx : W[m]? = some x) : (filled W m).set m x = filled W (m + 1) := by
  have hm := (List.getElem?_eq_some_iff.1 hx).1
  unfold filled
  rw [List.set_append_right _ _ (by simp; omega), List.take_add_one, hx]
  have e : W.length - m = (W.length - (m + 1)) + 1 := by omega
  rw [e, List.replicate_succ, List.length_take, Nat.min_eq_left (by omega), Nat.sub_self]
  simp
theorem marked_set {n m : Nat} (h : m < n) : (marked n m).set m true = marked n (m + 1) := by
  unfold marked
  rw [List.set_append_right _ _ (by simp), List.length_replicate, Nat.sub_self]
  have e : n - m = (n - (m + 1)) + 1 := by omega
  rw [e, List.replicate_succ, List.set_cons_zero, List.replicate_succ']
  simp
theorem filled_all (W : List By) : filled W W.length = W := by simp [filled]

/-- Both rows, as far as they are filled; nothing else has turned. -/
structure Done (wN w : World) (gv sv : Value) (W : List By) (m : Nat) : Prop where
  bel : Bel wN w
  got : OwnB w gv (filled W m)
  seen : OwnS w sv (marked W.length m)
structure Fresh2 (wN : World) (gv sv : Value) : Prop where
  g : ∀ k, gv.ownBlock = some k → wN.heap.size ≤ k
  s : ∀ k, sv.ownBlock = some k → wN.heap.size ≤ k
  apart : ∀ k, gv.ownBlock = some k → sv.ownBlock ≠ some k
theorem Done.later {wN w w' : World} {gv sv : Value} {W : List By} {m : Nat} (h : Done wN w gv sv W m) (hb : Bel w w') : Done wN w' gv sv W m :=
  ⟨h.bel.trans hb, h.got.chg (.of_bel hb fun _ => False) fun _ _ f => f, h.seen.chg (.of_bel hb fun _ => False) fun _ _ f => f⟩

theorem fill11 {wN : World} {gv sv dv x2 x3 x5 x7 x8 x9 x10 x13 : Value} {W D : List By} {m : Nat} {Q : Exit × List Value × World → Prop} (F : Fresh2 wN gv sv) (hlen : m + D.length ≤ W.length) (hW : W.length ≤ 1000000)
    (hD : ∀ k x, D[k]? = some x → W[m + k]? = some x)
    (hQ : ∀ w, Done wN w gv sv W (m + D.length) → Brings (s11R4 (.exit 2) [x2, x3, x5, x7, x8, x9, x10, gv, sv, x13, dv, .int .i64 m, .int .i64 D.length] w) Q)
    {w : World} (h : Done wN w gv sv W m) (hv : View By.cs 1 w dv D) (hd : ∀ k, dv.ownBlock = some k → gv.ownBlock ≠ some k ∧ sv.ownBlock ≠ some k) :
    Brings (loopR s11B4 s11R4 [x2, x3, x5, x7, x8, x9, x10, gv, sv, x13, dv, .int .i64 m, .int .i64 0] w) Q := by
  refine Brings.loop (fun r xs w' => ∃ k : Nat, xs = [x2, x3, x5, x7, x8, x9, x10, gv, sv, x13, dv, .int .i64 m, .int .i64 k] ∧ k ≤ D.length ∧ r = D.length - k ∧ Done wN w' gv sv W (m + k) ∧ View By.cs 1 w' dv D) ?_ D.length _ _
    ⟨0, rfl, by omega, by omega, h, hv⟩
  rintro r xs w' ⟨k, rfl, hk, hr, h, hv⟩
  simp only [s11B4, hv.len By.und34, go_sem]
  refine .cond (fun hlt => ?_) (fun hlt => ?_)
  · have hlt : k < D.length := by
      have : (k : Int) < D.length := by simpa using hlt
      omega
    have wm : IntKind.i64.wrap ((m : Int) + k) = ((m + k : Nat) : Int) := by rw [wrap_i64 (by omega) (by omega)]; rfl
    have n0 : decide (((m + k : Nat) : Int) < 0) = false := by rw [decide_eq_false_iff_not]; omega
    have gl := filled_len (W := W) (m := m + k) (by omega)
    have ml := marked_len (n := W.length) (m := m + k) (by omega)
    have n1 : decide (((filled W (m + k)).length : Int) ≤ ((m + k : Nat) : Int)) = false := by rw [decide_eq_false_iff_not, gl]; omega
    obtain ⟨x, g0, o0, hx, hg0, hix0, hc0⟩ := By.getR hv (n := k) (by omega) (by omega)
    rw [Int.toNat_natCast] at hx
    have hWx := hD k x hx
    obtain ⟨gs, hgs, hixs, _⟩ := put56 h.seen (j := m + k) (by rw [ml]; omega) true
    have ld := get56 h.seen (marked_at (n := W.length) (m := m + k) (by omega)) hixs
    obtain ⟨g1, hg1, hix1, w1, st1, o1, c1⟩ := put34 h.got (j := m + k) (by rw [gl]; omega) x
    have s1 : OwnS w1 sv (marked W.length (m + k)) := h.seen.chg c1 fun q hq e => F.apart q (by rw [hg1, e]) hq
    obtain ⟨g2, hg2, hix2, w2, st2, o2, c2⟩ := put56 s1 (j := m + k) (by rw [ml]; omega) true
    have e21 : g2 = gs := by
      have := (hix2 w).symm.trans (hixs w)
      injection this with this; injection this with this; injection this with this; injection this with h1 h2
    subst e21
    simp only [wm, n0, n1, h.got.view.len By.und34, hixs, ld, hix0, By.all hc0, hix1, st1, st2, By.v, go_sem]
    have st1' : Xstore Try.prog 5 (.pointer (some ⟨g1, m + k, none⟩)) (.int .u8 x.b) w' = some (undef, w1) := st1
    simp only [wm, n0, n1, h.got.view.len By.und34, hixs, ld, hix0, By.all hc0, hix1, st1', st2, By.v, go_sem]
    have bN : Bel wN w2 := ((h.bel.thenChg c1).bel fun q hq e => by have := F.g _ hg1; omega).thenChg c2 |>.bel fun q hq e => by have := F.s _ hg2; omega
    have v2 : View By.cs 1 w2 dv D := (hv.chg c1 fun q hq e => (hd q hq).1 (by rw [e]; exact hg1)).chg c2 fun q hq e => (hd q hq).2 (by rw [e]; exact hg2)
    have got2 : OwnB w2 gv (filled W (m + (k + 1))) := by
      rw [filled_set hWx] at o1
      exact o1.chg c2 fun q hq e => F.apart q hq (by rw [e]; exact hg2)
    have seen2 : OwnS w2 sv (marked W.length (m + (k + 1))) := by
      rw [marked_set (by omega)] at o2
      exact o2
    rw [wrap_i64 (n := (k : Int) + 1) (by omega) (by omega)]
    exact .ret (.inl ⟨rfl, D.length - (k + 1), by omega, k + 1, rfl, by omega, rfl, ⟨bN, got2, seen2⟩, v2⟩)
  · have : k = D.length := by
      have : ¬ (k : Int) < D.length := by simpa using hlt
      omega
    subst this
    exact .ret (.inr ⟨by simp, hQ _ h⟩)

end Go.Proofs.Ytfakpdegiobpaaa
