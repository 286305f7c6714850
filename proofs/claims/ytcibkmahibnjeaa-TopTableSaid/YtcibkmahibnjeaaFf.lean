/- Slices of structs: seen, cut, appended to. -/
import Derived.Laws.AppendOwnNone
import Derived.Laws.Slices
import Derived.Test.YtcibkmahibnjeaaFd
namespace Go.Ev
open Go Go.RowKit

/-- A slice whose elements are these. -/
def View {α : Type} (f : α → List Value) (size : Nat) (w : World) (v : Value) (l : List α) : Prop :=
  ∃ x cap, v = .slice x l.length cap ∧ l.length ≤ cap ∧ cap ≤ maxLen ∧ (x = none → cap = 0) ∧ ∀ k y, l[k]? = some y → ∃ g o, x = some ⟨g, o, none⟩ ∧ CellsAt (f y) w g (o + k * size)

theorem flat_len {α : Type} {f : α → List Value} {size : Nat} : ∀ (l : List α), (∀ y ∈ l, (f y).length = size) → (l.flatMap f).length = l.length * size
  | [], _ => by simp
  | y :: l, hf => by rw [List.flatMap_cons, List.length_append, hf y (by simp), flat_len l fun z hz => hf z (by simp [hz]), List.length_cons, Nat.add_mul, Nat.one_mul, Nat.add_comm]

section view
variable {α : Type} {f : α → List Value} {size : Nat} {P : Program} {t e : TypeId} {w w' : World} {v : Value} {l : List α}

theorem View.bel (h : View f size w v l) (hb : Bel w w') : View f size w' v l := by
  obtain ⟨x, cap, hv, h1, h2, h3, h4⟩ := h
  refine ⟨x, cap, hv, h1, h2, h3, fun k y hk => ?_⟩
  obtain ⟨g, o, hx, hc⟩ := h4 k y hk
  exact ⟨g, o, hx, hc.bel hb⟩
theorem View.chg {S : Nat → Prop} (h : View f size w v l) (hc : Chg S w w') (hs : ∀ k, v.ownBlock = some k → ¬ S k) : View f size w' v l := by
  obtain ⟨x, cap, rfl, h1, h2, h3, h4⟩ := h
  refine ⟨x, cap, rfl, h1, h2, h3, fun k y hk => ?_⟩
  obtain ⟨g, o, rfl, hcl⟩ := h4 k y hk
  exact ⟨g, o, rfl, hcl.chg hc (hs g rfl)⟩
theorem View.len (h : View f size w v l) {ty : TypeId} (ht : P.underlying t = some (.slice e)) (w' : World) : Qlen P #[t] ty #[v] w' = some (.int .i64 l.length) := by
  obtain ⟨x, cap, rfl, _⟩ := h
  exact Qlen_slice ht
theorem View.small (h : View f size w v l) : l.length ≤ maxLen := by
  obtain ⟨x, cap, rfl, h1, h2, _⟩ := h
  exact Nat.le_trans h1 h2
/-- An element. -/
theorem View.get (h : View f size w v l) {i : TypeInfo} (ht : P.underlying t = some (.slice e)) (hi : P.info? e = some i) (hs : i.size = size) {n : Int} (h0 : 0 ≤ n) (h1 : n < l.length) :
    ∃ y g o, l[n.toNat]? = some y ∧ v.ownBlock = some g ∧ (∀ w', QindexAddr P t v (.int .i64 n) w' = some (.pointer (some ⟨g, o, none⟩))) ∧ CellsAt (f y) w g o := by
  obtain ⟨x, cap, rfl, _, _, _, h4⟩ := h
  have hlt : n.toNat < l.length := by omega
  obtain ⟨g, o, rfl, hc⟩ := h4 n.toNat l[n.toNat] (by simp [hlt])
  refine ⟨_, g, o + n.toNat * size, by simp [hlt], rfl, fun w' => ?_, hc⟩
  rw [QindexAddr_slice ht hi h0 h1, hs]
  unfold Addr.add
  by_cases h : n.toNat * size = 0 <;> simp [h]
theorem View.of_owns {base : Nat} (h : w.ownsRow base e size v l.length (l.flatMap f)) (hf : ∀ y ∈ l, (f y).length = size) : View f size w v l := by
  have ho := h
  obtain ⟨h1, ⟨rfl, h2⟩ | ⟨g, cap, cur, rfl, hb, hg, hc, hm, hsz, ht⟩⟩ := h
  · have : l = [] := List.length_eq_zero_iff.1 h2
    subst this
    exact ⟨none, 0, rfl, Nat.le_refl _, Nat.zero_le _, fun _ => rfl, fun k y hk => by simp at hk⟩
  · refine ⟨some ⟨g, 0, none⟩, cap, rfl, hc, hm, (fun h => by cases h), fun k y hk => ⟨g, 0, rfl, ?_⟩⟩
    rw [Nat.zero_add, ← flat_at l k y hf hk]
    exact owns_cells ho rfl
theorem View.nil : View f size w (.slice none 0 0) [] := ⟨none, 0, rfl, Nat.le_refl _, Nat.zero_le _, fun _ => rfl, fun k y hk => by simp at hk⟩

/-- All its cells, in a row. -/
theorem View.cells (h : View f size w v l) (hf : ∀ y ∈ l, (f y).length = size) (h0 : 0 < l.length) : ∃ a cap, v = .slice (some a) l.length cap ∧ ∀ j u, (l.flatMap f)[j]? = some u → w.cell? (a.add j) = some u := by
  obtain ⟨x, cap, rfl, _, _, _, h4⟩ := h
  obtain ⟨g, o, rfl, _⟩ := h4 0 l[0] (by simp [h0])
  refine ⟨⟨g, o, none⟩, cap, rfl, fun j u hj => ?_⟩
  have hadd : (⟨g, o, none⟩ : Addr).add j = ⟨g, o + j, none⟩ := by
    unfold Addr.add
    by_cases h : j = 0 <;> simp [h]
  rw [hadd]
  have hlen := flat_len l hf
  have hjl := (List.getElem?_eq_some_iff.1 hj).1
  have hpos : 0 < size := by
    rcases Nat.eq_zero_or_pos size with h | h
    · subst h; rw [hlen] at hjl; simp at hjl
    · exact h
  have hk : j / size < l.length := by
    rw [Nat.div_lt_iff_lt_mul hpos]; omega
  obtain ⟨g', o', e1, hc⟩ := h4 (j / size) l[j / size] (by simp [hk])
  injection e1 with e1
  injection e1 with e1 e2 _
  subst e1 e2
  have hfl := flat_at (f := f) l (j / size) l[j / size] hf (by simp [hk])
  have hjm : (f l[j / size])[j % size]? = some u := by
    rw [← hfl, List.getElem?_take, if_pos (Nat.mod_lt _ hpos), List.getElem?_drop]
    rw [show j / size * size + j % size = j from by rw [Nat.mul_comm]; exact Nat.div_add_mod j size]
    exact hj
  have := hc _ _ hjm
  rw [Nat.add_assoc, show j / size * size + j % size = j from by rw [Nat.mul_comm]; exact Nat.div_add_mod j size] at this
  exact this

/-- A part of it. -/
theorem View.cut (h : View f size w v l) {i : TypeInfo} (ht : P.underlying t = some (.slice e)) (hi : P.info? e = some i) (hs : i.size = size) {lo hi' : Int} (h0 : 0 ≤ lo) (h1 : lo ≤ hi') (h2 : hi' ≤ l.length) (w' : World) :
    ∃ v', Qslice P t v (some (.int .i64 lo)) (some (.int .i64 hi')) none w' = some v' ∧ View f size w v' ((l.take hi'.toNat).drop lo.toNat) ∧ (∀ k, v'.ownBlock = some k → v.ownBlock = some k) := by
  have hel : P.elem t = e := by simp [Program.elem, ht]
  have ht' : P.underlying t = some (.slice (P.elem t)) := by rw [hel]; exact ht
  obtain ⟨x, cap, rfl, h3, h4, h5, h6⟩ := h
  refine ⟨sliced x lo.toNat hi'.toNat cap size, ?_, ?_, ?_⟩
  · unfold Qslice qv
    rw [run_sliceAt_slice _ _ _ _ _ _ ht', run_slice_lh _ _ _ _ _ ht' _ _ _ _ h0 h1 (by omega), hel, run_size hi, hs]
    rfl
  · have hlen : ((l.take hi'.toNat).drop lo.toNat).length = hi'.toNat - lo.toNat := by simp; omega
    unfold sliced
    rw [← hlen]
    refine ⟨_, _, rfl, by omega, by omega, ?_, fun k y hk => ?_⟩
    · intro hn
      by_cases hc : cap = lo.toNat
      · rw [if_pos hc] at hn; omega
      · rw [if_neg hc] at hn
        rw [Option.map_eq_none_iff] at hn
        have := h5 hn; omega
    · rw [List.getElem?_drop, List.getElem?_take] at hk
      split at hk
      · obtain ⟨g, o, rfl, hc⟩ := h6 _ y hk
        have hlt := (List.getElem?_eq_some_iff.1 hk).1
        refine ⟨g, o + lo.toNat * size, ?_, ?_⟩
        · rw [if_neg (by omega)]
          simp only [Option.map_some, Option.some.injEq]
          unfold Addr.add
          by_cases h : lo.toNat * size = 0 <;> simp [h]
        · rw [Nat.add_mul] at hc
          rw [Nat.add_assoc]; exact hc
      · cases hk
  · intro k hk
    unfold sliced at hk
    split at hk
    · cases x <;> exact hk
    · cases x with
      | none => cases hk
      | some a =>
        simp only [Option.map_some, Value.ownBlock, Option.some.injEq] at hk ⊢
        rw [← hk]
        unfold Addr.add
        split <;> rfl

end view
end Go.Ev
