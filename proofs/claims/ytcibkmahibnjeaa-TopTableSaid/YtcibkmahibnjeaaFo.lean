/- Rows of whole numbers. -/
import Derived.Test.YtcibkmahibnjeaaFm
import Derived.Test.YtcibkmahibnjeaaFg
namespace Go.Ev
open Go Go.RowKit

/-- A slice type of whole numbers. -/
structure NumTy (P : Program) (t e : TypeId) (k : IntKind) : Prop where
  und : P.underlying t = some (.slice e)
  el : P.underlying e = some (.int k)
  info : ∃ i, P.info? e = some i ∧ i.zero = some (.int k 0) ∧ i.size = 1 ∧ i.bytes ≤ 8
  one : one P e = true
  lit : ∀ n w, XbuildSlice P t 1 #[(0, .int k n)] w = some (.slice (some ⟨w.heap.size, 0, none⟩) 1 1, w.alloc (.cells #[.int k n] e))
  lit0 : ∀ w, XbuildSlice P t 0 #[] w = some (.slice (some ⟨w.heap.size, 0, none⟩) 0 0, w.alloc (.cells #[] e))

def nc (k : IntKind) (n : Int) : List Value := [.int k n]
def OwnN (e : TypeId) (k : IntKind) (w : World) (v : Value) (l : List Int) : Prop := w.ownsRow 0 e 1 v l.length (l.flatMap (nc k))

section nums
variable {P : Program} {t e : TypeId} {k : IntKind} {w w' w0 : World} {v : Value} {l : List Int}

theorem OwnN.view (h : OwnN e k w v l) : View (nc k) 1 w v l := View.of_owns h fun _ _ => rfl
theorem OwnN.chg {S : Nat → Prop} (h : OwnN e k w v l) (hc : Chg S w w') (hs : ∀ q, v.ownBlock = some q → ¬ S q) : OwnN e k w' v l := hc.owns h hs
theorem OwnN.bel (h : OwnN e k w v l) (hb : Bel w w') : OwnN e k w' v l := h.chg (.of_bel hb fun _ => False) fun _ _ f => f
theorem OwnN.lt (h : OwnN e k w v l) {q : Nat} (hq : v.ownBlock = some q) : q < w.heap.size := (World.ownsRow.lt h q hq).2
theorem OwnN.nil (w : World) : OwnN e k w (.slice none 0 0) [] := World.ownsRow_nil w 0 e 1
theorem OwnN.slice (h : OwnN e k w v l) : ∃ x n c, v = .slice x n c := by
  obtain ⟨_, ⟨e, _⟩ | ⟨g, cap, cur, e, _⟩⟩ := h
  · exact ⟨_, _, _, e⟩
  · exact ⟨_, _, _, e⟩
theorem NumTy.len (T : NumTy P t e k) (h : View (nc k) 1 w v l) {ty : TypeId} (w2 : World) : Qlen P #[t] ty #[v] w2 = some (.int .i64 l.length) := h.len T.und w2
theorem NumTy.get (T : NumTy P t e k) (h : View (nc k) 1 w v l) {j : Nat} (hj : j < l.length) : ∃ x a, l[j]? = some x ∧ (∀ w2, QindexAddr P t v (.int .i64 (j : Int)) w2 = some (.pointer (some a))) ∧ Qload P e (.pointer (some a)) w = some (.int k x) := by
  obtain ⟨i, hi, _, hs, _⟩ := T.info
  obtain ⟨y, g, o, hy, _, hix, hc⟩ := h.get T.und hi hs (n := j) (by omega) (by omega)
  rw [Int.toNat_natCast] at hy
  exact ⟨y, _, hy, hix, Qload_cell T.one (hc 0 _ rfl)⟩

/-- A row that was laid since. -/
def FreshN (e : TypeId) (k : IntKind) (w0 w : World) (v : Value) (l : List Int) : Prop := Bel w0 w ∧ OwnN e k w v l ∧ ∀ q, v.ownBlock = some q → w0.heap.size ≤ q
theorem FreshN.start (w : World) : FreshN e k w w (.slice none 0 0) [] := ⟨Bel.refl _, OwnN.nil w, fun q hq => by cases hq⟩
theorem FreshN.later (h : FreshN e k w0 w v l) (hb : Bel w w') : FreshN e k w0 w' v l := ⟨h.1.trans hb, h.2.1.bel hb, h.2.2⟩
theorem FreshN.app (T : NumTy P t e k) (h : FreshN e k w0 w v l) {s : Value} {m : List Int} (hv : View (nc k) 1 w s m) (hl : l.length + m.length ≤ 1000000) :
    ∃ v' w', Xbi P .append #[t, t] t #[v, s] w = some (v', w') ∧ FreshN e k w0 w' v' (l ++ m) ∧ Chg (fun q => v.ownBlock = some q) w w' := by
  obtain ⟨i, hi, hz, hs, hb⟩ := T.info
  obtain ⟨v', w', e1, e2, e3, e4⟩ := Xappend (f := nc k) (ty := t) T.und hi hz hs rfl rfl (by omega) h.2.1 hv (fun _ _ => rfl) (fun y _ u hu => by simp [nc] at hu; subst hu; rfl) (by
    have : (l.length + m.length) * i.bytes ≤ 1000000 * 8 := Nat.mul_le_mul hl hb
    omega) (by simp only [maxLen]; omega)
  have c := Chg.of_grown e3
  refine ⟨v', w', e1, ⟨(h.1.thenChg c).bel fun q hq hs => ?_, e2, fun q hq => ?_⟩, c.mono fun q _ hq => hq.symm⟩
  · have := h.2.2 q hs.symm; omega
  · rcases e4 q hq with h' | h'
    · exact h.2.2 q h'
    · have := h.1.size; omega
theorem FreshN.push (T : NumTy P t e k) (h : FreshN e k w0 w v l) (n : Int) (hl : l.length ≤ 900000) :
    ∃ s w1, XbuildSlice P t 1 #[(0, .int k n)] w = some (s, w1) ∧ ∃ v' w', Xbi P .append #[t, t] t #[v, s] w1 = some (v', w') ∧ FreshN e k w0 w' v' (l ++ [n]) ∧ Chg (fun q => v.ownBlock = some q) w w' := by
  have b1 : Bel w (w.alloc (.cells #[.int k n] e)) := (Bel.refl w).alloc _
  have hv : View (nc k) 1 (w.alloc (.cells #[.int k n] e)) (.slice (some ⟨w.heap.size, 0, none⟩) 1 1) [n] :=
    ⟨some ⟨w.heap.size, 0, none⟩, 1, rfl, Nat.le_refl _, by simp [maxLen], fun h => (by cases h), fun j y hj => by
      match j, hj with
      | 0, hj =>
        injection hj with hj
        subst hj
        exact ⟨w.heap.size, 0, rfl, CellsAt.of (MapKept.heap_alloc w _).1⟩
      | j + 1, hj => simp at hj⟩
  obtain ⟨v', w', e1, e2, e3⟩ := (h.later b1).app T hv (by simp; omega)
  exact ⟨_, _, T.lit n w, v', w', e1, e2, b1.thenChg e3⟩
/-- A copy of a row. -/
theorem NumTy.copy (T : NumTy P t e k) (h : View (nc k) 1 w v l) (hl : l.length ≤ 900000) : ∃ s w1, XbuildSlice P t 0 #[] w = some (s, w1) ∧ Bel w w1 ∧ ∃ v' w', Xbi P .append #[t, t] t #[s, v] w1 = some (v', w') ∧ FreshN e k w w' v' l := by
  have b1 : Bel w (w.alloc (.cells #[] e)) := (Bel.refl w).alloc _
  have f1 : FreshN e k w (w.alloc (.cells #[] e)) (.slice (some ⟨w.heap.size, 0, none⟩) 0 0) [] := by
    refine ⟨b1, ⟨rfl, .inr ⟨w.heap.size, 0, #[], rfl, Nat.zero_le _, (MapKept.heap_alloc w _).1, Nat.le_refl _, Nat.zero_le _, rfl, rfl⟩⟩, fun q hq => ?_⟩
    have hq' : some w.heap.size = some q := hq
    injection hq' with hq'
    omega
  obtain ⟨v', w', e1, e2, e3⟩ := f1.app T (h.bel b1) (by simp; omega)
  exact ⟨_, _, T.lit0 w, b1, v', w', e1, e2⟩
end nums
end Go.Ev
