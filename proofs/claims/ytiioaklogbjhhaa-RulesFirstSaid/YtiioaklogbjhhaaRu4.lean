/- Add, of both. -/
import Derived.Test.YtiioaklogbjhhaaRu3
namespace Go.Proofs.Ytiioaklogbjhhaa
open Go Go.Ev
open Go.Proofs

theorem lit33 (x : Rule) (w : World) : XbuildSlice Try.prog 33 1 #[(0, x.v)] w = some (.slice (some ⟨w.heap.size, 0, none⟩) 1 1, w.alloc (.cells x.cs.toArray 26)) := by kernel_rfl
theorem litView (x : Rule) (w : World) : View Rule.cs 8 (w.alloc (.cells x.cs.toArray 26)) (.slice (some ⟨w.heap.size, 0, none⟩) 1 1) [x] :=
  ⟨_, 1, rfl, Nat.le_refl _, by decide, (fun h => by cases h), fun k y hk => by
    cases k with
    | zero => simp at hk; subst hk; exact ⟨_, 0, rfl, by simpa using x.new w⟩
    | succ k => simp at hk⟩

theorem app33 {w : World} {v s : Value} {l m : List Rule} (ho : w.ownsRow 0 26 8 v l.length (l.flatMap Rule.cs)) (hv : View Rule.cs 8 w s m) (hs : l.length + m.length ≤ 1000000) :
    ∃ v' w', Xbi Try.prog .append #[33, 33] 33 #[v, s] w = some (v', w') ∧ w'.ownsRow 0 26 8 v' (l ++ m).length ((l ++ m).flatMap Rule.cs) ∧ w.grownBy w' v.ownBlock ∧ (∀ k, v'.ownBlock = some k → v.ownBlock = some k ∨ w.heap.size ≤ k) := by
  obtain ⟨i, hi, hz, h1, h2⟩ : ∃ i, Try.prog.info? 26 = some i ∧ i.zero = some Rule.zero.v ∧ i.size = 8 ∧ i.bytes = 40 :=
    ⟨(Try.prog.info? 26).get (by kernel_rfl), by kernel_rfl, by kernel_rfl, by kernel_rfl, by kernel_rfl⟩
  exact Xappend und33 hi hz h1 h2 rfl (by omega) ho hv (Rule.lens m) (fun y _ u hu => Rule.one1 y u (by simpa [Rule.v, Value.cells] using hu)) (by omega) (by simp only [maxLen]; omega)

theorem inf33 : ∃ i, Try.prog.info? 33 = some i ∧ i.size = 1 := ⟨(Try.prog.info? 33).get (by kernel_rfl), by kernel_rfl, by kernel_rfl⟩

/-- The variable of an object gets another slice. -/
theorem store33 {tt : TypeId} {w : World} {a : Nat} {sl sl' : Value} (hv : w.heap[a]? = some (.cells #[sl] tt (0, 0))) (h : ∃ x n c, sl' = .slice x n c) :
    Xstore Try.prog 33 (.pointer (some ⟨a, 0, none⟩)) sl' w = some (undef, w.setRow a #[sl']) := by
  obtain ⟨i, hi, hs⟩ := inf33
  obtain ⟨x, n, c, rfl⟩ := h
  exact Xstore_var hi (by rw [hs]; rfl) hv (by rw [hs]; rfl) (by simp [Value.cells, Value.oneCell'])
theorem owns_slice {w : World} {base : Nat} {e : TypeId} {size n : Nat} {v : Value} {xs : List Value} (h : w.ownsRow base e size v n xs) : ∃ x n c, v = .slice x n c := by
  obtain ⟨_, ⟨rfl, _⟩ | ⟨g, cap, cur, rfl, _⟩⟩ := h <;> exact ⟨_, _, _, rfl⟩

/-- A deed on an object: what it answers, and what the object is then. -/
def Did (tt : TypeId) (w : World) (a : Nat) (sl : Value) (n : Int) (l' : List Rule) (r : Value × World) : Prop :=
  r.1 = .int .i64 n ∧ Chg (Foot a sl) w r.2 ∧ ∃ sl', Obj tt r.2 a sl' l' ∧ ∀ k, sl'.ownBlock = some k → sl.ownBlock = some k ∨ w.heap.size ≤ k

theorem Obj.ptr {tt : TypeId} {w : World} {a : Nat} {sl : Value} {l : List Rule} (h : Obj tt w a sl l) {w' : World} (hb : Bel w w') : Qload Try.prog 33 (.pointer (some ⟨a, 0, none⟩)) w' = some sl := Qload_cell one33 (hb.cell_some h.cells)

/-- The end of both Adds. -/
theorem addEnd {tt : TypeId} {w : World} {a : Nat} {sl : Value} {l : List Rule} {x : Rule} (h : Obj tt w a sl l) (hx : x.ok) (hr : rightM x = true) (hm : l.length < 32) :
    ∃ v' w1 w2, Xbi Try.prog .append #[33, 33] 33 #[sl, .slice (some ⟨w.heap.size, 0, none⟩) 1 1] (w.alloc (.cells x.cs.toArray 26)) = some (v', w1) ∧ Xstore Try.prog 33 (.pointer (some ⟨a, 0, none⟩)) v' w1 = some (undef, w2) ∧
      Chg (Foot a sl) w w2 ∧ Obj tt w2 a v' (l ++ [x]) ∧ ∀ k, v'.ownBlock = some k → sl.ownBlock = some k ∨ w.heap.size ≤ k := by
  have hb : Bel w (w.alloc (.cells x.cs.toArray 26)) := (Bel.refl w).alloc _
  have h' := h.bel hb
  obtain ⟨v', w1, e1, ho, hg, hk⟩ := app33 h'.owns (litView x w) (by simp; omega)
  have c1 : Chg (Foot a sl) w w1 := hb.thenChg ((Chg.of_grown hg).mono fun k _ hk => .inr hk.symm)
  have hva : w1.heap[a]? = some (.cells #[sl] tt (0, 0)) := by
    rw [hg.block a (Array.getElem?_eq_some_iff.1 h'.var).1 (fun e => h.apart e.symm)]; exact h'.var
  have hk' : ∀ k, v'.ownBlock = some k → sl.ownBlock = some k ∨ w.heap.size ≤ k := fun k hv => (hk k hv).imp id fun h => by simp at h; omega
  have hap : v'.ownBlock ≠ some a := fun e => by
    rcases hk' a e with h1 | h1
    · exact h.apart h1
    · have := h.lt a (.inl rfl); omega
  refine ⟨v', w1, _, e1, store33 hva (owns_slice ho), c1.trans ((setRow_chg a #[v']).mono fun k _ hk => .inl hk) fun _ _ h => h, ?_, hk'⟩
  refine ⟨setRow_heap w1 a _ _ tt _ hva, (setRow_chg a #[v']).owns ho (fun k hk e => hap (by rw [hk, e])), hap, ?_, ?_, by simp; omega⟩
  · intro y hy
    rcases List.mem_append.1 hy with hy | hy
    · exact h.oks y hy
    · simp at hy; subst hy; exact hx
  · intro y hy
    rcases List.mem_append.1 hy with hy | hy
    · exact h.right y hy
    · simp at hy; subst hy; exact hr

theorem k12 {w : World} {a : Nat} {sl : Value} {l : List Rule} {x : Rule} (h : Obj 60 w a sl l) (hx : x.ok) :
    Brings (Xcall Try.prog (Value.func (Fn.func 12) #[] #[]) #[.pointer (some ⟨a, 0, none⟩), x.v] w) (Did 60 w a sl (addM l x).1 (addM l x).2) := by
  refine e12 ?_
  unfold s12
  have A := x.new w
  have hb : Bel w (w.alloc (.cells x.cs.toArray 26)) := (Bel.refl w).alloc _
  rw [x.box]
  simp only [go_sem, Qb_eqlP (P := Try.prog) (t := 27) (e := 60) (by kernel_rfl), Option.isNone_some]
  generalize w.alloc (.cells x.cs.toArray 26) = w1 at A hb
  generalize w.heap.size = q at A
  simp only [Rule.all A, go_sem]
  refine (k13 hx).bind ?_
  rintro ⟨_, w2⟩ ⟨h1, b2⟩
  simp only at h1 b2
  subst h1
  simp only [go_sem]
  unfold addM
  cases hr : rightM x with
  | false =>
    simp only [Bool.not_false, go_sem, if_true]
    exact .ret ⟨rfl, .of_bel (hb.trans b2) _, sl, h.bel (hb.trans b2), fun k hk => .inl hk⟩
  | true =>
    simp only [Bool.not_true, go_sem, Bool.true_eq_false, if_false]
    have b3 : Bel w1 w2.drew := b2.drew
    simp only [h.ptr (hb.trans b3), Rule.all (A.bel b3), go_sem]
    refine (k26 (h.bel (hb.trans b3)).view).bind ?_
    rintro ⟨_, w4⟩ ⟨h1, b4⟩
    simp only at h1 b4
    subst h1
    simp only [go_sem]
    have b5 : Bel w w4 := (hb.trans b3).trans b4
    by_cases hin : x ∈ l
    · simp only [hin, decide_true, go_sem, if_true]
      exact .ret ⟨rfl, .of_bel b5 _, sl, h.bel b5, fun k hk => .inl hk⟩
    simp only [hin, decide_false, go_sem, if_false, h.ptr b5, (h.view).len und33]
    by_cases hful : 32 ≤ l.length
    · have : decide ((32 : Int) ≤ (l.length : Int)) = true := by rw [decide_eq_true_iff]; omega
      simp only [this, go_sem, hful, if_true]
      exact .ret ⟨rfl, .of_bel b5 _, sl, h.bel b5, fun k hk => .inl hk⟩
    · have : decide ((32 : Int) ≤ (l.length : Int)) = false := by rw [decide_eq_false_iff_not]; omega
      have b6 : Bel w w4.drew := b5.drew
      have A5 : CellsAt x.cs w4.drew q 0 := A.bel (b3.trans b4.drew)
      generalize w4.drew = w5 at b6 A5
      simp only [this, go_sem, hful, if_false, h.ptr b6, Rule.all A5, lit33]
      obtain ⟨v', w7, w8, e1, e2, c8, o8, hk⟩ := addEnd (h.bel b6) hx hr (by omega)
      rw [e1]
      simp only [go_sem, e2]
      simp only [h.ptr (b6.alloc _), eq_self, and_self, go_sem]
      exact (.ret ⟨rfl, b6.thenChg c8, v', o8, fun k hk' => (hk k hk').imp id fun h1 => Nat.le_trans b6.size h1⟩)

end Go.Proofs.Ytiioaklogbjhhaa
