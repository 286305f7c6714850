/- Rows of one's own of Tup. -/
import Derived.Test.YtcibkmahibnjeaaTa2
namespace Go.Proofs.Ytcibkmahibnjeaa
open Go Go.Ev
open Go.Proofs

theorem Tup.lens (l : List Tup) : ∀ y ∈ l, (Tup.cs y).length = 5 := fun _ _ => rfl
namespace Ks
theorem lens (l : List Tup) : ∀ y ∈ l, (Tup.cs y).length = 5 := fun _ _ => rfl
theorem und30 : Try.prog.underlying 30 = some (.slice 37) := by kernel_rfl

/-- An element of a slice of rules, read. -/
theorem getR {w : World} {s : Value} {l : List Tup} (h : View Tup.cs 5 w s l) {n : Int} (h0 : 0 ≤ n) (h1 : n < l.length) :
    ∃ y g o, l[n.toNat]? = some y ∧ s.ownBlock = some g ∧ (∀ w', QindexAddr Try.prog 30 s (.int .i64 n) w' = some (.pointer (some ⟨g, o, none⟩))) ∧ CellsAt y.cs w g o := by
  obtain ⟨i, hi, hs⟩ := inf37
  exact h.get und30 hi hs h0 h1

theorem lit30 (x : Tup) (w : World) : XbuildSlice Try.prog 30 1 #[(0, x.v)] w = some (.slice (some ⟨w.heap.size, 0, none⟩) 1 1, w.alloc (.cells x.cs.toArray 37)) := by kernel_rfl
theorem litView (x : Tup) (w : World) : View Tup.cs 5 (w.alloc (.cells x.cs.toArray 37)) (.slice (some ⟨w.heap.size, 0, none⟩) 1 1) [x] :=
  ⟨_, 1, rfl, Nat.le_refl _, by decide, (fun h => by cases h), fun k y hk => by
    cases k with
    | zero => simp at hk; subst hk; exact ⟨_, 0, rfl, by simpa using x.new w⟩
    | succ k => simp at hk⟩

theorem app30 {w : World} {v s : Value} {l m : List Tup} (ho : w.ownsRow 0 37 5 v l.length (l.flatMap Tup.cs)) (hv : View Tup.cs 5 w s m) (hs : l.length + m.length ≤ 1000000) :
    ∃ v' w', Xbi Try.prog .append #[30, 30] 30 #[v, s] w = some (v', w') ∧ w'.ownsRow 0 37 5 v' (l ++ m).length ((l ++ m).flatMap Tup.cs) ∧ w.grownBy w' v.ownBlock ∧ (∀ k, v'.ownBlock = some k → v.ownBlock = some k ∨ w.heap.size ≤ k) := by
  obtain ⟨i, hi, hz, h1, h2⟩ : ∃ i, Try.prog.info? 37 = some i ∧ i.zero = some Tup.zero.v ∧ i.size = 5 ∧ i.bytes = 16 :=
    ⟨(Try.prog.info? 37).get (by kernel_rfl), by kernel_rfl, by kernel_rfl, by kernel_rfl, by kernel_rfl⟩
  exact Xappend und30 hi hz h1 h2 rfl (by omega) ho hv (Tup.lens m) (fun y _ u hu => Tup.one1 y u (by simpa [Tup.v, Value.cells] using hu)) (by omega) (by simp only [maxLen]; omega)

theorem inf30 : ∃ i, Try.prog.info? 30 = some i ∧ i.size = 1 := ⟨(Try.prog.info? 30).get (by kernel_rfl), by kernel_rfl, by kernel_rfl⟩

/-- The variable of an object gets another slice. -/
theorem store30 {tt : TypeId} {w : World} {a : Nat} {sl sl' : Value} (hv : w.heap[a]? = some (.cells #[sl] tt (0, 0))) (h : ∃ x n c, sl' = .slice x n c) :
    Xstore Try.prog 30 (.pointer (some ⟨a, 0, none⟩)) sl' w = some (undef, w.setRow a #[sl']) := by
  obtain ⟨i, hi, hs⟩ := inf30
  obtain ⟨x, n, c, rfl⟩ := h
  exact Xstore_var hi (by rw [hs]; rfl) hv (by rw [hs]; rfl) (by simp [Value.cells, Value.oneCell'])
theorem owns_slice {w : World} {base : Nat} {e : TypeId} {size n : Nat} {v : Value} {xs : List Value} (h : w.ownsRow base e size v n xs) : ∃ x n c, v = .slice x n c := by
  obtain ⟨_, ⟨rfl, _⟩ | ⟨g, cap, cur, rfl, _⟩⟩ := h <;> exact ⟨_, _, _, rfl⟩

theorem lit0 (w : World) : XbuildSlice Try.prog 30 0 #[] w = some (.slice (some ⟨w.heap.size, 0, none⟩) 0 0, w.alloc (.cells #[] 37)) := by kernel_rfl
theorem own0 (w : World) : (w.alloc (.cells #[] 37)).ownsRow 0 37 5 (.slice (some ⟨w.heap.size, 0, none⟩) 0 0) ([] : List Tup).length (([] : List Tup).flatMap Tup.cs) :=
  ⟨rfl, .inr ⟨w.heap.size, 0, #[], rfl, Nat.zero_le _, (MapKept.heap_alloc w _).1, Nat.le_refl _, Nat.zero_le _, rfl, rfl⟩⟩

/-- A new slice of the same. -/
def Fresh (w : World) (l : List Tup) (r : Value × World) : Prop :=
  Bel w r.2 ∧ r.2.ownsRow 0 37 5 r.1 l.length (l.flatMap Tup.cs) ∧ ∀ k, r.1.ownBlock = some k → w.heap.size ≤ k

/-- append([]T{}, s...) -/
theorem copy30 {w : World} {s : Value} {l : List Tup} (hv : View Tup.cs 5 w s l) (hm : l.length ≤ 1000) :
    ∃ v' w', Xbi Try.prog .append #[30, 30] 30 #[.slice (some ⟨w.heap.size, 0, none⟩) 0 0, s] (w.alloc (.cells #[] 37)) = some (v', w') ∧ Fresh w l (v', w') := by
  have hb : Bel w (w.alloc (.cells #[] 37)) := (Bel.refl w).alloc _
  obtain ⟨v', w', e, ho, hg, hk⟩ := app30 (own0 w) (hv.bel hb) (by simp; omega)
  refine ⟨v', w', e, (hb.thenChg (Chg.of_grown hg)).bel fun k hk h => ?_, by simpa using ho, fun k hk' => ?_⟩
  · simp only [Value.ownBlock, Option.some.injEq] at h; omega
  · rcases hk k hk' with h | h
    · simp only [Value.ownBlock, Option.some.injEq] at h; omega
    · simp at h; omega

theorem elem30 : Try.prog.elem 30 = 37 := by kernel_rfl
theorem und30' : Try.prog.underlying 30 = some (.slice (Try.prog.elem 30)) := by rw [elem30]; exact und30

theorem cut_hi {s : Option Addr} {n cap : Nat} {h : Int} {w : World} (h0 : 0 ≤ h) (h1 : h ≤ cap) : Qslice Try.prog 30 (.slice s n cap) none (some (.int .i64 h)) none w = some (sliced s 0 h.toNat cap 5) := by
  obtain ⟨i, hi, hs⟩ := inf37
  unfold Qslice qv
  rw [run_sliceAt_slice _ _ _ _ _ _ und30', run_slice_h _ _ _ _ _ und30' _ _ h0 h1, elem30, run_size hi, hs]
  rfl
theorem cut_lo {s : Option Addr} {n cap : Nat} {l : Int} {w : World} (h0 : 0 ≤ l) (h1 : l ≤ n) : Qslice Try.prog 30 (.slice s n cap) (some (.int .i64 l)) none none w = some (sliced s l.toNat n cap 5) := by
  obtain ⟨i, hi, hs⟩ := inf37
  unfold Qslice qv
  rw [run_sliceAt_slice _ _ _ _ _ _ und30', run_slice_l _ _ _ _ _ und30' _ _ h0 h1, elem30, run_size hi, hs]
  rfl
theorem cut_lh {s : Option Addr} {n cap : Nat} {l h : Int} {w : World} (h0 : 0 ≤ l) (h1 : l ≤ h) (h2 : h ≤ cap) : Qslice Try.prog 30 (.slice s n cap) (some (.int .i64 l)) (some (.int .i64 h)) none w = some (sliced s l.toNat h.toNat cap 5) := by
  obtain ⟨i, hi, hs⟩ := inf37
  unfold Qslice qv
  rw [run_sliceAt_slice _ _ _ _ _ _ und30', run_slice_lh _ _ _ _ _ und30' _ _ _ _ h0 h1 h2, elem30, run_size hi, hs]
  rfl
theorem cut_lhm {s : Option Addr} {n cap : Nat} {l h m : Int} {w : World} (h0 : 0 ≤ l) (h1 : l ≤ h) (h2 : h ≤ m) (h3 : m ≤ cap) : Qslice Try.prog 30 (.slice s n cap) (some (.int .i64 l)) (some (.int .i64 h)) (some (.int .i64 m)) w = some (sliced s l.toNat h.toNat m.toNat 5) := by
  obtain ⟨i, hi, hs⟩ := inf37
  unfold Qslice qv
  rw [run_sliceAt_slice _ _ _ _ _ _ und30', run_slice_lhm _ _ _ _ _ und30' _ _ _ _ _ _ h0 h1 h2 h3, elem30, run_size hi, hs]
  rfl

theorem zeros37 (n : Nat) : ∀ u ∈ (Builtin.zeroCells Tup.zero.v.cells n).toList, u.oneCell' = true := by
  intro u hu
  unfold Builtin.zeroCells at hu
  simp only [Array.toList_map, List.mem_map] at hu
  obtain ⟨k, _, rfl⟩ := hu
  have : ∀ j, j < 5 → (Tup.zero.v.cells[j]!).oneCell' = true := by decide
  exact this _ (Nat.mod_lt _ (by decide))

/-- Elements beyond a row's new end are struck out. -/
theorem clear30 {w : World} {g o n c : Nat} {cur : Array Value} (hg : w.heap[g]? = some (.cells cur 37 (0, 0))) (hn : 0 < n) (hfit : o + n * 5 ≤ cur.size) :
    Xbi Try.prog .clear #[30] 0 #[.slice (some ⟨g, o, none⟩) n c] w = some (.tuple #[], w.setRow g (cur.toList.take o ++ (Builtin.zeroCells Tup.zero.v.cells n).toList ++ cur.toList.drop (o + n * 5)).toArray) := by
  have hz := zero37 w
  have hsz : (Builtin.zeroCells Tup.zero.v.cells n).size = n * 5 := size_zeroCells _ _
  have hst := run_storeCells_at Try.prog g o 37 (Builtin.zeroCells Tup.zero.v.cells n).toList 0 cur w hg (by simp [hsz]; omega) (zeros37 n)
  simp only [Nat.add_zero, Array.length_toList, hsz] at hst
  obtain ⟨m, rfl⟩ : ∃ m, n = m + 1 := ⟨n - 1, by omega⟩
  have : (Builtin.clear_ #[30] 0 #[.slice (some ⟨g, o, none⟩) (m + 1) c]).run Try.prog w = .ok (.tuple #[]) (w.setRow g (cur.toList.take o ++ (Builtin.zeroCells Tup.zero.v.cells (m + 1)).toList ++ cur.toList.drop (o + (m + 1) * 5)).toArray) := by
    simp only [Builtin.clear_, List.getElem?_toArray, List.getElem?_cons_zero, Sem.run_bind, run_underlying und30, Result.andThen_ok, hz, hst, Sem.run_pure]
  unfold Xbi
  simp only [builtin, Sem.run_bind, this, Result.andThen_ok]
  rfl

theorem sliced_at {g m s l h : Nat} : sliced (some ⟨g, 0, none⟩) l h m s = .slice (some ⟨g, if m = l then 0 else l * s, none⟩) (h - l) (m - l) := by
  unfold sliced
  by_cases e : m = l
  · simp [e]
  · simp only [e, if_false, Option.map_some, add_0]

theorem cutHi {g n cap : Nat} {h : Nat} {w : World} (h1 : h ≤ cap) : Qslice Try.prog 30 (.slice (some ⟨g, 0, none⟩) n cap) none (some (.int .i64 h)) none w = some (.slice (some ⟨g, 0, none⟩) h cap) := by
  rw [cut_hi (by omega) (by omega), Int.toNat_natCast, sliced_at, show (if cap = 0 then 0 else 0 * 5) = 0 by split <;> rfl, Nat.sub_zero, Nat.sub_zero]
theorem cutLo {g n cap : Nat} {l : Nat} {w : World} (h1 : l ≤ n) : Qslice Try.prog 30 (.slice (some ⟨g, 0, none⟩) n cap) (some (.int .i64 l)) none none w = some (.slice (some ⟨g, if cap = l then 0 else l * 5, none⟩) (n - l) (cap - l)) := by
  rw [cut_lo (by omega) (by omega), Int.toNat_natCast, sliced_at]
theorem cutLh {g n cap : Nat} {l h : Nat} {w : World} (h1 : l ≤ h) (h2 : h ≤ cap) : Qslice Try.prog 30 (.slice (some ⟨g, 0, none⟩) n cap) (some (.int .i64 l)) (some (.int .i64 h)) none w = some (.slice (some ⟨g, if cap = l then 0 else l * 5, none⟩) (h - l) (cap - l)) := by
  rw [cut_lh (by omega) (by omega) (by omega), Int.toNat_natCast, Int.toNat_natCast, sliced_at]

theorem flat_drop (l : List Tup) (k : Nat) : (l.flatMap Tup.cs).drop (k * 5) = (l.drop k).flatMap Tup.cs := by
  induction l generalizing k with
  | nil => simp
  | cons x l ih =>
    cases k with
    | zero => simp
    | succ k =>
      rw [List.flatMap_cons, List.drop_append, Nat.add_mul, List.drop_of_length_le (by show 5 ≤ _; omega), List.nil_append, show k * 5 + 1 * 5 - x.cs.length = k * 5 by show k * 5 + 1 * 5 - 5 = _; omega, ih, List.drop_succ_cons]
theorem flat_take (l : List Tup) (k : Nat) : (l.flatMap Tup.cs).take (k * 5) = (l.take k).flatMap Tup.cs := by
  induction l generalizing k with
  | nil => simp
  | cons x l ih =>
    cases k with
    | zero => simp
    | succ k =>
      rw [List.flatMap_cons, List.take_append, Nat.add_mul, List.take_of_length_le (by show 5 ≤ _; omega), show k * 5 + 1 * 5 - x.cs.length = k * 5 by show k * 5 + 1 * 5 - 5 = _; omega, ih, List.take_succ_cons, List.flatMap_cons]

theorem mem_erase {l : List Tup} {i : Nat} {x : Tup} (h : x ∈ l.eraseIdx i) : x ∈ l := List.mem_of_mem_eraseIdx h


end Ks
end Go.Proofs.Ytcibkmahibnjeaa
