/- Rows of one's own of Exp. -/
import Derived.Test.YtnnhfnjdcomjmaaFg
import Derived.Test.YtnnhfnjdcomjmaaFj
import Derived.Test.YtnnhfnjdcomjmaaEx0
namespace Go.Proofs.Ytnnhfnjdcomjmaa
open Go Go.Ev
open Go.Proofs

theorem Exp.lens (l : List Exp) : ∀ y ∈ l, (Exp.cs y).length = 9 := fun _ _ => rfl
theorem und32 : Try.prog.underlying 32 = some (.slice 25) := by kernel_rfl

/-- An element of a slice of rules, read. -/
theorem getR {w : World} {s : Value} {l : List Exp} (h : View Exp.cs 9 w s l) {n : Int} (h0 : 0 ≤ n) (h1 : n < l.length) :
    ∃ y g o, l[n.toNat]? = some y ∧ s.ownBlock = some g ∧ (∀ w', QindexAddr Try.prog 32 s (.int .i64 n) w' = some (.pointer (some ⟨g, o, none⟩))) ∧ CellsAt y.cs w g o := by
  obtain ⟨i, hi, hs⟩ := inf25
  exact h.get und32 hi hs h0 h1

theorem lit32 (x : Exp) (w : World) : XbuildSlice Try.prog 32 1 #[(0, x.v)] w = some (.slice (some ⟨w.heap.size, 0, none⟩) 1 1, w.alloc (.cells x.cs.toArray 25)) := by kernel_rfl
theorem litView (x : Exp) (w : World) : View Exp.cs 9 (w.alloc (.cells x.cs.toArray 25)) (.slice (some ⟨w.heap.size, 0, none⟩) 1 1) [x] :=
  ⟨_, 1, rfl, Nat.le_refl _, by decide, (fun h => by cases h), fun k y hk => by
    cases k with
    | zero => simp at hk; subst hk; exact ⟨_, 0, rfl, by simpa using x.new w⟩
    | succ k => simp at hk⟩

theorem app32 {w : World} {v s : Value} {l m : List Exp} (ho : w.ownsRow 0 25 9 v l.length (l.flatMap Exp.cs)) (hv : View Exp.cs 9 w s m) (hs : l.length + m.length ≤ 1000000) :
    ∃ v' w', Xbi Try.prog .append #[32, 32] 32 #[v, s] w = some (v', w') ∧ w'.ownsRow 0 25 9 v' (l ++ m).length ((l ++ m).flatMap Exp.cs) ∧ w.grownBy w' v.ownBlock ∧ (∀ k, v'.ownBlock = some k → v.ownBlock = some k ∨ w.heap.size ≤ k) := by
  obtain ⟨i, hi, hz, h1, h2⟩ : ∃ i, Try.prog.info? 25 = some i ∧ i.zero = some Exp.zero.v ∧ i.size = 9 ∧ i.bytes = 40 :=
    ⟨(Try.prog.info? 25).get (by kernel_rfl), by kernel_rfl, by kernel_rfl, by kernel_rfl, by kernel_rfl⟩
  exact Xappend und32 hi hz h1 h2 rfl (by omega) ho hv (Exp.lens m) (fun y _ u hu => Exp.one1 y u (by simpa [Exp.v, Value.cells] using hu)) (by omega) (by simp only [maxLen]; omega)

theorem inf32 : ∃ i, Try.prog.info? 32 = some i ∧ i.size = 1 := ⟨(Try.prog.info? 32).get (by kernel_rfl), by kernel_rfl, by kernel_rfl⟩

/-- The variable of an object gets another slice. -/
theorem store32 {tt : TypeId} {w : World} {a : Nat} {sl sl' : Value} (hv : w.heap[a]? = some (.cells #[sl] tt (0, 0))) (h : ∃ x n c, sl' = .slice x n c) :
    Xstore Try.prog 32 (.pointer (some ⟨a, 0, none⟩)) sl' w = some (undef, w.setRow a #[sl']) := by
  obtain ⟨i, hi, hs⟩ := inf32
  obtain ⟨x, n, c, rfl⟩ := h
  exact Xstore_var hi (by rw [hs]; rfl) hv (by rw [hs]; rfl) (by simp [Value.cells, Value.oneCell'])
theorem owns_slice {w : World} {base : Nat} {e : TypeId} {size n : Nat} {v : Value} {xs : List Value} (h : w.ownsRow base e size v n xs) : ∃ x n c, v = .slice x n c := by
  obtain ⟨_, ⟨rfl, _⟩ | ⟨g, cap, cur, rfl, _⟩⟩ := h <;> exact ⟨_, _, _, rfl⟩

theorem lit0 (w : World) : XbuildSlice Try.prog 32 0 #[] w = some (.slice (some ⟨w.heap.size, 0, none⟩) 0 0, w.alloc (.cells #[] 25)) := by kernel_rfl
theorem own0 (w : World) : (w.alloc (.cells #[] 25)).ownsRow 0 25 9 (.slice (some ⟨w.heap.size, 0, none⟩) 0 0) ([] : List Exp).length (([] : List Exp).flatMap Exp.cs) :=
  ⟨rfl, .inr ⟨w.heap.size, 0, #[], rfl, Nat.zero_le _, (MapKept.heap_alloc w _).1, Nat.le_refl _, Nat.zero_le _, rfl, rfl⟩⟩

/-- A new slice of the same. -/
def Fresh (w : World) (l : List Exp) (r : Value × World) : Prop :=
  Bel w r.2 ∧ r.2.ownsRow 0 25 9 r.1 l.length (l.flatMap Exp.cs) ∧ ∀ k, r.1.ownBlock = some k → w.heap.size ≤ k

/-- append([]T{}, s...) -/
theorem copy32 {w : World} {s : Value} {l : List Exp} (hv : View Exp.cs 9 w s l) (hm : l.length ≤ 1000) :
    ∃ v' w', Xbi Try.prog .append #[32, 32] 32 #[.slice (some ⟨w.heap.size, 0, none⟩) 0 0, s] (w.alloc (.cells #[] 25)) = some (v', w') ∧ Fresh w l (v', w') := by
  have hb : Bel w (w.alloc (.cells #[] 25)) := (Bel.refl w).alloc _
  obtain ⟨v', w', e, ho, hg, hk⟩ := app32 (own0 w) (hv.bel hb) (by simp; omega)
  refine ⟨v', w', e, (hb.thenChg (Chg.of_grown hg)).bel fun k hk h => ?_, by simpa using ho, fun k hk' => ?_⟩
  · simp only [Value.ownBlock, Option.some.injEq] at h; omega
  · rcases hk k hk' with h | h
    · simp only [Value.ownBlock, Option.some.injEq] at h; omega
    · simp at h; omega

theorem k33 {w : World} {s : Value} {l : List Exp} (hv : View Exp.cs 9 w s l) (hm : l.length ≤ 1000) : Brings (Xcall Try.prog (Value.func (Fn.func 33) #[] #[]) #[s] w) (Fresh w l) := by
  refine e33 ?_
  unfold s33
  have hv' := hv
  obtain ⟨x, cap, rfl, hc1, hc2, hnil, hel⟩ := hv
  rw [Qb_eqlL (P := Try.prog) und32]
  simp only [go_sem]
  cases x with
  | none =>
    simp only [Option.isNone_none, go_sem]
    have : l = [] := List.length_eq_zero_iff.1 (by have := hnil rfl; omega)
    subst this
    exact .ret ⟨Bel.refl _, World.ownsRow_nil w 0 25 9, fun k hk => by cases hk⟩
  | some a =>
    simp only [Option.isNone_some, go_sem, lit0]
    obtain ⟨v', w', e, hf⟩ := copy32 hv' hm
    rw [e]
    simp only [go_sem]
    exact .ret hf

theorem elem32 : Try.prog.elem 32 = 25 := by kernel_rfl
theorem und32' : Try.prog.underlying 32 = some (.slice (Try.prog.elem 32)) := by rw [elem32]; exact und32

theorem cut_hi {s : Option Addr} {n cap : Nat} {h : Int} {w : World} (h0 : 0 ≤ h) (h1 : h ≤ cap) : Qslice Try.prog 32 (.slice s n cap) none (some (.int .i64 h)) none w = some (sliced s 0 h.toNat cap 9) := by
  obtain ⟨i, hi, hs⟩ := inf25
  unfold Qslice qv
  rw [run_sliceAt_slice _ _ _ _ _ _ und32', run_slice_h _ _ _ _ _ und32' _ _ h0 h1, elem32, run_size hi, hs]
  rfl
theorem cut_lo {s : Option Addr} {n cap : Nat} {l : Int} {w : World} (h0 : 0 ≤ l) (h1 : l ≤ n) : Qslice Try.prog 32 (.slice s n cap) (some (.int .i64 l)) none none w = some (sliced s l.toNat n cap 9) := by
  obtain ⟨i, hi, hs⟩ := inf25
  unfold Qslice qv
  rw [run_sliceAt_slice _ _ _ _ _ _ und32', run_slice_l _ _ _ _ _ und32' _ _ h0 h1, elem32, run_size hi, hs]
  rfl
theorem cut_lh {s : Option Addr} {n cap : Nat} {l h : Int} {w : World} (h0 : 0 ≤ l) (h1 : l ≤ h) (h2 : h ≤ cap) : Qslice Try.prog 32 (.slice s n cap) (some (.int .i64 l)) (some (.int .i64 h)) none w = some (sliced s l.toNat h.toNat cap 9) := by
  obtain ⟨i, hi, hs⟩ := inf25
  unfold Qslice qv
  rw [run_sliceAt_slice _ _ _ _ _ _ und32', run_slice_lh _ _ _ _ _ und32' _ _ _ _ h0 h1 h2, elem32, run_size hi, hs]
  rfl
theorem cut_lhm {s : Option Addr} {n cap : Nat} {l h m : Int} {w : World} (h0 : 0 ≤ l) (h1 : l ≤ h) (h2 : h ≤ m) (h3 : m ≤ cap) : Qslice Try.prog 32 (.slice s n cap) (some (.int .i64 l)) (some (.int .i64 h)) (some (.int .i64 m)) w = some (sliced s l.toNat h.toNat m.toNat 9) := by
  obtain ⟨i, hi, hs⟩ := inf25
  unfold Qslice qv
  rw [run_sliceAt_slice _ _ _ _ _ _ und32', run_slice_lhm _ _ _ _ _ und32' _ _ _ _ _ _ h0 h1 h2 h3, elem32, run_size hi, hs]
  rfl

theorem zeros25 (n : Nat) : ∀ u ∈ (Builtin.zeroCells Exp.zero.v.cells n).toList, u.oneCell' = true := by
  intro u hu
  unfold Builtin.zeroCells at hu
  simp only [Array.toList_map, List.mem_map] at hu
  obtain ⟨k, _, rfl⟩ := hu
  have : ∀ j, j < 9 → (Exp.zero.v.cells[j]!).oneCell' = true := by decide
  exact this _ (Nat.mod_lt _ (by decide))

/-- Elements beyond a row's new end are struck out. -/
theorem clear32 {w : World} {g o n c : Nat} {cur : Array Value} (hg : w.heap[g]? = some (.cells cur 25 (0, 0))) (hn : 0 < n) (hfit : o + n * 9 ≤ cur.size) :
    Xbi Try.prog .clear #[32] 0 #[.slice (some ⟨g, o, none⟩) n c] w = some (.tuple #[], w.setRow g (cur.toList.take o ++ (Builtin.zeroCells Exp.zero.v.cells n).toList ++ cur.toList.drop (o + n * 9)).toArray) := by
  have hz := zero25 w
  have hsz : (Builtin.zeroCells Exp.zero.v.cells n).size = n * 9 := size_zeroCells _ _
  have hst := run_storeCells_at Try.prog g o 25 (Builtin.zeroCells Exp.zero.v.cells n).toList 0 cur w hg (by simp [hsz]; omega) (zeros25 n)
  simp only [Nat.add_zero, Array.length_toList, hsz] at hst
  obtain ⟨m, rfl⟩ : ∃ m, n = m + 1 := ⟨n - 1, by omega⟩
  have : (Builtin.clear_ #[32] 0 #[.slice (some ⟨g, o, none⟩) (m + 1) c]).run Try.prog w = .ok (.tuple #[]) (w.setRow g (cur.toList.take o ++ (Builtin.zeroCells Exp.zero.v.cells (m + 1)).toList ++ cur.toList.drop (o + (m + 1) * 9)).toArray) := by
    simp only [Builtin.clear_, List.getElem?_toArray, List.getElem?_cons_zero, Sem.run_bind, run_underlying und32, Result.andThen_ok, hz, hst, Sem.run_pure]
  unfold Xbi
  simp only [builtin, Sem.run_bind, this, Result.andThen_ok]
  rfl

theorem sliced_at {g m s l h : Nat} : sliced (some ⟨g, 0, none⟩) l h m s = .slice (some ⟨g, if m = l then 0 else l * s, none⟩) (h - l) (m - l) := by
  unfold sliced
  by_cases e : m = l
  · simp [e]
  · simp only [e, if_false, Option.map_some, add_0]

theorem cutHi {g n cap : Nat} {h : Nat} {w : World} (h1 : h ≤ cap) : Qslice Try.prog 32 (.slice (some ⟨g, 0, none⟩) n cap) none (some (.int .i64 h)) none w = some (.slice (some ⟨g, 0, none⟩) h cap) := by
  rw [cut_hi (by omega) (by omega), Int.toNat_natCast, sliced_at, show (if cap = 0 then 0 else 0 * 9) = 0 by split <;> rfl, Nat.sub_zero, Nat.sub_zero]
theorem cutLo {g n cap : Nat} {l : Nat} {w : World} (h1 : l ≤ n) : Qslice Try.prog 32 (.slice (some ⟨g, 0, none⟩) n cap) (some (.int .i64 l)) none none w = some (.slice (some ⟨g, if cap = l then 0 else l * 9, none⟩) (n - l) (cap - l)) := by
  rw [cut_lo (by omega) (by omega), Int.toNat_natCast, sliced_at]
theorem cutLh {g n cap : Nat} {l h : Nat} {w : World} (h1 : l ≤ h) (h2 : h ≤ cap) : Qslice Try.prog 32 (.slice (some ⟨g, 0, none⟩) n cap) (some (.int .i64 l)) (some (.int .i64 h)) none w = some (.slice (some ⟨g, if cap = l then 0 else l * 9, none⟩) (h - l) (cap - l)) := by
  rw [cut_lh (by omega) (by omega) (by omega), Int.toNat_natCast, Int.toNat_natCast, sliced_at]

theorem flat_drop (l : List Exp) (k : Nat) : (l.flatMap Exp.cs).drop (k * 9) = (l.drop k).flatMap Exp.cs := by
  induction l generalizing k with
  | nil => simp
  | cons x l ih =>
    cases k with
    | zero => simp
    | succ k =>
      rw [List.flatMap_cons, List.drop_append, Nat.add_mul, List.drop_of_length_le (by show 9 ≤ _; omega), List.nil_append, show k * 9 + 1 * 9 - x.cs.length = k * 9 by show k * 9 + 1 * 9 - 9 = _; omega, ih, List.drop_succ_cons]
theorem flat_take (l : List Exp) (k : Nat) : (l.flatMap Exp.cs).take (k * 9) = (l.take k).flatMap Exp.cs := by
  induction l generalizing k with
  | nil => simp
  | cons x l ih =>
    cases k with
    | zero => simp
    | succ k =>
      rw [List.flatMap_cons, List.take_append, Nat.add_mul, List.take_of_length_le (by show 9 ≤ _; omega), show k * 9 + 1 * 9 - x.cs.length = k * 9 by show k * 9 + 1 * 9 - 9 = _; omega, ih, List.take_succ_cons, List.flatMap_cons]

theorem k38 {w : World} {sl : Value} {l : List Exp} {i : Nat} (ho : w.ownsRow 0 25 9 sl l.length (l.flatMap Exp.cs)) (hi : i < l.length) (hm : l.length ≤ 1000) :
    Brings (Xcall Try.prog (Value.func (Fn.func 38) #[] #[]) #[sl, .int .i64 i, .int .i64 ((i + 1 : Nat) : Int)] w)
      (fun r => Chg (fun k => sl.ownBlock = some k) w r.2 ∧ r.2.ownsRow 0 25 9 r.1 (l.eraseIdx i).length ((l.eraseIdx i).flatMap Exp.cs) ∧ r.1.ownBlock = sl.ownBlock) := by
  refine e38 ?_
  unfold s38
  obtain ⟨hlen, h0 | ⟨g, cap, cur, rfl, _, hg, hnc, hcm, hcs, htk⟩⟩ := ho
  · omega
  have c63 : cap ≤ 9223372036854775807 := by simpa [maxLen] using hcm
  rw [Qlen_slice und32]
  simp only [go_sem]
  rw [cut_lhm (by omega) (by omega) (by omega) (by omega)]
  simp only [go_sem]
  have hne : ((i : Int) == ((i + 1 : Nat) : Int)) = false := by simp; omega
  simp only [hne, go_sem]
  rw [cutHi (by omega), cutLo (by omega)]
  have gd : w.drew.heap[g]? = some (.cells cur 25 (0, 0)) := hg
  have hd : Chg (fun k => Value.ownBlock (.slice (some ⟨g, 0, none⟩) l.length cap) = some k) w w.drew := .of_bel (Bel.refl w).drew _
  generalize w.drew = w1 at gd hd
  simp only [go_sem]
  -- the move
  obtain ⟨ti, hti, hts⟩ := inf25
  have hcur : ∀ (j : Nat) (u : Value), (l.flatMap Exp.cs)[j]? = some u → cur[j]? = some u := by
    intro j u hj
    rw [← htk, List.getElem?_take] at hj
    split at hj
    · simpa using hj
    · cases hj
  have hnews : ∀ (j : Nat) (u : Value), ((l.drop (i + 1)).flatMap Exp.cs)[j]? = some u → w1.cell? ((⟨g, if cap = i + 1 then 0 else (i + 1) * 9, none⟩ : Addr).add j) = some u := by
    intro j u hj
    have hjl := (List.getElem?_eq_some_iff.1 hj).1
    rw [← flat_drop, List.getElem?_drop] at hj
    have hcap : cap ≠ i + 1 := by
      intro e
      have : l.length = i + 1 := by omega
      rw [List.drop_of_length_le (by omega)] at hjl
      simp at hjl
    rw [if_neg hcap]
    have : (⟨g, (i + 1) * 9, none⟩ : Addr).add j = ⟨g, (i + 1) * 9 + j, none⟩ := by
      unfold Addr.add
      by_cases h : j = 0 <;> simp [h]
    rw [this]
    exact cell_at gd (hcur _ _ hj)
  have hln : ((l.drop (i + 1)).flatMap Exp.cs).length = (l.length - (i + 1)) * ti.size := by
    rw [flat_len (size := 9) _ (Exp.lens _), List.length_drop, hts]
  have hone : ∀ u ∈ (l.drop (i + 1)).flatMap Exp.cs, u.oneCell' = true := fun u hu => by
    obtain ⟨y, _, hu⟩ := List.mem_flatMap.1 hu
    exact Exp.one1 y u (by simpa [Exp.v, Value.cells] using hu)
  have hr := run_append_room (P := Try.prog) w1 32 32 25 ti und32 hti g i cap cur gd ⟨g, if cap = i + 1 then 0 else (i + 1) * 9, none⟩ (l.length - (i + 1)) (cap - (i + 1)) _ hln hnews hone (by omega) (by rw [hln, hts, hcs]; omega)
  rw [Xbi_append hr]
  simp only [go_sem]
  rw [Qlen_slice und32]
  simp only [go_sem]
  rw [show i + (l.length - (i + 1)) = l.length - 1 by omega, cutLh (by omega) (by omega), if_neg (by omega)]
  simp only [go_sem]
  -- the cells behind the move
  have htake : cur.toList.take (i * 9) = (l.take i).flatMap Exp.cs := by
    rw [← flat_take, ← htk, List.take_take, Nat.min_eq_left (by omega)]
  have hsz2 : (cur.toList.take (i * ti.size) ++ (l.drop (i + 1)).flatMap Exp.cs ++ cur.toList.drop (i * ti.size + ((l.drop (i + 1)).flatMap Exp.cs).length)).length = cap * 9 := by
    rw [hln, hts]
    simp only [List.length_append, List.length_take, List.length_drop, Array.length_toList, hcs, flat_len (size := 9) _ (Exp.lens (l.drop (i + 1)))]
    omega
  have hpre : (cur.toList.take (i * ti.size) ++ (l.drop (i + 1)).flatMap Exp.cs ++ cur.toList.drop (i * ti.size + ((l.drop (i + 1)).flatMap Exp.cs).length)).take ((l.length - 1) * 9) = (l.eraseIdx i).flatMap Exp.cs := by
    rw [hts, htake, ← List.flatMap_append, ← List.eraseIdx_eq_take_drop_succ]
    have : ((l.eraseIdx i).flatMap Exp.cs).length = (l.length - 1) * 9 := by
      rw [flat_len (size := 9) _ (Exp.lens _), List.length_eraseIdx_of_lt hi]
    rw [← this]
    exact List.take_left
  generalize hnew : (cur.toList.take (i * ti.size) ++ (l.drop (i + 1)).flatMap Exp.cs ++ cur.toList.drop (i * ti.size + ((l.drop (i + 1)).flatMap Exp.cs).length)) = new at hsz2 hpre
  have g2 := setRow_heap w1 g _ new.toArray 25 _ gd
  have c2 : Chg (fun k => Value.ownBlock (.slice (some ⟨g, 0, none⟩) l.length cap) = some k) w (w1.setRow g new.toArray) := hd.trans (setRow_chg g new.toArray) fun k _ hk => by simp [Value.ownBlock, hk]
  rw [clear32 g2 (by omega) (by simp; omega)]
  simp only [go_sem]
  have g3 := setRow_heap (w1.setRow g new.toArray) g _ (new.toArray.toList.take ((l.length - 1) * 9) ++ (Builtin.zeroCells Exp.zero.v.cells (l.length - (l.length - 1))).toList ++ new.toArray.toList.drop ((l.length - 1) * 9 + (l.length - (l.length - 1)) * 9)).toArray 25 _ g2
  refine .ret ⟨c2.trans (setRow_chg g _) fun k _ hk => by simp [Value.ownBlock, hk], ?_, rfl⟩
  rw [List.length_eraseIdx_of_lt hi]
  refine ⟨by rw [flat_len (size := 9) _ (Exp.lens _), List.length_eraseIdx_of_lt hi], .inr ⟨g, cap, _, rfl, Nat.zero_le _, g3, by omega, hcm, ?_, ?_⟩⟩
  · simp only [List.size_toArray, List.length_append, List.length_take, List.length_drop, hsz2, Array.length_toList, size_zeroCells]
    show min ((l.length - 1) * 9) (cap * 9) + (l.length - (l.length - 1)) * 9 + _ = _
    omega
  · show List.take ((l.length - 1) * 9) (List.take ((l.length - 1) * 9) new ++ _ ++ _) = _
    rw [List.append_assoc, List.take_append_of_le_length (by rw [List.length_take, hsz2]; omega), List.take_take, Nat.min_self, hpre]

theorem mem_erase {l : List Exp} {i : Nat} {x : Exp} (h : x ∈ l.eraseIdx i) : x ∈ l := List.mem_of_mem_eraseIdx h


end Go.Proofs.Ytnnhfnjdcomjmaa
