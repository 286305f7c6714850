/- Delete in place; Drop, of both. -/
import Derived.Test.YtiioaklogbjhhaaRu8
namespace Go.Proofs.Ytiioaklogbjhhaa
open Go Go.Ev
open Go.Proofs

theorem sliced_at {g m s l h : Nat} : sliced (some ⟨g, 0, none⟩) l h m s = .slice (some ⟨g, if m = l then 0 else l * s, none⟩) (h - l) (m - l) := by
  unfold sliced
  by_cases e : m = l
  · simp [e]
  · simp only [e, if_false, Option.map_some, add_0]

theorem cutHi {g n cap : Nat} {h : Nat} {w : World} (h1 : h ≤ cap) : Qslice Try.prog 33 (.slice (some ⟨g, 0, none⟩) n cap) none (some (.int .i64 h)) none w = some (.slice (some ⟨g, 0, none⟩) h cap) := by
  rw [cut_hi (by omega) (by omega), Int.toNat_natCast, sliced_at, show (if cap = 0 then 0 else 0 * 8) = 0 by split <;> rfl, Nat.sub_zero, Nat.sub_zero]
theorem cutLo {g n cap : Nat} {l : Nat} {w : World} (h1 : l ≤ n) : Qslice Try.prog 33 (.slice (some ⟨g, 0, none⟩) n cap) (some (.int .i64 l)) none none w = some (.slice (some ⟨g, if cap = l then 0 else l * 8, none⟩) (n - l) (cap - l)) := by
  rw [cut_lo (by omega) (by omega), Int.toNat_natCast, sliced_at]
theorem cutLh {g n cap : Nat} {l h : Nat} {w : World} (h1 : l ≤ h) (h2 : h ≤ cap) : Qslice Try.prog 33 (.slice (some ⟨g, 0, none⟩) n cap) (some (.int .i64 l)) (some (.int .i64 h)) none w = some (.slice (some ⟨g, if cap = l then 0 else l * 8, none⟩) (h - l) (cap - l)) := by
  rw [cut_lh (by omega) (by omega) (by omega), Int.toNat_natCast, Int.toNat_natCast, sliced_at]

theorem flat_drop (l : List Rule) (k : Nat) : (l.flatMap Rule.cs).drop (k * 8) = (l.drop k).flatMap Rule.cs := by
  induction l generalizing k with
  | nil => simp
  | cons x l ih =>
    cases k with
    | zero => simp
    | succ k =>
      rw [List.flatMap_cons, List.drop_append, Nat.add_mul, List.drop_of_length_le (by show 8 ≤ _; omega), List.nil_append, show k * 8 + 1 * 8 - x.cs.length = k * 8 by show k * 8 + 1 * 8 - 8 = _; omega, ih, List.drop_succ_cons]
theorem flat_take (l : List Rule) (k : Nat) : (l.flatMap Rule.cs).take (k * 8) = (l.take k).flatMap Rule.cs := by
  induction l generalizing k with
  | nil => simp
  | cons x l ih =>
    cases k with
    | zero => simp
    | succ k =>
      rw [List.flatMap_cons, List.take_append, Nat.add_mul, List.take_of_length_le (by show 8 ≤ _; omega), show k * 8 + 1 * 8 - x.cs.length = k * 8 by show k * 8 + 1 * 8 - 8 = _; omega, ih, List.take_succ_cons, List.flatMap_cons]

theorem k35 {w : World} {sl : Value} {l : List Rule} {i : Nat} (ho : w.ownsRow 0 26 8 sl l.length (l.flatMap Rule.cs)) (hi : i < l.length) (hm : l.length ≤ 1000) :
    Brings (Xcall Try.prog (Value.func (Fn.func 35) #[] #[]) #[sl, .int .i64 i, .int .i64 ((i + 1 : Nat) : Int)] w)
      (fun r => Chg (fun k => sl.ownBlock = some k) w r.2 ∧ r.2.ownsRow 0 26 8 r.1 (l.eraseIdx i).length ((l.eraseIdx i).flatMap Rule.cs) ∧ r.1.ownBlock = sl.ownBlock) := by
  refine e35 ?_
  unfold s35
  obtain ⟨hlen, h0 | ⟨g, cap, cur, rfl, _, hg, hnc, hcm, hcs, htk⟩⟩ := ho
  · omega
  have c63 : cap ≤ 9223372036854775807 := by simpa [maxLen] using hcm
  rw [Qlen_slice und33]
  simp only [go_sem]
  rw [cut_lhm (by omega) (by omega) (by omega) (by omega)]
  simp only [go_sem]
  have hne : ((i : Int) == ((i + 1 : Nat) : Int)) = false := by simp; omega
  simp only [hne, go_sem]
  rw [cutHi (by omega), cutLo (by omega)]
  have gd : w.drew.heap[g]? = some (.cells cur 26 (0, 0)) := hg
  have hd : Chg (fun k => Value.ownBlock (.slice (some ⟨g, 0, none⟩) l.length cap) = some k) w w.drew := .of_bel (Bel.refl w).drew _
  generalize w.drew = w1 at gd hd
  simp only [go_sem]
  -- the move
  obtain ⟨ti, hti, hts⟩ := inf26
  have hcur : ∀ (j : Nat) (u : Value), (l.flatMap Rule.cs)[j]? = some u → cur[j]? = some u := by
    intro j u hj
    rw [← htk, List.getElem?_take] at hj
    split at hj
    · simpa using hj
    · cases hj
  have hnews : ∀ (j : Nat) (u : Value), ((l.drop (i + 1)).flatMap Rule.cs)[j]? = some u → w1.cell? ((⟨g, if cap = i + 1 then 0 else (i + 1) * 8, none⟩ : Addr).add j) = some u := by
    intro j u hj
    have hjl := (List.getElem?_eq_some_iff.1 hj).1
    rw [← flat_drop, List.getElem?_drop] at hj
    have hcap : cap ≠ i + 1 := by
      intro e
      have : l.length = i + 1 := by omega
      rw [List.drop_of_length_le (by omega)] at hjl
      simp at hjl
    rw [if_neg hcap]
    have : (⟨g, (i + 1) * 8, none⟩ : Addr).add j = ⟨g, (i + 1) * 8 + j, none⟩ := by
      unfold Addr.add
      by_cases h : j = 0 <;> simp [h]
    rw [this]
    exact cell_at gd (hcur _ _ hj)
  have hln : ((l.drop (i + 1)).flatMap Rule.cs).length = (l.length - (i + 1)) * ti.size := by
    rw [flat_len (size := 8) _ (Rule.lens _), List.length_drop, hts]
  have hone : ∀ u ∈ (l.drop (i + 1)).flatMap Rule.cs, u.oneCell' = true := fun u hu => by
    obtain ⟨y, _, hu⟩ := List.mem_flatMap.1 hu
    exact Rule.one1 y u (by simpa [Rule.v, Value.cells] using hu)
  have hr := run_append_room (P := Try.prog) w1 33 33 26 ti und33 hti g i cap cur gd ⟨g, if cap = i + 1 then 0 else (i + 1) * 8, none⟩ (l.length - (i + 1)) (cap - (i + 1)) _ hln hnews hone (by omega) (by rw [hln, hts, hcs]; omega)
  rw [Xbi_append hr]
  simp only [go_sem]
  rw [Qlen_slice und33]
  simp only [go_sem]
  rw [show i + (l.length - (i + 1)) = l.length - 1 by omega, cutLh (by omega) (by omega), if_neg (by omega)]
  simp only [go_sem]
  -- the cells behind the move
  have htake : cur.toList.take (i * 8) = (l.take i).flatMap Rule.cs := by
    rw [← flat_take, ← htk, List.take_take, Nat.min_eq_left (by omega)]
  have hsz2 : (cur.toList.take (i * ti.size) ++ (l.drop (i + 1)).flatMap Rule.cs ++ cur.toList.drop (i * ti.size + ((l.drop (i + 1)).flatMap Rule.cs).length)).length = cap * 8 := by
    rw [hln, hts]
    simp only [List.length_append, List.length_take, List.length_drop, Array.length_toList, hcs, flat_len (size := 8) _ (Rule.lens (l.drop (i + 1)))]
    omega
  have hpre : (cur.toList.take (i * ti.size) ++ (l.drop (i + 1)).flatMap Rule.cs ++ cur.toList.drop (i * ti.size + ((l.drop (i + 1)).flatMap Rule.cs).length)).take ((l.length - 1) * 8) = (l.eraseIdx i).flatMap Rule.cs := by
    rw [hts, htake, ← List.flatMap_append, ← List.eraseIdx_eq_take_drop_succ]
    have : ((l.eraseIdx i).flatMap Rule.cs).length = (l.length - 1) * 8 := by
      rw [flat_len (size := 8) _ (Rule.lens _), List.length_eraseIdx_of_lt hi]
    rw [← this]
    exact List.take_left
  generalize hnew : (cur.toList.take (i * ti.size) ++ (l.drop (i + 1)).flatMap Rule.cs ++ cur.toList.drop (i * ti.size + ((l.drop (i + 1)).flatMap Rule.cs).length)) = new at hsz2 hpre
  have g2 := setRow_heap w1 g _ new.toArray 26 _ gd
  have c2 : Chg (fun k => Value.ownBlock (.slice (some ⟨g, 0, none⟩) l.length cap) = some k) w (w1.setRow g new.toArray) := hd.trans (setRow_chg g new.toArray) fun k _ hk => by simp [Value.ownBlock, hk]
  rw [clear33 g2 (by omega) (by simp; omega)]
  simp only [go_sem]
  have g3 := setRow_heap (w1.setRow g new.toArray) g _ (new.toArray.toList.take ((l.length - 1) * 8) ++ (Builtin.zeroCells Rule.zero.v.cells (l.length - (l.length - 1))).toList ++ new.toArray.toList.drop ((l.length - 1) * 8 + (l.length - (l.length - 1)) * 8)).toArray 26 _ g2
  refine .ret ⟨c2.trans (setRow_chg g _) fun k _ hk => by simp [Value.ownBlock, hk], ?_, rfl⟩
  rw [List.length_eraseIdx_of_lt hi]
  refine ⟨by rw [flat_len (size := 8) _ (Rule.lens _), List.length_eraseIdx_of_lt hi], .inr ⟨g, cap, _, rfl, Nat.zero_le _, g3, by omega, hcm, ?_, ?_⟩⟩
  · simp only [List.size_toArray, List.length_append, List.length_take, List.length_drop, hsz2, Array.length_toList, size_zeroCells]
    show min ((l.length - 1) * 8) (cap * 8) + (l.length - (l.length - 1)) * 8 + _ = _
    omega
  · show List.take ((l.length - 1) * 8) (List.take ((l.length - 1) * 8) new ++ _ ++ _) = _
    rw [List.append_assoc, List.take_append_of_le_length (by rw [List.length_take, hsz2]; omega), List.take_take, Nat.min_self, hpre]

end Go.Proofs.Ytiioaklogbjhhaa
