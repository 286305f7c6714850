/- Match, Gone, Due of both; slices compared. -/
import Derived.Test.YtnnhfnjdcomjmaaEx5
namespace Go.Proofs.Ytnnhfnjdcomjmaa
open Go Go.Ev Go.RowKit
open Go.Proofs

theorem match_len (t : Tup) (now : Int) (l : List Exp) : (matchM t now l).2.length ≤ l.length := by
  unfold matchM
  split
  · rw [List.length_eraseIdx]; split <;> omega
  · exact Nat.le_refl _
theorem match_mem {t : Tup} {now : Int} {l : List Exp} {x : Exp} (h : x ∈ (matchM t now l).2) : x ∈ l := by
  unfold matchM at h
  split at h
  · exact mem_erase h
  · exact h

theorem k21 {w : World} {a : Nat} {sl : Value} {l : List Exp} {t : Tup} {now : Int} (h : Bk 58 w a sl l) : Brings (Xcall Try.prog (Value.func (Fn.func 21) #[] #[]) #[.pointer (some ⟨a, 0, none⟩), t.v, .int .i64 now] w)
    (Did 58 w a sl (.tuple #[(peekM t now l).1.v, .bool (peekM t now l).2]) (matchM t now l).2) := by
  refine e21 ?_
  unfold s21
  rw [t.box]
  have V0 := Locals.nil w
  have V1 := V0.add rfl (.cells t.cs.toArray 37)
  have V2 := V1.add (by simp) (.cells Exp.zero.cs.toArray 25)
  simp only [go_sem, alloc25, World.size_alloc]
  generalize (w.alloc (.cells t.cs.toArray 37)).alloc (.cells Exp.zero.cs.toArray 25) = w2 at V2
  have T : CellsAt t.cs w2 w.heap.size 0 := CellsAt.of (V2.at_ 0 _ rfl)
  have nf : ∀ k, w.heap.size ≤ k → ¬ Foot a sl k := fun k hk hf => by have := h.lt k hf; omega
  simp only [Tup.all T, go_sem]
  refine (k20 (h.bel V2.bel)).bind ?_
  rintro ⟨_, w3⟩ ⟨e1, b3⟩
  simp only at e1 b3
  subst e1
  have B := local_bel w3 (.cells Exp.zero.cs.toArray 25) (peekM t now l).1.cs.toArray
  have X := local_at w3 (peekM t now l).1.cs Exp.zero.cs 25
  have V4 := (V2.later b3).later B
  have q3 : w.heap.size + 2 ≤ w3.heap.size := (V2.later b3).size
  simp only [put25, go_sem]
  generalize (w3.alloc (.cells Exp.zero.cs.toArray 25)).setRow w3.heap.size (peekM t now l).1.cs.toArray = w4 at X V4
  generalize w3.heap.size = q at X q3
  have h4 := h.bel V4.bel
  have T4 : CellsAt t.cs w4 w.heap.size 0 := CellsAt.of (V4.at_ 0 _ rfl)
  have hz4 : w4.heap[w.heap.size + 1]? = some (.cells Exp.zero.cs.toArray 25) := V4.at_ 1 _ rfl
  have hm := h.most
  rcases idx_cases (fitsP t now) l with ⟨i, x, hi, hx, hlt, e⟩ | ⟨hi, e⟩
  · have hp : peekM t now l = (x, true) := by unfold peekM; rw [match_some hi hx]
    rw [hp] at X ⊢
    rw [match_some hi hx]
    simp only [go_sem, Tup.all T4]
    refine (k37 h4).bind ?_
    rintro ⟨_, w5⟩ ⟨e1, b5⟩
    rw [e] at e1
    simp only at e1 b5
    subst e1
    have h5 := h4.bel b5
    simp only [h5.ptr (Bel.refl _), go_sem]
    rw [wrap_i64 (by omega) (by omega), show (i : Int) + 1 = ((i + 1 : Nat) : Int) from rfl]
    refine (k38 h5.owns (i := i) hlt (by omega)).bind ?_
    rintro ⟨sl', w6⟩ ⟨c6, o6, k6⟩
    simp only at c6 o6 k6
    obtain ⟨e2, c7, o7, f7⟩ := h5.put (c6.mono fun k _ hk => .inr hk) (c6.at_ h5.var fun e => h5.apart e) o6 (fun k hk' => .inl (by rw [← k6]; exact hk')) (fun x hx => h.oks x (mem_erase hx)) (by rw [List.length_eraseIdx]; split <;> omega)
    simp only [e2, go_sem]
    have X7 := (X.bel b5).chg c7 (nf q (by omega))
    have hz7 := c7.at_ (b5.at_ hz4) (nf _ (by omega))
    generalize w6.setRow a #[sl'] = w7 at c7 o7 X7 hz7
    simp only [Exp.all X7, store25 hz7 rfl, go_sem, Exp.all (CellsAt.of (setRow_heap _ _ _ _ _ _ hz7))]
    refine .ret ⟨rfl, ((V4.bel.trans b5).thenChg c7).trans (setRow_chg _ _) (fun k hk e => by omega), sl', o7.keep (setRow_chg _ _) (fun k hk e => ?_), fun k hk => (f7 k hk).imp id fun hh => Nat.le_trans (V4.bel.trans b5).size hh⟩
    rcases f7 k hk with h1 | h1
    · exact nf k (by omega) h1
    · have := (V4.later b5).size
      simp at this
      omega
  · have hp : peekM t now l = (Exp.zero, false) := by unfold peekM; rw [match_none hi]
    rw [hp] at X ⊢
    rw [match_none hi]
    simp only [go_sem, Exp.all X, store25 hz4 rfl, Exp.all (CellsAt.of (setRow_heap _ _ _ _ _ _ hz4))]
    exact .ret (did_same h (V4.row (j := 1) rfl rfl _).bel)

/-- A slice without one of its elements, put together anew. -/
theorem k43 {w : World} {a : Nat} {sl : Value} {l : List Exp} {t : Tup} {now : Int} (h : Bk 69 w a sl l) : Brings (Xcall Try.prog (Value.func (Fn.func 43) #[] #[]) #[.pointer (some ⟨a, 0, none⟩), t.v, .int .i64 now] w)
    (Did 69 w a sl (.tuple #[(peekM t now l).1.v, .bool (peekM t now l).2]) (matchM t now l).2) := by
  refine e43 ?_
  unfold s43
  rw [t.box]
  have V0 := Locals.nil w
  have V1 := V0.add rfl (.cells t.cs.toArray 37)
  have V2 := V1.add (by simp) (.cells Exp.zero.cs.toArray 25)
  simp only [go_sem, alloc25, World.size_alloc]
  generalize (w.alloc (.cells t.cs.toArray 37)).alloc (.cells Exp.zero.cs.toArray 25) = w2 at V2
  have T : CellsAt t.cs w2 w.heap.size 0 := CellsAt.of (V2.at_ 0 _ rfl)
  have nf : ∀ k, w.heap.size ≤ k → ¬ Foot a sl k := fun k hk hf => by have := h.lt k hf; omega
  simp only [Tup.all T, go_sem]
  refine (k48 (h.bel V2.bel)).bind ?_
  rintro ⟨_, w3⟩ ⟨e1, b3⟩
  simp only at e1 b3
  subst e1
  have V3 := V2.later b3
  have h3 := h.bel V3.bel
  have hz3 : w3.heap[w.heap.size + 1]? = some (.cells Exp.zero.cs.toArray 25) := V3.at_ 1 _ rfl
  have hm := h.most
  rcases idx_cases (fitsP t now) l with ⟨i, x, hi, hx, hlt, e⟩ | ⟨hi, e⟩
  · have hp : peekM t now l = (x, true) := by unfold peekM; rw [match_some hi hx]
    rw [hp, match_some hi hx, e]
    have : decide ((i : Int) < 0) = false := by simp
    simp only [this, go_sem]
    obtain ⟨y, g0, o0, hy, _, hix, hc⟩ := getR h3.view (n := i) (by omega) (by omega)
    simp only [Int.toNat_natCast] at hy
    obtain rfl : y = x := by rw [hx] at hy; injection hy with hy; exact hy.symm
    have B := local_bel w3 (.cells Exp.zero.cs.toArray 25) y.cs.toArray
    have X := local_at w3 y.cs Exp.zero.cs 25
    have q3 : w.heap.size + 2 ≤ w3.heap.size := V3.size
    simp only [h3.ptr (Bel.refl _), hix, Exp.all hc, put25, go_sem]
    have bd : Bel w3 ((w3.alloc (.cells Exp.zero.cs.toArray 25)).setRow w3.heap.size y.cs.toArray).drew := B.drew
    have X := X.bel (Bel.refl _).drew
    generalize ((w3.alloc (.cells Exp.zero.cs.toArray 25)).setRow w3.heap.size y.cs.toArray).drew = w4 at bd X
    generalize w3.heap.size = q at X q3
    clear B
    have V4 := V3.later bd
    have h4 := h3.bel bd
    obtain ⟨ti, hti, hts⟩ := inf25
    obtain ⟨_, h0 | ⟨g, cap, cur, esl, _, hg, hnc, hcm, hcs, htk⟩⟩ := h4.owns
    · omega
    subst esl
    simp only [h4.ptr (Bel.refl _), go_sem]
    rw [cutHi (by omega)]
    -- the first part
    have v1 : View Exp.cs 9 w4 (.slice (some ⟨g, 0, none⟩) i cap) (l.take i) := by
      refine View.of_owns (e := 25) (base := 0) ?_ (Exp.lens _)
      rw [List.length_take, Nat.min_eq_left (by omega)]
      refine ⟨by rw [flat_len (size := 9) _ (Exp.lens _), List.length_take, Nat.min_eq_left (by omega)], .inr ⟨g, cap, cur, rfl, Nat.zero_le _, hg, by omega, hcm, hcs, ?_⟩⟩
      rw [← flat_take, ← htk, List.take_take, Nat.min_eq_left (by omega)]
    simp only [go_sem]
    obtain ⟨v', w5, e5, ho5, hg5, hk5⟩ := app32 (l := []) (v := .slice none 0 0) (World.ownsRow_nil w4 0 25 9) v1 (by simp; omega)
    simp only [List.nil_append] at ho5
    rw [e5]
    have b5 : Bel w4 w5 := (Chg.of_grown hg5).bel fun k _ hk => by simp [Value.ownBlock] at hk
    have h5 := h4.bel b5
    simp only [go_sem, h5.ptr (Bel.refl _)]
    rw [wrap_i64 (by omega) (by omega), show (i : Int) + 1 = ((i + 1 : Nat) : Int) from rfl]
    rw [cutLo (by omega)]
    have v2 : View Exp.cs 9 w5 (.slice (some ⟨g, if cap = i + 1 then 0 else (i + 1) * 9, none⟩) (l.length - (i + 1)) (cap - (i + 1))) (l.drop (i + 1)) := by
      have hv := h5.view
      obtain ⟨x, c, e, q1, q2, q3, q4⟩ := hv
      injection e with e _ e'
      subst e e'
      rw [← List.length_drop]
      refine ⟨_, _, rfl, by simp; omega, by omega, (fun h => by cases h), fun k y hk => ?_⟩
      rw [List.getElem?_drop] at hk
      obtain ⟨g', o', e3, hc⟩ := q4 _ y hk
      injection e3 with e3
      injection e3 with e3 e4 _
      subst e3 e4
      have := (List.getElem?_eq_some_iff.1 hk).1
      refine ⟨g, (i + 1) * 9, by rw [if_neg (by omega)], ?_⟩
      rw [Nat.zero_add, Nat.add_mul] at hc
      exact hc
    simp only [go_sem]
    obtain ⟨v3, w6, e6, ho6, hg6, hk6⟩ := app32 ho5 v2 (by simp; omega)
    rw [← List.eraseIdx_eq_take_drop_succ] at ho6
    rw [e6]
    simp only [h4.ptr (Bel.refl _), cutLo (show i + 1 ≤ l.length by omega), eq_self, and_self, go_sem]
    have s45 := b5.size
    have hk6' : ∀ k, v3.ownBlock = some k → w4.heap.size ≤ k := fun k hk => by
      rcases hk6 k hk with h1 | h1
      · rcases hk5 k h1 with h2 | h2
        · cases h2
        · omega
      · omega
    have b6 : Bel w4 w6 := (b5.thenChg (Chg.of_grown hg6)).bel fun k hk' he => by
      rcases hk5 k he.symm with h2 | h2
      · cases h2
      · omega
    obtain ⟨e7, c7, o7, f7⟩ := h4.put (.of_bel b6 _) (b6.at_ h4.var) ho6 (fun k hk' => .inr (hk6' k hk')) (fun x hx => h.oks x (mem_erase hx)) (by rw [List.length_eraseIdx]; split <;> omega)
    simp only [e7, go_sem]
    have X7 := X.chg c7 (nf q (by omega))
    have hz7 := c7.at_ (bd.at_ hz3) (nf _ (by omega))
    generalize w6.setRow a #[v3] = w7 at c7 o7 X7 hz7
    simp only [Exp.all X7, store25 hz7 rfl, go_sem, Exp.all (CellsAt.of (setRow_heap _ _ _ _ _ _ hz7))]
    refine .ret ⟨rfl, (V4.bel.thenChg c7).trans (setRow_chg _ _) (fun k hk e => by omega), v3, o7.keep (setRow_chg _ _) (fun k hk e => ?_), fun k hk => (f7 k hk).imp id fun hh => Nat.le_trans V4.bel.size hh⟩
    rcases f7 k hk with h1 | h1
    · exact nf k (by omega) h1
    · have := V4.size
      simp at this
      omega
  · have hp : peekM t now l = (Exp.zero, false) := by unfold peekM; rw [match_none hi]
    rw [hp, match_none hi, e]
    have : decide ((-1 : Int) < 0) = true := by decide
    simp only [this, go_sem, build25n, store25 hz3 rfl, Exp.all (CellsAt.of (setRow_heap _ _ _ _ _ _ hz3))]
    exact .ret (did_same h (V3.row (j := 1) rfl rfl _).bel)

end Go.Proofs.Ytnnhfnjdcomjmaa
