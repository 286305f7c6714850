/- Gone and Due, of both; slices compared. -/
import Derived.Test.YtnnhfnjdcomjmaaEx6
namespace Go.Proofs.Ytnnhfnjdcomjmaa
open Go Go.Ev Go.RowKit
open Go.Proofs

/-- Some are taken out: they lie in a slice of their own, and the book has the others. -/
def Out (tt : TypeId) (w : World) (a : Nat) (sl : Value) (y l' : List Exp) (r : Value × World) : Prop :=
  Chg (Foot a sl) w r.2 ∧ Own r.2 r.1 y ∧ Since w r.1 ∧ ∃ sl', Bk tt r.2 a sl' l' ∧ (∀ k, Foot a sl' k → Foot a sl k ∨ w.heap.size ≤ k) ∧ ∀ k, r.1.ownBlock = some k → ¬ Foot a sl' k

theorem out_of {tt : TypeId} {w w' : World} {a : Nat} {sl v1 v2 : Value} {l : List Exp} {P : Exp → Bool} (h : Bk tt w a sl l) (hb : Bel w w') (o1 : Own w' v1 (l.filter P)) (o2 : Own w' v2 (l.filter fun x => !P x)) (f1 : Since w v1) (f2 : Since w v2)
    (dis : ∀ k, v1.ownBlock = some k → v2.ownBlock ≠ some k) : Xstore Try.prog 32 (.pointer (some ⟨a, 0, none⟩)) v2 w' = some (undef, w'.setRow a #[v2]) ∧ Out tt w a sl (l.filter P) (l.filter fun x => !P x) (v1, w'.setRow a #[v2]) := by
  have hm := h.most
  obtain ⟨e7, c7, o7, f7⟩ := h.put (.of_bel hb _) (hb.at_ h.var) o2 (fun k hk => .inr (f2 k hk)) (fun x hx => h.oks x (List.mem_filter.1 hx).1) (Nat.le_trans (List.length_filter_le _ _) hm)
  have ha := h.lt a (.inl rfl)
  refine ⟨e7, c7, o1.chg (setRow_chg a #[v2]) fun k hk e => by have := f1 k hk; omega, f1, v2, o7, f7, ?_⟩
  rintro k hk (rfl | h2)
  · have := f1 k hk; omega
  · exact dis k hk h2

theorem k39 {w : World} {a : Nat} {sl f : Value} {l : List Exp} {P : Exp → Bool} (h : Bk 58 w a sl l) (hf : Holds f P w) : Brings (Xcall Try.prog (Value.func (Fn.func 39) #[] #[]) #[.pointer (some ⟨a, 0, none⟩), f] w) (Out 58 w a sl (l.filter P) (l.filter fun x => !P x)) := by
  refine e39 ?_
  unfold s39
  have hm := h.most
  simp only [go_sem, Qb_eqlP (P := Try.prog) (t := 26) (e := 58) ptr26, Option.isNone_some, h.ptr (Bel.refl _)]
  refine (k29 h.view hf (by omega)).bind ?_
  rintro ⟨_, w2⟩ ⟨v1, v2, e1, b2, o1, o2, f1, f2, dis⟩
  simp only at e1 b2 o1 o2
  subst e1
  obtain ⟨e7, ho⟩ := out_of h b2 o1 o2 f1 f2 dis
  simp only [go_sem, e7]
  exact .ret ho

theorem out_later {tt : TypeId} {w w1 : World} {a : Nat} {sl : Value} {y l' l : List Exp} {r : Value × World} (h : Bk tt w a sl l) (hb : Bel w w1) (ho : Out tt w1 a sl y l' r) : Out tt w a sl y l' r := by
  obtain ⟨c, o, f, sl', b, g, d⟩ := ho
  exact ⟨hb.thenChg c, o, fun k hk => Nat.le_trans hb.size (f k hk), sl', b, fun k hk => (g k hk).imp id fun h => Nat.le_trans hb.size h, d⟩

theorem k22 {w : World} {a : Nat} {sl : Value} {l : List Exp} {m : Int} (h : Bk 58 w a sl l) : Brings (Xcall Try.prog (Value.func (Fn.func 22) #[] #[]) #[.pointer (some ⟨a, 0, none⟩), .int .i64 m] w) (Out 58 w a sl (l.filter (masterP m)) (l.filter fun x => !masterP m x)) := by
  refine e22 ?_
  unfold s22
  simp only [go_sem]
  have hb : Bel w (w.alloc (.cells #[.int .i64 m] 3)) := (Bel.refl w).alloc _
  have N : (w.alloc (.cells #[.int .i64 m] 3)).cell? ⟨w.heap.size, 0, none⟩ = some (.int .i64 m) := cell_at (MapKept.heap_alloc w _).1 rfl
  refine (k39 (h.bel hb) (h40 N)).bind ?_
  rintro ⟨v, w2⟩ ho
  exact .ret (out_later h hb ho)
theorem k23 {w : World} {a : Nat} {sl : Value} {l : List Exp} {m : Int} (h : Bk 58 w a sl l) : Brings (Xcall Try.prog (Value.func (Fn.func 23) #[] #[]) #[.pointer (some ⟨a, 0, none⟩), .int .i64 m] w) (Out 58 w a sl (l.filter (dueP m)) (l.filter fun x => !dueP m x)) := by
  refine e23 ?_
  unfold s23
  simp only [go_sem]
  have hb : Bel w (w.alloc (.cells #[.int .i64 m] 3)) := (Bel.refl w).alloc _
  have N : (w.alloc (.cells #[.int .i64 m] 3)).cell? ⟨w.heap.size, 0, none⟩ = some (.int .i64 m) := cell_at (MapKept.heap_alloc w _).1 rfl
  refine (k39 (h.bel hb) (h41 N)).bind ?_
  rintro ⟨v, w2⟩ ho
  exact .ret (out_later h hb ho)

theorem k44 {w : World} {a : Nat} {sl : Value} {l : List Exp} {m : Int} (h : Bk 69 w a sl l) : Brings (Xcall Try.prog (Value.func (Fn.func 44) #[] #[]) #[.pointer (some ⟨a, 0, none⟩), .int .i64 m] w) (Out 69 w a sl (l.filter (masterP m)) (l.filter fun x => !masterP m x)) := by
  refine e44 ?_
  unfold s44
  have hm := h.most
  refine Brings.loop (fun n xs w' => ∃ (i : Nat) (v1 v2 : Value), xs = [.pointer (some ⟨a, 0, none⟩), .int .i64 m, v1, v2, .int .i64 i] ∧ i ≤ l.length ∧ n = l.length - i ∧ Bel w w' ∧ Own w' v1 ((l.take i).filter (masterP m)) ∧ Own w' v2 ((l.take i).filter fun x => !masterP m x) ∧ Since w v1 ∧ Since w v2 ∧ ∀ k, v1.ownBlock = some k → v2.ownBlock ≠ some k) ?_ l.length _ _
    ⟨0, .slice none 0 0, .slice none 0 0, rfl, by omega, by omega, Bel.refl _, own_nil w, own_nil w, since_nil w, since_nil w, fun k h => by cases h⟩
  rintro n xs w' ⟨i, v1, v2, rfl, hi, hn, hb, o1, o2, f1, f2, dis⟩
  have h' := h.bel hb
  simp only [s44B0, go_sem, Qb_neqP (P := Try.prog) (t := 40) (e := 69) ptr40, Option.isSome_some, h'.ptr (Bel.refl _), h'.view.len und32]
  refine .cond (fun hlt => ?_) (fun hlt => ?_)
  · have hlt : (i : Int) < l.length := by simpa using hlt
    obtain ⟨x, g, o, hx, _, hix, hc⟩ := getR h'.view (n := i) (by omega) hlt
    simp only [Int.toNat_natCast] at hx
    have t1 : l.take (i + 1) = l.take i ++ [x] := by rw [List.take_add_one, hx]; rfl
    have len1 : ((l.take i).filter (masterP m)).length ≤ l.length := Nat.le_trans (List.length_filter_le _ _) (by simp; omega)
    have len2 : ((l.take i).filter fun x => !masterP m x).length ≤ l.length := Nat.le_trans (List.length_filter_le _ _) (by simp; omega)
    have s3 := hb.size
    simp only [hix, Exp.f7 hc, Exp.all hc, lit32, go_sem]
    refine .cond (fun ht => ?_) (fun hff => ?_)
    · have ht : masterP m x = true := ht
      obtain ⟨v', w4, e4, o4, c4, k4⟩ := more (x := x) o1 (by omega)
      simp only [e4, go_sem]
      refine .ret (.inl ⟨rfl, l.length - (i + 1), by omega, i + 1, v', v2, by rw [wrap_i64 (by omega) (by omega)]; rfl, by omega, rfl, ?_, ?_, ?_, ?_, f2, ?_⟩)
      · exact (hb.thenChg c4).bel fun k hk h => by have := f1 k h; omega
      · rw [t1, List.filter_append, List.filter_cons_of_pos ht]; exact o4
      · rw [t1, List.filter_append, List.filter_cons_of_neg (by simp [ht])]
        simp only [List.filter_nil, List.append_nil]
        exact o2.chg c4 fun k hk h => dis k h hk
      · intro k hk
        rcases k4 k hk with h | h
        · exact f1 k h
        · omega
      · intro k hk h2
        rcases k4 k hk with h | h
        · exact dis k h h2
        · have := o2.lt h2; omega
    · have hff : masterP m x = false := hff
      obtain ⟨v', w4, e4, o4, c4, k4⟩ := more (x := x) o2 (by omega)
      simp only [e4, go_sem]
      refine .ret (.inl ⟨rfl, l.length - (i + 1), by omega, i + 1, v1, v', by rw [wrap_i64 (by omega) (by omega)]; rfl, by omega, rfl, ?_, ?_, ?_, f1, ?_, ?_⟩)
      · exact (hb.thenChg c4).bel fun k hk h => by have := f2 k h; omega
      · rw [t1, List.filter_append, List.filter_cons_of_neg (by simp [hff])]
        simp only [List.filter_nil, List.append_nil]
        exact o1.chg c4 fun k hk h => dis k hk h
      · rw [t1, List.filter_append, List.filter_cons_of_pos (by simp [hff])]; exact o4
      · intro k hk
        rcases k4 k hk with h | h
        · exact f2 k h
        · omega
      · intro k hk h2
        rcases k4 k h2 with h | h
        · exact dis k hk h
        · have := o1.lt hk; omega
  · have hlt : ¬ (i : Int) < l.length := by simpa using hlt
    have : i = l.length := by omega
    subst this
    rw [List.take_length] at o1 o2
    refine .ret (.inr ⟨by simp, ?_⟩)
    obtain ⟨e7, ho⟩ := out_of h hb o1 o2 f1 f2 dis
    simp only [s44R0, go_sem, Qb_neqP (P := Try.prog) (t := 40) (e := 69) ptr40, Option.isSome_some, e7]
    exact .ret ho

theorem k45 {w : World} {a : Nat} {sl : Value} {l : List Exp} {m : Int} (h : Bk 69 w a sl l) : Brings (Xcall Try.prog (Value.func (Fn.func 45) #[] #[]) #[.pointer (some ⟨a, 0, none⟩), .int .i64 m] w) (Out 69 w a sl (l.filter (dueP m)) (l.filter fun x => !dueP m x)) := by
  refine e45 ?_
  unfold s45
  have hm := h.most
  refine Brings.loop (fun n xs w' => ∃ (i : Nat) (v1 v2 : Value), xs = [.pointer (some ⟨a, 0, none⟩), .int .i64 m, v1, v2, .int .i64 i] ∧ i ≤ l.length ∧ n = l.length - i ∧ Bel w w' ∧ Own w' v1 ((l.take i).filter (dueP m)) ∧ Own w' v2 ((l.take i).filter fun x => !dueP m x) ∧ Since w v1 ∧ Since w v2 ∧ ∀ k, v1.ownBlock = some k → v2.ownBlock ≠ some k) ?_ l.length _ _
    ⟨0, .slice none 0 0, .slice none 0 0, rfl, by omega, by omega, Bel.refl _, own_nil w, own_nil w, since_nil w, since_nil w, fun k h => by cases h⟩
  rintro n xs w' ⟨i, v1, v2, rfl, hi, hn, hb, o1, o2, f1, f2, dis⟩
  have h' := h.bel hb
  simp only [s45B0, go_sem, Qb_neqP (P := Try.prog) (t := 40) (e := 69) ptr40, Option.isSome_some, h'.ptr (Bel.refl _), h'.view.len und32]
  refine .cond (fun hlt => ?_) (fun hlt => ?_)
  · have hlt : (i : Int) < l.length := by simpa using hlt
    obtain ⟨x, g, o, hx, _, hix, hc⟩ := getR h'.view (n := i) (by omega) hlt
    simp only [Int.toNat_natCast] at hx
    have t1 : l.take (i + 1) = l.take i ++ [x] := by rw [List.take_add_one, hx]; rfl
    have len1 : ((l.take i).filter (dueP m)).length ≤ l.length := Nat.le_trans (List.length_filter_le _ _) (by simp; omega)
    have len2 : ((l.take i).filter fun x => !dueP m x).length ≤ l.length := Nat.le_trans (List.length_filter_le _ _) (by simp; omega)
    have s3 := hb.size
    simp only [hix, Exp.f8 hc, Exp.all hc, lit32, go_sem]
    refine .cond (fun ht => ?_) (fun hff => ?_)
    · have ht : dueP m x = true := ht
      obtain ⟨v', w4, e4, o4, c4, k4⟩ := more (x := x) o1 (by omega)
      simp only [e4, go_sem]
      refine .ret (.inl ⟨rfl, l.length - (i + 1), by omega, i + 1, v', v2, by rw [wrap_i64 (by omega) (by omega)]; rfl, by omega, rfl, ?_, ?_, ?_, ?_, f2, ?_⟩)
      · exact (hb.thenChg c4).bel fun k hk h => by have := f1 k h; omega
      · rw [t1, List.filter_append, List.filter_cons_of_pos ht]; exact o4
      · rw [t1, List.filter_append, List.filter_cons_of_neg (by simp [ht])]
        simp only [List.filter_nil, List.append_nil]
        exact o2.chg c4 fun k hk h => dis k h hk
      · intro k hk
        rcases k4 k hk with h | h
        · exact f1 k h
        · omega
      · intro k hk h2
        rcases k4 k hk with h | h
        · exact dis k h h2
        · have := o2.lt h2; omega
    · have hff : dueP m x = false := hff
      obtain ⟨v', w4, e4, o4, c4, k4⟩ := more (x := x) o2 (by omega)
      simp only [e4, go_sem]
      refine .ret (.inl ⟨rfl, l.length - (i + 1), by omega, i + 1, v1, v', by rw [wrap_i64 (by omega) (by omega)]; rfl, by omega, rfl, ?_, ?_, ?_, f1, ?_, ?_⟩)
      · exact (hb.thenChg c4).bel fun k hk h => by have := f2 k h; omega
      · rw [t1, List.filter_append, List.filter_cons_of_neg (by simp [hff])]
        simp only [List.filter_nil, List.append_nil]
        exact o1.chg c4 fun k hk h => dis k hk h
      · rw [t1, List.filter_append, List.filter_cons_of_pos (by simp [hff])]; exact o4
      · intro k hk
        rcases k4 k hk with h | h
        · exact f2 k h
        · omega
      · intro k hk h2
        rcases k4 k h2 with h | h
        · exact dis k hk h
        · have := o1.lt hk; omega
  · have hlt : ¬ (i : Int) < l.length := by simpa using hlt
    have : i = l.length := by omega
    subst this
    rw [List.take_length] at o1 o2
    refine .ret (.inr ⟨by simp, ?_⟩)
    obtain ⟨e7, ho⟩ := out_of h hb o1 o2 f1 f2 dis
    simp only [s45R0, go_sem, Qb_neqP (P := Try.prog) (t := 40) (e := 69) ptr40, Option.isSome_some, e7]
    exact .ret ho

theorem k24 {w : World} {s t : Value} {l m : List Exp} (hs : View Exp.cs 9 w s l) (ht : View Exp.cs 9 w t m) : Brings (Xcall Try.prog (Value.func (Fn.func 24) #[] #[]) #[s, t] w) (fun r => r.1 = .bool (decide (l = m)) ∧ Bel w r.2) := by
  refine e24 ?_
  unfold s24
  simp only [hs.len und32, ht.len und32, go_sem]
  have h63 := hs.small
  simp only [maxLen] at h63
  refine .cond (fun hne => ?_) (fun heq => ?_)
  · have : l ≠ m := fun e => by subst e; simp at hne
    simp only [this, decide_false]
    exact .ret ⟨rfl, Bel.refl _⟩
  have heq : l.length = m.length := by
    have : (l.length : Int) = m.length := by simpa using heq
    omega
  refine Brings.loop (fun n xs w' => ∃ i : Nat, xs = [s, t, .bool false, .int .i64 i] ∧ i ≤ l.length ∧ n = l.length - i ∧ Bel w w' ∧ l.take i = m.take i) ?_ l.length _ _ ⟨0, rfl, by omega, by omega, Bel.refl _, by simp⟩
  rintro n xs w' ⟨i, rfl, hi, hn, hb, htk⟩
  simp only [s24B0, hs.len und32, go_sem]
  refine .cond (fun hlt => ?_) (fun hlt => ?_)
  · have hlt : (i : Int) < l.length := by simpa using hlt
    have bd : Bel w w'.drew := hb.drew
    obtain ⟨y, g, o, hy, _, hix, hc⟩ := getR (hs.bel bd) (n := i) (by omega) hlt
    obtain ⟨z, g', o', hz, _, hix', hc'⟩ := getR (ht.bel bd) (n := i) (by omega) (by omega)
    simp only [Int.toNat_natCast] at hy hz
    simp only [hix, hix', Exp.all hc, Exp.all hc', Exp.neq, go_sem]
    refine .cond (fun he => ?_) (fun he => ?_)
    · have he : y ≠ z := by simpa using he
      have : l ≠ m := fun e => by subst e; rw [hy] at hz; injection hz with hz; exact he hz
      simp only [this, decide_false]
      exact .ret (.inr ⟨by simp, .ret ⟨rfl, bd⟩⟩)
    · have he : y = z := by simpa using he
      subst he
      refine .ret (.inl ⟨rfl, l.length - (i + 1), by omega, i + 1, by rw [wrap_i64 (by omega) (by omega)]; rfl, by omega, rfl, bd, ?_⟩)
      rw [List.take_add_one, List.take_add_one, htk, hy, hz]
  · have hlt : ¬ (i : Int) < l.length := by simpa using hlt
    have : i = l.length := by omega
    subst this
    have : l = m := by
      rw [List.take_length, heq, List.take_length] at htk
      exact htk
    simp only [this, decide_true]
    exact .ret (.inr ⟨by simp, .ret ⟨rfl, hb⟩⟩)


end Go.Proofs.Ytnnhfnjdcomjmaa
