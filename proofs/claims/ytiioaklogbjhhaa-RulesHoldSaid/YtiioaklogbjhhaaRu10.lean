/- Drop, of both. -/
import Derived.Test.YtiioaklogbjhhaaRu9
namespace Go.Proofs.Ytiioaklogbjhhaa
open Go Go.Ev
open Go.Proofs

/-- What Drop does. -/
def dropM (l : List Rule) (i : Int) : Int × List Rule := if i < 0 ∨ (l.length : Int) ≤ i then (11, l) else (0, l.eraseIdx i.toNat)

/-- The variable of an object gets another slice of its own. -/
theorem Obj.put {tt : TypeId} {w w1 : World} {a : Nat} {sl sl' : Value} {l l' : List Rule} (h : Obj tt w a sl l) (hc : Chg (Foot a sl) w w1) (hva : w1.heap[a]? = some (.cells #[sl] tt (0, 0))) (ho : w1.ownsRow 0 26 8 sl' l'.length (l'.flatMap Rule.cs))
    (hk : ∀ k, sl'.ownBlock = some k → sl.ownBlock = some k ∨ w.heap.size ≤ k) (hok : ∀ x ∈ l', x.ok) (hr : ∀ x ∈ l', rightM x = true) (hm : l'.length ≤ 32) :
    Xstore Try.prog 33 (.pointer (some ⟨a, 0, none⟩)) sl' w1 = some (undef, w1.setRow a #[sl']) ∧ Chg (Foot a sl) w (w1.setRow a #[sl']) ∧ Obj tt (w1.setRow a #[sl']) a sl' l' := by
  have hap : sl'.ownBlock ≠ some a := fun e => by
    rcases hk a e with h1 | h1
    · exact h.apart h1
    · have := h.lt a (.inl rfl); omega
  exact ⟨store33 hva (owns_slice ho), hc.trans ((setRow_chg a #[sl']).mono fun k _ hk => .inl hk) fun _ _ h => h, setRow_heap w1 a _ _ tt _ hva, (setRow_chg a #[sl']).owns ho (fun k hk e => hap (by rw [hk, e])), hap, hok, hr, hm⟩

theorem mem_erase {l : List Rule} {i : Nat} {x : Rule} (h : x ∈ l.eraseIdx i) : x ∈ l := List.mem_of_mem_eraseIdx h

theorem k20 {w : World} {a : Nat} {sl : Value} {l : List Rule} {i : Int} (h : Obj 60 w a sl l) : Brings (Xcall Try.prog (Value.func (Fn.func 20) #[] #[]) #[.pointer (some ⟨a, 0, none⟩), .int .i64 i] w) (Did 60 w a sl (dropM l i).1 (dropM l i).2) := by
  refine e20 ?_
  unfold s20 dropM
  have hm := h.most
  simp only [go_sem, Qb_eqlP (P := Try.prog) (t := 27) (e := 60) (by kernel_rfl), Option.isNone_some]
  by_cases hneg : i < 0
  · simp only [hneg, decide_true, go_sem, true_or, if_true]
    exact .ret ⟨rfl, .refl _ _, sl, h, fun k hk => .inl hk⟩
  simp only [hneg, decide_false, go_sem, Bool.not_false, h.ptr (Bel.refl _), h.view.len und33, false_or]
  by_cases hbig : (l.length : Int) ≤ i
  · simp only [hbig, decide_true, go_sem, if_true]
    exact .ret ⟨rfl, .refl _ _, sl, h, fun k hk => .inl hk⟩
  simp only [hbig, decide_false, go_sem, if_false]
  obtain ⟨j, rfl⟩ : ∃ j : Nat, i = j := ⟨i.toNat, by omega⟩
  rw [wrap_i64 (by omega) (by omega), show (j : Int) + 1 = ((j + 1 : Nat) : Int) by omega]
  refine (k35 h.owns (i := j) (by omega) (by omega)).bind ?_
  rintro ⟨sl', w1⟩ ⟨hc, ho, hk⟩
  simp only at hc ho hk
  obtain ⟨e1, c2, o2⟩ := h.put (hc.mono fun k _ hk => .inr hk) (hc.at_ h.var fun e => h.apart e) ho (fun k hk' => .inl (by rw [← hk]; exact hk')) (fun x hx => h.oks x (mem_erase hx)) (fun x hx => h.right x (mem_erase hx)) (by rw [List.length_eraseIdx]; split <;> omega)
  simp only [e1, go_sem, Int.toNat_natCast]
  exact .ret ⟨rfl, c2, sl', o2, fun k hk' => .inl (by rw [← hk]; exact hk')⟩

theorem k39 {w : World} {a : Nat} {sl : Value} {l : List Rule} {i : Int} (h : Obj 71 w a sl l) : Brings (Xcall Try.prog (Value.func (Fn.func 39) #[] #[]) #[.pointer (some ⟨a, 0, none⟩), .int .i64 i] w) (Did 71 w a sl (dropM l i).1 (dropM l i).2) := by
  refine e39 ?_
  unfold s39 dropM
  have hm := h.most
  simp only [go_sem, Qb_eqlP (P := Try.prog) (t := 38) (e := 71) (by kernel_rfl), Option.isNone_some]
  by_cases hneg : i < 0
  · simp only [hneg, decide_true, go_sem, true_or, if_true]
    exact .ret ⟨rfl, .refl _ _, sl, h, fun k hk => .inl hk⟩
  simp only [hneg, decide_false, go_sem, Bool.not_false, h.ptr (Bel.refl _), h.view.len und33, false_or]
  by_cases hbig : (l.length : Int) ≤ i
  · simp only [hbig, decide_true, go_sem, if_true]
    exact .ret ⟨rfl, .refl _ _, sl, h, fun k hk => .inl hk⟩
  simp only [hbig, decide_false, go_sem, if_false]
  obtain ⟨j, rfl⟩ : ∃ j : Nat, i = j := ⟨i.toNat, by omega⟩
  have bd : Bel w w.drew := (Bel.refl w).drew
  have hd := h.bel bd
  obtain ⟨ti, hti, hts⟩ := inf26
  obtain ⟨_, h0 | ⟨g, cap, cur, e, _, hg, hnc, hcm, hcs, htk⟩⟩ := h.owns
  · omega
  subst e
  generalize w.drew = w1 at bd hd
  simp only [h.ptr bd, go_sem]
  rw [cutHi (by omega)]
  -- the first part
  have v1 : View Rule.cs 8 w1 (.slice (some ⟨g, 0, none⟩) j cap) (l.take j) := by
    refine View.of_owns (e := 26) (base := 0) ?_ (Rule.lens _)
    rw [List.length_take, Nat.min_eq_left (by omega)]
    refine ⟨by rw [flat_len (size := 8) _ (Rule.lens _), List.length_take, Nat.min_eq_left (by omega)], .inr ⟨g, cap, cur, rfl, Nat.zero_le _, ?_, by omega, hcm, hcs, ?_⟩⟩
    · exact bd.at_ hg
    · rw [← flat_take, ← htk, List.take_take, Nat.min_eq_left (by omega)]
  simp only [go_sem]
  obtain ⟨v', w2, e2, ho2, hg2, hk2⟩ := app33 (l := []) (v := .slice none 0 0) (World.ownsRow_nil w1 0 26 8) v1 (by simp; omega)
  simp only [List.nil_append] at ho2
  rw [e2]
  have b2 : Bel w1 w2 := (Chg.of_grown hg2).bel fun k _ hk => by simp [Value.ownBlock] at hk
  have b02 := bd.trans b2
  simp only [go_sem, h.ptr b02]
  rw [wrap_i64 (by omega) (by omega), show (j : Int) + 1 = ((j + 1 : Nat) : Int) by omega]
  rw [cutLo (by omega)]
  have v2 : View Rule.cs 8 w2 (.slice (some ⟨g, if cap = j + 1 then 0 else (j + 1) * 8, none⟩) (l.length - (j + 1)) (cap - (j + 1))) (l.drop (j + 1)) := by
    have hv := (h.bel b02).view
    obtain ⟨x, c, e, q1, q2, q3, q4⟩ := hv
    injection e with e _ e'
    subst e e'
    rw [← List.length_drop]
    refine ⟨_, _, rfl, by simp; omega, by omega, (fun h => by cases h), fun k y hk => ?_⟩
    rw [List.getElem?_drop] at hk
    obtain ⟨g', o', e3, hc⟩ := q4 _ y hk
    injection e3 with e3
    injection e3 with e3 e4 _
    subst e3 e4
    have := (List.getElem?_eq_some_iff.1 hk).1
    refine ⟨g, (j + 1) * 8, by rw [if_neg (by omega)], ?_⟩
    rw [Nat.zero_add, Nat.add_mul] at hc
    exact hc
  simp only [go_sem]
  obtain ⟨v3, w3, e3, ho3, hg3, hk3⟩ := app33 ho2 v2 (by simp; omega)
  rw [← List.eraseIdx_eq_take_drop_succ] at ho3
  rw [e3]
  simp only [go_sem, cutLo (show j + 1 ≤ l.length by omega), eq_self, and_self]
  have hk3' : ∀ k, v3.ownBlock = some k → w.heap.size ≤ k := fun k hk => by
    have q1 := bd.size
    rcases hk3 k hk with h1 | h1
    · rcases hk2 k h1 with h2 | h2
      · cases h2
      · omega
    · have := b2.size; omega
  have b3 : Bel w w3 := (b02.thenChg (Chg.of_grown hg3)).bel fun k hk' he => by
    have q1 := bd.size
    rcases hk2 k he.symm with h2 | h2
    · cases h2
    · omega
  obtain ⟨e4, c4, o4⟩ := h.put (.of_bel b3 _) (b3.at_ h.var) ho3 (fun k hk' => .inr (hk3' k hk')) (fun x hx => h.oks x (mem_erase hx)) (fun x hx => h.right x (mem_erase hx)) (by rw [List.length_eraseIdx]; split <;> omega)
  simp only [e4, go_sem, Int.toNat_natCast]
  exact .ret ⟨rfl, c4, v3, o4, fun k hk' => .inr (hk3' k hk')⟩

end Go.Proofs.Ytiioaklogbjhhaa
