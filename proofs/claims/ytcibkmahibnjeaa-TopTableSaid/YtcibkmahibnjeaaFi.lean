/- Variables of a function: the blocks that it laid behind all that was there. -/
import Derived.Test.YtcibkmahibnjeaaFd
import Derived.Test.YtcibkmahibnjeaaFh
namespace Go.Ev
open Go Go.RowKit

/-- Behind all that was there lie these blocks; of what was there nothing has turned. -/
structure Locals (w : World) (os : List Obj) (w' : World) : Prop where
  bel : Bel w w'
  size : w.heap.size + os.length ≤ w'.heap.size
  at_ : ∀ j o, os[j]? = some o → w'.heap[w.heap.size + j]? = some o

section loc
variable {w w' w'' : World} {os : List Obj}

theorem Locals.nil (w : World) : Locals w [] w := ⟨Bel.refl w, Nat.le_refl _, fun j o h => by simp at h⟩
theorem Locals.add (h : Locals w os w') (hs : w'.heap.size = w.heap.size + os.length) (o : Obj) : Locals w (os ++ [o]) (w'.alloc o) := by
  refine ⟨h.bel.alloc o, by simp; omega, fun j o' hj => ?_⟩
  by_cases hlt : j < os.length
  · rw [List.getElem?_append_left hlt] at hj
    exact ((Bel.refl w').alloc o).at_ (h.at_ j o' hj)
  · rw [List.getElem?_append_right (by omega)] at hj
    have : j = os.length := by
      have := (List.getElem?_eq_some_iff.1 hj).1
      simp at this; omega
    subst this
    simp at hj
    subst hj
    have := (MapKept.heap_alloc w' o).1
    rwa [hs] at this
theorem Locals.later (h : Locals w os w') (hb : Bel w' w'') : Locals w os w'' := ⟨h.bel.trans hb, Nat.le_trans h.size hb.size, fun j o hj => hb.at_ (h.at_ j o hj)⟩
theorem Locals.chg (h : Locals w os w') {S : Nat → Prop} (hc : Chg S w' w'') (hs : ∀ k, S k → w'.heap.size ≤ k) : Locals w os w'' := h.later (hc.bel fun k hk hS => by have := hs k hS; omega)
theorem setB_chg (w : World) (l : Nat) (o : Obj) : Chg (fun k => k = l) w (setB w l o) := ⟨rfl, rfl, rfl, by rw [setB_size]; exact Nat.le_refl _, fun k _ hk => setB_other hk⟩
theorem Locals.set (h : Locals w os w') {j : Nat} (hj : j < os.length) {k : Nat} (hk : k = w.heap.size + j) (o : Obj) : Locals w (os.set j o) (setB w' k o) := by
  subst hk
  refine ⟨(h.bel.thenChg (setB_chg w' _ o)).bel fun i hi hk => by omega, by rw [setB_size, List.length_set]; exact h.size, fun i o' hi => ?_⟩
  by_cases e : i = j
  · subst e
    rw [List.getElem?_set_self hj] at hi
    injection hi with hi; subst hi
    exact setB_same (h.at_ i _ (List.getElem?_eq_getElem hj))
  · rw [List.getElem?_set_ne (fun x => e x.symm)] at hi
    rw [setB_other (by omega)]
    exact h.at_ i o' hi
theorem Locals.row (h : Locals w os w') {j : Nat} {c : Array Value} {t : TypeId} {z : Nat × Nat} (hj : os[j]? = some (.cells c t z)) {k : Nat} (hk : k = w.heap.size + j) (d : Array Value) : Locals w (os.set j (.cells d t z)) (w'.setRow k d) := by
  subst hk
  have hl := (List.getElem?_eq_some_iff.1 hj).1
  refine ⟨(h.bel.thenChg (setRow_chg _ d)).bel fun i hi hk => by omega, by rw [List.length_set]; exact Nat.le_trans h.size (setRow_chg _ d).size, fun i o' hi => ?_⟩
  by_cases e : i = j
  · subst e
    rw [List.getElem?_set_self hl] at hi
    injection hi with hi; subst hi
    exact setRow_heap w' _ c d t z (h.at_ i _ hj)
  · rw [List.getElem?_set_ne (fun x => e x.symm)] at hi
    rw [setRow_other w' _ _ d (by omega)]
    exact h.at_ i o' hi

theorem Locals.cell (h : Locals w os w') {j : Nat} {v : Value} {t : TypeId} {z : Nat × Nat} (hj : os[j]? = some (.cells #[v] t z)) : w'.cell? ⟨w.heap.size + j, 0, none⟩ = some v := by
  obtain ⟨z0, z1⟩ := z
  exact cell_at (h.at_ j _ hj) rfl
theorem find_first {α : Type} {p : α → Bool} {l : List α} {i : Nat} {x : α} (hx : l[i]? = some x) (hp : p x = true) (hn : ∀ y ∈ l.take i, p y = false) : l.find? p = some x := by
  obtain ⟨hi, he⟩ := List.getElem?_eq_some_iff.1 hx
  have : l = l.take i ++ (x :: l.drop (i + 1)) := by
    conv => lhs; rw [← List.take_append_drop i l, List.drop_eq_getElem_cons hi, he]
  rw [this, List.find?_append, List.find?_eq_none.2 (fun y hy => by simp [hn y hy]), List.find?_cons, hp]
  rfl
theorem take_none {α : Type} {p : α → Bool} {l : List α} {i : Nat} {x : α} (hx : l[i]? = some x) (hp : p x = false) (hn : ∀ y ∈ l.take i, p y = false) : ∀ y ∈ l.take (i + 1), p y = false := by
  intro y hy
  rw [List.take_add_one, hx] at hy
  rcases List.mem_append.1 hy with hy | hy
  · exact hn y hy
  · simp at hy; subst hy; exact hp

end loc
end Go.Ev
