/- Worlds of which some blocks turn; variables, structs and slices in memory. -/
import Derived.Laws.OwnMore
import Derived.Laws.AppendOwn
import Derived.Laws.CopyRow
import Derived.Test.YtcibkmahibnjeaaFc
namespace Go.Ev
open Go Go.RowKit

/-- Of what was there, but for these blocks, nothing has turned. -/
structure Chg (S : Nat → Prop) (w w' : World) : Prop where
  os : w'.os = w.os
  tape : w'.tape = w.tape
  output : w'.output = w.output
  size : w.heap.size ≤ w'.heap.size
  block : ∀ k, k < w.heap.size → ¬ S k → w'.heap[k]? = w.heap[k]?

section chg
variable {S T : Nat → Prop} {a b c w w' : World}
theorem Chg.refl (S : Nat → Prop) (w : World) : Chg S w w := ⟨rfl, rfl, rfl, Nat.le_refl _, fun _ _ _ => rfl⟩
theorem Chg.of_bel (h : Bel w w') (S : Nat → Prop) : Chg S w w' := ⟨h.os, h.tape, h.output, h.size, fun k hk _ => h.block k hk⟩
theorem Chg.of_grown {row : Option Nat} (h : w.grownBy w' row) : Chg (fun k => some k = row) w w' := ⟨h.os, h.tape, h.output, h.size, fun k hk hs => h.block k hk hs⟩
theorem Chg.bel (h : Chg S w w') (hS : ∀ k, k < w.heap.size → ¬ S k) : Bel w w' := ⟨h.os, h.tape, h.output, h.size, fun k hk => h.block k hk (hS k hk)⟩
theorem Chg.mono (h : Chg S w w') (hS : ∀ k, k < w.heap.size → S k → T k) : Chg T w w' := ⟨h.os, h.tape, h.output, h.size, fun k hk ht => h.block k hk fun hs => ht (hS k hk hs)⟩
theorem Chg.trans (h : Chg S a b) (k : Chg T b c) (hT : ∀ i, i < a.heap.size → T i → S i) : Chg S a c :=
  ⟨k.os.trans h.os, k.tape.trans h.tape, k.output.trans h.output, Nat.le_trans h.size k.size, fun i hi hs => (k.block i (Nat.lt_of_lt_of_le hi h.size) fun ht => hs (hT i hi ht)).trans (h.block i hi hs)⟩
theorem Chg.thenBel (h : Chg S a b) (k : Bel b c) : Chg S a c := h.trans (.of_bel k fun _ => False) fun _ _ f => f.elim
theorem Bel.thenChg (h : Bel a b) (k : Chg S b c) : Chg S a c := (Chg.of_bel h S).trans k fun _ _ s => s
theorem Chg.at_ (h : Chg S w w') {i : Nat} {o : Obj} (hb : w.heap[i]? = some o) (hs : ¬ S i) : w'.heap[i]? = some o := by
  rw [h.block i (Array.getElem?_eq_some_iff.1 hb).1 hs]; exact hb
theorem Chg.owns (h : Chg S w w') {base : Nat} {e : TypeId} {size n : Nat} {v : Value} {xs : List Value} (ho : w.ownsRow base e size v n xs) (hs : ∀ k, v.ownBlock = some k → ¬ S k) : w'.ownsRow base e size v n xs := by
  obtain ⟨h1, h2 | ⟨g, cap, cur, rfl, h3, h4, h5, h6, h7, h8⟩⟩ := ho
  · exact ⟨h1, .inl h2⟩
  · exact ⟨h1, .inr ⟨g, cap, cur, rfl, h3, h.at_ h4 (hs g rfl), h5, h6, h7, h8⟩⟩
end chg

theorem add_0 (g n : Nat) : (⟨g, 0, none⟩ : Addr).add n = ⟨g, n, none⟩ := by
  unfold Addr.add
  by_cases h : n = 0
  · subst h; rfl
  · simp [h]

/-- The cells at a place. -/
def CellsAt (cs : List Value) (w : World) (g o : Nat) : Prop := ∀ j v, cs[j]? = some v → w.cell? ⟨g, o + j, none⟩ = some v
theorem CellsAt.bel {cs : List Value} {w w' : World} {g o : Nat} (h : CellsAt cs w g o) (hb : Bel w w') : CellsAt cs w' g o := fun j v hj => hb.cell_some (h j v hj)
theorem CellsAt.chg {S : Nat → Prop} {cs : List Value} {w w' : World} {g o : Nat} (h : CellsAt cs w g o) (hc : Chg S w w') (hs : ¬ S g) : CellsAt cs w' g o := fun j v hj => by
  have := h j v hj
  rw [← this]
  exact World.cell?_of_block (hc.block g (World.block_lt_of_cell? _ _ this) hs)
theorem CellsAt.of {cs : List Value} {w : World} {g : Nat} {t : TypeId} {z : Nat × Nat} (h : w.heap[g]? = some (.cells cs.toArray t z)) : CellsAt cs w g 0 := fun j v hj => by
  rw [Nat.zero_add]
  exact cell_at h (by simpa using hj)
theorem CellsAt.part {cs ds es : List Value} {w : World} {g o : Nat} (h : CellsAt (cs ++ ds ++ es) w g o) : CellsAt ds w g (o + cs.length) := fun j v hj => by
  rw [Nat.add_assoc]
  refine h _ v ?_
  rw [List.append_assoc, List.getElem?_append_right (Nat.le_add_right _ _), Nat.add_sub_cancel_left, List.getElem?_append_left]
  · exact hj
  · exact (List.getElem?_eq_some_iff.1 hj).1

section mem
variable {P : Program} {t e : TypeId} {w : World}

/-! ## Variables -/

theorem Xalloc_eq {z : Value} (hz : (zeroValue t).run P w = .ok z w) : Xalloc P t w = some (.pointer (some ⟨w.heap.size, 0, none⟩), w.alloc (.cells z.cells t)) := by
  unfold Xalloc xv
  simp only [Instr.alloc, Sem.run_bind, hz, Result.andThen_ok]
  rfl

/-- A struct is read. -/
theorem Qload_agg {fs : Array Field} {i : TypeInfo} {p : Addr} {cs : List Value} (ht : P.underlying t = some (.struct fs)) (hi : P.info? t = some i) (hs : i.size = cs.length) (h : ∀ j v, cs[j]? = some v → w.cell? (p.add j) = some v) :
    Qload P t (.pointer (some p)) w = some (.agg cs.toArray) := by
  unfold Qload qv
  have hag : (isAgg t).run P w = .ok true w := by simp only [isAgg, Sem.run_bind, run_underlying ht, Result.andThen_ok]; rfl
  simp only [Instr.loadAt, Instr.sureAddr, loadVar, Sem.run_bind, Sem.run_pure, Result.andThen_ok, hag, if_true, run_size hi, hs]
  rw [run_loadCells_list (P := P) w p cs h]
  rfl

theorem Qload_cells {fs : Array Field} {i : TypeInfo} {g o : Nat} {cs : List Value} (ht : P.underlying t = some (.struct fs)) (hi : P.info? t = some i) (hs : i.size = cs.length) (h : CellsAt cs w g o) :
    Qload P t (.pointer (some ⟨g, o, none⟩)) w = some (.agg cs.toArray) :=
  Qload_agg ht hi hs fun j v hj => by
    have := h j v hj
    rw [show (⟨g, o, none⟩ : Addr).add j = ⟨g, o + j, none⟩ from ?_]
    · exact this
    · unfold Addr.add
      by_cases h : j = 0 <;> simp [h]

theorem run_storeVar {i : TypeInfo} {g o : Nat} {cur : Array Value} {te : TypeId} {v : Value} (hi : P.info? t = some i) (hs : v.cells.size = i.size) (hg : w.heap[g]? = some (.cells cur te (0, 0))) (hfit : o + i.size ≤ cur.size) (h1 : ∀ u ∈ v.cells.toList, u.oneCell' = true) :
    (storeVar t ⟨g, o, none⟩ v).run P w = .ok () (w.setRow g (cur.toList.take o ++ v.cells.toList ++ cur.toList.drop (o + i.size)).toArray) := by
  have := run_storeCells_at P g o te v.cells.toList 0 cur w hg (by simp; omega) h1
  simp only [Nat.add_zero, Array.length_toList, hs] at this
  simp only [storeVar, Sem.run_bind, run_size hi, Result.andThen_ok, hs, ne_eq, not_true_eq_false, if_false, this]

theorem Xstore_row {i : TypeInfo} {g o : Nat} {cur : Array Value} {te : TypeId} {v : Value} (hi : P.info? t = some i) (hs : v.cells.size = i.size) (hg : w.heap[g]? = some (.cells cur te (0, 0))) (hfit : o + i.size ≤ cur.size) (h1 : ∀ u ∈ v.cells.toList, u.oneCell' = true) :
    Xstore P t (.pointer (some ⟨g, o, none⟩)) v w = some (undef, w.setRow g (cur.toList.take o ++ v.cells.toList ++ cur.toList.drop (o + i.size)).toArray) := by
  unfold Xstore xu
  simp only [Instr.storeAt, Instr.sureAddr, Sem.run_bind, Sem.run_pure, Result.andThen_ok, run_storeVar hi hs hg hfit h1]
/-- A variable is written, whole. -/
theorem Xstore_var {i : TypeInfo} {g : Nat} {cur : Array Value} {te : TypeId} {v : Value} (hi : P.info? t = some i) (hs : v.cells.size = i.size) (hg : w.heap[g]? = some (.cells cur te (0, 0))) (hc : cur.size = i.size) (h1 : ∀ u ∈ v.cells.toList, u.oneCell' = true) :
    Xstore P t (.pointer (some ⟨g, 0, none⟩)) v w = some (undef, w.setRow g v.cells) := by
  rw [Xstore_row hi hs hg (by omega) h1]
  congr 3
  simp [List.drop_eq_nil_of_le, hc]

theorem setRow_chg (g : Nat) (c : Array Value) : Chg (fun k => k = g) w (w.setRow g c) :=
  ⟨rfl, rfl, rfl, by simp, fun k _ hk => setRow_other w g k c hk⟩

/-- A new variable that is written at once. -/
theorem local_bel (w : World) (o : Obj) (c : Array Value) : Bel w ((w.alloc o).setRow w.heap.size c) := (((Bel.refl w).alloc o).thenChg (setRow_chg _ _)).bel fun k hk e => by omega
theorem local_at (w : World) (cs c0 : List Value) (t : TypeId) : CellsAt cs ((w.alloc (.cells c0.toArray t)).setRow w.heap.size cs.toArray) w.heap.size 0 := CellsAt.of (setRow_heap _ _ _ cs.toArray t _ (MapKept.heap_alloc w _).1)

/-- Where an element of a row lies. -/
theorem owns_at {base size n : Nat} {v : Value} {xs : List Value} {i : TypeInfo} {st : TypeId} {k : Int} (ho : w.ownsRow base e size v n xs) (hst : P.underlying st = some (.slice e)) (hi : P.info? e = some i) (hs : i.size = size) (h0 : 0 ≤ k) (h1 : k < n) :
    ∃ g, v.ownBlock = some g ∧ (∀ w', QindexAddr P st v (.int .i64 k) w' = some (.pointer (some ⟨g, k.toNat * size, none⟩))) := by
  obtain ⟨_, h2 | ⟨g, cap, cur, rfl, _⟩⟩ := ho
  · omega
  · refine ⟨g, rfl, fun w' => ?_⟩
    rw [QindexAddr_slice hst hi h0 h1, hs, add_0]
theorem owns_cells {base size n : Nat} {v : Value} {xs : List Value} {g k : Nat} (ho : w.ownsRow base e size v n xs) (hg : v.ownBlock = some g) : CellsAt ((xs.drop (k * size)).take size) w g (k * size) := fun j u hj => by
  have hjl : j < size := by
    have := (List.getElem?_eq_some_iff.1 hj).1
    simp at this; omega
  rw [List.getElem?_take, if_pos hjl, List.getElem?_drop] at hj
  have := ho.cells hg _ _ hj
  rwa [add_0] at this
/-- The cells of one of some rows, each as long. -/
theorem flat_at {α : Type} {f : α → List Value} {size : Nat} : ∀ (l : List α) (k : Nat) (x : α), (∀ y ∈ l, (f y).length = size) → l[k]? = some x → ((l.flatMap f).drop (k * size)).take size = f x
  | [], _, _, _, h => by simp at h
  | y :: l, 0, x, hl, h => by
    simp only [List.getElem?_cons_zero, Option.some.injEq] at h
    subst h
    have := hl y (by simp)
    rw [List.flatMap_cons, Nat.zero_mul, List.drop_zero, List.take_append_of_le_length (by omega), List.take_of_length_le (by omega)]
  | y :: l, k + 1, x, hl, h => by
    have h1 := hl y (by simp)
    simp only [List.getElem?_cons_succ] at h
    rw [List.flatMap_cons, List.drop_append, Nat.add_mul, Nat.one_mul]
    rw [List.drop_of_length_le (by omega), List.nil_append, show k * size + size - (f y).length = k * size by omega]
    exact flat_at l k x (fun z hz => hl z (by simp [hz])) h

end mem
end Go.Ev
