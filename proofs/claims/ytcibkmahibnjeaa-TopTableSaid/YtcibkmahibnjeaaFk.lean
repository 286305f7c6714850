/- Variables of a function beside blocks that others turn; loops over functions. -/
import Derived.Test.YtcibkmahibnjeaaFi
namespace Go.Ev
open Go Go.RowKit

/-- Behind all that was there lie these blocks; of what was there only these blocks have turned. -/
structure Lay (S : Nat → Prop) (w : World) (os : List Obj) (w' : World) : Prop where
  chg : Chg S w w'
  size : w.heap.size + os.length ≤ w'.heap.size
  at_ : ∀ j o, os[j]? = some o → w'.heap[w.heap.size + j]? = some o

section lay
variable {S : Nat → Prop} {w w' w'' : World} {os : List Obj}

theorem Lay.of (h : Locals w os w') (S : Nat → Prop) : Lay S w os w' := ⟨.of_bel h.bel S, h.size, h.at_⟩
theorem Lay.later (h : Lay S w os w') (hb : Bel w' w'') : Lay S w os w'' := ⟨h.chg.thenBel hb, Nat.le_trans h.size hb.size, fun j o hj => hb.at_ (h.at_ j o hj)⟩
/-- A change of the blocks named, which lay there ahead, and of none of these. -/
theorem Lay.call (h : Lay S w os w') (hS : ∀ k, S k → k < w.heap.size) (hc : Chg S w' w'') : Lay S w os w'' :=
  ⟨h.chg.trans hc fun _ _ s => s, Nat.le_trans h.size hc.size, fun j o hj => hc.at_ (h.at_ j o hj) fun hs => by have := hS _ hs; omega⟩
theorem Lay.set (h : Lay S w os w') {j : Nat} (hj : j < os.length) {k : Nat} (hk : k = w.heap.size + j) (o : Obj) : Lay S w (os.set j o) (setB w' k o) := by
  subst hk
  refine ⟨h.chg.trans ((setB_chg w' _ o).mono (T := fun k => w.heap.size ≤ k) fun k _ hk => by omega) fun k hk hs => by omega, by rw [setB_size, List.length_set]; exact h.size, fun i o' hi => ?_⟩
  by_cases e : i = j
  · subst e
    rw [List.getElem?_set_self hj] at hi
    injection hi with hi; subst hi
    exact setB_same (h.at_ i _ (List.getElem?_eq_getElem hj))
  · rw [List.getElem?_set_ne (fun x => e x.symm)] at hi
    rw [setB_other (by omega)]
    exact h.at_ i o' hi
theorem Lay.row (h : Lay S w os w') {j : Nat} {c : Array Value} {t : TypeId} {z : Nat × Nat} (hj : os[j]? = some (.cells c t z)) {k : Nat} (hk : k = w.heap.size + j) (d : Array Value) : Lay S w (os.set j (.cells d t z)) (w'.setRow k d) := by
  subst hk
  have hl := (List.getElem?_eq_some_iff.1 hj).1
  refine ⟨h.chg.trans ((setRow_chg _ d).mono (T := fun k => w.heap.size ≤ k) fun k _ hk => by omega) fun k hk hs => by omega, by rw [List.length_set]; exact Nat.le_trans h.size (setRow_chg _ d).size, fun i o' hi => ?_⟩
  by_cases e : i = j
  · subst e
    rw [List.getElem?_set_self hl] at hi
    injection hi with hi; subst hi
    exact setRow_heap w' _ c d t z (h.at_ i _ hj)
  · rw [List.getElem?_set_ne (fun x => e x.symm)] at hi
    rw [setRow_other w' _ _ d (by omega)]
    exact h.at_ i o' hi
theorem Lay.cell (h : Lay S w os w') {j : Nat} {v : Value} {t : TypeId} {z : Nat × Nat} (hj : os[j]? = some (.cells #[v] t z)) : w'.cell? ⟨w.heap.size + j, 0, none⟩ = some v := by
  obtain ⟨z0, z1⟩ := z
  exact cell_at (h.at_ j _ hj) rfl
/-- Blocks behind all that was there may turn. -/
theorem Chg.above (hc : Chg (fun k => w.heap.size ≤ k) w' w'') (n : Nat) (hn : n ≤ w.heap.size) : Chg (fun k => n ≤ k) w' w'' := hc.mono fun k _ hk => Nat.le_trans hn hk
theorem Locals.beyond {w w' w'' : World} {os : List Obj} {m : Nat} (h : Locals w os w') (hc : Chg (fun k => m ≤ k) w' w'') (hm : w.heap.size + os.length ≤ m) : Locals w os w'' := by
  have s1 := h.bel.size
  refine ⟨(h.bel.thenChg hc).bel fun k hk hs => by omega, Nat.le_trans h.size hc.size, fun j o hj => hc.at_ (h.at_ j o hj) fun hs => ?_⟩
  have := (List.getElem?_eq_some_iff.1 hj).1
  omega
end lay

section rounds
variable {P : Program}

/-- A loop over a function, as it is entered. -/
structure Entered (L : Loop) (fn : FuncId) (tmps : Array Value) (ps : Array Tmp) (as bd : Code) : Prop where
  state : L.state = .ready
  pending : L.pending = none
  fn : L.fn = fn
  tmps : L.tmps = tmps
  params : L.params = ps
  assign : L.assign = as
  body : L.body = bd

theorem enterW_lay {w : World} {fn : FuncId} {tmps : Array Value} {ps : Array Tmp} {ass bdy : Code} {w0 : World} {os : List Obj} (h : Locals w0 os w) (hs : w.heap.size = w0.heap.size + os.length) :
    ∃ L, Entered L fn tmps ps ass bdy ∧ Locals w0 (os ++ [.deferred (some [])] ++ [.loop L]) (enterW w fn tmps ps ass bdy) :=
  ⟨_, ⟨rfl, rfl, rfl, rfl, rfl, rfl, rfl⟩, (h.add hs (.deferred (some []))).add (by rw [World.size_alloc, hs, List.length_append]; rfl) (.loop _)⟩

theorem Entered.yield1 {w : World} {l : Nat} {L : Loop} {fn : FuncId} {ts : List Value} {p : Tmp} {as bd : Code} (h : w.heap[l]? = some (.loop L)) (hf : Entered L fn ts.toArray #[p] as bd) (x : Value) :
    Xcall P (.func (.yield l) #[] #[]) #[x] w = Rd P l fn (ts.set p x).toArray as bd w := by
  rw [Xcall_yield h (by rw [hf.params]; rfl), hf.fn, hf.assign, hf.body, hf.params, hf.tmps]
  congr 1
  simp
theorem Entered.yield2 {w : World} {l : Nat} {L : Loop} {fn : FuncId} {ts : List Value} {p q : Tmp} {as bd : Code} (h : w.heap[l]? = some (.loop L)) (hf : Entered L fn ts.toArray #[p, q] as bd) (x y : Value) :
    Xcall P (.func (.yield l) #[] #[]) #[x, y] w = Rd P l fn ((ts.set p x).set q y).toArray as bd w := by
  rw [Xcall_yield h (by rw [hf.params]; rfl), hf.fn, hf.assign, hf.body, hf.params, hf.tmps]
  congr 1
  simp
end rounds
end Go.Ev
