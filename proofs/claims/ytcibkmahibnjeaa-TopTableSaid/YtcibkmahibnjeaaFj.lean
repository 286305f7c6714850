/- Slices that were handed in: what they are made of. -/
import Derived.DataReads
import Derived.Test.YtcibkmahibnjeaaFf
namespace Go.Ev
open Go Go.RowKit

theorem list_of {α : Type} {R : Nat → α → Prop} : ∀ (n : Nat), (∀ i, i < n → ∃ x, R i x) → ∃ l : List α, l.length = n ∧ ∀ i x, l[i]? = some x → R i x
  | 0, _ => ⟨[], rfl, fun i x h => by simp at h⟩
  | n + 1, h => by
    obtain ⟨l, hl, hr⟩ := list_of n fun i hi => h i (by omega)
    obtain ⟨x, hx⟩ := h n (by omega)
    refine ⟨l ++ [x], by simp [hl], fun i y hy => ?_⟩
    by_cases hlt : i < l.length
    · rw [List.getElem?_append_left hlt] at hy
      exact hr i y hy
    · rw [List.getElem?_append_right (by omega)] at hy
      have : i = l.length := by
        have := (List.getElem?_eq_some_iff.1 hy).1
        simp at this; omega
      subst this
      simp at hy
      subst hy
      rw [hl]; exact hx

theorem spot_none {w : World} {a : Addr} {v : Value} (h : w.cell? a = some v) : a = ⟨a.block, a.off, none⟩ := by
  obtain ⟨b, o, s⟩ := a
  unfold World.cell? at h
  cases s with
  | none => rfl
  | some s =>
    simp only [Option.isSome_some, if_true] at h
    split at h <;> cases h

theorem add_at (g o n : Nat) : (⟨g, o, none⟩ : Addr).add n = ⟨g, o + n, none⟩ := by
  unfold Addr.add
  by_cases h : n = 0 <;> simp [h]

/-- A slice's value. -/
structure Sl where
  a : Option Addr
  n : Nat
  c : Nat
  deriving DecidableEq
def Sl.v (s : Sl) : Value := .slice s.a s.n s.c
theorem okc_slice {P : Program} {t e : TypeId} {w : World} {n : Nat} {c : Value} (ht : P.underlying t = some (.slice e)) (h : Okc P w n t [c]) : ∃ s : Sl, c = s.v := by
  cases n with
  | zero => exact h.elim
  | succ n =>
    unfold Okc at h
    rw [ht] at h
    rcases h with h | ⟨a, len, cap, h, _⟩
    · exact ⟨⟨none, 0, 0⟩, by simpa [Sl.v] using h⟩
    · exact ⟨⟨some a, len, cap⟩, by simpa [Sl.v] using h⟩

section
variable {α : Type} {f : α → List Value} {size : Nat} {P : Program} {t e : TypeId} {w : World} {v : Value}

theorem view_okc {n : Nat} {ok : α → Prop} (ht : P.underlying t = some (.slice e)) (hc : P.cellsOf e = size) (hp : 0 < size) (hv : v.cells.toList = [v])
    (ho : ∀ m cs, Okc P w m e cs → ∃ x : α, cs = f x ∧ ok x) (h : Okc P w n t v.cells.toList) : ∃ l : List α, View f size w v l ∧ ∀ x ∈ l, ok x := by
  cases n with
  | zero => exact h.elim
  | succ n =>
    unfold Okc at h
    rw [ht, hv] at h
    rcases h with h | ⟨a, len, cap, h, h1, h2, h3⟩
    · have : v = .slice none 0 0 := by simpa using h
      subst this
      exact ⟨[], View.nil, fun x hx => by simp at hx⟩
    · have : v = .slice (some a) len cap := by simpa using h
      subst this
      rw [hc] at h3
      obtain ⟨l, hl, hr⟩ := list_of (R := fun i (x : α) => w.cells? 0 (a.add (i * size)) size = some (f x) ∧ ok x) len fun i hi => by
        obtain ⟨es, h4, h5⟩ := h3 i hi
        obtain ⟨x, rfl, hx⟩ := ho _ _ h5
        exact ⟨x, h4, hx⟩
      refine ⟨l, ⟨some a, cap, by rw [hl], by omega, h2, (fun h => by cases h), fun k y hk => ?_⟩, fun x hx => ?_⟩
      · obtain ⟨hcs, hoky⟩ := hr k y hk
        obtain ⟨_, hlen, hcell⟩ := World.cells?_some hcs
        have h0 := hcell 0 hp
        rw [List.getElem?_eq_getElem (by omega)] at h0
        -- the first cell of the first element says that the address is a plain one
        have hk0 : 0 < l.length := by have := (List.getElem?_eq_some_iff.1 hk).1; omega
        obtain ⟨hcs0, _⟩ := hr 0 l[0] (by simp [hk0])
        obtain ⟨_, hlen0, hcell0⟩ := World.cells?_some hcs0
        have h00 := hcell0 0 hp
        rw [List.getElem?_eq_getElem (by omega)] at h00
        rw [Nat.zero_mul, show (a.add 0).add 0 = a from by simp [Addr.add]] at h00
        have ha := spot_none h00
        obtain ⟨g, o, s⟩ := a
        simp only [Addr.mk.injEq, true_and] at ha
        subst ha
        refine ⟨g, o, rfl, fun j u hj => ?_⟩
        have hjl := (List.getElem?_eq_some_iff.1 hj).1
        have := hcell j (by omega)
        rw [hj, add_at, add_at] at this
        exact this
      · obtain ⟨i, hi, e⟩ := List.mem_iff_getElem.1 hx
        exact (hr i x (by rw [List.getElem?_eq_getElem hi, e])).2

/-- A slice of integers. -/
theorem view_int {n : Nat} {k : IntKind} (ht : P.underlying t = some (.slice e)) (he : P.underlying e = some (.int k)) (hc : P.cellsOf e = 1) (hv : v.cells.toList = [v]) (h : Okc P w n t v.cells.toList) :
    ∃ l : List Int, View (fun m => [.int k m]) 1 w v l ∧ ∀ m ∈ l, (Lit.int k m).wf = true :=
  view_okc ht hc (by decide) hv (fun m cs h => by
    cases m with
    | zero => exact h.elim
    | succ m =>
      unfold Okc at h
      rw [he] at h
      exact h) h
end

section cuts
variable {α : Type} {f : α → List Value} {size : Nat} {P : Program} {t e : TypeId} {w : World} {v : Value} {l : List α}
theorem View.sliced_ {x : Option Addr} {n cap : Nat} {lo hi : Nat} (h : View f size w (.slice x n cap) l) (h1 : lo ≤ hi) (h2 : hi ≤ l.length) :
    View f size w (sliced x lo hi cap size) ((l.take hi).drop lo) ∧ ∀ k, (sliced x lo hi cap size).ownBlock = some k → (Value.slice x n cap).ownBlock = some k := by
  obtain ⟨x', cap', e, h3, h4, h5, h6⟩ := h
  injection e with e1 e2 e3
  subst e1 e2 e3
  refine ⟨?_, ?_⟩
  · have hlen : ((l.take hi).drop lo).length = hi - lo := by simp; omega
    unfold sliced
    rw [← hlen]
    refine ⟨_, _, rfl, by omega, by omega, ?_, fun k y hk => ?_⟩
    · intro hn
      by_cases hc : cap = lo
      · rw [if_pos hc] at hn; omega
      · rw [if_neg hc] at hn
        rw [Option.map_eq_none_iff] at hn
        have := h5 hn; omega
    · rw [List.getElem?_drop, List.getElem?_take] at hk
      split at hk
      · obtain ⟨g, o, rfl, hc⟩ := h6 _ y hk
        have hlt := (List.getElem?_eq_some_iff.1 hk).1
        refine ⟨g, o + lo * size, ?_, ?_⟩
        · rw [if_neg (by omega)]
          simp only [Option.map_some, Option.some.injEq]
          exact add_at _ _ _
        · rw [Nat.add_mul] at hc
          rw [Nat.add_assoc]; exact hc
      · cases hk
  · intro k hk
    unfold sliced at hk
    split at hk
    · cases x <;> exact hk
    · cases x with
      | none => cases hk
      | some a =>
        simp only [Option.map_some, Value.ownBlock, Option.some.injEq] at hk ⊢
        rw [← hk]
        unfold Addr.add
        split <;> rfl
/-- A part of it, from its begin, or to its end. -/
theorem View.cutHi (h : View f size w v l) {i : TypeInfo} (ht : P.underlying t = some (.slice e)) (hi : P.info? e = some i) (hs : i.size = size) {n : Int} (h0 : 0 ≤ n) (h2 : n ≤ l.length) (w' : World) :
    ∃ v', Qslice P t v none (some (.int .i64 n)) none w' = some v' ∧ View f size w v' (l.take n.toNat) ∧ (∀ k, v'.ownBlock = some k → v.ownBlock = some k) := by
  have hel : P.elem t = e := by simp [Program.elem, ht]
  have ht' : P.underlying t = some (.slice (P.elem t)) := by rw [hel]; exact ht
  have hv := h
  obtain ⟨x, cap, rfl, h3, h4, h5, h6⟩ := h
  have := hv.sliced_ (lo := 0) (hi := n.toNat) (by omega) (by omega)
  rw [List.drop_zero] at this
  refine ⟨_, ?_, this⟩
  unfold Qslice qv
  rw [run_sliceAt_slice _ _ _ _ _ _ ht', run_slice_h _ _ _ _ _ ht' _ _ h0 (by omega), hel, run_size hi, hs]
  rfl
theorem View.cutLo (h : View f size w v l) {i : TypeInfo} (ht : P.underlying t = some (.slice e)) (hi : P.info? e = some i) (hs : i.size = size) {n : Int} (h0 : 0 ≤ n) (h2 : n ≤ l.length) (w' : World) :
    ∃ v', Qslice P t v (some (.int .i64 n)) none none w' = some v' ∧ View f size w v' (l.drop n.toNat) ∧ (∀ k, v'.ownBlock = some k → v.ownBlock = some k) := by
  have hel : P.elem t = e := by simp [Program.elem, ht]
  have ht' : P.underlying t = some (.slice (P.elem t)) := by rw [hel]; exact ht
  have hv := h
  obtain ⟨x, cap, rfl, h3, h4, h5, h6⟩ := h
  have := hv.sliced_ (lo := n.toNat) (hi := l.length) (by omega) (by omega)
  rw [List.take_length] at this
  refine ⟨_, ?_, this⟩
  unfold Qslice qv
  rw [run_sliceAt_slice _ _ _ _ _ _ ht', run_slice_l _ _ _ _ _ ht' _ _ h0 h2, hel, run_size hi, hs]
  rfl
end cuts

/-- A law's walk: it returns true, and nothing that was there has turned. -/
theorem law_of {P : Program} {f : FuncId} {args : Array Value} {w : World} {o : Option (Value × World)} (h : Brings o fun r => r.1 = .bool true ∧ Bel w r.2) (hc : ∀ r, o = some r → C P f args w = some r) :
    Calls P f args w fun e w' => e = .returned (.bool true) ∧ Below w.heap.size w w' := by
  obtain ⟨⟨v, w'⟩, ho, hv, hb⟩ := h
  simp only at hv hb
  subst hv
  refine (C_sound (hc _ ho)).mono fun e w2 ⟨h1, h2⟩ => ?_
  subst h2
  exact ⟨h1, hb⟩

/-- A shift to the right. -/
theorem shr_nat (n k : Nat) : ((n : Nat) : Int).fdiv (2 ^ k) = ((n / 2 ^ k : Nat) : Int) := by
  have : (2 : Int) ^ k = ((2 ^ k : Nat) : Int) := by simp
  rw [this, Int.natCast_ediv, Int.fdiv_eq_ediv_of_nonneg _ (Int.natCast_nonneg _)]
end Go.Ev
