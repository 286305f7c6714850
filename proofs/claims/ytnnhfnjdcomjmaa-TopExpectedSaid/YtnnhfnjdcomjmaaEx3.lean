/- What holds of an expected flow; places and halves of a slice. -/
import Derived.Test.YtnnhfnjdcomjmaaEx2
namespace Go.Proofs.Ytnnhfnjdcomjmaa
open Go Go.Ev Go.RowKit
open Go.Proofs

def sameP (e x : Exp) : Bool := x.proto == e.proto && x.dst == e.dst && x.dstPort == e.dstPort
def masterP (m : Int) (x : Exp) : Bool := x.master == m
def dueP (now : Int) (x : Exp) : Bool := decide (x.deadline ≤ now)
def fitsP (t : Tup) (now : Int) (x : Exp) : Bool := (x.src == 0 || x.src == t.src) && x.proto == t.proto && x.dst == t.dst && x.dstPort == t.dstPort && decide (now < x.deadline)

/-- A function tells whether something holds. -/
def Holds (f : Value) (P : Exp → Bool) (w : World) : Prop := ∀ x w', Bel w w' → Brings (Xcall Try.prog f #[x.v] w') fun r => r.1 = .bool (P x) ∧ Bel w' r.2
theorem Holds.bel {f : Value} {P : Exp → Bool} {w w' : World} (h : Holds f P w) (hb : Bel w w') : Holds f P w' := fun x w2 h2 => h x w2 (hb.trans h2)

theorem h28 {w : World} {e : Exp} {q : Nat} (hq : CellsAt e.cs w q 0) : Holds (.func (.func 28) #[] #[.pointer (some ⟨q, 0, none⟩)]) (sameP e) w := by
  intro x w' hb
  refine e28 ?_
  unfold s28 sameP
  have A := x.new w'
  have hb1 : Bel w' (w'.alloc (.cells x.cs.toArray 25)) := (Bel.refl w').alloc _
  rw [x.box]
  simp only [go_sem]
  generalize w'.alloc (.cells x.cs.toArray 25) = w1 at A hb1
  have E := hq.bel (hb.trans hb1)
  simp only [Exp.b0 A, Exp.b0 E, go_sem]
  cases x.proto == e.proto <;> simp only [go_sem, Exp.b2 A, Exp.b2 E, Bool.false_and, Bool.true_and]
  · exact .ret ⟨rfl, hb1⟩
  cases x.dst == e.dst <;> simp only [go_sem, Exp.b4 A, Exp.b4 E, Bool.false_and, Bool.true_and]
  · exact .ret ⟨rfl, hb1⟩
  · exact .ret ⟨rfl, hb1⟩
theorem h30 {w : World} {e : Exp} {q : Nat} (hq : CellsAt e.cs w q 0) : Holds (.func (.func 30) #[] #[.pointer (some ⟨q, 0, none⟩)]) (masterP e.master) w := by
  intro x w' hb
  refine e30 ?_
  unfold s30 masterP
  have A := x.new w'
  have hb1 : Bel w' (w'.alloc (.cells x.cs.toArray 25)) := (Bel.refl w').alloc _
  rw [x.box]
  simp only [go_sem]
  generalize w'.alloc (.cells x.cs.toArray 25) = w1 at A hb1
  have E := hq.bel (hb.trans hb1)
  simp only [Exp.b7 A, Exp.b7 E, go_sem]
  exact .ret ⟨rfl, hb1⟩
theorem h40 {w : World} {m : Int} {q : Nat} (hq : w.cell? ⟨q, 0, none⟩ = some (.int .i64 m)) : Holds (.func (.func 40) #[] #[.pointer (some ⟨q, 0, none⟩)]) (masterP m) w := by
  intro x w' hb
  refine e40 ?_
  unfold s40 masterP
  have A := x.new w'
  have hb1 : Bel w' (w'.alloc (.cells x.cs.toArray 25)) := (Bel.refl w').alloc _
  rw [x.box]
  simp only [go_sem]
  generalize w'.alloc (.cells x.cs.toArray 25) = w1 at A hb1
  simp only [Exp.b7 A, Qload_cell one3 ((hb.trans hb1).cell_some hq), go_sem]
  exact .ret ⟨rfl, hb1⟩
theorem h41 {w : World} {m : Int} {q : Nat} (hq : w.cell? ⟨q, 0, none⟩ = some (.int .i64 m)) : Holds (.func (.func 41) #[] #[.pointer (some ⟨q, 0, none⟩)]) (dueP m) w := by
  intro x w' hb
  refine e41 ?_
  unfold s41 dueP
  have A := x.new w'
  have hb1 : Bel w' (w'.alloc (.cells x.cs.toArray 25)) := (Bel.refl w').alloc _
  rw [x.box]
  simp only [go_sem]
  generalize w'.alloc (.cells x.cs.toArray 25) = w1 at A hb1
  simp only [Exp.b8 A, Qload_cell one3 ((hb.trans hb1).cell_some hq), go_sem]
  exact .ret ⟨rfl, hb1⟩
theorem h49 {w : World} {t : Tup} {now : Int} {p q : Nat} (hp : CellsAt t.cs w p 0) (hq : w.cell? ⟨q, 0, none⟩ = some (.int .i64 now)) : Holds (.func (.func 49) #[] #[.pointer (some ⟨p, 0, none⟩), .pointer (some ⟨q, 0, none⟩)]) (fitsP t now) w := by
  intro x w' hb
  refine e49 ?_
  unfold s49 fitsP
  have A := x.new w'
  have hb1 : Bel w' (w'.alloc (.cells x.cs.toArray 25)) := (Bel.refl w').alloc _
  rw [x.box]
  simp only [go_sem]
  generalize w'.alloc (.cells x.cs.toArray 25) = w1 at A hb1
  have E := hp.bel (hb.trans hb1)
  have Q := (hb.trans hb1).cell_some hq
  simp only [Exp.b1 A, go_sem]
  cases x.src == 0 <;> simp only [go_sem, Exp.b1 A, Tup.b1 E, Exp.b0 A, Tup.b0 E, Bool.false_or, Bool.true_or, Bool.true_and]
  · cases x.src == t.src <;> simp only [go_sem, Exp.b0 A, Tup.b0 E, Bool.false_and, Bool.true_and]
    · exact .ret ⟨rfl, hb1⟩
    cases x.proto == t.proto <;> simp only [go_sem, Exp.b2 A, Tup.b2 E, Bool.false_and, Bool.true_and]
    · exact .ret ⟨rfl, hb1⟩
    cases x.dst == t.dst <;> simp only [go_sem, Exp.b4 A, Tup.b4 E, Bool.false_and, Bool.true_and]
    · exact .ret ⟨rfl, hb1⟩
    cases x.dstPort == t.dstPort <;> simp only [go_sem, Exp.b8 A, Qload_cell one3 Q, Bool.false_and, Bool.true_and]
    · exact .ret ⟨rfl, hb1⟩
    · exact .ret ⟨rfl, hb1⟩
  · cases x.proto == t.proto <;> simp only [go_sem, Exp.b2 A, Tup.b2 E, Bool.false_and, Bool.true_and]
    · exact .ret ⟨rfl, hb1⟩
    cases x.dst == t.dst <;> simp only [go_sem, Exp.b4 A, Tup.b4 E, Bool.false_and, Bool.true_and]
    · exact .ret ⟨rfl, hb1⟩
    cases x.dstPort == t.dstPort <;> simp only [go_sem, Exp.b8 A, Qload_cell one3 Q, Bool.false_and, Bool.true_and]
    · exact .ret ⟨rfl, hb1⟩
    · exact .ret ⟨rfl, hb1⟩

/-- The place of the first of which something holds; -1: there is none. -/
def idxM (P : Exp → Bool) (l : List Exp) : Int := match l.findIdx? P with | some i => i | none => -1

theorem idx_at {P : Exp → Bool} {l : List Exp} {i : Nat} {x : Exp} (hx : l[i]? = some x) (hp : P x = true) (hn : ∀ y ∈ l.take i, P y = false) : idxM P l = i := by
  obtain ⟨hi, he⟩ := List.getElem?_eq_some_iff.1 hx
  have : l.findIdx? P = some i := by
    rw [List.findIdx?_eq_some_iff_getElem]
    refine ⟨hi, by rw [he]; exact hp, fun j hj => ?_⟩
    have := hn l[j] (List.mem_take_iff_getElem.2 ⟨j, by omega, rfl⟩)
    simpa using this
  unfold idxM
  rw [this]
theorem idx_none {P : Exp → Bool} {l : List Exp} (hn : ∀ y ∈ l, P y = false) : idxM P l = -1 := by
  have : l.findIdx? P = none := by
    rw [List.findIdx?_eq_none_iff]
    exact fun x hx => hn x hx
  unfold idxM
  rw [this]

theorem k46 {s f : Value} {l : List Exp} {P : Exp → Bool} {w : World} (hv : View Exp.cs 9 w s l) (hf : Holds f P w) : Brings (Xcall Try.prog (Value.func (Fn.func 46) #[] #[]) #[s, f] w) (fun r => r.1 = .int .i64 (idxM P l) ∧ Bel w r.2) := by
  refine e46 ?_
  unfold s46
  simp only [go_sem, hv.len und32]
  have hsm := hv.small
  simp only [maxLen] at hsm
  refine Brings.loop (fun m xs w' => ∃ i : Nat, xs = [s, f, .int .i64 0, .int .i64 l.length, .int .i64 i] ∧ i ≤ l.length ∧ m = l.length - i ∧ Bel w w' ∧ ∀ y ∈ l.take i, P y = false) ?_ l.length _ _ ⟨0, rfl, by omega, by omega, Bel.refl _, by simp⟩
  rintro m xs w' ⟨i, rfl, hi, hm, hb, hne⟩
  simp only [s46B0, go_sem]
  refine .cond (fun hlt => ?_) (fun hlt => ?_)
  · have hlt : (i : Int) < l.length := by simpa using hlt
    obtain ⟨x, g, o, hx, _, hix, hc⟩ := getR (hv.bel hb) (n := i) (by omega) hlt
    simp only [Int.toNat_natCast] at hx
    simp only [hix, Exp.all hc, go_sem]
    refine (hf x w' hb).bind ?_
    rintro ⟨_, w2⟩ ⟨h1, b2⟩
    simp only at h1 b2
    subst h1
    refine .cond (fun ht => ?_) (fun hff => ?_)
    · exact .ret (.inr ⟨by simp, .ret ⟨by rw [idx_at hx ht hne], hb.trans b2⟩⟩)
    · exact .ret (.inl ⟨rfl, l.length - (i + 1), by omega, i + 1, by rw [wrap_i64 (by omega) (by omega)]; rfl, by omega, rfl, hb.trans b2, take_none hx hff hne⟩)
  · have hlt : ¬ (i : Int) < l.length := by simpa using hlt
    have : i = l.length := by omega
    subst this
    rw [List.take_length] at hne
    exact .ret (.inr ⟨by simp, .ret ⟨by rw [idx_none hne], hb⟩⟩)

theorem idx_any (P : Exp → Bool) (l : List Exp) : decide (0 ≤ idxM P l) = l.any P := by
  unfold idxM
  cases h : l.findIdx? P with
  | none =>
    rw [List.findIdx?_eq_none_iff] at h
    have : l.any P = false := by simpa using h
    rw [this]; decide
  | some i =>
    rw [List.findIdx?_eq_some_iff_getElem] at h
    obtain ⟨hi, hp, _⟩ := h
    have : l.any P = true := by simpa using ⟨_, List.getElem_mem hi, hp⟩
    rw [this]; simp

theorem k31 {s f : Value} {l : List Exp} {P : Exp → Bool} {w : World} (hv : View Exp.cs 9 w s l) (hf : Holds f P w) : Brings (Xcall Try.prog (Value.func (Fn.func 31) #[] #[]) #[s, f] w) (fun r => r.1 = .bool (l.any P) ∧ Bel w r.2) := by
  refine e31 ?_
  unfold s31
  refine (k46 hv hf).bind ?_
  rintro ⟨_, w2⟩ ⟨h1, b2⟩
  simp only at h1 b2
  subst h1
  simp only [go_sem, idx_any]
  exact .ret ⟨rfl, b2⟩

/-- A slice of one's own. -/
def Own (w : World) (v : Value) (l : List Exp) : Prop := w.ownsRow 0 25 9 v l.length (l.flatMap Exp.cs)
theorem Own.view {w : World} {v : Value} {l : List Exp} (h : Own w v l) : View Exp.cs 9 w v l := View.of_owns h (Exp.lens l)
theorem Own.chg {w w' : World} {v : Value} {l : List Exp} {S : Nat → Prop} (h : Own w v l) (hc : Chg S w w') (hs : ∀ k, v.ownBlock = some k → ¬ S k) : Own w' v l := hc.owns h hs
theorem Own.bel {w w' : World} {v : Value} {l : List Exp} (h : Own w v l) (hb : Bel w w') : Own w' v l := h.chg (.of_bel hb fun _ => False) fun _ _ f => f
theorem Own.lt {w : World} {v : Value} {l : List Exp} (h : Own w v l) {k : Nat} (hk : v.ownBlock = some k) : k < w.heap.size := (World.ownsRow.lt h k hk).2

/-- A slice that was laid since. -/
def Since (w : World) (v : Value) : Prop := ∀ k, v.ownBlock = some k → w.heap.size ≤ k

theorem own_nil (w : World) : Own w (.slice none 0 0) [] := World.ownsRow_nil w 0 25 9
theorem since_nil (w : World) : Since w (.slice none 0 0) := fun k h => by cases h

/-- Two slices, apart. -/
def Halves (w : World) (y n : List Exp) (r : Value × World) : Prop :=
  ∃ v1 v2, r.1 = .tuple #[v1, v2] ∧ Bel w r.2 ∧ Own r.2 v1 y ∧ Own r.2 v2 n ∧ Since w v1 ∧ Since w v2 ∧ ∀ k, v1.ownBlock = some k → v2.ownBlock ≠ some k

/-- One more at a slice's end. -/
theorem more {w : World} {v : Value} {l : List Exp} {x : Exp} (h : Own w v l) (hl : l.length < 1000000) :
    ∃ v' w', Xbi Try.prog .append #[32, 32] 32 #[v, .slice (some ⟨w.heap.size, 0, none⟩) 1 1] (w.alloc (.cells x.cs.toArray 25)) = some (v', w') ∧ Own w' v' (l ++ [x]) ∧ Chg (fun k => v.ownBlock = some k) w w' ∧ ∀ k, v'.ownBlock = some k → v.ownBlock = some k ∨ w.heap.size ≤ k := by
  have hb : Bel w (w.alloc (.cells x.cs.toArray 25)) := (Bel.refl w).alloc _
  obtain ⟨v', w', e, ho, hg, hk⟩ := app32 (h.bel hb) (litView x w) (by simp; omega)
  refine ⟨v', w', e, ho, hb.thenChg ((Chg.of_grown hg).mono fun k _ hk => hk.symm), fun k hk' => ?_⟩
  rcases hk k hk' with h1 | h1
  · exact .inl h1
  · simp at h1; exact .inr (by omega)

theorem k29 {s f : Value} {l : List Exp} {P : Exp → Bool} {w : World} (hv : View Exp.cs 9 w s l) (hf : Holds f P w) (hl : l.length < 1000) : Brings (Xcall Try.prog (Value.func (Fn.func 29) #[] #[]) #[s, f] w) (Halves w (l.filter P) (l.filter fun x => !P x)) := by
  refine e29 ?_
  unfold s29
  simp only [go_sem, hv.len und32]
  refine Brings.loop (fun m xs w' => ∃ (i : Nat) (v1 v2 : Value), xs = [f, v1, v2, s, .int .i64 l.length, .int .i64 i] ∧ i ≤ l.length ∧ m = l.length - i ∧ Bel w w' ∧ Own w' v1 ((l.take i).filter P) ∧ Own w' v2 ((l.take i).filter fun x => !P x) ∧ Since w v1 ∧ Since w v2 ∧ ∀ k, v1.ownBlock = some k → v2.ownBlock ≠ some k) ?_ l.length _ _
    ⟨0, .slice none 0 0, .slice none 0 0, rfl, by omega, by omega, Bel.refl _, own_nil w, own_nil w, since_nil w, since_nil w, fun k h => by cases h⟩
  rintro m xs w' ⟨i, v1, v2, rfl, hi, hm, hb, o1, o2, f1, f2, dis⟩
  simp only [s29B0, go_sem]
  refine .cond (fun hlt => ?_) (fun hlt => ?_)
  · have hlt : (i : Int) < l.length := by simpa using hlt
    obtain ⟨x, g, o, hx, _, hix, hc⟩ := getR (hv.bel hb) (n := i) (by omega) hlt
    simp only [Int.toNat_natCast] at hx
    have B := local_bel w' (.cells Exp.zero.cs.toArray 25) x.cs.toArray
    have A := local_at w' x.cs Exp.zero.cs 25
    simp only [hix, Exp.all hc, alloc25, put25, Exp.all A, go_sem]
    generalize (w'.alloc (.cells Exp.zero.cs.toArray 25)).setRow w'.heap.size x.cs.toArray = w2 at A B
    generalize w'.heap.size = q at A
    refine (hf x w2 (hb.trans B)).bind ?_
    rintro ⟨_, w3⟩ ⟨h1, b3⟩
    simp only at h1 b3
    subst h1
    have b' := B.trans b3
    have t1 : l.take (i + 1) = l.take i ++ [x] := by rw [List.take_add_one, hx]; rfl
    have len1 : ((l.take i).filter P).length ≤ l.length := Nat.le_trans (List.length_filter_le _ _) (by simp; omega)
    have len2 : ((l.take i).filter fun x => !P x).length ≤ l.length := Nat.le_trans (List.length_filter_le _ _) (by simp; omega)
    have s3 := (hb.trans b').size
    simp only [Exp.all (A.bel b3), lit32, go_sem]
    refine .cond (fun ht => ?_) (fun hff => ?_)
    · obtain ⟨v', w4, e4, o4, c4, k4⟩ := more (x := x) (o1.bel b') (by omega)
      simp only [e4, go_sem]
      refine .ret (.inl ⟨rfl, l.length - (i + 1), by omega, i + 1, v', v2, by rw [wrap_i64 (by omega) (by omega)]; rfl, by omega, rfl, ?_, ?_, ?_, ?_, f2, ?_⟩)
      · exact ((hb.trans b').thenChg c4).bel fun k hk h => by have := f1 k h; omega
      · rw [t1, List.filter_append, List.filter_cons_of_pos ht]; exact o4
      · rw [t1, List.filter_append, List.filter_cons_of_neg (by simp [ht])]
        simp only [List.filter_nil, List.append_nil]
        exact (o2.bel b').chg c4 fun k hk h => dis k h hk
      · intro k hk
        rcases k4 k hk with h | h
        · exact f1 k h
        · omega
      · intro k hk h2
        rcases k4 k hk with h | h
        · exact dis k h h2
        · have := (o2.bel b').lt h2; omega
    · obtain ⟨v', w4, e4, o4, c4, k4⟩ := more (x := x) (o2.bel b') (by omega)
      simp only [e4, go_sem]
      refine .ret (.inl ⟨rfl, l.length - (i + 1), by omega, i + 1, v1, v', by rw [wrap_i64 (by omega) (by omega)]; rfl, by omega, rfl, ?_, ?_, ?_, f1, ?_, ?_⟩)
      · exact ((hb.trans b').thenChg c4).bel fun k hk h => by have := f2 k h; omega
      · rw [t1, List.filter_append, List.filter_cons_of_neg (by simp [hff])]
        simp only [List.filter_nil, List.append_nil]
        exact (o1.bel b').chg c4 fun k hk h => dis k hk h
      · rw [t1, List.filter_append, List.filter_cons_of_pos (by simp [hff])]; exact o4
      · intro k hk
        rcases k4 k hk with h | h
        · exact f2 k h
        · omega
      · intro k hk h2
        rcases k4 k h2 with h | h
        · exact dis k hk h
        · have := (o1.bel b').lt hk; omega
  · have hlt : ¬ (i : Int) < l.length := by simpa using hlt
    have : i = l.length := by omega
    subst this
    rw [List.take_length] at o1 o2
    exact .ret (.inr ⟨by simp, .ret ⟨v1, v2, rfl, hb, o1, o2, f1, f2, dis⟩⟩)

end Go.Proofs.Ytnnhfnjdcomjmaa
