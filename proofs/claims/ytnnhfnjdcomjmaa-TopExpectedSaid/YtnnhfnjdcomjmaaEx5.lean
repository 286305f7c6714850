/- New, List, Fork; Peek, of both. -/
import Derived.Test.YtnnhfnjdcomjmaaEx4
namespace Go.Proofs.Ytnnhfnjdcomjmaa
open Go Go.Ev Go.RowKit
open Go.Proofs

theorem build58 (x : Option Addr) (n c : Nat) (w : World) : Qbuild Try.prog 58 #[(0, .slice x n c)] w = some (.agg #[.slice x n c]) := by kernel_rfl
theorem build69 (x : Option Addr) (n c : Nat) (w : World) : Qbuild Try.prog 69 #[(0, .slice x n c)] w = some (.agg #[.slice x n c]) := by kernel_rfl
theorem build58n (w : World) : Qbuild Try.prog 58 #[] w = some (.agg #[.slice none 0 0]) := by kernel_rfl
theorem build69n (w : World) : Qbuild Try.prog 69 #[] w = some (.agg #[.slice none 0 0]) := by kernel_rfl
theorem fresh0 (w : World) : Fresh w [] (.slice none 0 0, w) := ⟨Bel.refl _, World.ownsRow_nil w 0 25 9, fun k hk => by cases hk⟩

/-- A new book of a slice. -/
theorem newBk {w : World} {l : List Exp} {r : Value × World} (hf : Fresh w l r) (ho : ∀ x ∈ l, x.ok) (hm : l.length ≤ 32) (tt : TypeId) :
    Bk tt (r.2.alloc (.cells #[r.1] tt)) r.2.heap.size r.1 l := by
  have b : Bel r.2 (r.2.alloc (.cells #[r.1] tt)) := (Bel.refl _).alloc _
  exact ⟨(MapKept.heap_alloc r.2 _).1, (Chg.of_bel b fun _ => False).owns hf.2.1 fun _ _ f => f, fun e => by have := (hf.2.1.lt _ e).2; omega, ho, hm⟩

def Newly (tt : TypeId) (w : World) (l : List Exp) (r : Value × World) : Prop :=
  ∃ b sm, r.1 = .pointer (some ⟨b, 0, none⟩) ∧ Bel w r.2 ∧ Bk tt r.2 b sm l ∧ ∀ k, Foot b sm k → w.heap.size ≤ k

theorem newly {tt : TypeId} {w w' : World} {l : List Exp} {v : Value} (hf : Fresh w l (v, w')) (ho : ∀ x ∈ l, x.ok) (hm : l.length ≤ 32) : Newly tt w l (.pointer (some ⟨w'.heap.size, 0, none⟩), w'.alloc (.cells #[v] tt)) := by
  refine ⟨w'.heap.size, v, rfl, hf.1.alloc _, newBk hf ho hm tt, ?_⟩
  rintro k (rfl | hk)
  · exact hf.1.size
  · exact hf.2.2 k hk

theorem k12 {w : World} : Brings (Xcall Try.prog (Value.func (Fn.func 12) #[] #[]) #[] w) (Newly 58 w []) := by
  refine e12 ?_
  unfold s12
  simp only [build58n, go_sem]
  exact .ret (newly (fresh0 w) (by simp) (by simp))
theorem k34 {w : World} : Brings (Xcall Try.prog (Value.func (Fn.func 34) #[] #[]) #[] w) (Newly 69 w []) := by
  refine e34 ?_
  unfold s34
  simp only [build69n, go_sem]
  exact .ret (newly (fresh0 w) (by simp) (by simp))

theorem k17 {w : World} {a : Nat} {sl : Value} {l : List Exp} (h : Bk 58 w a sl l) : Brings (Xcall Try.prog (Value.func (Fn.func 17) #[] #[]) #[.pointer (some ⟨a, 0, none⟩)] w) (Fresh w l) := by
  refine e17 ?_
  unfold s17
  have hm := h.most
  simp only [go_sem, Qb_eqlP (P := Try.prog) (t := 26) (e := 58) ptr26, Option.isNone_some, h.ptr (Bel.refl _)]
  refine (k33 h.view (by omega)).bind ?_
  rintro ⟨v, w'⟩ hf
  exact .ret hf
theorem k36 {w : World} {a : Nat} {sl : Value} {l : List Exp} (h : Bk 69 w a sl l) : Brings (Xcall Try.prog (Value.func (Fn.func 36) #[] #[]) #[.pointer (some ⟨a, 0, none⟩)] w) (Fresh w l) := by
  refine e36 ?_
  unfold s36
  have hm := h.most
  simp only [go_sem, Qb_eqlP (P := Try.prog) (t := 40) (e := 69) ptr40, Option.isNone_some, lit0, h.ptr ((Bel.refl w).alloc _)]
  obtain ⟨v', w', e, hf⟩ := copy32 h.view (by omega)
  rw [e]
  simp only [go_sem]
  exact .ret hf
theorem k25 {w : World} {a : Nat} {sl : Value} {l : List Exp} (h : Bk 58 w a sl l) : Brings (Xcall Try.prog (Value.func (Fn.func 25) #[] #[]) #[.pointer (some ⟨a, 0, none⟩)] w) (Newly 58 w l) := by
  refine e25 ?_
  unfold s25
  have hm := h.most
  simp only [go_sem, Qb_eqlP (P := Try.prog) (t := 26) (e := 58) ptr26, Option.isNone_some, h.ptr (Bel.refl _)]
  refine (k33 h.view (by omega)).bind ?_
  rintro ⟨v, w'⟩ hf
  simp only
  obtain ⟨x, n, c, rfl⟩ := owns_slice hf.2.1
  simp only [build58, go_sem]
  exact .ret (newly hf h.oks h.most)
theorem k26 {w : World} {a : Nat} {sl : Value} {l : List Exp} (h : Bk 69 w a sl l) : Brings (Xcall Try.prog (Value.func (Fn.func 26) #[] #[]) #[.pointer (some ⟨a, 0, none⟩)] w) (Newly 69 w l) := by
  refine e26 ?_
  unfold s26
  have hm := h.most
  simp only [go_sem, Qb_eqlP (P := Try.prog) (t := 40) (e := 69) ptr40, Option.isNone_some, lit0, h.ptr ((Bel.refl w).alloc _)]
  obtain ⟨v', w', e, hf⟩ := copy32 h.view (by omega)
  rw [e]
  obtain ⟨x, n, c, rfl⟩ := owns_slice hf.2.1
  simp only [build69, go_sem]
  exact .ret (newly hf h.oks h.most)

/-! ## Peek -/

theorem idx_cases (P : Exp → Bool) (l : List Exp) : (∃ (i : Nat) (x : Exp), l.findIdx? P = some i ∧ l[i]? = some x ∧ i < l.length ∧ idxM P l = i) ∨ (l.findIdx? P = none ∧ idxM P l = -1) := by
  unfold idxM
  cases h : l.findIdx? P with
  | none => exact .inr ⟨rfl, rfl⟩
  | some i =>
    have h' := h
    rw [List.findIdx?_eq_some_iff_getElem] at h'
    obtain ⟨hi, hp, _⟩ := h'
    exact .inl ⟨i, l[i], rfl, by simp [hi], hi, rfl⟩

def matchM (t : Tup) (now : Int) (l : List Exp) : (Exp × Bool) × List Exp :=
  match l.findIdx? (fitsP t now) with
  | some i => ((l.getD i Exp.zero, true), l.eraseIdx i)
  | none => ((Exp.zero, false), l)
def peekM (t : Tup) (now : Int) (l : List Exp) : Exp × Bool := (matchM t now l).1

theorem match_some {t : Tup} {now : Int} {l : List Exp} {i : Nat} {x : Exp} (h : l.findIdx? (fitsP t now) = some i) (hx : l[i]? = some x) : matchM t now l = ((x, true), l.eraseIdx i) := by
  unfold matchM
  rw [h]
  simp [List.getD, hx]
theorem match_none {t : Tup} {now : Int} {l : List Exp} (h : l.findIdx? (fitsP t now) = none) : matchM t now l = ((Exp.zero, false), l) := by
  unfold matchM
  rw [h]

/-- One and whether there is one. -/
def Told (w : World) (t : Exp × Bool) (r : Value × World) : Prop := r.1 = .tuple #[t.1.v, .bool t.2] ∧ Bel w r.2

theorem k37 {w : World} {a : Nat} {sl : Value} {l : List Exp} {t : Tup} {now : Int} (h : Bk 58 w a sl l) : Brings (Xcall Try.prog (Value.func (Fn.func 37) #[] #[]) #[.pointer (some ⟨a, 0, none⟩), t.v, .int .i64 now] w)
    (fun r => r.1 = .int .i64 (idxM (fitsP t now) l) ∧ Bel w r.2) := by
  refine e37 ?_
  unfold s37
  have A := t.new w
  have hb : Bel w (w.alloc (.cells t.cs.toArray 37)) := (Bel.refl w).alloc _
  rw [t.box]
  simp only [go_sem, Qb_eqlP (P := Try.prog) (t := 26) (e := 58) ptr26, Option.isNone_some]
  generalize w.alloc (.cells t.cs.toArray 37) = w1 at A hb
  generalize w.heap.size = q at A
  have b1 : Bel w1 (w1.alloc (.cells #[.int .i64 now] 3)) := (Bel.refl w1).alloc _
  have N : (w1.alloc (.cells #[.int .i64 now] 3)).cell? ⟨w1.heap.size, 0, none⟩ = some (.int .i64 now) := cell_at (MapKept.heap_alloc w1 _).1 rfl
  have A := A.bel b1
  have hb := hb.trans b1
  clear b1
  generalize w1.alloc (.cells #[.int .i64 now] 3) = w2 at A N hb
  generalize w1.heap.size = p at N
  have h2 := h.bel hb
  simp only [h2.ptr (Bel.refl _), go_sem]
  refine (k46 h2.view (h49 A N)).bind ?_
  rintro ⟨_, w3⟩ ⟨e1, b3⟩
  simp only at e1 b3
  subst e1
  exact .ret ⟨rfl, hb.trans b3⟩

theorem build25n (w : World) : Qbuild Try.prog 25 #[] w = some Exp.zero.v := by kernel_rfl

theorem k20 {w : World} {a : Nat} {sl : Value} {l : List Exp} {t : Tup} {now : Int} (h : Bk 58 w a sl l) : Brings (Xcall Try.prog (Value.func (Fn.func 20) #[] #[]) #[.pointer (some ⟨a, 0, none⟩), t.v, .int .i64 now] w) (Told w (peekM t now l)) := by
  refine e20 ?_
  unfold s20
  rw [t.box]
  have V0 := Locals.nil w
  have V1 := V0.add rfl (.cells t.cs.toArray 37)
  have V2 := V1.add (by simp) (.cells Exp.zero.cs.toArray 25)
  simp only [go_sem, alloc25, World.size_alloc]
  generalize (w.alloc (.cells t.cs.toArray 37)).alloc (.cells Exp.zero.cs.toArray 25) = w2 at V2
  have T : CellsAt t.cs w2 w.heap.size 0 := CellsAt.of (V2.at_ 0 _ rfl)
  simp only [Tup.all T, go_sem]
  refine (k37 (h.bel V2.bel)).bind ?_
  rintro ⟨_, w3⟩ ⟨e1, b3⟩
  simp only at e1 b3
  subst e1
  have V3 := V2.later b3
  have h3 := h.bel V3.bel
  have hz : w3.heap[w.heap.size + 1]? = some (.cells Exp.zero.cs.toArray 25) := V3.at_ 1 _ rfl
  unfold peekM
  rcases idx_cases (fitsP t now) l with ⟨i, x, hi, hx, hlt, e⟩ | ⟨hi, e⟩
  · rw [match_some hi hx, e]
    have : decide ((0 : Int) ≤ (i : Int)) = true := by simp
    simp only [this, go_sem]
    obtain ⟨y, g, o, hy, _, hix, hc⟩ := getR h3.view (n := i) (by omega) (by omega)
    simp only [Int.toNat_natCast] at hy
    obtain rfl : y = x := by rw [hx] at hy; injection hy with hy; exact hy.symm
    simp only [h3.ptr (Bel.refl _), hix, Exp.all hc, store25 hz rfl, go_sem, Exp.all (CellsAt.of (setRow_heap _ _ _ _ _ _ hz))]
    exact .ret ⟨rfl, (V3.row (j := 1) rfl rfl _).bel⟩
  · rw [match_none hi, e]
    have : decide ((0 : Int) ≤ -1) = false := by decide
    simp only [this, go_sem, build25n, store25 hz rfl, Exp.all (CellsAt.of (setRow_heap _ _ _ _ _ _ hz))]
    exact .ret ⟨rfl, (V3.row (j := 1) rfl rfl _).bel⟩

theorem k48 {w : World} {a : Nat} {sl : Value} {l : List Exp} {t : Tup} {now : Int} (h : Bk 69 w a sl l) : Brings (Xcall Try.prog (Value.func (Fn.func 48) #[] #[]) #[.pointer (some ⟨a, 0, none⟩), t.v, .int .i64 now] w)
    (fun r => r.1 = .int .i64 (idxM (fitsP t now) l) ∧ Bel w r.2) := by
  refine e48 ?_
  unfold s48
  have A := t.new w
  have hb : Bel w (w.alloc (.cells t.cs.toArray 37)) := (Bel.refl w).alloc _
  rw [t.box]
  simp only [go_sem]
  generalize w.alloc (.cells t.cs.toArray 37) = w1 at A hb
  generalize w.heap.size = q at A
  have h1 := h.bel hb
  have hm := h.most
  refine Brings.loop (fun m xs w' => ∃ i : Nat, xs = [.pointer (some ⟨a, 0, none⟩), .int .i64 now, .pointer (some ⟨q, 0, none⟩), .int .i64 0, .int .i64 i] ∧ i ≤ l.length ∧ m = l.length - i ∧ Bel w1 w' ∧ ∀ y ∈ l.take i, fitsP t now y = false) ?_ l.length _ _ ⟨0, rfl, by omega, by omega, Bel.refl _, by simp⟩
  rintro m xs w' ⟨i, rfl, hi, hm', B', hne⟩
  have h' := h1.bel B'
  simp only [s48B0, go_sem, Qb_neqP (P := Try.prog) (t := 40) (e := 69) ptr40, Option.isSome_some, h'.ptr (Bel.refl _), h'.view.len und32]
  refine .cond (fun hlt => ?_) (fun hlt => ?_)
  · have hlt : (i : Int) < l.length := by simpa using hlt
    obtain ⟨x, g, o, hx, _, hix, hc⟩ := getR h'.view (n := i) (by omega) hlt
    simp only [Int.toNat_natCast] at hx
    have B := local_bel w' (.cells Exp.zero.cs.toArray 25) x.cs.toArray
    have X := local_at w' x.cs Exp.zero.cs 25
    simp only [hix, Exp.all hc, alloc25, put25, go_sem]
    generalize (w'.alloc (.cells Exp.zero.cs.toArray 25)).setRow w'.heap.size x.cs.toArray = w2 at X B
    generalize w'.heap.size = qx at X
    have E := A.bel (B'.trans B)
    refine (show Brings _ (fun r : Exit × List Value × World => (fitsP t now x = true ∧ r = (.ret, [.pointer (some ⟨a, 0, none⟩), .int .i64 now, .pointer (some ⟨q, 0, none⟩), .int .i64 i, .int .i64 i], w2)) ∨
        (fitsP t now x = false ∧ r = (.normal, [.pointer (some ⟨a, 0, none⟩), .int .i64 now, .pointer (some ⟨q, 0, none⟩), .int .i64 0, .int .i64 ((i + 1 : Nat) : Int)], w2))) from ?_).mono ?_
    · have hot : fitsP t now x = (x.proto == t.proto && (x.dst == t.dst && (x.dstPort == t.dstPort && ((x.src == 0 || x.src == t.src) && decide (now < x.deadline))))) := by
        unfold fitsP
        cases x.proto == t.proto <;> cases x.dst == t.dst <;> cases x.dstPort == t.dstPort <;> cases (x.src == 0 || x.src == t.src) <;> simp
      rw [wrap_i64 (by omega) (by omega), show (i : Int) + 1 = ((i + 1 : Nat) : Int) from rfl]
      rw [hot]
      simp only [Exp.b0 X, Tup.b0 E, go_sem]
      cases x.proto == t.proto <;> simp only [go_sem, Exp.b2 X, Tup.b2 E, Bool.false_and, Bool.true_and]
      · exact .ret (.inr ⟨by trivial, rfl⟩)
      cases x.dst == t.dst <;> simp only [go_sem, Exp.b4 X, Tup.b4 E, Bool.false_and, Bool.true_and]
      · exact .ret (.inr ⟨by trivial, rfl⟩)
      cases x.dstPort == t.dstPort <;> simp only [go_sem, Exp.b1 X, Tup.b1 E, Bool.false_and, Bool.true_and]
      · exact .ret (.inr ⟨by trivial, rfl⟩)
      cases x.src == 0 <;> simp only [go_sem, Exp.b1 X, Tup.b1 E, Exp.b8 X, Bool.false_or, Bool.true_or, Bool.true_and]
      · cases x.src == t.src <;> simp only [go_sem, Exp.b8 X, Bool.false_and, Bool.true_and]
        · exact .ret (.inr ⟨by trivial, rfl⟩)
        exact .cond (fun ht => .ret (.inl ⟨ht, rfl⟩)) (fun hf => .ret (.inr ⟨hf, rfl⟩))
      · exact .cond (fun ht => .ret (.inl ⟨ht, rfl⟩)) (fun hf => .ret (.inr ⟨hf, rfl⟩))
    · rintro _ (⟨hs, rfl⟩ | ⟨hs, rfl⟩)
      · exact .inr ⟨by simp, .ret ⟨by rw [idx_at hx hs hne], (hb.trans B').trans B⟩⟩
      · exact .inl ⟨rfl, l.length - (i + 1), by omega, i + 1, rfl, by omega, rfl, B'.trans B, take_none hx hs hne⟩
  · have hlt : ¬ (i : Int) < l.length := by simpa using hlt
    have : i = l.length := by omega
    subst this
    rw [List.take_length] at hne
    exact .ret (.inr ⟨by simp, .ret ⟨by rw [idx_none hne], hb.trans B'⟩⟩)

theorem k35 {w : World} {a : Nat} {sl : Value} {l : List Exp} {t : Tup} {now : Int} (h : Bk 69 w a sl l) : Brings (Xcall Try.prog (Value.func (Fn.func 35) #[] #[]) #[.pointer (some ⟨a, 0, none⟩), t.v, .int .i64 now] w) (Told w (peekM t now l)) := by
  refine e35 ?_
  unfold s35
  rw [t.box]
  have V0 := Locals.nil w
  have V1 := V0.add rfl (.cells t.cs.toArray 37)
  have V2 := V1.add (by simp) (.cells Exp.zero.cs.toArray 25)
  simp only [go_sem, alloc25, World.size_alloc]
  generalize (w.alloc (.cells t.cs.toArray 37)).alloc (.cells Exp.zero.cs.toArray 25) = w2 at V2
  have T : CellsAt t.cs w2 w.heap.size 0 := CellsAt.of (V2.at_ 0 _ rfl)
  simp only [Tup.all T, go_sem]
  refine (k48 (h.bel V2.bel)).bind ?_
  rintro ⟨_, w3⟩ ⟨e1, b3⟩
  simp only at e1 b3
  subst e1
  have V3 := V2.later b3
  have h3 := h.bel V3.bel
  have hz : w3.heap[w.heap.size + 1]? = some (.cells Exp.zero.cs.toArray 25) := V3.at_ 1 _ rfl
  unfold peekM
  rcases idx_cases (fitsP t now) l with ⟨i, x, hi, hx, hlt, e⟩ | ⟨hi, e⟩
  · rw [match_some hi hx, e]
    have : decide ((i : Int) < 0) = false := by simp
    simp only [this, go_sem]
    obtain ⟨y, g, o, hy, _, hix, hc⟩ := getR h3.view (n := i) (by omega) (by omega)
    simp only [Int.toNat_natCast] at hy
    obtain rfl : y = x := by rw [hx] at hy; injection hy with hy; exact hy.symm
    simp only [h3.ptr (Bel.refl _), hix, Exp.all hc, store25 hz rfl, go_sem, Exp.all (CellsAt.of (setRow_heap _ _ _ _ _ _ hz))]
    exact .ret ⟨rfl, (V3.row (j := 1) rfl rfl _).bel⟩
  · rw [match_none hi, e]
    have : decide ((-1 : Int) < 0) = true := by decide
    simp only [this, go_sem, build25n, store25 hz rfl, Exp.all (CellsAt.of (setRow_heap _ _ _ _ _ _ hz))]
    exact .ret ⟨rfl, (V3.row (j := 1) rfl rfl _).bel⟩

end Go.Proofs.Ytnnhfnjdcomjmaa
