/- Add, of both. -/
import Derived.Test.YtnnhfnjdcomjmaaEx3
namespace Go.Proofs.Ytnnhfnjdcomjmaa
open Go Go.Ev Go.RowKit
open Go.Proofs

def ownM (e : Exp) (l : List Exp) : Nat := (l.filter (masterP e.master)).length
/-- What Add does. -/
def addM (l : List Exp) (e : Exp) : Int × List Exp :=
  if rightM e = false then (2, l) else if l.any (sameP e) = true then (10, l) else if 32 ≤ l.length ∨ 4 ≤ ownM e l then (9, l) else (0, l ++ [e])

theorem did_same {tt : TypeId} {w w' : World} {a : Nat} {sl v : Value} {l : List Exp} (h : Bk tt w a sl l) (hb : Bel w w') : Did tt w a sl v l (v, w') :=
  ⟨rfl, .of_bel hb _, sl, h.bel hb, fun _ hk => .inl hk⟩

/-- The end of both Adds. -/
theorem addEnd {tt : TypeId} {w : World} {a : Nat} {sl : Value} {l : List Exp} {x : Exp} (h : Bk tt w a sl l) (hx : x.ok) (hm : l.length < 32) :
    ∃ v' w1 w2, Xbi Try.prog .append #[32, 32] 32 #[sl, .slice (some ⟨w.heap.size, 0, none⟩) 1 1] (w.alloc (.cells x.cs.toArray 25)) = some (v', w1) ∧ Xstore Try.prog 32 (.pointer (some ⟨a, 0, none⟩)) v' w1 = some (undef, w2) ∧
      Chg (Foot a sl) w w2 ∧ Bk tt w2 a v' (l ++ [x]) ∧ ∀ k, Foot a v' k → Foot a sl k ∨ w.heap.size ≤ k := by
  obtain ⟨v', w1, e1, o1, c1, k1⟩ := more (x := x) h.owns (by omega)
  obtain ⟨e2, c2, b2, f2⟩ := h.put (c1.mono fun k _ hk => .inr hk) (c1.at_ h.var fun e => h.apart e) o1 k1 (fun y hy => by
    rcases List.mem_append.1 hy with hy | hy
    · exact h.oks y hy
    · simp at hy; subst hy; exact hx) (by simp; omega)
  exact ⟨v', w1, _, e1, e2, c2, b2, f2⟩

theorem ptr26 : Try.prog.underlying 26 = some (.pointer 58) := by kernel_rfl
theorem ptr40 : Try.prog.underlying 40 = some (.pointer 69) := by kernel_rfl

theorem k13 {w : World} {a : Nat} {sl : Value} {l : List Exp} {x : Exp} (h : Bk 58 w a sl l) (hx : x.ok) :
    Brings (Xcall Try.prog (Value.func (Fn.func 13) #[] #[]) #[.pointer (some ⟨a, 0, none⟩), x.v] w) (Did 58 w a sl (.int .i64 (addM l x).1) (addM l x).2) := by
  refine e13 ?_
  unfold s13
  have A := x.new w
  have hb : Bel w (w.alloc (.cells x.cs.toArray 25)) := (Bel.refl w).alloc _
  rw [x.box]
  simp only [go_sem, Qb_eqlP (P := Try.prog) (t := 26) (e := 58) ptr26, Option.isNone_some]
  generalize w.alloc (.cells x.cs.toArray 25) = w1 at A hb
  generalize w.heap.size = q at A
  unfold s13M0
  have h1 := h.bel hb
  simp only [go_sem, h1.ptr (Bel.refl _)]
  have hm := h.most
  refine (k29 h1.view (h30 A) (by omega)).bind ?_
  rintro ⟨_, w2⟩ ⟨v1, v2, e1, b2, o1, o2, f1, f2, dis⟩
  simp only at e1 b2 o1 o2
  subst e1
  simp only [go_sem, Exp.all (A.bel b2)]
  refine k14.bind ?_
  rintro ⟨_, w3⟩ ⟨e1, b3⟩
  simp only at e1 b3
  subst e1
  have B3 := b2.trans b3
  simp only [go_sem]
  unfold addM
  cases hr : rightM x with
  | false =>
    simp only [Bool.not_false, go_sem, if_true]
    exact .ret (did_same h (hb.trans B3))
  | true =>
    simp only [Bool.not_true, go_sem, Bool.true_eq_false, if_false, (h1.bel B3).ptr (Bel.refl _)]
    refine (k31 (h1.bel B3).view (h28 (A.bel B3))).bind ?_
    rintro ⟨_, w4⟩ ⟨e1, b4⟩
    simp only at e1 b4
    subst e1
    have B4 := B3.trans b4
    have h4 := h1.bel B4
    refine .cond (fun hk => ?_) (fun hk => ?_)
    · simp only [hk, if_true]
      exact .ret (did_same h (hb.trans B4))
    simp only [hk, Bool.false_eq_true, if_false, h4.ptr (Bel.refl _), h4.view.len und32, go_sem]
    have o4 := (o1.bel b3).bel b4
    have el : ((l.filter (masterP x.master)).length : Int) = (ownM x l : Int) := rfl
    by_cases c1 : 32 ≤ l.length
    · have : decide ((32 : Int) ≤ (l.length : Int)) = true := by rw [decide_eq_true_iff]; omega
      simp only [this, go_sem, c1, true_or, if_true]
      exact .ret (did_same h (hb.trans B4))
    have : decide ((32 : Int) ≤ (l.length : Int)) = false := by rw [decide_eq_false_iff_not]; omega
    simp only [this, go_sem, o4.view.len und32, el, c1, false_or]
    by_cases c2 : 4 ≤ ownM x l
    · have : decide ((4 : Int) ≤ (ownM x l : Int)) = true := by rw [decide_eq_true_iff]; omega
      simp only [this, go_sem, c2, if_true]
      exact .ret (did_same h (hb.trans B4))
    have : decide ((4 : Int) ≤ (ownM x l : Int)) = false := by rw [decide_eq_false_iff_not]; omega
    simp only [this, go_sem, c2, if_false]
    unfold s13M1
    have bd : Bel w4 w4.drew := (Bel.refl _).drew
    have h5 := h4.bel bd
    have A5 := (A.bel B4).bel bd
    have B5 := (hb.trans B4).trans bd
    generalize w4.drew = w5 at bd h5 A5 B5
    simp only [go_sem, h5.ptr (Bel.refl _), Exp.all A5, lit32]
    obtain ⟨v', w7, w8, e1, e2, c8, o8, f8⟩ := addEnd h5 hx (by omega)
    simp only [e1, e2, go_sem, h5.ptr ((Bel.refl _).alloc _), eq_self, and_self]
    exact .ret ⟨rfl, B5.thenChg c8, v', o8, fun k hk' => (f8 k hk').imp id fun h1 => Nat.le_trans B5.size h1⟩

theorem own_take (e : Exp) {l : List Exp} {i : Nat} {x : Exp} (hx : l[i]? = some x) : ownM e (l.take (i + 1)) = ownM e (l.take i) + if x.master == e.master then 1 else 0 := by
  unfold ownM
  rw [List.take_add_one, hx, List.filter_append]
  show _ = _
  simp only [List.length_append, Option.toList_some]
  congr 1
  by_cases h : x.master == e.master
  · rw [List.filter_cons_of_pos (by exact h)]; simp [h]
  · rw [List.filter_cons_of_neg (by exact h)]; simp [h]

theorem k42 {w : World} {a : Nat} {sl : Value} {l : List Exp} {x : Exp} (h : Bk 69 w a sl l) (hx : x.ok) :
    Brings (Xcall Try.prog (Value.func (Fn.func 42) #[] #[]) #[.pointer (some ⟨a, 0, none⟩), x.v] w) (Did 69 w a sl (.int .i64 (addM l x).1) (addM l x).2) := by
  refine e42 ?_
  unfold s42
  have A := x.new w
  have hb : Bel w (w.alloc (.cells x.cs.toArray 25)) := (Bel.refl w).alloc _
  rw [x.box]
  simp only [go_sem, Qb_eqlP (P := Try.prog) (t := 40) (e := 69) ptr40, Option.isNone_some]
  generalize w.alloc (.cells x.cs.toArray 25) = w1 at A hb
  generalize w.heap.size = q at A
  have h1 := h.bel hb
  have hm := h.most
  simp only [go_sem, Exp.all A]
  refine k16.bind ?_
  rintro ⟨_, w3⟩ ⟨e1, b3⟩
  simp only at e1 b3
  subst e1
  simp only [go_sem]
  unfold addM
  cases hr : rightM x with
  | false =>
    simp only [Bool.not_false, go_sem, if_true]
    exact .ret (did_same h (hb.trans b3))
  | true =>
    simp only [Bool.not_true, go_sem, Bool.true_eq_false, if_false]
    refine Brings.loop (fun m xs w' => ∃ (i : Nat), xs = [.pointer (some ⟨a, 0, none⟩), .pointer (some ⟨q, 0, none⟩), .int .i64 0, .int .i64 (ownM x (l.take i)), .int .i64 i] ∧ i ≤ l.length ∧ m = l.length - i ∧ Bel w1 w' ∧ ∀ y ∈ l.take i, sameP x y = false) ?_ l.length _ _ ⟨0, rfl, by omega, by omega, b3, by simp⟩
    rintro m xs w4 ⟨i, rfl, hi, hm', B4, hne⟩
    have h4 := h1.bel B4
    simp only [s42B0, go_sem, h4.ptr (Bel.refl _), h4.view.len und32]
    have own_le : ownM x (l.take i) ≤ l.length := Nat.le_trans (List.length_filter_le _ _) (by simp; omega)
    refine .cond (fun hlt => ?_) (fun hlt => ?_)
    · have hlt : (i : Int) < l.length := by simpa using hlt
      obtain ⟨y, g, o, hy, _, hix, hc⟩ := getR h4.view (n := i) (by omega) hlt
      simp only [Int.toNat_natCast] at hy
      have B := local_bel w4 (.cells Exp.zero.cs.toArray 25) y.cs.toArray
      have Y := local_at w4 y.cs Exp.zero.cs 25
      simp only [hix, Exp.all hc, alloc25, put25, go_sem]
      generalize (w4.alloc (.cells Exp.zero.cs.toArray 25)).setRow w4.heap.size y.cs.toArray = w5 at Y B
      have A5 := A.bel (B4.trans B)
      have hot : sameP x y = (y.proto == x.proto && (y.dst == x.dst && y.dstPort == x.dstPort)) := by unfold sameP; rw [Bool.and_assoc]
      have w1' : IntKind.i64.wrap ((i : Int) + 1) = ((i + 1 : Nat) : Int) := by rw [wrap_i64 (by omega) (by omega)]; rfl
      have w2' : IntKind.i64.wrap ((ownM x (l.take i) : Int) + 1) = ((ownM x (l.take i) + 1 : Nat) : Int) := by rw [wrap_i64 (by omega) (by omega)]; rfl
      refine (show Brings _ (fun r : Exit × List Value × World => (sameP x y = true ∧ r = (.ret, [.pointer (some ⟨a, 0, none⟩), .pointer (some ⟨q, 0, none⟩), .int .i64 10, .int .i64 (ownM x (l.take i)), .int .i64 i], w5)) ∨
        (sameP x y = false ∧ r = (.normal, [.pointer (some ⟨a, 0, none⟩), .pointer (some ⟨q, 0, none⟩), .int .i64 0, .int .i64 (ownM x (l.take (i + 1))), .int .i64 ((i + 1 : Nat) : Int)], w5))) from ?_).mono ?_
      · have own := own_take x hy
        simp only [Exp.b0 Y, Exp.b0 A5, go_sem]
        have nx : sameP x y = false → Brings (condK (.bool (y.master == x.master)) (some (Exit.normal, [Value.pointer (some ⟨a, 0, none⟩), .pointer (some ⟨q, 0, none⟩), .int .i64 0, .int .i64 (IntKind.i64.wrap ((ownM x (l.take i) : Int) + 1)), .int .i64 (IntKind.i64.wrap ((i : Int) + 1))], w5))
            (some (Exit.normal, [Value.pointer (some ⟨a, 0, none⟩), .pointer (some ⟨q, 0, none⟩), .int .i64 0, .int .i64 (ownM x (l.take i)), .int .i64 (IntKind.i64.wrap ((i : Int) + 1))], w5)))
            (fun r => (sameP x y = true ∧ r = (.ret, [.pointer (some ⟨a, 0, none⟩), .pointer (some ⟨q, 0, none⟩), .int .i64 10, .int .i64 (ownM x (l.take i)), .int .i64 i], w5)) ∨
            (sameP x y = false ∧ r = (.normal, [.pointer (some ⟨a, 0, none⟩), .pointer (some ⟨q, 0, none⟩), .int .i64 0, .int .i64 (ownM x (l.take (i + 1))), .int .i64 ((i + 1 : Nat) : Int)], w5))) := by
          intro hs
          rw [w1', w2']
          refine .cond (fun he => ?_) (fun he => ?_)
          · rw [he, if_pos rfl] at own
            exact .ret (.inr ⟨hs, by rw [own]⟩)
          · rw [he] at own
            exact .ret (.inr ⟨hs, by rw [own]; rfl⟩)
        cases p0 : y.proto == x.proto <;> simp only [go_sem, Exp.b2 Y, Exp.b2 A5, Exp.b7 Y, Exp.b7 A5]
        · exact nx (by rw [hot, p0]; rfl)
        cases p2 : y.dst == x.dst <;> simp only [go_sem, Exp.b4 Y, Exp.b4 A5, Exp.b7 Y, Exp.b7 A5]
        · exact nx (by rw [hot, p0, p2]; rfl)
        cases p4 : y.dstPort == x.dstPort <;> simp only [go_sem, Exp.b7 Y, Exp.b7 A5]
        · exact nx (by rw [hot, p0, p2, p4]; rfl)
        · exact .ret (.inl ⟨by rw [hot, p0, p2, p4]; rfl, rfl⟩)
      · rintro _ (⟨hs, rfl⟩ | ⟨hs, rfl⟩)
        · have : l.any (sameP x) = true := List.any_eq_true.2 ⟨y, List.mem_of_getElem? hy, hs⟩
          refine .inr ⟨by simp, ?_⟩
          simp only [this, if_true]
          exact .ret (did_same h ((hb.trans B4).trans B))
        · exact .inl ⟨rfl, l.length - (i + 1), by omega, i + 1, rfl, by omega, rfl, B4.trans B, take_none hy hs hne⟩
    · have hlt : ¬ (i : Int) < l.length := by simpa using hlt
      have : i = l.length := by omega
      subst this
      rw [List.take_length] at hne own_le
      refine .ret (.inr ⟨by simp, ?_⟩)
      have hk : l.any (sameP x) = false := by simpa using hne
      rw [List.take_length]
      simp only [s42R0, hk, Bool.false_eq_true, if_false, h4.ptr (Bel.refl _), h4.view.len und32, go_sem]
      by_cases c1 : 32 ≤ l.length
      · have : decide ((32 : Int) ≤ (l.length : Int)) = true := by rw [decide_eq_true_iff]; omega
        simp only [this, go_sem, c1, true_or, if_true]
        exact .ret (did_same h (hb.trans B4))
      have : decide ((32 : Int) ≤ (l.length : Int)) = false := by rw [decide_eq_false_iff_not]; omega
      simp only [this, go_sem, c1, false_or]
      by_cases c2 : 4 ≤ ownM x l
      · have : decide ((4 : Int) ≤ (ownM x l : Int)) = true := by rw [decide_eq_true_iff]; omega
        simp only [this, go_sem, c2, if_true]
        exact .ret (did_same h (hb.trans B4))
      have : decide ((4 : Int) ≤ (ownM x l : Int)) = false := by rw [decide_eq_false_iff_not]; omega
      simp only [this, go_sem, c2, if_false]
      have bd : Bel w4 w4.drew := (Bel.refl _).drew
      have h5 := h4.bel bd
      have A5 := (A.bel B4).bel bd
      have B5 := (hb.trans B4).trans bd
      generalize w4.drew = w5 at bd h5 A5 B5
      simp only [go_sem, h5.ptr (Bel.refl _), Exp.all A5, lit32]
      obtain ⟨v', w7, w8, e1, e2, c8, o8, f8⟩ := addEnd h5 hx (by omega)
      simp only [e1, e2, go_sem, h5.ptr ((Bel.refl _).alloc _), eq_self, and_self]
      exact .ret ⟨rfl, B5.thenChg c8, v', o8, fun k hk' => (f8 k hk').imp id fun h1 => Nat.le_trans B5.size h1⟩

end Go.Proofs.Ytnnhfnjdcomjmaa
