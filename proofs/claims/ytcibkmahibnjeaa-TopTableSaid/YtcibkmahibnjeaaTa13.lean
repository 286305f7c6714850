/- The reference's table: told. -/
import Derived.Test.YtcibkmahibnjeaaTa12
namespace Go.Proofs.Ytcibkmahibnjeaa
open Go Go.Ev Go.RowKit
open Go.Proofs

theorem k35 {w : World} {b : Nat} {sv : Value} {lim seq : Int} {L : List Rw} {k : Tup} (h : Rt w b sv lim seq L) (hL : L.length ≤ 100000) :
    Brings (Xcall Try.prog (Value.func (Fn.func 35) #[] #[]) #[.pointer (some ⟨b, 0, none⟩), k.v] w) (fun r => r.1 = .tuple #[.int .i64 (getM L k).1, .int .i64 (getM L k).2.1, .bool (getM L k).2.2] ∧ Bel w r.2) := by
  refine e35 ?_
  unfold s35
  have A := k.new w
  have hb : Bel w (w.alloc (.cells k.cs.toArray 37)) := (Bel.refl w).alloc _
  rw [k.box]
  simp only [go_sem, Tup.all A]
  generalize w.alloc (.cells k.cs.toArray 37) = w1 at hb
  refine (k56 (h.bel hb) hL).bind ?_
  rintro ⟨_, w2⟩ ⟨e2, b2⟩
  simp only at e2 b2
  subst e2
  have B2 := hb.trans b2
  unfold getM
  cases hk : hasK L (keyM k) with
  | false =>
    have : L.find? (isK (keyM k)) = none := by
      rw [List.find?_eq_none]
      unfold hasK at hk
      rw [List.any_eq_false] at hk
      exact hk
    rw [this]
    simp only [idx_none hk, show decide ((-1 : Int) < 0) = true from rfl, go_sem]
    exact .ret ⟨rfl, B2⟩
  | true =>
    obtain ⟨i, x, e, hx, hxk, hno⟩ := idx_some hk
    have : L.find? (isK (keyM k)) = some x := find_first hx (by simpa [isK] using hxk) hno
    rw [this]
    have d : decide ((i : Int) < 0) = false := by rw [decide_eq_false_iff_not]; omega
    have hi := (List.getElem?_eq_some_iff.1 hx).1
    have B3 := B2.trans (Bel.refl w2).drew
    have h3 := h.bel B3
    obtain ⟨y, g, o, hy, _, hix, hc⟩ := Ref.getR h3.view (n := i) (by omega) (by omega)
    rw [Int.toNat_natCast, hx] at hy
    have hy := Option.some.inj hy
    subst hy
    simp only [e, d, fa87x0, h3.l0, hix, fa99x1, fa99x2, Rw.f1 hc, Rw.f2 hc, go_sem]
    exact .ret ⟨rfl, B3⟩

theorem k37 {w : World} {b : Nat} {sv : Value} {lim seq : Int} {L : List Rw} (h : Rt w b sv lim seq L) : Brings (Xcall Try.prog (Value.func (Fn.func 37) #[] #[]) #[.pointer (some ⟨b, 0, none⟩)] w) (fun r => r = (.int .i64 (L.length : Int), w)) := by
  refine e37 ?_
  unfold s37
  simp only [go_sem, Qb_eqlP (P := Try.prog) (t := 26) (e := 87) ptr26, Option.isNone_some, fa87x0, h.l0, h.len]
  exact .ret rfl

/-! ## In order -/

def aheadR (x : Rw) (l : List Rw) : Bool := l.any fun y => lt x y
theorem insR_ahead {x y : Rw} : ∀ {l : List Rw}, aheadR x l = true → insR x (l ++ [y]) = insR x l ++ [y]
  | [], h => by simp [aheadR] at h
  | z :: l, h => by
    rw [List.cons_append]
    unfold insR
    by_cases c : lt x z = true
    · rw [if_pos c, if_pos c]; rfl
    · rw [if_neg c, if_neg c]
      have : aheadR x l = true := by
        unfold aheadR at h ⊢
        rw [List.any_cons, (Bool.not_eq_true _).mp c, Bool.false_or] at h
        exact h
      rw [insR_ahead this]; rfl
theorem insR_not {x : Rw} : ∀ {l : List Rw}, aheadR x l = false → insR x l = l ++ [x]
  | [], _ => rfl
  | z :: l, h => by
    unfold aheadR at h
    rw [List.any_cons, Bool.or_eq_false_iff] at h
    unfold insR
    rw [if_neg (by rw [h.1]; decide), insR_not (l := l) h.2]; rfl
theorem insR_mid {x y : Rw} {l : List Rw} (h : aheadR x l = false) (hy : lt x y = true) : insR x (l ++ [y]) = l ++ [x] ++ [y] := by
  induction l with
  | nil => simp [insR, hy]
  | cons z l ih =>
    unfold aheadR at h
    rw [List.any_cons, Bool.or_eq_false_iff] at h
    rw [List.cons_append]
    unfold insR
    rw [if_neg (by rw [h.1]; decide), ih h.2]; rfl
theorem aheadR_next {x y : Rw} {l : List Rw} : aheadR x (l ++ [y]) = (aheadR x l || lt x y) := by simp [aheadR]
theorem ord_len' : ∀ (L out : List Rw), (L.foldl (fun out x => insR x out) out).length = L.length + out.length
  | [], out => by simp
  | x :: L, out => by rw [List.foldl_cons, ord_len' L, insR_len, List.length_cons]; omega

set_option maxRecDepth 100000 in
theorem k57 {w : World} {b : Nat} {sv : Value} {lim seq : Int} {L : List Rw} (h : Rt w b sv lim seq L) (hL : L.length ≤ 1000) : Brings (Xcall Try.prog (Value.func (Fn.func 57) #[] #[]) #[.pointer (some ⟨b, 0, none⟩)] w) (fun r => FrR w r.2 r.1 (ordM L)) := by
  refine e57 ?_
  unfold s57
  refine Brings.loop (fun m xs w' => ∃ (i : Nat) (v : Value), xs = [.pointer (some ⟨b, 0, none⟩), v, .int .i64 (i : Int)] ∧ i ≤ L.length ∧ m = L.length - i ∧ FrR w w' v (ordM (L.take i))) ?_ L.length _ _
    ⟨0, _, rfl, by omega, by omega, frR_nil w⟩
  rintro m xs w' ⟨i, v, rfl, hi, hm, F⟩
  have h' := h.bel F.1
  have ol : (ordM (L.take i)).length ≤ 1000 := by
    unfold ordM
    rw [ord_len', List.length_take]
    simp; omega
  simp only [s57B0, go_sem, Qb_neqP (P := Try.prog) (t := 26) (e := 87) ptr26, Option.isSome_some, fa87x0, h'.l0, h'.len]
  refine .cond (fun hlt => ?_) (fun hlt => ?_)
  · have hlt : i < L.length := by
      have : (i : Int) < L.length := by simpa using hlt
      omega
    obtain ⟨x, g, o, hx, _, hix, hc⟩ := Ref.getR h'.view (n := i) (by omega) (by omega)
    rw [Int.toNat_natCast] at hx
    have B := local_bel w' (.cells Rw.zero.cs.toArray 99) x.cs.toArray
    have A := local_at w' x.cs Rw.zero.cs 99
    simp only [fa87x0, h'.l0, hix, all99 hc, alloc99, put99, go_sem]
    have F2 := F.later B
    have hq : w.heap.size ≤ w'.heap.size := F.1.size
    generalize (w'.alloc (.cells Rw.zero.cs.toArray 99)).setRow w'.heap.size x.cs.toArray = w2 at A B F2
    have oN : ordM (L.take (i + 1)) = insR x (ordM (L.take i)) := by
      unfold ordM
      rw [List.take_add_one, hx, List.foldl_append]; rfl
    generalize ordM (L.take i) = out at F F2 ol oN
    have V2 := View.of_owns F2.2.1 (Rw.lens _)
    -- the new list
    refine Brings.loop (fun r ys w'' => ∃ (j : Nat) (u : Value) (l : List Rw), ys = [.pointer (some ⟨b, 0, none⟩), v, .int .i64 (i : Int), .pointer (some ⟨w'.heap.size, 0, none⟩), u, .bool (aheadR x (out.take j)), .int .i64 (j : Int)] ∧ j ≤ out.length ∧ r = out.length - j ∧ Bel w2 w'' ∧ FrR w2 w'' u l ∧ l = (if aheadR x (out.take j) = true then insR x (out.take j) else out.take j)) ?_ out.length _ _
      ⟨0, _, [], by simp [aheadR], by omega, by omega, Bel.refl _, frR_nil w2, by simp [aheadR]⟩
    rintro r ys w'' ⟨j, u, l, rfl, hj, hr, hb, Fl, hle⟩
    have V' := V2.bel hb
    have A' := A.bel hb
    have hll : l.length ≤ 1001 := by
      rw [hle]
      split
      · rw [insR_len, List.length_take]; omega
      · rw [List.length_take]; omega
    simp only [s57B1, V'.len Ref.und85, go_sem]
    refine .cond (fun hlt2 => ?_) (fun hlt2 => ?_)
    · have hlt2 : j < out.length := by
        have : (j : Int) < out.length := by simpa using hlt2
        omega
      obtain ⟨y, g2, o2, hy, _, hiy, hcy⟩ := Ref.getR V' (n := j) (by omega) (by omega)
      rw [Int.toNat_natCast] at hy
      have B3 := local_bel w'' (.cells Rw.zero.cs.toArray 99) y.cs.toArray
      have A3 := local_at w'' y.cs Rw.zero.cs 99
      simp only [hiy, all99 hcy, alloc99, put99, go_sem]
      have F3 := Fl.later B3
      have X3 := A'.bel B3
      have hb3 := hb.trans B3
      have hq3 : w2.heap.size ≤ w''.heap.size := hb.size
      generalize (w''.alloc (.cells Rw.zero.cs.toArray 99)).setRow w''.heap.size y.cs.toArray = w3 at A3 B3 F3 X3 hb3
      generalize hpq : w''.heap.size = pq at A3 hq3
      have tn : out.take (j + 1) = out.take j ++ [y] := by rw [List.take_add_one, hy]; rfl
      have wr : IntKind.i64.wrap ((j : Int) + 1) = ((j + 1 : Nat) : Int) := by rw [wrap_i64 (by omega) (by omega)]; rfl
      have next : ∀ {w4 : World} {u2 : Value} {l2 : List Rw} {p : Bool}, Bel w2 w4 → FrR w2 w4 u2 l2 → CellsAt y.cs w4 pq 0 → l2.length ≤ 1002 → p = aheadR x (out.take (j + 1)) → l2 ++ [y] = (if aheadR x (out.take (j + 1)) = true then insR x (out.take (j + 1)) else out.take (j + 1)) →
          Brings (s57M2 (.pointer (some ⟨b, 0, none⟩)) v (.int .i64 (i : Int)) (.pointer (some ⟨w'.heap.size, 0, none⟩)) u2 (.bool p) (.int .i64 (j : Int)) (.pointer (some ⟨pq, 0, none⟩)) w4) fun r_1 => (r_1.1 = .normal ∧ ∃ m', m' < r ∧ ∃ (j : Nat) (u : Value) (l : List Rw), r_1.2.1 = [.pointer (some ⟨b, 0, none⟩), v, .int .i64 (i : Int), .pointer (some ⟨w'.heap.size, 0, none⟩), u, .bool (aheadR x (out.take j)), .int .i64 (j : Int)] ∧ j ≤ out.length ∧ m' = out.length - j ∧ Bel w2 r_1.2.2 ∧ FrR w2 r_1.2.2 u l ∧ l = (if aheadR x (out.take j) = true then insR x (out.take j) else out.take j)) ∨ (r_1.1 ≠ .normal ∧ Brings (s57R1 r_1.1 r_1.2.1 r_1.2.2) fun r => (r.1 = .normal ∧ ∃ m', m' < m ∧ ∃ (i : Nat) (v : Value), r.2.1 = [.pointer (some ⟨b, 0, none⟩), v, .int .i64 (i : Int)] ∧ i ≤ L.length ∧ m' = L.length - i ∧ FrR w r.2.2 v (ordM (L.take i))) ∨ (r.1 ≠ .normal ∧ Brings (s57R0 r.1 r.2.1 r.2.2) fun r => FrR w r.2 r.1 (ordM L))) := by
        intro w4 u2 l2 p hb4 F4 A4 hl2 hp he
        unfold s57M2
        obtain ⟨s5, w5, e5, b5, u6, w6, e6, F6, _⟩ := F4.push y (by omega)
        simp only [all99 A4, e5, e6, wr, go_sem]
        exact .ret (.inl ⟨rfl, out.length - (j + 1), by omega, j + 1, u6, l2 ++ [y], by rw [hp], by omega, rfl, F6.1, F6, he⟩)
      cases hp : aheadR x (out.take j) with
      | true =>
        rw [hp, if_pos rfl] at hle
        simp only [Bool.not_true, go_sem]
        refine next hb3 F3 A3 (by omega) (by rw [tn, aheadR_next, hp]; rfl) ?_
        rw [tn, aheadR_next, hp, Bool.true_or, if_pos rfl, insR_ahead hp, hle]
      | false =>
        rw [hp, if_neg (by decide)] at hle
        have yes : lt x y = true → Brings ((Qload Try.prog 99 (.pointer (some ⟨w'.heap.size, 0, none⟩)) w3).bind fun v1165 => (XbuildSlice Try.prog 85 1 #[(0, v1165)] w3).bind fun r1166 => (Xbi Try.prog Go.Builtin.append #[85, 85] 85 #[u, r1166.1] r1166.2).bind fun r1167 => s57M2 (.pointer (some ⟨b, 0, none⟩)) v (.int .i64 (i : Int)) (.pointer (some ⟨w'.heap.size, 0, none⟩)) r1167.1 (Go.Value.bool true) (.int .i64 (j : Int)) (.pointer (some ⟨pq, 0, none⟩)) r1167.2) _ := fun hxy => by
          obtain ⟨s5, w5, e5, b5, u6, w6, e6, F6, c6⟩ := F3.push x (by omega)
          have A6 := A3.chg c6 fun e => by have := F3.2.1; have := World.ownsRow.lt (later_bel Fl.2.1 (Bel.refl _)) pq e; omega
          simp only [all99 X3, e5, e6, go_sem]
          have ht : aheadR x (out.take (j + 1)) = true := by rw [tn, aheadR_next, hxy, Bool.or_true]
          refine next F6.1 F6 A6 (by rw [List.length_append]; simp; omega) ht.symm ?_
          rw [ht, if_pos rfl, tn, insR_mid hp hxy, hle]
        have no : lt x y = false → Brings (s57M2 (.pointer (some ⟨b, 0, none⟩)) v (.int .i64 (i : Int)) (.pointer (some ⟨w'.heap.size, 0, none⟩)) u (.bool false) (.int .i64 (j : Int)) (.pointer (some ⟨pq, 0, none⟩)) w3) _ := fun hxy => by
          have ht : aheadR x (out.take (j + 1)) = false := by rw [tn, aheadR_next, hp, hxy]; rfl
          refine next hb3 F3 A3 (by omega) ht.symm ?_
          rw [ht, if_neg (by decide), tn, hle]
        simp only [Bool.not_false, fa99x2, Rw.b2 X3, Rw.b2 A3, fb99x2, go_sem]
        by_cases t1 : x.till < y.till
        · simp only [t1, decide_true, go_sem]
          exact yes (by rw [lt_iff]; exact .inl t1)
        · have d1 : decide (x.till < y.till) = false := by rw [decide_eq_false_iff_not]; exact t1
          by_cases t2 : x.till = y.till
          · have d2 : (x.till == y.till) = true := by rw [beq_iff_eq]; exact t2
            simp only [d1, d2, fb99x2, fb99x3, Rw.b2 X3, Rw.b2 A3, Rw.b3 X3, Rw.b3 A3, go_sem]
            by_cases t3 : x.seq < y.seq
            · simp only [t3, decide_true, go_sem]
              exact yes (by rw [lt_iff]; exact .inr ⟨t2, t3⟩)
            · have d3 : decide (x.seq < y.seq) = false := by rw [decide_eq_false_iff_not]; exact t3
              simp only [d3, go_sem]
              exact no (by rw [lt_no]; omega)
          · have d2 : (x.till == y.till) = false := by rw [beq_eq_false_iff_ne]; exact t2
            simp only [d1, d2, fb99x2, Rw.b2 X3, Rw.b2 A3, go_sem]
            exact no (by rw [lt_no]; omega)
    · have : j = out.length := by
        have : ¬ (j : Int) < out.length := by simpa using hlt2
        omega
      subst this
      rw [List.take_length] at hle ⊢
      refine .ret (.inr ⟨by simp, ?_⟩)
      have wr : IntKind.i64.wrap ((i : Int) + 1) = ((i + 1 : Nat) : Int) := by rw [wrap_i64 (by omega) (by omega)]; rfl
      have up : ∀ {w4 : World} {u2 : Value} {l2 : List Rw}, FrR w2 w4 u2 l2 → FrR w w4 u2 l2 := fun F => ⟨F2.1.trans F.1, F.2.1, fun q hq => by have := F.2.2 q hq; have := F2.1.size; omega⟩
      cases hp : aheadR x out with
      | true =>
        rw [hp, if_pos rfl] at hle
        subst hle
        simp only [s57R1, Bool.not_true, wr, go_sem]
        exact .ret (.inl ⟨rfl, L.length - (i + 1), by omega, i + 1, u, rfl, by omega, rfl, by rw [oN]; exact up Fl⟩)
      | false =>
        rw [hp, if_neg (by decide)] at hle
        subst hle
        obtain ⟨s5, w5, e5, b5, u6, w6, e6, F6, c6⟩ := Fl.push x (by omega)
        simp only [s57R1, Bool.not_false, all99 A', e5, e6, wr, go_sem]
        refine .ret (.inl ⟨rfl, L.length - (i + 1), by omega, i + 1, u6, rfl, by omega, rfl, ?_⟩)
        rw [oN, insR_not hp]
        exact up F6
  · have : i = L.length := by
      have : ¬ (i : Int) < L.length := by simpa using hlt
      omega
    subst this
    rw [List.take_length] at F
    exact .ret (.inr ⟨by simp, .ret F⟩)

theorem k38 {w : World} {b : Nat} {sv : Value} {lim seq now : Int} {L : List Rw} (h : Rt w b sv lim seq L) (hL : L.length ≤ 1000) : Brings (Xcall Try.prog (Value.func (Fn.func 38) #[] #[]) #[.pointer (some ⟨b, 0, none⟩), .int .i64 now] w) (fun r => Ks.Fresh w (dueM L now) r) := by
  refine e38 ?_
  unfold s38
  refine (k57 h hL).bind ?_
  rintro ⟨v, w1⟩ F
  simp only at F ⊢
  unfold dueM
  have ol : (ordM L).length ≤ 1000 := by
    unfold ordM
    rw [ord_len']; simp; omega
  generalize ordM L = O at F ol
  have V := View.of_owns F.2.1 (Rw.lens _)
  refine Brings.loop (fun m xs w' => ∃ (i : Nat) (u : Value), xs = [.int .i64 now, u, v, .int .i64 (i : Int)] ∧ i ≤ O.length ∧ m = O.length - i ∧ Bel w1 w' ∧ Ks.Fresh w1 (((O.take i).filter (dueP now)).map (·.key)) (u, w')) ?_ O.length _ _
    ⟨0, _, rfl, by omega, by omega, Bel.refl _, ⟨Bel.refl _, World.ownsRow_nil w1 0 37 5, fun k hk => by cases hk⟩⟩
  rintro m xs w' ⟨i, u, rfl, hi, hm, hb, hF⟩
  have V' := V.bel hb
  simp only [s38B0, V'.len Ref.und85, go_sem]
  refine .cond (fun hlt => ?_) (fun hlt => ?_)
  · have hlt : i < O.length := by
      have : (i : Int) < O.length := by simpa using hlt
      omega
    obtain ⟨x, g, o, hx, _, hix, hc⟩ := Ref.getR V' (n := i) (by omega) (by omega)
    rw [Int.toNat_natCast] at hx
    have wr : IntKind.i64.wrap ((i : Int) + 1) = ((i + 1 : Nat) : Int) := by rw [wrap_i64 (by omega) (by omega)]; rfl
    have tf := take_filter_next (p := dueP now) hx
    simp only [hix, fa99x2, Rw.f2 hc, go_sem]
    refine .cond (fun hd => ?_) (fun hd => ?_)
    · have hd : x.till ≤ now := by simpa using hd
      obtain ⟨F1, F2, F3⟩ := hF
      simp only at F1 F2 F3
      have ba : Bel w' (w'.alloc (.cells x.key.cs.toArray 37)) := (Bel.refl _).alloc _
      have tl2 : (((O.take i).filter (dueP now)).map (·.key)).length ≤ 1000 := by
        rw [List.length_map]
        have := List.length_filter_le (dueP now) (O.take i)
        rw [List.length_take] at this
        omega
      obtain ⟨u', w13, e13, o13, g13, n13⟩ := Ks.app30 (later_bel F2 ba) (Ks.litView x.key w') (by simp; simp at tl2; omega)
      simp only [hix, fa99x0, Tup.all (Rw.in0 hc), Ks.lit30, e13, wr, go_sem]
      have cg := Chg.of_grown g13
      have bb : Bel w1 w13 := ((F1.trans ba).thenChg cg).bel fun k hk e => by have := F3 k e.symm; omega
      refine .ret (.inl ⟨rfl, O.length - (i + 1), by omega, i + 1, u', rfl, by omega, rfl, bb, bb, ?_, fun k hk => ?_⟩)
      · rw [tf, if_pos (by simpa [dueP] using hd), List.map_append]
        exact o13
      · rcases n13 k hk with h1 | h1
        · exact F3 k h1
        · have := (F1.trans ba).size; omega
    · have hd : ¬ x.till ≤ now := by simpa using hd
      rw [wr]
      refine .ret (.inl ⟨rfl, O.length - (i + 1), by omega, i + 1, u, rfl, by omega, rfl, hb, ?_⟩)
      rw [tf, if_neg (by simpa [dueP] using hd), List.append_nil]
      exact hF
  · have : i = O.length := by
      have : ¬ (i : Int) < O.length := by simpa using hlt
      omega
    subst this
    obtain ⟨F1, F2, F3⟩ := hF
    simp only at F1 F2 F3
    rw [List.take_length] at F2
    exact .ret (.inr ⟨by simp, .ret ⟨F.1.trans F1, F2, fun q hq => by have := F3 q hq; have := F.1.size; show w.heap.size ≤ q; omega⟩⟩)

theorem k36 {w : World} {b : Nat} {sv : Value} {lim seq : Int} {L : List Rw} (h : Rt w b sv lim seq L) (hL : L.length ≤ 1000) : Brings (Xcall Try.prog (Value.func (Fn.func 36) #[] #[]) #[.pointer (some ⟨b, 0, none⟩)] w) (fun r => Bel w r.2 ∧ r.1 = .tuple #[(firstM L).1.v, .bool (firstM L).2]) := by
  refine e36 ?_
  unfold s36 firstM
  have V1 := (Locals.nil w).add rfl (.cells Tup.zero.cs.toArray 37)
  have h1 := h.bel V1.bel
  simp only [alloc37, go_sem]
  generalize w.alloc (.cells Tup.zero.cs.toArray 37) = w1 at V1 h1
  refine (k57 h1 hL).bind ?_
  rintro ⟨v, w2⟩ F
  simp only at F
  have V2 := V1.later F.1
  have o2 : w2.heap[w.heap.size]? = some (.cells Tup.zero.cs.toArray 37) := V2.at_ 0 _ rfl
  have V := View.of_owns F.2.1 (Rw.lens _)
  simp only [V.len Ref.und85, go_sem]
  cases e : ordM L with
  | nil =>
    have V3 := V2.row (j := 0) (k := w.heap.size) rfl rfl Tup.zero.cs.toArray
    have o3 : (w2.setRow w.heap.size Tup.zero.cs.toArray).heap[w.heap.size]? = some (.cells Tup.zero.cs.toArray 37) := V3.at_ 0 _ rfl
    simp only [List.length_nil, show (((0 : Nat) : Int) == 0) = true from rfl, build37z, store37 o2 rfl, load37 o3, go_sem, Option.map_some, oneOf_2]
    exact .ret ⟨V3.bel, rfl⟩
  | cons x l =>
    rw [e] at V
    obtain ⟨y, g, o, hy, _, hix, hc⟩ := Ref.getR V (n := 0) (by omega) (by simp)
    have hy : y = x := by
      have : (x :: l)[0]? = some y := hy
      simpa using this.symm
    subst hy
    have e1 : (((y :: l).length : Int) == 0) = false := by rw [beq_eq_false_iff_ne]; simp; omega
    have V3 := V2.row (j := 0) (k := w.heap.size) rfl rfl y.key.cs.toArray
    have o3 : (w2.setRow w.heap.size y.key.cs.toArray).heap[w.heap.size]? = some (.cells y.key.cs.toArray 37) := V3.at_ 0 _ rfl
    simp only [e1, hix, fa99x0, Tup.all (Rw.in0 hc), store37 o2 rfl, load37 o3, go_sem, Option.map_some, oneOf_2]
    exact .ret ⟨V3.bel, rfl⟩

theorem k27 {w : World} {lim : Int} : Brings (Xcall Try.prog (Value.func (Fn.func 27) #[] #[]) #[.int .i64 lim] w) (fun r => Bel w r.2 ∧ (((lim < 1 ∨ 4096 < lim) ∧ r.1 = .pointer none) ∨ (¬ (lim < 1 ∨ 4096 < lim) ∧ ∃ b sv, r.1 = .pointer (some ⟨b, 0, none⟩) ∧ Rt r.2 b sv lim 0 [] ∧ ∀ k, FootR b sv k → w.heap.size ≤ k))) := by
  refine e27 ?_
  unfold s27
  simp only [go_sem]
  by_cases c1 : lim < 1
  · simp only [c1, decide_true, go_sem]
    exact .ret ⟨Bel.refl _, .inl ⟨.inl (by trivial), rfl⟩⟩
  · by_cases c2 : 4096 < lim
    · simp only [c1, c2, decide_true, decide_false, go_sem]
      exact .ret ⟨Bel.refl _, .inl ⟨.inr (by trivial), rfl⟩⟩
    · have bd2 : Qbuild Try.prog 87 #[(1, .int .i64 lim)] w = some (.agg #[.slice none 0 0, .int .i64 lim, .int .i64 0]) := by kernel_rfl
      have bx : ∀ cs : Array Value, Xbox Try.prog 87 (.agg cs) w = some (.pointer (some ⟨w.heap.size, 0, none⟩), w.alloc (.cells cs 87)) := fun cs => nonrfl rfl
      simp only [c1, c2, decide_false, bd2, bx, go_sem]
      refine .ret ⟨(Bel.refl w).alloc _, .inr ⟨by simp, w.heap.size, _, rfl, ⟨(MapKept.heap_alloc w _).1, World.ownsRow_nil _ 0 99 8, fun q hq => by cases hq⟩, fun k hk => ?_⟩⟩
      rcases hk with hk | hk
      · omega
      · cases hk

theorem k23 {w : World} {b : Nat} {sv : Value} {lim seq : Int} {L : List Rw} (h : Rt w b sv lim seq L) (hL : L.length ≤ 1000) : Brings (Xcall Try.prog (Value.func (Fn.func 23) #[] #[]) #[.pointer (some ⟨b, 0, none⟩)] w)
    (fun r => Bel w r.2 ∧ ∃ c tv, r.1 = .pointer (some ⟨c, 0, none⟩) ∧ Rt r.2 c tv lim seq L ∧ ∀ k, FootR c tv k → w.heap.size ≤ k) := by
  refine e23 ?_
  unfold s23
  have bd : Bel w w.drew := (Bel.refl _).drew
  have h1 := h.bel bd
  have ba : Bel w.drew (w.drew.alloc (.cells #[] 99)) := (Bel.refl _).alloc _
  have h2 := h1.bel ba
  obtain ⟨v, w3, e3, F1, F2, F3⟩ := Ref.copy85 h1.view hL
  simp only at F1 F2 F3
  have h3 := h1.bel F1
  obtain ⟨x, n, c, hx⟩ := Ref.owns_slice F2
  have bs : Qbuild Try.prog 87 #[(0, v), (1, .int .i64 lim), (2, .int .i64 seq)] w3 = some (.agg #[v, .int .i64 lim, .int .i64 seq]) := by
    rw [hx]
    kernel_rfl
  have bx : ∀ cs : Array Value, Xbox Try.prog 87 (.agg cs) w3 = some (.pointer (some ⟨w3.heap.size, 0, none⟩), w3.alloc (.cells cs 87)) := fun cs => nonrfl rfl
  simp only [go_sem, Qb_eqlP (P := Try.prog) (t := 26) (e := 87) ptr26, Option.isNone_some]
  generalize w.drew = wd at bd h1 ba h2 e3 F1 F3
  simp only [go_sem, fa87x0, fa87x1, fa87x2, Ref.lit0, h1.l0, h2.l0, h1.l1, h2.l1, h3.l1, h1.l2, h2.l2, h3.l2, e3, bs, bx, eq_self, and_self]
  have b3 := bd.trans F1
  have bz : Bel w3 (w3.alloc (.cells #[v, .int .i64 lim, .int .i64 seq] 87)) := (Bel.refl _).alloc _
  have sz := b3.size
  have sd := bd.size
  refine .ret ⟨b3.trans bz, w3.heap.size, v, rfl, ⟨(MapKept.heap_alloc w3 _).1, later_bel F2 bz, fun q hq => ?_⟩, fun k hk => ?_⟩
  · have := (World.ownsRow.lt F2 q hq).2; omega
  · rcases hk with hk | hk
    · omega
    · have := F3 k hk; omega

end Go.Proofs.Ytcibkmahibnjeaa
