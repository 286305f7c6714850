/- Rows in order; the insertion sort of the library; its Len. -/
import Derived.Test.YtcibkmahibnjeaaTa7
namespace Go.Proofs.Ytcibkmahibnjeaa
open Go Go.Ev Go.RowKit
open Go.Proofs

/-! ## Strictly in order -/

theorem lt_iff (x y : Rw) : lt x y = true ↔ x.till < y.till ∨ (x.till = y.till ∧ x.seq < y.seq) := by
  simp [lt]
theorem lt_no (x y : Rw) : lt x y = false ↔ ¬ (x.till < y.till ∨ (x.till = y.till ∧ x.seq < y.seq)) := by
  rw [← lt_iff, Bool.not_eq_true]
def Srt (l : List Rw) : Prop := l.Pairwise fun x y => lt x y = true
theorem srt_ext : ∀ {l m : List Rw}, Srt l → Srt m → (∀ x, x ∈ l ↔ x ∈ m) → l = m
  | [], [], _, _, _ => rfl
  | [], x :: m, _, _, h => by have := (h x).2 (by simp); simp at this
  | x :: l, [], _, _, h => by have := (h x).1 (by simp); simp at this
  | x :: l, y :: m, hl, hm, h => by
    obtain ⟨h1, h2⟩ := List.pairwise_cons.1 hl
    obtain ⟨h3, h4⟩ := List.pairwise_cons.1 hm
    have irr : ∀ z, lt z z = true → False := fun z hz => by rw [lt_iff] at hz; omega
    have asy : ∀ z u, lt z u = true → lt u z = true → False := fun z u a b => by rw [lt_iff] at a b; omega
    have e : x = y := by
      rcases List.mem_cons.1 ((h x).1 (by simp)) with hx | hx
      · exact hx
      · rcases List.mem_cons.1 ((h y).2 (by simp)) with hy | hy
        · exact hy.symm
        · exact (asy _ _ (h3 x hx) (h1 y hy)).elim
    subst e
    rw [srt_ext h2 h4 fun n => ?_]
    constructor
    · intro hn
      rcases List.mem_cons.1 ((h n).1 (by simp [hn])) with e | e
      · subst e; exact (irr _ (h1 _ hn)).elim
      · exact e
    · intro hn
      rcases List.mem_cons.1 ((h n).2 (by simp [hn])) with e | e
      · subst e; exact (irr _ (h3 _ hn)).elim
      · exact e
/-- Weakly in order, and no two put at the same time: strictly. -/
theorem srt_of {l : List Rw} (h : l.Pairwise fun x y => lt y x = false) (hs : l.Pairwise fun x y => x.seq ≠ y.seq) : Srt l :=
  (List.Pairwise.and h hs).imp fun ⟨h1, h2⟩ => by rw [lt_no] at h1; rw [lt_iff]; omega

def insR (x : Rw) : List Rw → List Rw
  | [] => [x]
  | y :: l => if lt x y = true then x :: y :: l else y :: insR x l
theorem mem_insR {x z : Rw} : ∀ {l : List Rw}, z ∈ insR x l ↔ z = x ∨ z ∈ l
  | [] => by simp [insR]
  | y :: l => by
    unfold insR
    split
    · simp
    · simp [mem_insR (l := l)]
      constructor
      · rintro (h | h | h) <;> simp [h]
      · rintro (h | h | h) <;> simp [h]
theorem insR_len {x : Rw} : ∀ {l : List Rw}, (insR x l).length = l.length + 1
  | [] => rfl
  | y :: l => by
    unfold insR
    split
    · rfl
    · rw [List.length_cons, insR_len, List.length_cons]
theorem srt_insR {x : Rw} : ∀ {l : List Rw}, Srt l → (∀ y ∈ l, x.seq ≠ y.seq) → Srt (insR x l)
  | [], _, _ => by simp [insR, Srt]
  | y :: l, h, hs => by
    obtain ⟨h1, h2⟩ := List.pairwise_cons.1 h
    have hy := hs y (by simp)
    unfold insR
    split
    · next c =>
      refine List.pairwise_cons.2 ⟨fun z hz => ?_, h⟩
      rcases List.mem_cons.1 hz with rfl | hz
      · exact c
      · have := h1 z hz; rw [lt_iff] at *; omega
    · next c =>
      have c := (Bool.not_eq_true _).mp c
      refine List.pairwise_cons.2 ⟨fun z hz => ?_, srt_insR h2 fun u hu => hs u (by simp [hu])⟩
      rcases mem_insR.1 hz with rfl | hz
      · rw [lt_no] at c; rw [lt_iff]; omega
      · exact h1 z hz
/-- All rows in order. -/
def ordM (L : List Rw) : List Rw := L.foldl (fun out x => insR x out) []
theorem ord_gen : ∀ (L out : List Rw), Srt out → L.Pairwise (fun x y => x.seq ≠ y.seq) → (∀ x ∈ L, ∀ y ∈ out, x.seq ≠ y.seq) →
    Srt (L.foldl (fun out x => insR x out) out) ∧ (∀ z, z ∈ L.foldl (fun out x => insR x out) out ↔ z ∈ L ∨ z ∈ out) ∧ (L.foldl (fun out x => insR x out) out).length = L.length + out.length
  | [], out, h, _, _ => ⟨h, by simp, by simp⟩
  | x :: L, out, h, hp, hs => by
    obtain ⟨h1, h2⟩ := List.pairwise_cons.1 hp
    obtain ⟨r1, r2, r3⟩ := ord_gen L (insR x out) (srt_insR h fun y hy => hs x (by simp) y hy) h2 fun z hz y hy => by
      rcases mem_insR.1 hy with rfl | hy
      · exact fun e => h1 z hz e.symm
      · exact hs z (by simp [hz]) y hy
    refine ⟨r1, fun z => ?_, by rw [List.foldl_cons, r3, insR_len, List.length_cons]; omega⟩
    rw [List.foldl_cons, r2, mem_insR, List.mem_cons]
    constructor
    · rintro (h | h | h) <;> simp [h]
    · rintro ((h | h) | h) <;> simp [h]
theorem ord_srt {L : List Rw} (h : L.Pairwise fun x y => x.seq ≠ y.seq) : Srt (ordM L) := (ord_gen L [] List.Pairwise.nil h (by simp)).1
theorem ord_mem {L : List Rw} (h : L.Pairwise fun x y => x.seq ≠ y.seq) (z : Rw) : z ∈ ordM L ↔ z ∈ L := by
  have := (ord_gen L [] List.Pairwise.nil h (by simp)).2.1 z
  simpa [ordM] using this
theorem ord_len {L : List Rw} (h : L.Pairwise fun x y => x.seq ≠ y.seq) : (ordM L).length = L.length := by
  have := (ord_gen L [] List.Pairwise.nil h (by simp)).2.2
  simpa [ordM] using this

/-! ## The library's insertion sort -/

abbrev Own (w : World) (v : Value) (l : List Rw) : Prop := w.ownsRow 0 73 8 v l.length (l.flatMap Rw.cs)
theorem own_at {w : World} {v : Value} {l : List Rw} {i : Nat} {x : Rw} (ho : Own w v l) (hx : l[i]? = some x) : ∃ g, v.ownBlock = some g ∧ (∀ w2, QindexAddr Try.prog 62 v (.int .i64 (i : Int)) w2 = some (.pointer (some ⟨g, i * 8, none⟩))) ∧ Qload Try.prog 73 (.pointer (some ⟨g, i * 8, none⟩)) w = some x.v := by
  have hi := (List.getElem?_eq_some_iff.1 hx).1
  obtain ⟨ti, hti, hts⟩ := inf73
  obtain ⟨g, hg, h⟩ := owns_at (k := (i : Int)) ho und62 hti hts (by omega) (by omega)
  refine ⟨g, hg, fun w2 => by rw [h, Int.toNat_natCast], ?_⟩
  have hc := owns_cells (k := i) ho hg
  rw [flat_at l i x (Rw.lens _) hx] at hc
  exact Rw.all hc

def f30V : Value := .func (.func 30) #[] #[]

/-- Weakly in order. -/
def Wk (l : List Rw) : Prop := l.Pairwise fun x y => lt y x = false
theorem wk_mid {A B : List Rw} {x y : Rw} (h : Wk (A ++ [y] ++ B)) (hxy : lt x y = false) (hB : ∀ b ∈ B, lt x b = true) : Wk (A ++ [y] ++ x :: B) := by
  unfold Wk at h ⊢
  rw [List.pairwise_append] at h ⊢
  obtain ⟨h1, h2, h3⟩ := h
  refine ⟨h1, List.pairwise_cons.2 ⟨fun b hb => ?_, h2⟩, fun a ha b hb => ?_⟩
  · have := hB b hb; rw [lt_iff] at this; rw [lt_no]; omega
  · rcases List.mem_cons.1 hb with rfl | hb
    · rcases List.mem_append.1 ha with ha | ha
      · rw [List.pairwise_append] at h1
        have := h1.2.2 a ha y (by simp)
        rw [lt_no] at *; omega
      · simp at ha; subst ha; exact hxy
    · exact h3 a ha b hb
theorem wk_first {B : List Rw} {x : Rw} (h : Wk B) (hB : ∀ b ∈ B, lt x b = true) : Wk (x :: B) :=
  List.pairwise_cons.2 ⟨fun b hb => by have := hB b hb; rw [lt_iff] at this; rw [lt_no]; omega, h⟩

theorem k60 {w : World} {v : Value} {l : List Rw} (ho : Own w v l) (hl : l.length ≤ 12) : Brings (Xcall Try.prog (Value.func (Fn.func 60) #[] #[]) #[v, .int .i64 0, .int .i64 (l.length : Int), f30V] w)
    (fun r => Chg (fun k => v.ownBlock = some k) w r.2 ∧ ∃ l', Own r.2 v l' ∧ l'.Perm l ∧ Wk l') := by
  refine e60 ?_
  unfold s60
  simp only [go_sem]
  rw [show IntKind.i64.wrap (0 + 1) = ((1 : Nat) : Int) from rfl]
  refine Brings.loop (fun m xs w' => ∃ (i : Nat) (l' : List Rw), xs = [v, .int .i64 0, .int .i64 (l.length : Int), f30V, .int .i64 (i : Int)] ∧ 1 ≤ i ∧ i ≤ l.length + 1 ∧ m = l.length + 1 - i ∧ Chg (fun k => v.ownBlock = some k) w w' ∧ Own w' v l' ∧ l'.Perm l ∧ Wk (l'.take i)) ?_ (l.length + 1 - 1) _ _
    ⟨1, l, rfl, by omega, by omega, by omega, Chg.refl _ _, ho, List.Perm.refl _, by
      unfold Wk
      cases l with
      | nil => simp
      | cons x l => simp⟩
  rintro m xs w' ⟨i, l', rfl, h1, hi, hm, hc, ho', hp, hw⟩
  have hlen := hp.length_eq
  simp only [s60B0, go_sem]
  refine .cond (fun hlt => ?_) (fun hlt => ?_)
  · have hlt : i < l.length := by
      have : (i : Int) < l.length := by simpa using hlt
      omega
    have hil : i < l'.length := by omega
    have hsplit : l' = l'.take i ++ l'[i] :: ([] ++ l'.drop (i + 1)) := by
      conv => lhs; rw [← List.take_append_drop i l', List.drop_eq_getElem_cons hil]
      rfl
    refine Brings.loop (fun r ys w'' => ∃ (A B : List Rw), ys = [v, .int .i64 0, .int .i64 (l.length : Int), f30V, .int .i64 (i : Int), .int .i64 (A.length : Int)] ∧ r = A.length ∧ A.length + B.length = i ∧ Chg (fun k => v.ownBlock = some k) w w'' ∧ Own w'' v (A ++ l'[i] :: (B ++ l'.drop (i + 1))) ∧ (A ++ l'[i] :: (B ++ l'.drop (i + 1))).Perm l ∧ Wk (A ++ B) ∧ ∀ b ∈ B, lt l'[i] b = true) ?_ i _ _
      ⟨l'.take i, [], by rw [List.length_take, Nat.min_eq_left (by omega)], by rw [List.length_take]; omega, by rw [List.length_take]; simp; omega, hc, by rw [← hsplit]; exact ho', by rw [← hsplit]; exact hp, by rw [List.append_nil]; exact hw, by simp⟩
    rintro r ys w'' ⟨A, B, rfl, rfl, hAB, hc2, ho2, hp2, hw2, hB⟩
    generalize l'[i] = x at *
    generalize l'.drop (i + 1) = D at *
    simp only [s60B1, go_sem]
    have leave : Wk (A ++ x :: B) → ∀ {w3 : World}, Chg (fun k => v.ownBlock = some k) w w3 → Own w3 v (A ++ x :: (B ++ D)) → Brings (s60R1 (.exit 2) [v, .int .i64 0, .int .i64 (l.length : Int), f30V, .int .i64 (i : Int), .int .i64 (A.length : Int)] w3) (fun r => (r.1 = .normal ∧ ∃ m', m' < m ∧ ∃ (i : Nat) (l' : List Rw), r.2.1 = [v, .int .i64 0, .int .i64 (l.length : Int), f30V, .int .i64 (i : Int)] ∧ 1 ≤ i ∧ i ≤ l.length + 1 ∧ m' = l.length + 1 - i ∧ Chg (fun k => v.ownBlock = some k) w r.2.2 ∧ Own r.2.2 v l' ∧ l'.Perm l ∧ Wk (l'.take i)) ∨ (r.1 ≠ .normal ∧ Brings (s60R0 r.1 r.2.1 r.2.2) fun r => Chg (fun k => v.ownBlock = some k) w r.2 ∧ ∃ l', Own r.2 v l' ∧ l'.Perm l ∧ Wk l')) := by
      intro hW w3 c3 o3
      simp only [s60R1, go_sem]
      rw [wrap_i64 (n := (i : Int) + 1) (by omega) (by omega)]
      refine .ret (.inl ⟨rfl, l.length + 1 - (i + 1), by omega, i + 1, _, rfl, by omega, by omega, rfl, c3, o3, hp2, ?_⟩)
      have : (A ++ x :: (B ++ D)).take (i + 1) = A ++ x :: B := by
        rw [show A ++ x :: (B ++ D) = (A ++ x :: B) ++ D by simp]
        rw [List.take_append_of_le_length (by simp; omega), List.take_of_length_le (by simp; omega)]
      rw [this]; exact hW
    by_cases c1 : 0 < A.length
    · have d1 : decide ((0 : Int) < (A.length : Int)) = true := by rw [decide_eq_true_iff]; omega
      obtain ⟨A', y, rfl⟩ : ∃ A' y, A = A' ++ [y] := ⟨A.dropLast, A.getLast (by intro e; simp [e] at c1), (List.dropLast_concat_getLast _).symm⟩
      have eq1 : A' ++ [y] ++ x :: (B ++ D) = A' ++ y :: x :: (B ++ D) := by simp
      have od := later_bel ho2 (Bel.refl w'').drew
      rw [eq1] at od hp2 ho2
      have hx : (A' ++ y :: x :: (B ++ D))[A'.length + 1]? = some x := by
        rw [List.getElem?_append_right (by omega)]; simp
      have hy : (A' ++ y :: x :: (B ++ D))[A'.length]? = some y := by simp
      obtain ⟨g, hg, ix, lx⟩ := own_at od hx
      obtain ⟨g2, hg2, iy, ly⟩ := own_at od hy
      have eg : g2 = g := Option.some.inj (hg2.symm.trans hg)
      subst eg
      have al : ((A' ++ [y]).length : Int) = ((A'.length + 1 : Nat) : Int) := by simp
      have w1 : IntKind.i64.wrap (((A'.length + 1 : Nat) : Int) - 1) = (A'.length : Int) := by
        have : A'.length ≤ 12 := by simp at hAB; omega
        rw [wrap_i64 (by omega) (by omega)]; omega
      rw [al] at d1 leave ⊢
      simp only [d1, ix, lx, iy, ly, w1, go_sem]
      unfold f30V
      refine (k30 (x := x) (y := y)).bind ?_
      rintro ⟨_, w3⟩ ⟨e3, b3⟩
      simp only at e3 b3
      subst e3
      have c3 := (hc2.thenBel (Bel.refl w'').drew).thenBel b3
      have o3 := later_bel od b3
      simp only [go_sem, ord_lt]
      cases hxy : lt x y with
      | false =>
        simp only [go_sem]
        refine .ret (.inr ⟨by simp, leave ?_ c3 (by rw [eq1]; exact o3)⟩)
        exact wk_mid hw2 hxy hB
      | true =>
        have o4 := later_bel o3 (Bel.refl w3).drew
        have c4 := c3.thenBel (Bel.refl w3).drew
        obtain ⟨g3, hg3, jx, mx⟩ := own_at o4 hx
        obtain ⟨g4, hg4, jy, my⟩ := own_at o4 hy
        have eg3 : g3 = g2 := Option.some.inj (hg3.symm.trans hg)
        have eg4 : g4 = g2 := Option.some.inj (hg4.symm.trans hg)
        subst eg3
        subst eg4
        obtain ⟨w5, e5, o5, c5⟩ := own_put (y := y) o4 hg3 (i := A'.length + 1) (by simp)
        have l5 : (A' ++ y :: x :: (B ++ D)).set (A'.length + 1) y = A' ++ y :: y :: (B ++ D) := by
          rw [List.set_append_right _ _ (by omega)]; simp
        rw [l5] at o5
        obtain ⟨w6, e6, o6, c6⟩ := own_put (y := x) o5 hg3 (i := A'.length) (by simp)
        have l6 : (A' ++ y :: y :: (B ++ D)).set A'.length x = A' ++ x :: y :: (B ++ D) := by
          rw [List.set_append_right _ _ (by omega)]; simp
        rw [l6] at o6
        simp only [w1, jx, mx, jy, my, e5, e6, go_sem]
        have tr : ∀ k, k = g4 → v.ownBlock = some k := fun k hk => by rw [hk]; exact hg3
        refine .ret (.inl ⟨rfl, A'.length, by simp, A', y :: B, rfl, rfl, by simp at hAB ⊢; omega, ((c4.trans (c5.mono fun k _ hk => tr k hk) fun _ _ h => h).trans (c6.mono fun k _ hk => tr k hk) fun _ _ h => h), o6, ?_, ?_, ?_⟩)
        · exact (List.Perm.append_left A' (List.Perm.swap y x (B ++ D))).trans hp2
        · simpa using hw2
        · intro b hb
          rcases List.mem_cons.1 hb with rfl | hb
          · exact hxy
          · exact hB b hb
    · have d1 : decide ((0 : Int) < (A.length : Int)) = false := by rw [decide_eq_false_iff_not]; omega
      simp only [d1, go_sem]
      have : A = [] := List.length_eq_zero_iff.1 (by omega)
      subst this
      exact .ret (.inr ⟨by simp, leave (wk_first hw2 hB) (hc2.thenBel (Bel.refl _).drew) (later_bel ho2 (Bel.refl _).drew)⟩)
  · have hi' : l.length ≤ i := by
      have : ¬ (i : Int) < l.length := by simpa using hlt
      omega
    refine .ret (.inr ⟨by simp, .ret ⟨hc, l', ho', hp, ?_⟩⟩)
    rw [List.take_of_length_le (by omega)] at hw
    exact hw

/-! ## Len -/

theorem Qindex_str {t : TypeId} {s : ByteArray} {k : IntKind} {i : Nat} {w : World} (h : Try.prog.underlying t = some .string) (hi : i < s.size) : Qindex Try.prog t (.string s) (.int k (i : Int)) w = some (.int .u8 ((s[i]'hi).toNat : Int)) := by
  unfold Qindex qv
  rw [run_index_string w t s k i h, dif_pos ⟨by omega, by omega⟩]
  rfl

theorem k51 {w : World} {n : Nat} (hn : n < 256) : Brings (Xcall Try.prog (Value.func (Fn.func 51) #[] #[]) #[.int .u64 (n : Int)] w) (fun r => ∃ m : Nat, m < 256 ∧ r = (.int .i64 (m : Int), w)) := by
  have h69 : Brings (Xcall Try.prog (Value.func (Fn.func 69) #[] #[]) #[.int .u64 (n : Int)] w) (fun r => ∃ m : Nat, m < 256 ∧ r = (.int .i64 (m : Int), w)) := by
    refine e69 ?_
    unfold s69
    have d1 : decide ((4294967296 : Int) ≤ (n : Int)) = false := by rw [decide_eq_false_iff_not]; omega
    have d2 : decide ((65536 : Int) ≤ (n : Int)) = false := by rw [decide_eq_false_iff_not]; omega
    have d3 : decide ((256 : Int) ≤ (n : Int)) = false := by rw [decide_eq_false_iff_not]; omega
    simp only [go_sem, d1]
    unfold s69M0
    simp only [go_sem, d2]
    unfold s69M1
    simp only [go_sem, d3]
    unfold s69M2
    have cv : Qconv Try.prog 102 5 (.int .u64 (n : Int)) = some (.int .u8 (n : Int)) := by rw [Qconv_int (k := .u8) (by kernel_rfl), wrap_u rfl (show n < 256 from hn)]
    simp only [cv, go_sem]
    rw [Qindex_str (by kernel_rfl) (by exact Nat.lt_of_lt_of_le hn (by decide +kernel))]
    generalize hb : (_ : UInt8).toNat = m
    have hm : m < 256 := by rw [← hb]; exact UInt8.toNat_lt _
    have cv2 : Qconv Try.prog 5 3 (.int .u8 (m : Int)) = some (.int .i64 (m : Int)) := by rw [Qconv_int (k := .i64) (by kernel_rfl), wrap_i64 (by omega) (by omega)]
    simp only [cv2, go_sem]
    rw [show IntKind.i64.wrap (0 + (m : Int)) = (m : Int) by rw [wrap_i64 (by omega) (by omega)]; omega]
    exact .ret ⟨m, hm, rfl⟩
  refine e51 ?_
  unfold s51
  simp only [go_sem]
  refine h69.bind ?_
  rintro _ ⟨m, hm, rfl⟩
  exact .ret ⟨m, hm, rfl⟩

theorem k50s {w : World} {v : Value} {l : List Rw} {m : Int} (ho : Own w v l) (hl : l.length ≤ 12) : Brings (Xcall Try.prog (Value.func (Fn.func 50) #[] #[]) #[v, .int .i64 0, .int .i64 (l.length : Int), .int .i64 m, f30V] w)
    (fun r => Chg (fun k => v.ownBlock = some k) w r.2 ∧ ∃ l', Own r.2 v l' ∧ l'.Perm l ∧ Wk l') := by
  refine e50 ?_
  unfold s50
  obtain ⟨y, hy, hq⟩ := k60 ho hl
  refine Brings.loop (fun _ xs w' => xs = [v, .int .i64 0, .int .i64 (l.length : Int), .int .i64 m, f30V, .bool true, .bool true] ∧ w' = w) ?_ 0 _ _ ⟨rfl, rfl⟩
  rintro n xs w' ⟨rfl, rfl⟩
  simp only [s50B0, go_sem]
  rw [show IntKind.i64.wrap ((l.length : Int) - 0) = (l.length : Int) by rw [wrap_i64 (by omega) (by omega)]; omega]
  have d : decide ((l.length : Int) ≤ 12) = true := by rw [decide_eq_true_iff]; omega
  simp only [d, hy, go_sem]
  exact .ret (.inr ⟨by simp, .ret hq⟩)

theorem k29 {w : World} {v : Value} {l : List Rw} (ho : Own w v l) (hl : l.length ≤ 12) : Brings (Xcall Try.prog (Value.func (Fn.func 29) #[] #[]) #[v, f30V] w)
    (fun r => Chg (fun k => v.ownBlock = some k) w r.2 ∧ ∃ l', Own r.2 v l' ∧ l'.Perm l ∧ Wk l') := by
  refine e29 ?_
  unfold s29
  have hs : ∃ x n c, v = .slice x n c := owns_slice ho
  have V := View.of_owns ho (Rw.lens _)
  have cv : Qconv Try.prog 3 93 (.int .i64 (l.length : Int)) = some (.int .u64 (l.length : Int)) := by rw [Qconv_int (k := .u64) (by kernel_rfl), wrap_u rfl (show l.length < 2 ^ 64 by omega)]
  simp only [V.len und62, cv, go_sem]
  refine (k51 (n := l.length) (by omega)).bind ?_
  rintro _ ⟨m, hm, rfl⟩
  refine (k50s ho hl).bind ?_
  rintro ⟨_, w2⟩ h2
  exact .ret h2

end Go.Proofs.Ytcibkmahibnjeaa
