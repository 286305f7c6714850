/- Arguments; a stream on its own; both; plays. -/
import Derived.Test.YtfakpdegiobpaaaSe16
namespace Go.Proofs.Ytfakpdegiobpaaa
open Go Go.Ev Go.RowKit
open Go.Proofs

/-! ## Arguments -/

/-- An argument as the document sees it. -/
def toM (y : Part × List By) : M := ⟨y.1.start, y.1.was, y.2⟩
/-- A text that came in. -/
def Came (w : World) (y : Part × List By) : Prop := View By.cs 1 w y.1.text.v y.2 ∧ y.1.ok ∧ ∀ b ∈ y.2, b.ok
theorem Came.bel {w w' : World} {y : Part × List By} (h : Came w y) (hb : Bel w w') : Came w' y := ⟨h.1.bel hb, h.2⟩
structure Parts (w : World) (s : Value) (Y : List (Part × List By)) : Prop where
  view : View Part.cs 3 w s (Y.map (·.1))
  texts : ∀ y ∈ Y, Came w y
theorem Parts.bel {w w' : World} {s : Value} {Y : List (Part × List By)} (h : Parts w s Y) (hb : Bel w w') : Parts w' s Y := ⟨h.view.bel hb, fun y hy => (h.texts y hy).bel hb⟩

theorem texts_of {α β : Type} {P : α → β → Prop} : ∀ l : List α, (∀ x ∈ l, ∃ y, P x y) → ∃ Y : List (α × β), Y.map (·.1) = l ∧ ∀ y ∈ Y, P y.1 y.2
  | [], _ => ⟨[], rfl, fun _ h => by cases h⟩
  | x :: l, h => by
    obtain ⟨y, hy⟩ := h x (by simp)
    obtain ⟨Y, e, hY⟩ := texts_of l fun z hz => h z (by simp [hz])
    refine ⟨(x, y) :: Y, by simp [e], fun z hz => ?_⟩
    rcases List.mem_cons.1 hz with rfl | hz
    · exact hy
    · exact hY z hz

theorem und22 : Try.prog.underlying 22 = some (.slice 41) := by kernel_rfl
theorem text_of {w : World} {x : Part} (h : ∃ m, Okc Try.prog w m 34 [x.text.v]) : ∃ bs : List By, View By.cs 1 w x.text.v bs ∧ ∀ b ∈ bs, b.ok := by
  obtain ⟨m, h⟩ := h
  exact view_okc By.und34 (by kernel_rfl) (by decide) rfl (fun _ _ h => okc5 h) h
theorem parts_of {v : Value} {n : Nat} {w : World} {r : Reach} {b : Nat} (ho : Value.okWide Try.prog w r b 22 v) (h : Okc Try.prog w n 22 v.cells.toList) : ∃ Y, Parts w v Y := by
  obtain ⟨ds, hv, hok⟩ := view_okc (f := Part.cs) (size := 3) (ok := fun x : Part => x.ok ∧ ∃ m, Okc Try.prog w m 34 [x.text.v]) und22 (by kernel_rfl) (by decide) (cells_slice und22 ho) (fun _ _ h => okc41 h) h
  obtain ⟨Y, rfl, hY⟩ := texts_of (P := fun x bs => Came w (x, bs)) ds fun x hx => by
    obtain ⟨bs, h1, h2⟩ := text_of (hok x hx).2
    exact ⟨bs, h1, (hok x hx).1, h2⟩
  exact ⟨Y, hv, hY⟩
theorem part_of {v : Value} {n : Nat} {w : World} {r : Reach} {b : Nat} (ho : Value.okWide Try.prog w r b 41 v) (h : Okc Try.prog w n 41 v.cells.toList) : ∃ y : Part × List By, v = y.1.v ∧ Came w y := by
  obtain ⟨x, rfl, h1, h2⟩ := open41 ho h
  obtain ⟨bs, h3, h4⟩ := text_of h2
  exact ⟨(x, bs), rfl, h3, h1, h4⟩

theorem Parts.at_ {w : World} {s : Value} {Y : List (Part × List By)} (h : Parts w s Y) {i : Nat} (hi : i < Y.length) :
    ∃ y g o, Y[i]? = some y ∧ (∀ w', QindexAddr Try.prog 22 s (.int .i64 i) w' = some (.pointer (some ⟨g, o, none⟩))) ∧ CellsAt y.1.cs w g o ∧ Came w y := by
  obtain ⟨t, ht, hts⟩ := (⟨(Try.prog.info? 41).get (by kernel_rfl), by kernel_rfl, by kernel_rfl⟩ : ∃ t, Try.prog.info? 41 = some t ∧ t.size = 3)
  obtain ⟨x, g, o, hx, _, hix, hc⟩ := h.view.get und22 ht hts (n := i) (by omega) (by rw [List.length_map]; omega)
  simp only [Int.toNat_natCast, List.getElem?_map] at hx
  have e : Y[i]? = some Y[i] := List.getElem?_eq_getElem hi
  rw [e] at hx
  injection hx with hx
  subst hx
  exact ⟨_, g, o, e, hix, hc, h.texts _ (List.getElem_mem hi)⟩
theorem Parts.lenq {w : World} {s : Value} {Y : List (Part × List By)} (h : Parts w s Y) (w' : World) : Qlen Try.prog #[22] 3 #[s] w' = some (.int .i64 Y.length) := by
  have := h.view.len und22 (ty := 3) w'
  rwa [List.length_map] at this
theorem Parts.small {w : World} {s : Value} {Y : List (Part × List By)} (h : Parts w s Y) : Y.length ≤ 9223372036854775807 := by
  have := h.view.small
  simp only [maxLen, List.length_map] at this
  omega

/-! ## What Add keeps -/

theorem u32_ok {n : Int} (h : (Lit.int .u32 n).wf = true) : 0 ≤ n ∧ n < 4294967296 := by
  obtain ⟨m, rfl, hm⟩ := wf_u rfl h
  have : (2 : Nat) ^ (IntKind.u32).bits = 4294967296 := by decide +kernel
  omega

theorem fine_nil : Fine [] := fun _ h => by cases h
theorem fine_add {l : List M} {p : M} (h : Fine l) (h0 : 0 ≤ p.start) (h1 : p.start < 4294967296) : Fine (addM l p).2 := by
  unfold addM
  by_cases c : mayM p.was = false ∨ mayM p.bs.length = false
  · rw [if_pos c]; exact h
  rw [if_neg c]
  have key : ∀ t : Bool, Fine (if t = true then ((2 : Int), l) else if 8 ≤ l.length then (9, l) else (0, l ++ [p])).2 := fun t => by
    cases t
    · rw [if_neg (by decide)]
      by_cases c3 : 8 ≤ l.length
      · rw [if_pos c3]; exact h
      rw [if_neg c3]
      intro q hq
      rcases List.mem_append.1 hq with hq | hq
      · exact h q hq
      · obtain rfl := List.mem_singleton.1 hq
        rw [not_or] at c
        obtain ⟨c1, c2⟩ := c
        simp only [mayM, Bool.not_eq_false, Bool.and_eq_true, decide_eq_true_eq] at c1 c2
        omega
    · rw [if_pos rfl]; exact h
  exact key _

/-- Two do not reach into each other. -/
structure Apart (F R F' R' : Nat → Prop) : Prop where
  ff : ∀ k, F k → ¬ F' k
  fr : ∀ k, F k → ¬ R' k
  rf : ∀ k, F' k → ¬ R k

/-- Both, of the same parts, that reach to nothing that was there at first. -/
def Both (w0 w : World) (a b : Nat) (l : List M) : Prop :=
  Bel w0 w ∧ Fine l ∧ ∃ sa Z sb Y, St w a sa Z l ∧ Rf w b sb Y l ∧ Apart (Foot a sa) (Reads Pt.text Z) (Foot b sb) (Reads RPt.text Y) ∧
    (∀ k, Foot a sa k → w0.heap.size ≤ k) ∧ ∀ k, Foot b sb k → w0.heap.size ≤ k
theorem Both.bel {w0 w w' : World} {a b : Nat} {l : List M} (h : Both w0 w a b l) (hb : Bel w w') : Both w0 w' a b l := by
  obtain ⟨h1, h2, sa, Z, sb, Y, h3, h4, h5⟩ := h
  exact ⟨h1.trans hb, h2, sa, Z, sb, Y, h3.bel hb, h4.bel hb, h5⟩

/-- One of the program's, that reaches to nothing that was there at first, nor to U. -/
def One (w0 w : World) (U : Nat → Prop) (a : Nat) (l : List M) : Prop :=
  Bel w0 w ∧ Fine l ∧ (∀ k, U k → k < w.heap.size) ∧ ∃ sa Z, St w a sa Z l ∧ ∀ k, Foot a sa k → w0.heap.size ≤ k ∧ ¬ U k
theorem One.bel {w0 w w' : World} {U : Nat → Prop} {a : Nat} {l : List M} (h : One w0 w U a l) (hb : Bel w w') : One w0 w' U a l := by
  obtain ⟨h1, h2, hu, sa, Z, h3, h4⟩ := h
  exact ⟨h1.trans hb, h2, fun k hk => Nat.lt_of_lt_of_le (hu k hk) hb.size, sa, Z, h3.bel hb, h4⟩
theorem One.add {w0 w : World} {U : Nat → Prop} {a : Nat} {l : List M} (h : One w0 w U a l) {p : M} {tv : Value} (htv : View By.cs 1 w tv p.bs) (h0 : 0 ≤ p.start) (h1 : p.start < 4294967296) :
    Brings (Xcall Try.prog (Value.func (Fn.func 20) #[] #[]) #[.pointer (some ⟨a, 0, none⟩), .int .u32 p.start, .int .i64 p.was, tv] w) fun r => r.1 = .int .i64 (addM l p).1 ∧ Chg (fun k => w0.heap.size ≤ k ∧ ¬ U k) w r.2 ∧ One w0 r.2 U a (addM l p).2 := by
  obtain ⟨g1, g2, hu, sa, Z, g3, g4⟩ := h
  refine (k20 g3 htv).mono ?_
  rintro ⟨v, w'⟩ ⟨e1, e2, sl', Z', e3, e4, e5⟩
  simp only at e1 e2 e3
  have s := g1.size
  refine ⟨e1, e2.mono fun k _ hk => g4 k hk, (g1.thenChg e2).bel fun k hk hf => by have := (g4 k hf).1; omega, fine_add g2 h0 h1, fun k hk => Nat.lt_of_lt_of_le (hu k hk) e2.size, sl', Z', e3, fun k hk => ?_⟩
  rcases e4 k hk with hk | hk
  · exact g4 k hk
  · exact ⟨by omega, fun hU => by have := hu k hU; omega⟩
theorem one_new {w0 w : World} (hb : Bel w0 w) (U : Nat → Prop) (hu : ∀ k, U k → k < w.heap.size) : Brings (Xcall Try.prog (Value.func (Fn.func 19) #[] #[]) #[] w) fun r => ∃ a, r.1 = .pointer (some ⟨a, 0, none⟩) ∧ Bel w r.2 ∧ One w0 r.2 U a [] := by
  refine k19.mono ?_
  rintro ⟨v, w'⟩ ⟨a, e1, e2, e3, e4⟩
  simp only at e1 e2 e3
  have s := hb.size
  refine ⟨a, e1, e2, hb.trans e2, fine_nil, fun k hk => Nat.lt_of_lt_of_le (hu k hk) e2.size, _, _, e3, fun k hk => ?_⟩
  rcases hk with rfl | hk
  · exact ⟨by omega, fun hU => by have := hu k hU; omega⟩
  · cases hk

/-- One of the document's. -/
def OneR (w0 w : World) (a : Nat) (l : List M) : Prop :=
  Bel w0 w ∧ Fine l ∧ ∃ sa Z, Rf w a sa Z l ∧ ∀ k, Foot a sa k → w0.heap.size ≤ k
theorem OneR.bel {w0 w w' : World} {a : Nat} {l : List M} (h : OneR w0 w a l) (hb : Bel w w') : OneR w0 w' a l := by
  obtain ⟨h1, h2, sa, Z, h3, h4⟩ := h
  exact ⟨h1.trans hb, h2, sa, Z, h3.bel hb, h4⟩
theorem OneR.add {w0 w : World} {a : Nat} {l : List M} (h : OneR w0 w a l) {p : M} {tv : Value} (htv : View By.cs 1 w tv p.bs) (h0 : 0 ≤ p.start) (h1 : p.start < 4294967296) :
    Brings (Xcall Try.prog (Value.func (Fn.func 28) #[] #[]) #[.pointer (some ⟨a, 0, none⟩), .int .u32 p.start, .int .i64 p.was, tv] w) fun r => r.1 = .int .i64 (addM l p).1 ∧ OneR w0 r.2 a (addM l p).2 := by
  obtain ⟨g1, g2, sa, Z, g3, g4⟩ := h
  refine (k28 g3 htv).mono ?_
  rintro ⟨v, w'⟩ ⟨e1, e2, sl', Z', e3, e4, e5⟩
  simp only at e1 e2 e3
  have s := g1.size
  refine ⟨e1, (g1.thenChg e2).bel fun k hk hf => by have := g4 k hf; omega, fine_add g2 h0 h1, sl', Z', e3, fun k hk => ?_⟩
  rcases e4 k hk with hk | hk
  · exact g4 k hk
  · omega
theorem oneR_new {w0 w : World} (hb : Bel w0 w) : Brings (Xcall Try.prog (Value.func (Fn.func 27) #[] #[]) #[] w) fun r => ∃ a, r.1 = .pointer (some ⟨a, 0, none⟩) ∧ Bel w r.2 ∧ OneR w0 r.2 a [] := by
  refine k27.mono ?_
  rintro ⟨v, w'⟩ ⟨a, e1, e2, e3, e4⟩
  simp only at e1 e2 e3
  have s := hb.size
  refine ⟨a, e1, e2, hb.trans e2, fine_nil, _, _, e3, fun k hk => ?_⟩
  rcases hk with rfl | hk
  · omega
  · cases hk

/-! ## Plays -/

def partsM (l : List M) (Y : List (Part × List By)) : List M := Y.foldl (fun l y => (addM l (toM y)).2) l
theorem parts_step {Y : List (Part × List By)} {i : Nat} {y : Part × List By} (hy : Y[i]? = some y) (l : List M) : partsM l (Y.take (i + 1)) = (addM (partsM l (Y.take i)) (toM y)).2 := by
  have : Y.take (i + 1) = Y.take i ++ [y] := by rw [List.take_add_one, hy]; rfl
  rw [this]
  unfold partsM
  rw [List.foldl_append]
  rfl
theorem take_all {α : Type} {Y : List α} {i n : Nat} (hi : i ≤ Y.length) (hn : i ≤ n) (h : ¬ (i < Y.length ∧ i < n)) : Y.take n = Y.take i := by
  rcases Nat.lt_or_ge i n with h' | h'
  · have : i = Y.length := by omega
    subst this
    rw [List.take_length, List.take_of_length_le (by omega)]
  · rw [show n = i by omega]

def Played (w : World) (l : List M) (r : Value × World) : Prop :=
  ∃ a b, r.1 = .tuple #[.pointer (some ⟨a, 0, none⟩), .pointer (some ⟨b, 0, none⟩), .bool true] ∧ Both w r.2 a b l

theorem k12 {w : World} {s : Value} {Y : List (Part × List By)} (hv : Parts w s Y) : Brings (Xcall Try.prog (Value.func (Fn.func 12) #[] #[]) #[s] w) (Played w (partsM [] (Y.take 30))) := by
  refine e12 ?_
  unfold s12
  refine k19.bind ?_
  rintro ⟨_, w1⟩ ⟨a, h1, b1, oa, fa⟩
  simp only at h1 b1 oa
  subst h1
  simp only
  refine k27.bind ?_
  rintro ⟨_, w2⟩ ⟨b, h1, b2, ob, fb⟩
  simp only at h1 b2 ob
  subst h1
  simp only
  have s1 := b1.size
  have la := oa.lt a (.inl rfl)
  have T0 : Both w w2 a b [] := by
    refine ⟨b1.trans b2, fine_nil, _, _, _, _, oa.bel b2, ob, ⟨?_, ?_, ?_⟩, ?_, ?_⟩
    · rintro k hk h
      have hk' : k = a := hk.resolve_right fun e => by cases e
      have h' : k = b := h.resolve_right fun e => by cases e
      omega
    · rintro k _ ⟨z, hz, _⟩; cases hz
    · rintro k _ ⟨z, hz, _⟩; cases hz
    · rintro k (rfl | hk) <;> first | omega | cases hk
    · rintro k (rfl | hk) <;> first | omega | cases hk
  have h63 := hv.small
  refine Brings.loop (fun m xs w' => ∃ i : Nat, xs = [s, .pointer none, .pointer none, .bool false, .pointer (some ⟨a, 0, none⟩), .pointer (some ⟨b, 0, none⟩), .int .i64 i] ∧ i ≤ Y.length ∧ i ≤ 30 ∧ m = 30 - i ∧ Both w w' a b (partsM [] (Y.take i))) ?_ 30 _ _
    ⟨0, rfl, by omega, by omega, by omega, T0⟩
  rintro m xs w' ⟨i, rfl, hi, hi30, hm, T⟩
  have fin : ¬ (i < Y.length ∧ i < 30) → Brings (s12R0 (.exit 0) [s, .pointer none, .pointer none, .bool false, .pointer (some ⟨a, 0, none⟩), .pointer (some ⟨b, 0, none⟩), .int .i64 i] w') (Played w (partsM [] (Y.take 30))) := fun hn => by
    rw [take_all hi hi30 hn]
    exact .ret ⟨a, b, rfl, T⟩
  simp only [s12B0, hv.lenq, go_sem]
  by_cases h1 : i < Y.length
  · have e1 : decide ((i : Int) < Y.length) = true := by rw [decide_eq_true_iff]; omega
    by_cases h2 : i < 30
    · have e2 : decide ((i : Int) < 30) = true := by rw [decide_eq_true_iff]; omega
      obtain ⟨hb, hf, sa, Z, sb, X, A, B, D, fA, fB⟩ := T
      obtain ⟨y, g, o, hy, hix, hc, ht⟩ := (hv.bel hb).at_ h1
      have hu := u32_ok ht.2.1.1
      have bd : Bel w' w'.drew := (Bel.refl _).drew
      have hcd := hc.bel bd
      simp only [e1, e2, hix, Part.f0 hcd, Part.f1 hcd, Part.f2 hcd, go_sem]
      refine (k20 (p := toM y) (A.bel bd) (ht.bel bd).1).bind ?_
      rintro ⟨_, w3⟩ ⟨e3, c3, sa', Z', A3, f3, q3⟩
      simp only at e3 c3 A3
      subst e3
      have hsz := bd.size
      have sw := hb.size
      have bw3 : Bel w w3 := ((hb.trans bd).thenChg c3).bel fun k hk hF => by have := fA k hF; omega
      obtain ⟨y', g', o', hy', hix', hc3, ht3⟩ := (hv.bel bw3).at_ h1
      have ey : y' = y := by rw [hy] at hy'; injection hy' with h; exact h.symm
      subst ey
      have egg : g' = g ∧ o' = o := by
        have := (hix' w3).symm.trans (hix w3)
        injection this with this; injection this with this; injection this with this; injection this with h1 h2
        exact ⟨h1, h2⟩
      obtain ⟨rfl, rfl⟩ := egg
      have B3 : Rf w3 b sb X _ := (B.bel bd).keep c3 (fun k hk hF => D.ff k hF hk) (fun k hk hF => D.fr k hF hk)
      simp only [hix, Part.f0 hcd, Part.f1 hcd, Part.f2 hcd, Part.f0 hc3, Part.f1 hc3, Part.f2 hc3, go_sem]
      refine (k28 (p := toM y') B3 ht3.1).bind ?_
      rintro ⟨_, w4⟩ ⟨e4, c4, sb', X', B4, f4, q4⟩
      simp only at e4 c4 B4
      subst e4
      have bw4 : Bel w w4 := (bw3.thenChg c4).bel fun k hk hF => by have := fB k hF; omega
      have nA : ∀ k, Foot b sb k → k < w'.heap.size := fun k hk => B.lt k hk
      have nR : ∀ k, Reads RPt.text X k → k < w'.heap.size := fun k ⟨z, hz, hk⟩ => (B.texts z hz).1.lt hk
      have A4 : St w4 a sa' Z' _ := A3.keep c4 (fun k hk hF => by
          rcases f3 k hk with h | h
          · exact D.ff k h hF
          · have := nA k hF; omega) fun k hk hF => by
          rcases q3 k hk with h | h
          · exact D.rf k hF h
          · have := nA k hF; omega
      have s3 := c3.size
      have lA := A3.lt
      have lR : ∀ k, Reads Pt.text Z' k → k < w3.heap.size := fun k ⟨z, hz, hk⟩ => (A3.texts z hz).1.lt hk
      have hfl := fine_add hf (p := toM y') hu.1 hu.2
      simp only [bne_self_eq_false, eq_self, and_self, go_sem]
      have w1' : IntKind.i64.wrap ((i : Int) + 1) = ((i + 1 : Nat) : Int) := by rw [wrap_i64 (by omega) (by omega)]; rfl
      rw [w1']
      refine .ret (.inl ⟨rfl, 30 - (i + 1), by omega, i + 1, rfl, by omega, by omega, rfl, bw4, ?_⟩)
      rw [parts_step hy]
      refine ⟨hfl, sa', Z', sb', X', A4, B4, ⟨fun k hk hk' => ?_, fun k hk hk' => ?_, fun k hk hk' => ?_⟩, fun k hk => ?_, fun k hk => ?_⟩
      · rcases f4 k hk' with h' | h'
        · rcases f3 k hk with h | h
          · exact D.ff k h h'
          · have := nA k h'; omega
        · have := lA k hk; omega
      · rcases q4 k hk' with h' | h'
        · rcases f3 k hk with h | h
          · exact D.fr k h h'
          · have := nR k h'; omega
        · have := lA k hk; omega
      · rcases f4 k hk with h | h
        · rcases q3 k hk' with h' | h'
          · exact D.rf k h h'
          · have := nA k h; omega
        · have := lR k hk'; omega
      · rcases f3 k hk with h | h
        · exact fA k h
        · omega
      · rcases f4 k hk with h | h
        · exact fB k h
        · omega
    · have e2 : decide ((i : Int) < 30) = false := by rw [decide_eq_false_iff_not]; omega
      simp only [e1, e2, go_sem]
      exact .ret (.inr ⟨by simp, fin (by omega)⟩)
  · have e1 : decide ((i : Int) < Y.length) = false := by rw [decide_eq_false_iff_not]; omega
    simp only [e1, go_sem]
    exact .ret (.inr ⟨by simp, fin (by omega)⟩)

end Go.Proofs.Ytfakpdegiobpaaa
