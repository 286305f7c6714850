/- Streams. -/
import Derived.Test.YtfakpdegiobpaaaSe28
namespace Go.Proofs.Ytfakpdegiobpaaa
open Go Go.Ev Go.RowKit
open Go.Proofs

theorem m11 {w0 w : World} {a : Nat} {bv tv : Sl} {b t : List By} {f : Int} {s u : Nat} (O : One w0 w (fun _ => False) a []) (hb : View By.cs 1 w0 bv.v b) (ht : View By.cs 1 w0 tv.v t) (hf : 0 ≤ f ∧ f < 4294967296) (l1 : b.length ≤ 600) (l2 : 1 ≤ t.length ∧ t.length ≤ 100) (u1 : 1 ≤ u ∧ u ≤ 128 ∧ s + u ≤ b.length) :
    Brings (s11M1 (.bool false) bv.v tv.v (.int .u32 f) (.pointer (some ⟨a, 0, none⟩)) (.int .i64 (s : Int)) (.int .i64 (u : Int)) w) (Yes w0) := by
  unfold s11M1
  simp only [cv323, u32w, go_sem]
  rw [show (f + (s : Int) % 4294967296) % 4294967296 = (f + s) % 4294967296 by omega]
  have ha : addM [] (⟨(f + s) % 4294967296, u, t⟩ : M) = (0, [⟨(f + s) % 4294967296, u, t⟩]) := by
    have c1 : mayM (u : Int) = true := by simp [mayM]; omega
    have c2 : mayM (t.length : Int) = true := by simp [mayM]; omega
    unfold addM
    simp [c1, c2]
  refine (O.add (p := ⟨(f + s) % 4294967296, u, t⟩) (ht.bel O.1) (by show 0 ≤ (f + s) % 4294967296; omega) (by show (f + s) % 4294967296 < 4294967296; omega)).bind ?_
  rintro ⟨_, w2⟩ ⟨e2, _, O2⟩
  simp only at e2 O2
  subst e2
  rw [ha] at O2
  simp only [ha, bne_self_eq_false, go_sem]
  have b2 : Bel w0 w2 := O2.1
  refine (k26 (hb.bel b2) (ht.bel b2) (by omega) (by omega) u1.2.2).bind ?_
  rintro ⟨wv, w3⟩ ⟨b3, o3⟩
  simp only at b3 o3
  have hl := repl_len (b := b) (t := t) (s := s) (u := u) u1.2.2
  simp only [o3.view.len By.und34, go_sem]
  obtain ⟨gv, w4, e4, o4, b4, f4⟩ := made34 (n := (repl b t s u).length) (by omega) w3
  simp only [e4, go_sem]
  obtain ⟨sv, w5, e5, o5, b5, f5⟩ := made56 (n := (repl b t s u).length) (by omega) w4
  simp only [e5, o3.view.len By.und34, go_sem]
  obtain ⟨sa, Z, A⟩ := (O2.bel b3).st
  refine loop11 (wN := w3) (b2.trans b3) ⟨A, O2.2.1, hf, (hb.bel b2).bel b3, o3, ⟨f4, fun k hk => ?_, fun k hk e => ?_⟩, l1, l2, u1.1, u1.2.2⟩ ⟨b4.trans b5, ?_, ?_⟩
  · rw [f5] at hk
    injection hk with hk
    have := b4.size
    omega
  · rw [f5] at e
    injection e with e
    have := o4.lt hk
    omega
  · have : filled (repl b t s u) 0 = List.replicate (repl b t s u).length By.zero := by simp [filled]
    rw [this]
    exact o4.chg (.of_bel b5 fun _ => False) fun _ _ h => h
  · have : marked (repl b t s u).length 0 = List.replicate (repl b t s u).length false := by simp [marked]
    rw [this]
    exact o5

theorem region11b (n : Nat) {p : Nat} {b t : Sl} {B T : List By} {f x y : Int} {a : Act} {w : World} (hs : a.tmps.size = 203) (h1 : a.tmps.getD 1 undef = .pointer (some ⟨p, 0, none⟩)) (h2 : a.tmps.getD 2 undef = .bool false) (hp : CellsAt (strm b t f x y).toList w p 0) (hB : View By.cs 1 w b.v B) (hT : View By.cs 1 w t.v T) :
    Brings (evIdx Try.prog (opsOf (nav [1, 0] (bodyOf Try.f11))) (Region.linearise .any (opsOf (nav [1, 0] (bodyOf Try.f11))) n) a w) (fun r => Bel w r.2 ∧ r.1.tmps.getD 2 undef = .bool false ∧
      ∃ (s u : Sl) (q : Nat), r.1.tmps.getD 3 undef = s.v ∧ r.1.tmps.getD 4 undef = u.v ∧ r.1.tmps.getD 5 undef = .int .u32 f ∧ r.1.tmps.getD 6 undef = .pointer (some ⟨q, 0, none⟩) ∧
        View By.cs 1 r.2 s.v (B.take 600) ∧ View By.cs 1 r.2 u.v (T.take 100) ∧ r.2.heap[q]? = some (.cells #[.int .u8 x, .int .u8 y] 51)) := by
  obtain ⟨a', w', e, k, b, h⟩ := region11 n hs h1 hp hB hT
  exact ⟨(a', w'), e, b, (k 2 (by omega)).trans h2, h⟩

theorem l11 {w : World} {bv tv : Sl} {B T : List By} {f x y : Int} (hb : View By.cs 1 w bv.v B) (ht : View By.cs 1 w tv.v T) (hf : 0 ≤ f ∧ f < 4294967296) (hx : 0 ≤ x ∧ x < 256) (hy : 0 ≤ y ∧ y < 256) : Brings (s11 (.agg (strm bv tv f x y)) w) (Yes w) := by
  unfold s11
  rw [box53]
  have b1 : Bel w (w.alloc (.cells (strm bv tv f x y) 53)) := (Bel.refl w).alloc _
  have c1 : CellsAt (strm bv tv f x y).toList (w.alloc (.cells (strm bv tv f x y) 53)) w.heap.size 0 := CellsAt.of (MapKept.heap_alloc w _).1
  simp only [Option.bind_some]
  generalize w.alloc (.cells (strm bv tv f x y) 53) = w1 at b1 c1
  generalize w.heap.size = p at c1
  have bd : Bel w1 w1.drew := (Bel.refl _).drew
  refine (region11b (p := p) (b := bv) (t := tv) (B := B) (T := T) (f := f) (x := x) (y := y) _ (by kernel_rfl) (by kernel_rfl) (by kernel_rfl) (c1.bel bd) ((hb.bel b1).bel bd) ((ht.bel b1).bel bd)).bind ?_
  rintro ⟨a', w2⟩ ⟨b2, e2, s, v, q, e3, e4, e5, e6, hs, hv, hq⟩
  simp only at b2 e2 e3 e4 e5 e6 hs hv hq
  simp only [e2, e3, e4, e5, e6]
  have B2 := (b1.trans bd).trans b2
  unfold s11M0
  refine (one_new (Bel.refl w2) (fun _ => False) fun _ f => f.elim).bind ?_
  rintro ⟨_, w3⟩ ⟨a, h3, b3, o3⟩
  simp only at h3 b3 o3
  subst h3
  have hs3 := hs.bel b3
  have hv3 := hv.bel b3
  have lb : (B.take 600).length ≤ 600 := by rw [List.length_take]; omega
  have lt : (T.take 100).length ≤ 100 := by rw [List.length_take]; omega
  have q0 : w3.cell? ⟨q, 0, none⟩ = some (.int .u8 x) := cell_at (b3.at_ hq) rfl
  have q1 : w3.cell? ⟨q, 1, none⟩ = some (.int .u8 y) := cell_at (b3.at_ hq) rfl
  have hs2 := hs
  have hv2 := hv
  generalize B.take 600 = b at hs hs2 hs3 lb
  generalize T.take 100 = t at hv hv2 hv3 lt
  have cs : (decide ((b.length : Int) < 2) = false ∧ ((t.length : Int) == 0) = false) ∨ (decide ((b.length : Int) < 2) = true ∨ (decide ((b.length : Int) < 2) = false ∧ ((t.length : Int) == 0) = true)) := by
    cases decide ((b.length : Int) < 2) <;> cases (t.length : Int) == 0 <;> simp
  simp only [hs3.len By.und34, hv3.len By.und34, go_sem]
  rcases cs with ⟨g1, g2⟩ | (g1 | ⟨g1, g2⟩)
  · have n1 : 2 ≤ b.length := by
      have : ¬ (b.length : Int) < 2 := by simpa using g1
      omega
    have n2 : 1 ≤ t.length := by
      have : ¬ (t.length : Int) = 0 := by simpa using g2
      omega
    simp only [g1, g2, hs3.len By.und34, hv3.len By.und34, at51x0, at51x1, Qload_cell one5 q0, Qload_cell one5 q1, cv53 hx, cv53 hy, go_sem]
    rw [wrap_i64 (n := (b.length : Int) - 1) (by omega) (by omega)]
    have d1 : (b.length : Int) - 1 ≠ 0 := by omega
    have z1 : 0 ≤ x.tmod ((b.length : Int) - 1) ∧ x.tmod ((b.length : Int) - 1) < (b.length : Int) - 1 := ⟨Int.tmod_nonneg _ hx.1, Int.tmod_lt_of_pos _ (by omega)⟩
    simp only [Qb_remP d1, go_sem]
    obtain ⟨i, hi⟩ : ∃ i : Nat, x.tmod ((b.length : Int) - 1) = i := ⟨(x.tmod ((b.length : Int) - 1)).toNat, by omega⟩
    rw [hi] at z1
    rw [hi]
    rw [wrap_i64 (n := (b.length : Int) - i) (by omega) (by omega), wrap_i64 (n := (b.length : Int) - i - 1) (by omega) (by omega)]
    have d2 : (b.length : Int) - i - 1 ≠ 0 := by omega
    have z2 : 0 ≤ y.tmod ((b.length : Int) - i - 1) ∧ y.tmod ((b.length : Int) - i - 1) < (b.length : Int) - i - 1 := ⟨Int.tmod_nonneg _ hy.1, Int.tmod_lt_of_pos _ (by omega)⟩
    simp only [Qb_remP d2, go_sem]
    generalize y.tmod ((b.length : Int) - i - 1) = j at z2
    rw [wrap_i64 (n := j + 1) (by omega) (by omega)]
    have up : ∀ o : Option (Value × World), Brings o (Yes w2) → Brings o (Yes w) := fun o h => h.mono fun r hr => ⟨hr.1, B2.trans hr.2⟩
    refine .cond (fun h => ?_) (fun h => ?_)
    · have h : 128 < j + 1 := by simpa using h
      exact up _ (m11 (s := i) (u := 128) o3 hs2 hv2 hf lb ⟨n2, lt⟩ ⟨by omega, by omega, by omega⟩)
    · have h : ¬ 128 < j + 1 := by simpa using h
      obtain ⟨u, hu⟩ : ∃ u : Nat, j + 1 = u := ⟨(j + 1).toNat, by omega⟩
      rw [hu]
      exact up _ (m11 (s := i) (u := u) o3 hs2 hv2 hf lb ⟨n2, lt⟩ ⟨by omega, by omega, by omega⟩)
  all_goals
    first
    | simp only [g1, g2, hs3.len By.und34, hv3.len By.und34, go_sem]
    | simp only [g1, hs3.len By.und34, hv3.len By.und34, go_sem]
    obtain ⟨sa, Z, A⟩ := o3.st
    refine (k17 A).bind ?_
    rintro ⟨_, w4⟩ ⟨h4, b4⟩
    simp only at h4 b4
    have em : mapC f (cellsOf 0 []) = f := rfl
    rw [em] at h4
    subst h4
    have hl := By.lit34 ⟨1⟩ w4
    have hl : XbuildSlice Try.prog 34 1 #[(0, .int .u8 1)] w4 = _ := hl
    simp only [beq_self_eq_true, hl, go_sem]
    have b5 : Bel w4 (w4.alloc (.cells (By.cs ⟨1⟩).toArray 5)) := (Bel.refl w4).alloc _
    have ha : addM [] (⟨f, 1, [⟨1⟩]⟩ : M) = (0, [⟨f, 1, [⟨1⟩]⟩]) := rfl
    refine (((o3.bel b4).bel b5).add (p := ⟨f, 1, [⟨1⟩]⟩) (By.litView ⟨1⟩ w4) hf.1 hf.2).bind ?_
    rintro ⟨_, w6⟩ ⟨h6, _, O6⟩
    simp only at h6 O6
    subst h6
    simp only [ha, beq_self_eq_true, go_sem]
    exact .ret ⟨rfl, B2.trans O6.1⟩

theorem open53 {w : World} {r : Reach} {b n : Nat} {v : Value} (hw : Value.okWide Try.prog w r b 53 v) (h : Okc Try.prog w n 53 v.cells.toList) :
    ∃ (bv tv : Sl) (B T : List By) (f x y : Int), v = .agg (strm bv tv f x y) ∧ View By.cs 1 w bv.v B ∧ View By.cs 1 w tv.v T ∧ (0 ≤ f ∧ f < 4294967296) ∧ (0 ≤ x ∧ x < 256) ∧ 0 ≤ y ∧ y < 256 := by
  obtain ⟨cs, rfl, _⟩ := Go.WideShapes.okWide_struct Try.underlying53 hw
  cases n with
  | zero => exact h.elim
  | succ n =>
    unfold Okc at h
    rw [Try.underlying53] at h
    obtain ⟨hl, hf⟩ := h
    rw [show Try.prog.cellsOf 53 = 5 from by kernel_rfl] at hl
    have hl : (Value.agg cs).cells.toList.length = 5 := hl
    obtain ⟨l⟩ := cs
    match l, hl, hf with
    | [c0, c1, c2, c3, c4], _, hf =>
      have h0 := hf _ (List.mem_iff_getElem.2 ⟨0, by decide +kernel, rfl⟩)
      change Okc Try.prog w n 34 (([c0, c1, c2, c3, c4].drop 0).take (Try.prog.cellsOf 34)) at h0
      rw [show Try.prog.cellsOf 34 = 1 from by kernel_rfl] at h0
      have h1 := hf _ (List.mem_iff_getElem.2 ⟨1, by decide +kernel, rfl⟩)
      change Okc Try.prog w n 34 (([c0, c1, c2, c3, c4].drop 1).take (Try.prog.cellsOf 34)) at h1
      rw [show Try.prog.cellsOf 34 = 1 from by kernel_rfl] at h1
      have h2 := hf _ (List.mem_iff_getElem.2 ⟨2, by decide +kernel, rfl⟩)
      change Okc Try.prog w n 23 (([c0, c1, c2, c3, c4].drop 2).take (Try.prog.cellsOf 23)) at h2
      rw [show Try.prog.cellsOf 23 = 1 from by kernel_rfl] at h2
      have h3 := hf _ (List.mem_iff_getElem.2 ⟨3, by decide +kernel, rfl⟩)
      change Okc Try.prog w n 51 (([c0, c1, c2, c3, c4].drop 3).take (Try.prog.cellsOf 51)) at h3
      rw [show Try.prog.cellsOf 51 = 2 from by kernel_rfl] at h3
      obtain ⟨s, e0⟩ := okc_slice By.und34 h0
      obtain ⟨t, e1⟩ := okc_slice By.und34 h1
      obtain ⟨f, e2, wf⟩ := okc_int (k := .u32) (by kernel_rfl) h2
      have e0 : c0 = s.v := e0
      have e1 : c1 = t.v := e1
      have e2 : c2 = .int .u32 f := e2
      subst e0 e1 e2
      obtain ⟨B, hB, _⟩ := view_okc (f := By.cs) (size := 1) (v := s.v) By.und34 (by kernel_rfl) (by decide) rfl (fun _ _ h => okc5 h) h0
      obtain ⟨T, hT, _⟩ := view_okc (f := By.cs) (size := 1) (v := t.v) By.und34 (by kernel_rfl) (by decide) rfl (fun _ _ h => okc5 h) h1
      cases n with
      | zero => exact h3.elim
      | succ n =>
        unfold Okc at h3
        rw [Try.underlying51] at h3
        obtain ⟨_, hg⟩ := h3
        have g0 := hg 0 (by decide)
        have g1 := hg 1 (by decide)
        rw [show Try.prog.cellsOf 5 = 1 from by kernel_rfl] at g0 g1
        obtain ⟨x, e3, wx⟩ := okc_int (k := .u8) (by kernel_rfl) g0
        obtain ⟨y, e4, wy⟩ := okc_int (k := .u8) (by kernel_rfl) g1
        have e3 : c3 = .int .u8 x := e3
        have e4 : c4 = .int .u8 y := e4
        subst e3 e4
        exact ⟨s, t, B, T, f, x, y, rfl, hB, hT, u32_ok wf, by_ok (h := (wx : By.ok ⟨x⟩)), by_ok (h := (wy : By.ok ⟨y⟩))⟩

theorem law11 {v0 : Value} {n0 : Nat} {w : World} {r0 : Reach} {b0 : Nat} (ho0 : Value.okWide Try.prog w r0 b0 53 v0) (h0 : Okc Try.prog w n0 53 v0.cells.toList) :
    Calls Try.prog 11 #[v0] w fun e w' => e = .returned (.bool true) ∧ Below w.heap.size w w' := by
  obtain ⟨bv, tv, B, T, f, x, y, rfl, h1, h2, h3, h4, h5⟩ := open53 ho0 h0
  exact law_of (l11 h1 h2 h3 h4 h5) fun _ => c11

end Go.Proofs.Ytfakpdegiobpaaa
