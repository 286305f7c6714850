/- Sums. -/
import Derived.Test.YtfakpdegiobpaaaSe24
namespace Go.Proofs.Ytfakpdegiobpaaa
open Go Go.Ev Go.RowKit
open Go.Proofs

structure SumI (B : Int) (L : List M) (a d Y : Int) (i : Nat) : Prop where
  fine : Fine L
  chain : Chain L.reverse
  len : L.length = i
  most : i ≤ 8
  close : Close B L
  y0 : 0 ≤ Y
  y1 : Y ≤ 400 * i
  at_ : a = (B + Y) % 4294967296
  dif_ : d = dif (L.reverse.map (zOf B)) % 4294967296
  behind : match L.reverse with | [] => True | p :: _ => aheadM p.start B + p.was ≤ Y

section sums
variable {B a d Y : Int} {L : List M} {i : Nat}
theorem SumI.good (h : SumI B L a d Y i) : Good L := ⟨h.fine, h.chain, by rw [h.len]; exact h.most⟩
theorem SumI.row (h : SumI B L a d Y i) : Row Y (L.reverse.map (zOf B)) := by
  obtain ⟨e, he, e2⟩ := row_of _ h.chain (fine_rev h.fine) (close_rev h.close)
  refine he.mono ?_
  have hb := h.behind
  have h0 := h.y0
  revert e2 hb
  cases L.reverse with
  | nil => intro e2 _; simp only at e2; omega
  | cons p rl => intro e2 hb; simp only at e2 hb; omega
theorem SumI.map (h : SumI B L a d Y i) : mapC a (cellsOf 0 L) = (a + d) % 4294967296 ∧ mapC ((a + 1000) % 4294967296) (cellsOf 0 L) = ((a + 1000) % 4294967296 + d) % 4294967296 ∧ unmapC ((a + d) % 4294967296) (cellsOf 0 L) = a := by
  have h0 := h.y0
  have h1 := h.y1
  have hm := h.most
  have ha := h.at_
  have hd := h.dif_
  have hr := h.row
  have hs := dif_small hr
  rw [List.length_map, List.length_reverse, h.len] at hs
  refine ⟨?_, ?_, ?_⟩
  · rw [h.good.map (y := Y) h.close (by omega) (by omega) ha (by omega) (by omega), map_above hr (Int.le_refl _)]
    omega
  · rw [h.good.map (y := Y + 1000) h.close (by omega) (by omega) (by omega) (by omega) (by omega), map_above hr (by omega)]
    omega
  · rw [h.good.unmap (y := Y + dif (L.reverse.map (zOf B))) h.close (by omega) (by omega) (by omega) (by omega) (by omega), unmap_above hr (Int.le_refl _)]
    omega
theorem SumI.step (h : SumI B L a d Y i) (hi : i < 8) {u : Int} {bs : List By} (u1 : 1 ≤ u) (u2 : u ≤ 128) (b1 : 1 ≤ bs.length) (b2 : bs.length ≤ 128) :
    addM L ⟨a, u, bs⟩ = (0, L ++ [⟨a, u, bs⟩]) ∧ mapC a (cellsOf 0 (L ++ [⟨a, u, bs⟩])) = (a + d) % 4294967296 ∧
      ∀ g : Int, 0 ≤ g → g < 256 → SumI B (L ++ [⟨a, u, bs⟩]) ((a + (u + g)) % 4294967296) ((d + ((bs.length : Int) - u)) % 4294967296) (Y + (u + g)) (i + 1) := by
  have h0 := h.y0
  have h1 := h.y1
  have hm := h.most
  have ha := h.at_
  have hd := h.dif_
  have hr := h.row
  have hs := dif_small hr
  rw [List.length_map, List.length_reverse, h.len] at hs
  have haB : aheadM a B = Y := by
    have := ahead_of (a := a) (b := B) (B := B) (x := Y) (y := 0) (by omega) (by omega) (by omega) (by omega)
    omega
  have hch : match L.reverse with | [] => True | q :: _ => 0 ≤ aheadM a q.end_ := by
    have hb := h.behind
    have hc := close_rev h.close
    have hf := fine_rev h.fine
    revert hb hc hf
    cases L.reverse with
    | nil => intros; trivial
    | cons q rl =>
      intro hb hc hf
      obtain ⟨g1, g2⟩ := hc q (by simp)
      obtain ⟨f1, f2, f3, f4, _⟩ := hf q (by simp)
      simp only at hb ⊢
      have hq : q.start % 4294967296 = (B + aheadM q.start B) % 4294967296 := ahead_start
      have := ahead_of (a := a) (b := q.end_) (B := B) (x := Y) (y := aheadM q.start B + q.was) (by omega) (by unfold M.end_; omega) (by omega) (by omega)
      omega
  have hfine : Fine (L ++ [(⟨a, u, bs⟩ : M)]) := fun p hp => by
    rcases List.mem_append.1 hp with hp | hp
    · exact h.fine p hp
    · obtain rfl := List.mem_singleton.1 hp
      exact ⟨by show 0 ≤ a; omega, by show a < 4294967296; omega, u1, u2, b1, b2⟩
  have hclose : Close B (L ++ [⟨a, u, bs⟩]) := fun p hp => by
    rcases List.mem_append.1 hp with hp | hp
    · exact h.close p hp
    · obtain rfl := List.mem_singleton.1 hp
      show 0 ≤ aheadM a B ∧ aheadM a B ≤ 536870912
      omega
  have hchain : Chain (L ++ [(⟨a, u, bs⟩ : M)]).reverse := by
    rw [List.reverse_append]
    exact ⟨hch, h.chain⟩
  have hadd : addM L ⟨a, u, bs⟩ = (0, L ++ [⟨a, u, bs⟩]) := by
    unfold addM
    have c1 : mayM u = true := by simp [mayM, u1, u2]
    have c2 : mayM (bs.length : Int) = true := by simp [mayM]; omega
    have c3 : ¬ 8 ≤ L.length := by rw [h.len]; omega
    revert hch
    cases L.reverse with
    | nil => intro _; simp [c1, c2, c3]
    | cons q rl =>
      intro hch
      simp only at hch
      have : ¬ aheadM a q.end_ < 0 := by omega
      simp [c1, c2, c3, this]
  have hrev : ((L ++ [(⟨a, u, bs⟩ : M)]).reverse.map (zOf B)) = (⟨Y, u, bs.length⟩ : Z3) :: L.reverse.map (zOf B) := by
    rw [List.reverse_append, List.map_append]
    show [zOf B ⟨a, u, bs⟩] ++ _ = _
    unfold zOf
    simp only [haB]
    rfl
  have hgood : Good (L ++ [⟨a, u, bs⟩]) := ⟨hfine, hchain, by rw [List.length_append, h.len]; simp; omega⟩
  refine ⟨hadd, ?_, fun g g0 g1 => ⟨hfine, hchain, by rw [List.length_append, h.len]; rfl, by omega, hclose, by omega, by omega, by omega, ?_, ?_⟩⟩
  · rw [hgood.map (y := Y) hclose (by omega) (by omega) ha (by omega) (by omega), hrev]
    simp only [mapZ]
    rw [if_pos (Int.le_refl _), if_pos (by omega)]
    omega
  · rw [hrev]
    simp only [dif]
    omega
  · rw [List.reverse_append]
    show aheadM a B + u ≤ Y + (u + g)
    omega
end sums

theorem und35 : Try.prog.underlying 35 = some (.array 2 34) := by kernel_rfl
theorem open35 {w : World} {r : Reach} {b n : Nat} {v : Value} (hw : Value.okWide Try.prog w r b 35 v) (h : Okc Try.prog w n 35 v.cells.toList) : ∃ (s t : Sl) (l m : List By), v = .agg #[s.v, t.v] ∧ View By.cs 1 w s.v l ∧ (∀ b ∈ l, b.ok) ∧ View By.cs 1 w t.v m ∧ ∀ b ∈ m, b.ok := by
  obtain ⟨cs, rfl⟩ : ∃ cs, v = .agg cs := by
    simp only [Value.okWide, und35] at hw
    obtain ⟨cs, h1, _⟩ := hw
    exact ⟨cs, h1⟩
  cases n with
  | zero => exact h.elim
  | succ n =>
    unfold Okc at h
    rw [und35] at h
    obtain ⟨hl, hf⟩ := h
    rw [show Try.prog.cellsOf 35 = 2 from by kernel_rfl] at hl
    have h0 := hf 0 (by decide)
    have h1 := hf 1 (by decide)
    rw [show Try.prog.cellsOf 34 = 1 from by kernel_rfl] at h0 h1
    have hl' : (Value.agg cs).cells.toList.length = 2 := hl
    obtain ⟨l⟩ := cs
    match l, hl' with
    | [a, b], _ =>
      have h0 : Okc Try.prog w n 34 [a] := h0
      have h1 : Okc Try.prog w n 34 [b] := h1
      obtain ⟨s, rfl⟩ := okc_slice By.und34 h0
      obtain ⟨t, rfl⟩ := okc_slice By.und34 h1
      obtain ⟨l, hl, hl2⟩ := view_okc (f := By.cs) (size := 1) (v := s.v) By.und34 (by kernel_rfl) (by decide) rfl (fun _ _ h => okc5 h) h0
      obtain ⟨m, hm, hm2⟩ := view_okc (f := By.cs) (size := 1) (v := t.v) By.und34 (by kernel_rfl) (by decide) rfl (fun _ _ h => okc5 h) h1
      exact ⟨s, t, l, m, rfl, hl, hl2, hm, hm2⟩
theorem box35 (s t : Sl) (w : World) : Xbox Try.prog 35 (.agg #[s.v, t.v]) w = some (.pointer (some ⟨w.heap.size, 0, none⟩), w.alloc (.cells #[s.v, t.v] 35)) := nonrfl rfl
theorem at35x0 (q : Nat) (w : World) : QindexAddr Try.prog 35 (.pointer (some ⟨q, 0, none⟩)) (.int .i64 0) w = some (.pointer (some ⟨q, 0, none⟩)) := by kernel_rfl
theorem at35x1 (q : Nat) (w : World) : QindexAddr Try.prog 35 (.pointer (some ⟨q, 0, none⟩)) (.int .i64 1) w = some (.pointer (some ⟨q, 1, none⟩)) := by kernel_rfl
theorem by_ok {b : By} (h : b.ok) : 0 ≤ b.b ∧ b.b < 256 := by
  obtain ⟨m, hm, h2⟩ := wf_u rfl h
  have : (2 : Nat) ^ (IntKind.u8).bits = 256 := by decide +kernel
  rw [hm]
  omega
theorem cv53 {m : Int} (h : 0 ≤ m ∧ m < 256) : Qconv Try.prog 5 3 (.int .u8 m) = some (.int .i64 m) := by rw [Qconv_int (k := .i64) (by kernel_rfl), wrap_i64 (by omega) (by omega)]
theorem cv523 (m : Int) : Qconv Try.prog 5 23 (.int .u8 m) = some (.int .u32 (m % 4294967296)) := by rw [Qconv_int (k := .u32) (by kernel_rfl), u32w]

theorem l5 {w : World} {s t : Sl} {gv : Value} {L1 L2 L3 : List By} {B : Int} (h1 : View By.cs 1 w s.v L1) (k1 : ∀ b ∈ L1, b.ok) (h2 : View By.cs 1 w t.v L2) (k2 : ∀ b ∈ L2, b.ok) (h3 : View By.cs 1 w gv L3) (k3 : ∀ b ∈ L3, b.ok) (hB : (Lit.int .u32 B).wf = true) :
    Brings (s5 (.int .u32 B) (.agg #[s.v, t.v]) gv w) (Yes w) := by
  obtain ⟨B0, B1⟩ := u32_ok hB
  unfold s5
  rw [box35]
  have hb : Bel w (w.alloc (.cells #[s.v, t.v] 35)) := (Bel.refl w).alloc _
  have c0 : (w.alloc (.cells #[s.v, t.v] 35)).drew.cell? ⟨w.heap.size, 0, none⟩ = some s.v := cell_at (MapKept.heap_alloc w _).1 rfl
  have c1 : (w.alloc (.cells #[s.v, t.v] 35)).drew.cell? ⟨w.heap.size, 1, none⟩ = some t.v := cell_at (MapKept.heap_alloc w _).1 rfl
  have bd : Bel (w.alloc (.cells #[s.v, t.v] 35)) (w.alloc (.cells #[s.v, t.v] 35)).drew := (Bel.refl _).drew
  simp only [at35x0, at35x1, Qload_cell one34 c0, Qload_cell one34 c1, go_sem]
  have hb1 := hb.trans bd
  generalize (w.alloc (.cells #[s.v, t.v] 35)).drew = w1 at hb1
  refine (one_new (Bel.refl w1) (fun _ => False) fun _ f => f.elim).bind ?_
  rintro ⟨_, w2⟩ ⟨a, e2, b2, o2⟩
  simp only at e2 b2 o2
  subst e2
  have h1 := h1.bel hb1
  have h2 := h2.bel hb1
  have h3 := h3.bel hb1
  have m1 := h1.small
  have m2 := h2.small
  have m3 := h3.small
  simp only [maxLen] at m1 m2 m3
  refine Brings.loop (fun m xs w' => ∃ (i : Nat) (c d Y : Int) (L : List M), xs = [gv, .bool false, s.v, t.v, .pointer (some ⟨a, 0, none⟩), .int .u32 c, .int .u32 d, .int .i64 i] ∧ i ≤ 8 ∧ m = 8 - i ∧ One w1 w' (fun _ => False) a L ∧ SumI B L c d Y i) ?_ 8 _ _
    ⟨0, B, 0, 0, [], rfl, by omega, by omega, o2, ⟨fine_nil, trivial, rfl, by omega, fun p hp => (by cases hp), by omega, by omega, by omega, rfl, trivial⟩⟩
  rintro m xs w' ⟨i, c, d, Y, L, rfl, hi, hm, O, S⟩
  have fin : Brings (s5R0 (.exit 0) [gv, .bool false, s.v, t.v, .pointer (some ⟨a, 0, none⟩), .int .u32 c, .int .u32 d, .int .i64 i] w') (Yes w) := by
    simp only [s5R0]
    refine k13.bind ?_
    rintro ⟨_, w3⟩ ⟨e3, b3⟩
    simp only at e3 b3
    subst e3
    obtain ⟨st, X, A⟩ := (O.bel b3).st
    obtain ⟨q1, q2, q3⟩ := S.map
    simp only [go_sem]
    refine (k17 A).bind ?_
    rintro ⟨_, w4⟩ ⟨e4, b4⟩
    simp only at e4 b4
    rw [q1] at e4
    subst e4
    simp only [u32w, beq_self_eq_true, go_sem]
    refine (k17 (A.bel b4)).bind ?_
    rintro ⟨_, w5⟩ ⟨e5, b5⟩
    simp only at e5 b5
    rw [q2] at e5
    subst e5
    simp only [u32w, beq_self_eq_true, go_sem]
    refine (k16 ((A.bel b4).bel b5)).bind ?_
    rintro ⟨_, w6⟩ ⟨e6, b6⟩
    simp only at e6 b6
    rw [q3] at e6
    subst e6
    simp only [beq_self_eq_true, go_sem]
    exact .ret ⟨rfl, hb1.trans ((((O.1.trans b3).trans b4).trans b5).trans b6)⟩
  simp only [s5B0, h1.len By.und34, h2.len By.und34, h3.len By.und34, go_sem]
  by_cases g1 : i < L1.length
  rotate_left
  · have e1 : decide ((i : Int) < L1.length) = false := by rw [decide_eq_false_iff_not]; omega
    simp only [h1.len By.und34, h2.len By.und34, h3.len By.und34, e1, go_sem]
    exact .ret (.inr ⟨by simp, fin⟩)
  have e1 : decide ((i : Int) < L1.length) = true := by rw [decide_eq_true_iff]; omega
  by_cases g2 : i < L2.length
  rotate_left
  · have e2 : decide ((i : Int) < L2.length) = false := by rw [decide_eq_false_iff_not]; omega
    simp only [h1.len By.und34, h2.len By.und34, h3.len By.und34, e1, e2, go_sem]
    exact .ret (.inr ⟨by simp, fin⟩)
  have e2 : decide ((i : Int) < L2.length) = true := by rw [decide_eq_true_iff]; omega
  by_cases g3 : i < L3.length
  rotate_left
  · have e3 : decide ((i : Int) < L3.length) = false := by rw [decide_eq_false_iff_not]; omega
    simp only [h1.len By.und34, h2.len By.und34, h3.len By.und34, e1, e2, e3, go_sem]
    exact .ret (.inr ⟨by simp, fin⟩)
  have e3 : decide ((i : Int) < L3.length) = true := by rw [decide_eq_true_iff]; omega
  by_cases g4 : i < 8
  rotate_left
  · have e4 : decide ((i : Int) < 8) = false := by rw [decide_eq_false_iff_not]; omega
    simp only [h1.len By.und34, h2.len By.und34, h3.len By.und34, e1, e2, e3, e4, go_sem]
    exact .ret (.inr ⟨by simp, fin⟩)
  have e4 : decide ((i : Int) < 8) = true := by rw [decide_eq_true_iff]; omega
  have bd : Bel w' w'.drew := (Bel.refl _).drew
  have O1 := O.bel bd
  obtain ⟨x1, p1, q1, hx1, _, hix1, hc1⟩ := By.getR (h1.bel O1.1) (n := i) (by omega) (by omega)
  obtain ⟨x2, p2, q2, hx2, _, hix2, hc2⟩ := By.getR (h2.bel O1.1) (n := i) (by omega) (by omega)
  rw [Int.toNat_natCast] at hx1 hx2
  have y1 := by_ok (k1 _ (List.mem_of_getElem? hx1))
  have y2 := by_ok (k2 _ (List.mem_of_getElem? hx2))
  have z1 : 0 ≤ x1.b.tmod 128 ∧ x1.b.tmod 128 < 128 := ⟨Int.tmod_nonneg _ y1.1, Int.tmod_lt_of_pos _ (by omega)⟩
  have z2 : 0 ≤ x2.b.tmod 128 ∧ x2.b.tmod 128 < 128 := ⟨Int.tmod_nonneg _ y2.1, Int.tmod_lt_of_pos _ (by omega)⟩
  have n128 : (128 : Int) ≠ 0 := by decide
  simp only [h1.len By.und34, h2.len By.und34, h3.len By.und34, e1, e2, e3, e4, hix1, hix2, By.all hc1, By.all hc2, By.v, cv53 y1, cv53 y2, Qb_remP n128, go_sem]
  generalize x1.b.tmod 128 = u at z1
  generalize x2.b.tmod 128 = v at z2
  rw [wrap_i64 (n := u + 1) (by omega) (by omega), wrap_i64 (n := v + 1) (by omega) (by omega)]
  obtain ⟨k, hk⟩ : ∃ k : Nat, v + 1 = k := ⟨(v + 1).toNat, by omega⟩
  rw [hk]
  obtain ⟨tv, w3, ev, ot, b3, _⟩ := made34 (n := k) (by omega) w'.drew
  simp only [ev, go_sem]
  obtain ⟨s1, s2, s3⟩ := S.step g4 (u := u + 1) (bs := List.replicate k By.zero) (by omega) (by omega) (by rw [List.length_replicate]; omega) (by rw [List.length_replicate]; omega)
  have a0 := S.at_
  refine ((O1.bel b3).add (p := ⟨c, u + 1, List.replicate k By.zero⟩) ot.view (by show 0 ≤ c; omega) (by show c < 4294967296; omega)).bind ?_
  rintro ⟨_, w4⟩ ⟨e5, c5, O5⟩
  simp only at e5 c5 O5
  subst e5
  rw [s1] at O5
  simp only [s1, bne_self_eq_false, go_sem]
  obtain ⟨st, X, A⟩ := O5.st
  refine (k17 A).bind ?_
  rintro ⟨_, w5⟩ ⟨e6, b6⟩
  simp only at e6 b6
  rw [s2] at e6
  subst e6
  have O6 := O5.bel b6
  obtain ⟨x3, p3, q3, hx3, _, hix3, hc3⟩ := By.getR (h3.bel O6.1) (n := i) (by omega) (by omega)
  rw [Int.toNat_natCast] at hx3
  have y3 := by_ok (k3 _ (List.mem_of_getElem? hx3))
  simp only [u32w, bne_self_eq_false, hix3, By.all hc3, By.v, cv523, cv323, go_sem]
  have w1' : IntKind.i64.wrap ((i : Int) + 1) = ((i + 1 : Nat) : Int) := by rw [wrap_i64 (by omega) (by omega)]; rfl
  rw [w1']
  have s3 := s3 x3.b y3.1 y3.2
  rw [List.length_replicate] at s3
  refine .ret (.inl ⟨rfl, 8 - (i + 1), by omega, i + 1, _, _, _, _, ?_, by omega, rfl, O6, s3⟩)
  have r1 : (c + ((u + 1) % 4294967296 + x3.b % 4294967296) % 4294967296) % 4294967296 = (c + (u + 1 + x3.b)) % 4294967296 := by omega
  have r2 : (d + ((k : Int) % 4294967296 - (u + 1) % 4294967296) % 4294967296) % 4294967296 = (d + ((k : Int) - (u + 1))) % 4294967296 := by omega
  simp only [r1, r2]

theorem law5 {v0 v1 : Value} {n0 n1 : Nat} {m : Int} {w : World} {r0 r1 : Reach} {b0 b1 : Nat} (hm : (Lit.int .u32 m).wf = true) (ho0 : Value.okWide Try.prog w r0 b0 35 v0) (h0 : Okc Try.prog w n0 35 v0.cells.toList) (ho1 : Value.okWide Try.prog w r1 b1 34 v1) (h1 : Okc Try.prog w n1 34 v1.cells.toList) :
    Calls Try.prog 5 #[.int .u32 m, v0, v1] w fun e w' => e = .returned (.bool true) ∧ Below w.heap.size w w' := by
  obtain ⟨s, t, l, k, rfl, g1, g2, g3, g4⟩ := open35 ho0 h0
  obtain ⟨l3, g5, g6⟩ := view_okc (f := By.cs) (size := 1) By.und34 (by kernel_rfl) (by decide) (cells_slice By.und34 ho1) (fun _ _ h => okc5 h) h1
  exact law_of (l5 g1 g2 g3 g4 g5 g6 hm) fun _ => c5

end Go.Proofs.Ytfakpdegiobpaaa
