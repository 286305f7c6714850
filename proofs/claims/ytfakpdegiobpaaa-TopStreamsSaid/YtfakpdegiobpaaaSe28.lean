/- A stream put together of its pieces. -/
import Derived.Test.YtfakpdegiobpaaaSe27
namespace Go.Proofs.Ytfakpdegiobpaaa
open Go Go.Ev Go.RowKit
open Go.Proofs

/-! ## The stream with the part replaced -/

def repl (b t : List By) (s u : Nat) : List By := b.take s ++ t ++ b.drop (s + u)
/-- Where a byte of the stream comes to lie. -/
def pos (s u T i : Nat) : Nat := if i ≤ s then i else if i < s + u then s + T else i + T - u

theorem repl_len {b t : List By} {s u : Nat} (h : s + u ≤ b.length) : (repl b t s u).length = b.length + t.length - u := by
  simp [repl]; omega
theorem repl_low {b t : List By} {s u i : Nat} (h : s + u ≤ b.length) (hi : i < s) : (repl b t s u)[i]? = b[i]? := by
  unfold repl
  rw [List.append_assoc, List.getElem?_append_left (by simp; omega), List.getElem?_take_of_lt hi]
theorem repl_mid {b t : List By} {s u k : Nat} (h : s + u ≤ b.length) (hk : k < t.length) : (repl b t s u)[s + k]? = t[k]? := by
  unfold repl
  rw [List.append_assoc, List.getElem?_append_right (by simp; omega), List.length_take, Nat.min_eq_left (by omega), List.getElem?_append_left (by omega)]
  congr 1
  omega
theorem repl_high {b t : List By} {s u i : Nat} (h : s + u ≤ b.length) (hi : s + u ≤ i) : (repl b t s u)[i + t.length - u]? = b[i]? := by
  unfold repl
  rw [List.getElem?_append_right (by simp; omega), List.getElem?_drop]
  congr 1
  simp
  omega

theorem cutV {w : World} {v : Value} {l : List By} (hv : View By.cs 1 w v l) {i : Nat} (hi : i < l.length) : ∃ d, Qslice Try.prog 34 v (some (.int .i64 (i : Int))) (some (.int .i64 ((i + 1 : Nat) : Int))) none w = some d ∧ View By.cs 1 w d [l[i]] ∧ ∀ k, d.ownBlock = some k → v.ownBlock = some k := by
  obtain ⟨x, cap, rfl, h1, h2, h3, h4⟩ := id hv
  have h := hv.sliced_ (lo := i) (hi := i + 1) (by omega) (by omega)
  refine ⟨_, By.cut_lh (by omega) (by omega) (by omega), ?_, ?_⟩
  · have e : (l.take (i + 1)).drop i = [l[i]] := by
      rw [List.drop_take, show i + 1 - i = 1 by omega, List.drop_eq_getElem_cons hi]
      rfl
    rw [Int.toNat_natCast, Int.toNat_natCast, ← e]
    exact h.1
  · rw [Int.toNat_natCast, Int.toNat_natCast]
    exact h.2

theorem k26 {w : World} {bv tv : Value} {b t : List By} {s u : Nat} (hb : View By.cs 1 w bv b) (ht : View By.cs 1 w tv t) (h1 : b.length ≤ 1000) (h2 : t.length ≤ 1000) (h3 : s + u ≤ b.length) :
    Brings (Xcall Try.prog (Value.func (Fn.func 26) #[] #[]) #[bv, .int .i64 (s : Int), .int .i64 (u : Int), tv] w) (fun r => Bel w r.2 ∧ OwnB r.2 r.1 (repl b t s u)) := by
  refine e26 ?_
  unfold s26
  simp only [By.lit0, go_sem]
  have b1 : Bel w (w.alloc (.cells #[] 5)) := (Bel.refl w).alloc _
  have o0 := By.own0 w
  have f0 : ∀ k, (Value.slice (some ⟨w.heap.size, 0, none⟩) 0 0).ownBlock = some k → w.heap.size ≤ k := fun k hk => by
    injection hk with hk
    have hk : w.heap.size = k := hk
    omega
  generalize w.alloc (.cells #[] 5) = w1 at b1 o0
  generalize Value.slice (some ⟨w.heap.size, 0, none⟩) 0 0 = v0 at o0 f0
  obtain ⟨i, hi, hs⟩ := inf5
  obtain ⟨c1, e1, c2, _⟩ := (hb.bel b1).cutHi By.und34 hi hs (n := s) (by omega) (by omega) w1
  rw [Int.toNat_natCast] at c2
  simp only [e1, go_sem]
  obtain ⟨v1, w2, e2, o2, g2, f2⟩ := By.app34 o0 c2 (by simp; omega)
  have B2 : Bel w1 w2 ∨ True := .inr trivial
  have C2 := Chg.of_grown g2
  have b2 : Bel w w2 := (b1.thenChg C2).bel fun k hk e => by have := f0 k e.symm; omega
  simp only [e2, go_sem]
  have l2 : ([] ++ b.take s).length ≤ 1000 := by simp; omega
  obtain ⟨v2, w3, e3, o3, g3, f3⟩ := By.app34 o2 (ht.bel b2) (by omega)
  have F2 : ∀ k, v1.ownBlock = some k → w.heap.size ≤ k := fun k hk => by
    rcases f2 k hk with h | h
    · exact f0 k h
    · have := b1.size; omega
  have b3 : Bel w w3 := (b2.thenChg (Chg.of_grown g3)).bel fun k hk e => by have := F2 k e.symm; omega
  have wr : IntKind.i64.wrap ((s : Int) + u) = ((s + u : Nat) : Int) := by rw [wrap_i64 (by omega) (by omega)]; rfl
  obtain ⟨c3, e4, c4, _⟩ := (hb.bel b3).cutLo By.und34 hi hs (n := ((s + u : Nat) : Int)) (by omega) (by omega) w3
  rw [Int.toNat_natCast] at c4
  simp only [e3, wr, e4, go_sem]
  have l3 : ([] ++ b.take s ++ t).length ≤ 2000 := by simp; omega
  obtain ⟨v3, w4, e5, o4, g4, f4⟩ := By.app34 o3 c4 (by simp; omega)
  have F3 : ∀ k, v2.ownBlock = some k → w.heap.size ≤ k := fun k hk => by
    rcases f3 k hk with h | h
    · exact F2 k h
    · have := b2.size; omega
  have b4 : Bel w w4 := (b3.thenChg (Chg.of_grown g4)).bel fun k hk e => by have := F3 k e.symm; omega
  simp only [e5, go_sem]
  refine .ret ⟨b4, ?_⟩
  have e : [] ++ b.take s ++ t ++ b.drop (s + u) = repl b t s u := by simp [repl]
  rw [e] at o4
  exact o4

/-! ## The pieces -/

/-- What is told of the stream: it has the one part. -/
structure Ctx (wN : World) (a : Nat) (sa : Value) (Z : List (Pt × List By)) (f : Int) (b t : List By) (s u : Nat) (bv wv gv sv : Value) : Prop where
  A : St wN a sa Z [⟨(f + s) % 4294967296, u, t⟩]
  fine : Fine [⟨(f + s) % 4294967296, u, t⟩]
  f0 : 0 ≤ f ∧ f < 4294967296
  hb : View By.cs 1 wN bv b
  want : OwnB wN wv (repl b t s u)
  fresh : Fresh2 wN gv sv
  l1 : b.length ≤ 600
  l2 : 1 ≤ t.length ∧ t.length ≤ 100
  u1 : 1 ≤ u ∧ s + u ≤ b.length

section ctx
variable {wN : World} {a : Nat} {sa : Value} {Z : List (Pt × List By)} {f : Int} {b t : List By} {s u : Nat} {bv wv gv sv : Value}

theorem Ctx.pos_le (C : Ctx wN a sa Z f b t s u bv wv gv sv) {i : Nat} (hi : i ≤ b.length) : pos s u t.length i ≤ (repl b t s u).length := by
  have := C.l1; have := C.l2; have := C.u1
  rw [repl_len (by omega)]
  unfold pos
  split <;> (try split) <;> omega
theorem Ctx.map (C : Ctx wN a sa Z f b t s u bv wv gv sv) {i : Nat} (hi : i ≤ b.length) (ho : ¬ (s < i ∧ i < s + u)) :
    mapC ((f + i) % 4294967296) (cellsOf 0 [⟨(f + s) % 4294967296, u, t⟩]) = (f + pos s u t.length i) % 4294967296 ∧
      unmapC ((f + pos s u t.length i) % 4294967296) (cellsOf 0 [⟨(f + s) % 4294967296, u, t⟩]) = (f + i) % 4294967296 := by
  have := C.l1; have := C.l2; have := C.u1; have := C.f0
  rw [one_map (y := (i : Int) - s) C.fine (by show _ = ((f + s) % 4294967296 + ((i : Int) - s)) % 4294967296; omega) (by omega) (by omega),
    one_unmap (y := (pos s u t.length i : Int) - s) C.fine (by show _ = ((f + s) % 4294967296 + ((pos s u t.length i : Int) - s)) % 4294967296; omega)
      (by unfold pos; split <;> (try split) <;> omega) (by unfold pos; split <;> (try split) <;> omega)]
  unfold oneZ unZ
  simp only
  by_cases h1 : i < s
  · have e : pos s u t.length i = i := by unfold pos; rw [if_pos (by omega)]
    rw [e, if_neg (by omega), if_neg (by omega)]
    omega
  · by_cases h2 : i = s
    · have e : pos s u t.length i = s := by unfold pos; rw [if_pos (by omega), h2]
      rw [e, if_pos (by omega), if_pos (by omega), if_pos (by omega), if_pos (by omega)]
      omega
    · have e : pos s u t.length i = i + t.length - u := by unfold pos; rw [if_neg (by omega), if_neg (by omega)]
      rw [e, if_pos (by omega), if_neg (by omega), if_pos (by omega), if_neg (by omega)]
      omega

def st11 (f : Int) (bv wv gv sv : Value) (a s u i : Nat) : List Value := [.bool false, bv, .int .u32 f, .pointer (some ⟨a, 0, none⟩), .int .i64 (s : Int), .int .i64 (u : Int), wv, gv, sv, .int .i64 (i : Int)]

theorem piece11 (C : Ctx wN a sa Z f b t s u bv wv gv sv) {dv : Value} {D : List By} {i : Nat} (hi : i < b.length) (ho : ¬ (s < i ∧ i < s + u)) (hD : D.length + pos s u t.length i = pos s u t.length (i + 1)) (hDW : ∀ k x, D[k]? = some x → (repl b t s u)[pos s u t.length i + k]? = some x)
    {w : World} (h : Done wN w gv sv (repl b t s u) (pos s u t.length i)) (hv : View By.cs 1 w dv D) (hd : ∀ k, dv.ownBlock = some k → gv.ownBlock ≠ some k ∧ sv.ownBlock ≠ some k) :
    Brings (s11M3 (.bool false) bv (.int .u32 f) (.pointer (some ⟨a, 0, none⟩)) (.int .i64 (s : Int)) (.int .i64 (u : Int)) wv gv sv (.int .i64 (i : Int)) dv w)
      (fun r => r.1 = .normal ∧ r.2.1 = st11 f bv wv gv sv a s u (i + 1) ∧ Done wN r.2.2 gv sv (repl b t s u) (pos s u t.length (i + 1))) := by
  have l1 := C.l1; have l2 := C.l2; have u1 := C.u1; have f0 := C.f0
  obtain ⟨m1, m2⟩ := C.map (i := i) (by omega) ho
  have hp := C.pos_le (i := i) (by omega)
  have hp2 := C.pos_le (i := i + 1) (by omega)
  have hW : (repl b t s u).length ≤ 1000 := by rw [repl_len (by omega)]; omega
  unfold s11M3
  simp only [cv323, u32w, go_sem]
  rw [show (f + (i : Int) % 4294967296) % 4294967296 = (f + i) % 4294967296 by omega]
  refine (k17 (C.A.bel h.bel)).bind ?_
  rintro ⟨_, w2⟩ ⟨e2, b2⟩
  simp only at e2 b2
  rw [m1] at e2
  subst e2
  simp only [u32w, go_sem]
  rw [show ((f + (pos s u t.length i : Int)) % 4294967296 - f) % 4294967296 = (pos s u t.length i : Int) by omega]
  rw [Qconv_int (k := .i64) (by kernel_rfl), wrap_i64 (by omega) (by omega)]
  simp only [go_sem]
  refine fill11 C.fresh (by omega) (by omega) hDW (fun w3 h3 => ?_) (h.later b2) (hv.bel b2) hd
  simp only [s11R4, cv323, u32w, go_sem]
  rw [show (f + (i : Int) % 4294967296) % 4294967296 = (f + i) % 4294967296 by omega]
  refine (k17 (C.A.bel h3.bel)).bind ?_
  rintro ⟨_, w4⟩ ⟨e4, b4⟩
  simp only at e4 b4
  rw [m1] at e4
  subst e4
  simp only [go_sem]
  refine (k16 ((C.A.bel h3.bel).bel b4)).bind ?_
  rintro ⟨_, w5⟩ ⟨e5, b5⟩
  simp only at e5 b5
  rw [m2] at e5
  subst e5
  simp only [bne_self_eq_false, go_sem]
  rw [wrap_i64 (n := (i : Int) + 1) (by omega) (by omega)]
  refine .ret ⟨rfl, rfl, ?_⟩
  rw [Nat.add_comm, hD] at h3
  exact (h3.later b4).later b5

theorem loop11 {w0 : World} (hw0 : Bel w0 wN) (C : Ctx wN a sa Z f b t s u bv wv gv sv) {w : World} (h : Done wN w gv sv (repl b t s u) 0) :
    Brings (loopR s11B2 s11R2 (st11 f bv wv gv sv a s u 0) w) (Yes w0) := by
  have l1 := C.l1; have l2 := C.l2; have u1 := C.u1; have f0 := C.f0
  refine Brings.loop (fun n xs w => ∃ i : Nat, xs = st11 f bv wv gv sv a s u i ∧ i ≤ b.length ∧ n = b.length - i ∧ Done wN w gv sv (repl b t s u) (pos s u t.length i)) ?_ b.length _ _
    ⟨0, rfl, by omega, by omega, by
      have : pos s u t.length 0 = 0 := by unfold pos; rw [if_pos (by omega)]
      rw [this]; exact h⟩
  rintro n xs w ⟨i, rfl, hi, hn, h⟩
  have hb := C.hb.bel h.bel
  simp only [st11, s11B2, C.hb.len By.und34, go_sem]
  refine .cond (fun hlt => ?_) (fun hlt => ?_)
  · have hlt : i < b.length := by
      have : (i : Int) < b.length := by simpa using hlt
      omega
    have w1 : IntKind.i64.wrap ((i : Int) + 1) = ((i + 1 : Nat) : Int) := by rw [wrap_i64 (by omega) (by omega)]; rfl
    have w2 : IntKind.i64.wrap ((s : Int) + u) = ((s + u : Nat) : Int) := by rw [wrap_i64 (by omega) (by omega)]; rfl
    by_cases h1 : s < i ∧ i < s + u
    · have g1 : decide ((s : Int) < i) = true := by rw [decide_eq_true_iff]; omega
      have g2 : decide ((i : Int) < ((s + u : Nat) : Int)) = true := by rw [decide_eq_true_iff]; omega
      simp only [g1, g2, w1, w2, go_sem]
      refine .ret (.inl ⟨rfl, b.length - (i + 1), by omega, i + 1, rfl, by omega, rfl, ?_⟩)
      have e1 : pos s u t.length (i + 1) = s + t.length := by
        unfold pos
        rw [if_neg (by omega)]
        by_cases c : i + 1 < s + u
        · rw [if_pos c]
        · rw [if_neg c]; omega
      have e2 : pos s u t.length i = s + t.length := by
        unfold pos
        rw [if_neg (by omega), if_pos (by omega)]
      rw [e1, ← e2]
      exact h
    · have cs : decide ((s : Int) < i) = false ∨ (decide ((s : Int) < i) = true ∧ decide ((i : Int) < ((s + u : Nat) : Int)) = false) := by
        by_cases c : s < i
        · exact .inr ⟨by rw [decide_eq_true_iff]; omega, by rw [decide_eq_false_iff_not]; omega⟩
        · exact .inl (by rw [decide_eq_false_iff_not]; omega)
      obtain ⟨d, hd1, hd2, hd3⟩ := cutV hb hlt
      have low : ∀ k, bv.ownBlock = some k → k < wN.heap.size := (view_low C.hb).resolve_left fun e => by rw [e] at hlt; simp at hlt
      -- what a piece brings
      have fin : ∀ r : Exit × List Value × World, (r.1 = .normal ∧ r.2.1 = st11 f bv wv gv sv a s u (i + 1) ∧ Done wN r.2.2 gv sv (repl b t s u) (pos s u t.length (i + 1))) →
          (r.1 = .normal ∧ ∃ m, m < n ∧ ∃ i : Nat, r.2.1 = st11 f bv wv gv sv a s u i ∧ i ≤ b.length ∧ m = b.length - i ∧ Done wN r.2.2 gv sv (repl b t s u) (pos s u t.length i)) ∨ (r.1 ≠ .normal ∧ Brings (s11R2 r.1 r.2.1 r.2.2) (Yes w0)) :=
        fun r ⟨r1, r2, r3⟩ => .inl ⟨r1, b.length - (i + 1), by omega, i + 1, r2, by omega, rfl, r3⟩
      rcases cs with g1 | ⟨g1, g2⟩
      all_goals
        first
        | simp only [g1, g2, w1, w2, hd1, go_sem]
        | simp only [g1, w1, w2, hd1, go_sem]
        by_cases he : i = s
        · subst he
          have : ((i : Int) == (i : Int)) = true := beq_self_eq_true _
          simp only [this, cv323, u32w, go_sem]
          rw [show (f + (i : Int) % 4294967296) % 4294967296 = (f + i) % 4294967296 by omega]
          have hf : findM [⟨(f + i) % 4294967296, u, t⟩] ((f + i) % 4294967296) (u : Int) = some t := by
            unfold findM
            simp
          refine (k23 (C.A.bel h.bel) C.fine).bind ?_
          rintro ⟨_, w3⟩ ⟨b3, v, e3, o3, f3⟩
          simp only at e3 b3 o3
          subst e3
          rw [hf] at o3
          simp only [Option.getD_some] at o3
          simp only [go_sem]
          have p1 : pos i u t.length i = i := by unfold pos; rw [if_pos (by omega)]
          have p2 : pos i u t.length (i + 1) = i + t.length := by
            unfold pos
            rw [if_neg (by omega)]
            by_cases c : i + 1 < i + u
            · rw [if_pos c]
            · rw [if_neg c]; omega
          refine (piece11 C hlt h1 (D := t) (by rw [p1, p2]; omega) (fun k x hx => by rw [p1, repl_mid (by omega) (List.getElem?_eq_some_iff.1 hx).1]; exact hx) (h.later b3) o3.view fun k hk => ?_).mono fin
          have hk' := f3 k hk
          refine ⟨fun e => ?_, fun e => ?_⟩
          · have := h.got.lt e; omega
          · have := (World.ownsRow.lt h.seen k e).2; omega
        · have hne : ((i : Int) == (s : Int)) = false := by
            rw [beq_eq_false_iff_ne]; omega
          simp only [hne, go_sem]
          refine (piece11 C hlt h1 (D := [b[i]]) ?_ ?_ h hd2 fun k hk => ?_).mono fin
          · show 1 + _ = _
            unfold pos
            by_cases c : i < s
            · rw [if_pos (by omega), if_pos (by omega)]; omega
            · rw [if_neg (by omega), if_neg (by omega), if_neg (by omega), if_neg (by omega)]; omega
          · intro k x hx
            match k, hx with
            | 0, hx =>
              injection hx with hx
              subst hx
              rw [Nat.add_zero]
              by_cases c : i < s
              · have : pos s u t.length i = i := by unfold pos; rw [if_pos (by omega)]
                rw [this, repl_low (by omega) c]
                exact List.getElem?_eq_getElem hlt
              · have : pos s u t.length i = i + t.length - u := by unfold pos; rw [if_neg (by omega), if_neg (by omega)]
                rw [this, repl_high (by omega) (by omega)]
                exact List.getElem?_eq_getElem hlt
            | k + 1, hx => simp at hx
          · have := low k (hd3 k hk)
            exact ⟨fun e => by have := C.fresh.g k e; omega, fun e => by have := C.fresh.s k e; omega⟩
  · have : i = b.length := by
      have : ¬ (i : Int) < b.length := by simpa using hlt
      omega
    subst this
    refine .ret (.inr ⟨by simp, ?_⟩)
    have hl : pos s u t.length b.length = (repl b t s u).length := by
      rw [repl_len (by omega)]
      unfold pos
      rw [if_neg (by omega), if_neg (by omega)]
    have hg := h.got
    rw [hl, filled_all] at hg
    have rl : ((repl b t s u).length : Int) = (pos s u t.length b.length : Nat) := by rw [hl]
    obtain ⟨_, m2⟩ := C.map (i := b.length) (by omega) (by omega)
    simp only [st11, s11R2, cv34 hg.view, cv34 ((C.want.view).bel h.bel), beq_self_eq_true, (C.want.view).len By.und34, (C.hb).len By.und34, cv323, u32w, go_sem]
    rw [rl, show (f + ((pos s u t.length b.length : Nat) : Int) % 4294967296) % 4294967296 = (f + (pos s u t.length b.length : Nat)) % 4294967296 by omega]
    refine (k16 (C.A.bel h.bel)).bind ?_
    rintro ⟨_, w4⟩ ⟨e4, b4⟩
    simp only at e4 b4
    rw [m2] at e4
    subst e4
    have : ((f + (b.length : Int)) % 4294967296 == (f + (b.length : Int) % 4294967296) % 4294967296) = true := by
      rw [beq_iff_eq]; omega
    simp only [this, go_sem]
    exact .ret ⟨rfl, (hw0.trans h.bel).trans b4⟩
end ctx

end Go.Proofs.Ytfakpdegiobpaaa
