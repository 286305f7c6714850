/- All rows, one by one; what is due; the first. -/
import Derived.Test.YtcibkmahibnjeaaTa8
namespace Go.Proofs.Ytcibkmahibnjeaa
open Go Go.Ev Go.RowKit
open Go.Proofs

theorem enterW_lay' {w w5 : World} {fn : FuncId} {tmps : Array Value} {ps : Array Tmp} {ass bdy : Code} {w0 : World} {os : List Obj} (hE : enterW w fn tmps ps ass bdy = w5) (h : Locals w0 os w) (hs : w.heap.size = w0.heap.size + os.length) :
    ∃ L, Entered L fn tmps ps ass bdy ∧ Locals w0 (os ++ [.deferred (some [])] ++ [.loop L]) w5 := by
  subst hE
  exact enterW_lay h hs

/-! ## One bucket behind the other -/

def pre (L : List Rw) (j : Nat) : List Rw := (List.range j).flatMap (Bj L)
theorem pre_next (L : List Rw) (j : Nat) : pre L (j + 1) = pre L j ++ Bj L j := by
  unfold pre
  rw [List.range_succ, List.flatMap_append]
  simp
theorem pre_all (L : List Rw) : ∀ (n j : Nat), ∃ D, pre L (j + n) = pre L j ++ D
  | 0, j => ⟨[], by simp⟩
  | n + 1, j => by
    obtain ⟨D, e⟩ := pre_all L n j
    exact ⟨D ++ Bj L (j + n), by rw [← Nat.add_assoc, pre_next, e, List.append_assoc]⟩
def conc (L : List Rw) : List Rw := pre L 64
theorem conc_at {L : List Rw} {j i : Nat} {x : Rw} (hj : j < 64) (hx : (Bj L j)[i]? = some x) : (conc L)[(pre L j).length + i]? = some x := by
  obtain ⟨D, e⟩ := pre_all L (64 - (j + 1)) (j + 1)
  rw [show j + 1 + (64 - (j + 1)) = 64 by omega, pre_next L j] at e
  have hi := (List.getElem?_eq_some_iff.1 hx).1
  unfold conc
  rw [e, List.append_assoc, List.getElem?_append_right (by omega), Nat.add_sub_cancel_left, List.getElem?_append_left hi, hx]
theorem mem_conc {L : List Rw} {x : Rw} : x ∈ conc L ↔ x ∈ L := by
  unfold conc pre
  rw [List.mem_flatMap]
  constructor
  · rintro ⟨j, _, hx⟩
    exact (mem_Bj.1 hx).1
  · intro hx
    exact ⟨bk x.key, List.mem_range.2 (bk_eq x.key).2, mem_Bj.2 ⟨hx, rfl⟩⟩
theorem Bg_pair {b : Tup → Nat} {L : List Rw} (h : L.Pairwise fun x y => x.seq ≠ y.seq) : ∀ n, ((List.range n).flatMap fun j => L.filter fun x => decide (b x.key = j)).Pairwise fun x y => x.seq ≠ y.seq
  | 0 => by simp
  | n + 1 => by
    rw [List.range_succ, List.flatMap_append, List.pairwise_append]
    refine ⟨Bg_pair h n, ?_, fun x hx y hy => ?_⟩
    · simp only [List.flatMap_cons, List.flatMap_nil, List.append_nil]
      exact h.sublist List.filter_sublist
    · simp only [List.flatMap_cons, List.flatMap_nil, List.append_nil, List.mem_filter, decide_eq_true_eq] at hy
      obtain ⟨j, hj, hx⟩ := List.mem_flatMap.1 hx
      simp only [List.mem_filter, decide_eq_true_eq] at hx
      have hj := List.mem_range.1 hj
      intro e
      -- two of the same list, of different buckets
      have hne : x ≠ y := fun e2 => by rw [e2] at hx; omega
      rw [List.pairwise_iff_getElem] at h
      obtain ⟨p, hp, ep⟩ := List.mem_iff_getElem.1 hx.1
      obtain ⟨q, hq, eq⟩ := List.mem_iff_getElem.1 hy.1
      rcases Nat.lt_trichotomy p q with c | c | c
      · exact h p q hp hq c (by rw [ep, eq]; exact e)
      · subst c; exact hne (by rw [← ep, ← eq])
      · exact h q p hq hp c (by rw [ep, eq]; exact e.symm)
theorem conc_pair {L : List Rw} (h : L.Pairwise fun x y => x.seq ≠ y.seq) : (conc L).Pairwise fun x y => x.seq ≠ y.seq := Bg_pair (b := bk) h 64
theorem Bg_cnt {b : Tup → Nat} (n : Nat) : ∀ L : List Rw, (L.filter fun x => decide (b x.key < n)).length + (L.filter fun x => decide (b x.key = n)).length = (L.filter fun x => decide (b x.key < n + 1)).length
  | [] => rfl
  | x :: L => by
    have ih := Bg_cnt (b := b) n L
    by_cases c1 : b x.key < n
    · have c2 : ¬ b x.key = n := by omega
      have c3 : b x.key < n + 1 := by omega
      simp [c1, c2, c3]; omega
    · by_cases c2 : b x.key = n
      · have c3 : b x.key < n + 1 := by omega
        simp [c2]; omega
      · have c3 : ¬ b x.key < n + 1 := by omega
        simp [c1, c2, c3]; omega
theorem Bg_len {b : Tup → Nat} {L : List Rw} : ∀ n, ((List.range n).flatMap fun j => L.filter fun x => decide (b x.key = j)).length = (L.filter fun x => decide (b x.key < n)).length
  | 0 => by
    have : L.filter (fun x => decide (b x.key < 0)) = [] := by
      rw [List.filter_eq_nil_iff]
      intro x _
      simp
    rw [this]; rfl
  | n + 1 => by
    rw [List.range_succ, List.flatMap_append, List.length_append, Bg_len n]
    simp only [List.flatMap_cons, List.flatMap_nil, List.append_nil]
    exact Bg_cnt n L
theorem conc_len {L : List Rw} : (conc L).length = L.length := by
  have h := Bg_len (b := bk) (L := L) 64
  have e : (L.filter fun x => decide (bk x.key < 64)) = L := by
    rw [List.filter_eq_self]
    intro x _
    have := (bk_eq x.key).2
    rw [decide_eq_true_iff]; exact this
  rw [e] at h
  exact h

theorem k49 {S : Nat → Prop} {w : World} {ly p a : Nat} {rv : Value} {bv : List Value} {lim seq : Int} {L : List Rw} (J : Nat → World → Prop) (hS : ∀ k, S k → k < w.heap.size)
    (hp : w.cell? ⟨p, 0, none⟩ = some (.pointer (some ⟨a, 0, none⟩))) (h : Tb w a rv bv lim seq L) (hL : L.length ≤ 100000) (hfS : ∀ k, Foot a rv bv k → ¬ S k)
    (hy : ∀ i x w', J i w' → Chg (fun k => S k ∨ w.heap.size ≤ k) w w' → (conc L)[i]? = some x → Brings (Xcall Try.prog (.func (.yield ly) #[] #[]) #[x.v] w') fun r => r.1 = .bool true ∧ Chg (fun k => S k ∨ w.heap.size ≤ k) w' r.2 ∧ J (i + 1) r.2)
    (hb : ∀ i w' w'', J i w' → Bel w' w'' → J i w'') (h0 : J 0 w) :
    Brings (Xcall Try.prog (Value.func (Fn.func 49) #[] #[.pointer (some ⟨p, 0, none⟩)]) #[.func (.yield ly) #[] #[]] w) (fun r => r.1 = .tuple #[] ∧ Chg (fun k => S k ∨ w.heap.size ≤ k) w r.2 ∧ J L.length r.2) := by
  refine e49 ?_
  unfold s49
  have one90 : one Try.prog 90 = true := by kernel_rfl
  have lt0 := h.lt
  have hU : ∀ k, Foot a rv bv k → ¬ (S k ∨ w.heap.size ≤ k) := fun k hk hs => by
    rcases hs with hs | hs
    · exact hfS k hk hs
    · have := lt0 k hk; omega
  simp only [go_sem, Qload_cell one90 hp, fa68x0, h.l0, h.len65]
  refine Brings.loop (fun m xs w' => ∃ j : Nat, xs = [.func (.yield ly) #[] #[], rv, .int .i64 ((64 : Nat) : Int), .int .i64 (j : Int)] ∧ j ≤ 64 ∧ m = 64 - j ∧ Chg (fun k => S k ∨ w.heap.size ≤ k) w w' ∧ J (pre L j).length w') ?_ 64 _ _
    ⟨0, rfl, by omega, by omega, Chg.refl _ _, h0⟩
  rintro m xs w' ⟨j, rfl, hj, hm, hc, hJ⟩
  simp only [s49B0, go_sem]
  refine .cond (fun hlt => ?_) (fun hlt => ?_)
  · have hlt : j < 64 := by
      have : (j : Int) < ((64 : Nat) : Int) := by simpa using hlt
      omega
    obtain ⟨R, hR, hix⟩ := h.at65 hlt
    have h1 := h.chg hc hU
    obtain ⟨v, hv, ho⟩ := h1.own j hlt
    have V := View.of_owns ho (Rw.lens _)
    have bl := Bj_len L j
    simp only [hix, h1.l62 hR hv, V.len und62, go_sem]
    refine Brings.loop (fun r ys w'' => ∃ i : Nat, ys = [.func (.yield ly) #[] #[], rv, .int .i64 ((64 : Nat) : Int), .int .i64 (j : Int), v, .int .i64 ((Bj L j).length : Int), .int .i64 (i : Int)] ∧ i ≤ (Bj L j).length ∧ r = (Bj L j).length - i ∧ Chg (fun k => S k ∨ w.heap.size ≤ k) w w'' ∧ J ((pre L j).length + i) w'') ?_ (Bj L j).length _ _
      ⟨0, rfl, by omega, by omega, hc, hJ⟩
    rintro r ys w'' ⟨i, rfl, hi, hr, hc2, hJ2⟩
    simp only [s49B1, go_sem]
    refine .cond (fun hlt2 => ?_) (fun hlt2 => ?_)
    · have hlt2 : i < (Bj L j).length := by
        have : (i : Int) < (Bj L j).length := by simpa using hlt2
        omega
      have h2 := h.chg hc2 hU
      obtain ⟨v2, hv2, ho2⟩ := h2.own j hlt
      rw [hv] at hv2
      injection hv2 with hv2
      subst hv2
      have hx : (Bj L j)[i]? = some (Bj L j)[i] := List.getElem?_eq_getElem hlt2
      generalize (Bj L j)[i] = x at hx
      obtain ⟨g, hg, ix, lx⟩ := own_at ho2 hx
      have B := local_bel w'' (.cells Rw.zero.cs.toArray 73) x.cs.toArray
      have A := local_at w'' x.cs Rw.zero.cs 73
      simp only [ix, lx, alloc73, put73, Rw.all A, go_sem]
      refine (hy _ x _ (hb _ _ _ hJ2 B) (hc2.thenBel B) (conc_at hlt hx)).bind ?_
      rintro ⟨_, w4⟩ ⟨e4, c4, hJ4⟩
      simp only at e4 c4 hJ4
      subst e4
      simp only [Bool.not_true, go_sem]
      rw [wrap_i64 (n := (i : Int) + 1) (by omega) (by omega)]
      exact .ret (.inl ⟨rfl, (Bj L j).length - (i + 1), by omega, i + 1, rfl, by omega, rfl, (hc2.thenBel B).trans c4 fun _ _ h => h, hJ4⟩)
    · have : i = (Bj L j).length := by
        have : ¬ (i : Int) < (Bj L j).length := by simpa using hlt2
        omega
      subst this
      refine .ret (.inr ⟨by simp, ?_⟩)
      simp only [s49R1, go_sem]
      rw [wrap_i64 (n := (j : Int) + 1) (by omega) (by omega)]
      refine .ret (.inl ⟨rfl, 64 - (j + 1), by omega, j + 1, rfl, by omega, rfl, hc2, ?_⟩)
      rw [pre_next, List.length_append]
      exact hJ2
  · have : j = 64 := by
      have : ¬ (j : Int) < ((64 : Nat) : Int) := by simpa using hlt
      omega
    subst this
    refine .ret (.inr ⟨by simp, .ret ⟨rfl, hc, ?_⟩⟩)
    rw [← conc_len (L := L)]
    exact hJ

/-! ## What is due -/

def dueP (now : Int) (x : Rw) : Bool := decide (x.till ≤ now)
def dueM (L : List Rw) (now : Int) : List Tup := ((ordM L).filter (dueP now)).map (·.key)

theorem k28 {w : World} {p : Option Addr} : Brings (Xcall Try.prog (Value.func (Fn.func 28) #[] #[]) #[.pointer p] w) (fun r => r = (.func (.func 49) #[] #[.pointer (some ⟨w.heap.size, 0, none⟩)], w.alloc (.cells #[.pointer p] 90))) := by
  refine e28 ?_
  unfold s28
  rw [Xbox_eq]
  simp only [go_sem]
  exact .ret rfl

theorem zero62 (w : World) : (zeroValue 62).run Try.prog w = .ok (.slice none 0 0) w := by kernel_rfl
theorem alloc62 (w : World) : Xalloc Try.prog 62 w = some (.pointer (some ⟨w.heap.size, 0, none⟩), w.alloc (.cells #[.slice none 0 0] 62)) := Xalloc_eq (zero62 w)
theorem own_nil (w : World) : Own w (.slice none 0 0) [] := World.ownsRow_nil w 0 73 8

/-- A variable that holds a row, laid since. -/
structure Held (n : Nat) (w : World) (d : Nat) (l : List Rw) : Prop where
  ex : ∃ v, w.heap[d]? = some (.cells #[v] 62 (0, 0)) ∧ Own w v l ∧ ∀ q, v.ownBlock = some q → n ≤ q
theorem Held.chg {S : Nat → Prop} {n d : Nat} {w w' : World} {l : List Rw} (h : Held n w d l) (hc : Chg S w w') (hd : ¬ S d) (hn : ∀ q, n ≤ q → q < w.heap.size → ¬ S q) : Held n w' d l := by
  obtain ⟨v, h1, h2, h3⟩ := h.ex
  exact ⟨v, hc.at_ h1 hd, hc.owns h2 fun q hq => hn q (h3 q hq) (World.ownsRow.lt h2 q hq).2, h3⟩
theorem Held.bel {n d : Nat} {w w' : World} {l : List Rw} (h : Held n w d l) (hb : Bel w w') : Held n w' d l := h.chg (.of_bel hb fun _ => False) (fun f => f) fun _ _ _ f => f

/-- A row is appended to it. -/
theorem held_push {n d : Nat} {w : World} {l : List Rw} {x : Rw} (h : Held n w d l) (hl : l.length ≤ 900000) (hdn : d < n) (hn : n ≤ w.heap.size) :
    ∃ v s w1 v' w2 w3, Qload Try.prog 62 (.pointer (some ⟨d, 0, none⟩)) w = some v ∧ XbuildSlice Try.prog 62 1 #[(0, x.v)] w = some (s, w1) ∧ Xbi Try.prog .append #[62, 62] 62 #[v, s] w1 = some (v', w2) ∧ Xstore Try.prog 62 (.pointer (some ⟨d, 0, none⟩)) v' w2 = some (undef, w3) ∧
      Held n w3 d (l ++ [x]) ∧ Chg (fun k => k = d ∨ n ≤ k) w w3 := by
  obtain ⟨v, h1, h2, h3⟩ := h.ex
  have ba : Bel w (w.alloc (.cells x.cs.toArray 73)) := (Bel.refl _).alloc _
  obtain ⟨v', w2, e2, o2, g2, n2⟩ := app62 (later_bel h2 ba) (litView x w) (by simp; omega)
  have cg := Chg.of_grown g2
  have nd : ∀ q, v.ownBlock = some q → q ≠ d := fun q hq => by have := h3 q hq; omega
  have hv2 : w2.heap[d]? = some (.cells #[v] 62 (0, 0)) := cg.at_ (ba.at_ h1) fun e => nd d e.symm rfl
  have n3 : ∀ q, v'.ownBlock = some q → n ≤ q := fun q hq => by
    rcases n2 q hq with h | h
    · exact h3 q h
    · have := ba.size; omega
  refine ⟨v, _, _, v', w2, _, Qload_cell one62 (cell_at h1 rfl), lit62 x w, e2, store62 hv2 (owns_slice o2), ⟨v', setRow_heap w2 d _ _ 62 _ hv2, (setRow_chg d #[v']).owns o2 fun q hq e => by have := n3 q hq; omega, n3⟩, ?_⟩
  exact (ba.thenChg (cg.mono fun k _ hk => .inr (h3 k hk.symm))).trans ((setRow_chg _ _).mono fun k _ hk => .inl hk) fun _ _ h => h

theorem sort_due {L l' : List Rw} {now : Int} (hs : L.Pairwise fun x y => x.seq ≠ y.seq) (hp : l'.Perm ((conc L).filter (dueP now))) (hw : Wk l') : l' = (ordM L).filter (dueP now) := by
  have h1 : l'.Pairwise fun x y => x.seq ≠ y.seq := ((conc_pair hs).sublist List.filter_sublist).perm hp.symm (fun {x y} h => fun e => h e.symm)
  refine srt_ext (srt_of hw h1) ((ord_srt hs).sublist List.filter_sublist) fun x => ?_
  rw [hp.mem_iff, List.mem_filter, List.mem_filter, mem_conc, ord_mem hs]

theorem take_filter_next {C : List Rw} {p : Rw → Bool} {i : Nat} {x : Rw} (hx : C[i]? = some x) : (C.take (i + 1)).filter p = (C.take i).filter p ++ (if p x = true then [x] else []) := by
  rw [List.take_add_one, hx, List.filter_append]
  congr 1
  by_cases c : p x = true <;> simp [c]

theorem due_len {L : List Rw} (hs : L.Pairwise fun x y => x.seq ≠ y.seq) (now : Int) : ((ordM L).filter (dueP now)).length ≤ L.length := by
  have := List.length_filter_le (dueP now) (ordM L)
  rw [ord_len hs] at this
  exact this

theorem k13 {w : World} {a : Nat} {rv : Value} {bv : List Value} {lim seq now : Int} {L : List Rw} (h : Tb w a rv bv lim seq L) (hL : L.length ≤ 12) (hA : Apart seq L) :
    Brings (Xcall Try.prog (Value.func (Fn.func 13) #[] #[]) #[.pointer (some ⟨a, 0, none⟩), .int .i64 now] w) (fun r => Ks.Fresh w (dueM L now) r) := by
  refine e13 ?_
  unfold s13
  have V1 := (Locals.nil w).add rfl (.cells #[.int .i64 now] 3)
  have s1 : (w.alloc (.cells #[.int .i64 now] 3)).heap.size = w.heap.size + 1 := by simp
  simp only [go_sem, Qb_eqlP (P := Try.prog) (t := 25) (e := 70) ptr25, Option.isNone_some, fa70x0]
  have V2 := V1.add (by simp) (.cells #[.slice none 0 0] 62)
  have s2 : ((w.alloc (.cells #[.int .i64 now] 3)).alloc (.cells #[.slice none 0 0] 62)).heap.size = w.heap.size + 2 := by simp
  simp only [alloc62, s1, go_sem]
  generalize (w.alloc (.cells #[.int .i64 now] 3)).alloc (.cells #[.slice none 0 0] 62) = w2 at V2 s2
  refine k28.bind ?_
  rintro _ rfl
  have V3 := V2.add (by rw [s2]; rfl) (.cells #[.pointer (some ⟨a, 0, none⟩)] 90)
  have s3 : (w2.alloc (.cells #[.pointer (some ⟨a, 0, none⟩)] 90)).heap.size = w.heap.size + 3 := by simp [s2]
  rw [s2]
  simp only
  generalize w2.alloc (.cells #[.pointer (some ⟨a, 0, none⟩)] 90) = w3 at V3 s3
  refine Brings.range (f := 49) (fd := Try.f49) Try.func49 (by kernel_rfl) (by kernel_rfl) (K := fun e d w' => s13G0R (.pointer (some ⟨w.heap.size + 1, 0, none⟩)) d w' e) ?_
  rw [s3]
  generalize hE : enterW w3 13 _ _ _ _ = w5
  obtain ⟨Lp, hL5, V5⟩ := enterW_lay' hE V3 (by rw [s3]; rfl)
  have s5 : w5.heap.size = w.heap.size + 5 := by rw [← hE, enterW_size, s3]
  have V5 : Locals w [.cells #[.int .i64 now] 3, .cells #[.slice none 0 0] 62, .cells #[.pointer (some ⟨a, 0, none⟩)] 90, .deferred (some []), .loop Lp] w5 := V5
  clear hE
  have h5 := h.bel V5.bel
  have lt0 := h.lt
  have hd0 : Held (w.heap.size + 5) w5 (w.heap.size + 1) [] := ⟨.slice none 0 0, V5.at_ 1 _ rfl, own_nil _, fun q hq => by cases hq⟩
  have hdl : ∀ i, ((conc L).take i).length ≤ 12 := fun i => by
    have := conc_len (L := L)
    rw [List.length_take]; omega
  -- what holds of the loop's own blocks
  let Z (w' : World) : Prop := w'.heap[w.heap.size]? = some (.cells #[.int .i64 now] 3) ∧ w'.heap[w.heap.size + 3]? = some (.deferred (some [])) ∧ w'.heap[w.heap.size + 4]? = some (.loop Lp)
  have hZ : ∀ {T : Nat → Prop} {w' w'' : World}, Z w' → Chg T w' w'' → ¬ T w.heap.size → ¬ T (w.heap.size + 3) → ¬ T (w.heap.size + 4) → Z w'' := fun hz hc h1 h2 h3 => ⟨hc.at_ hz.1 h1, hc.at_ hz.2.1 h2, hc.at_ hz.2.2 h3⟩
  refine (k49 (S := fun k => k = w.heap.size + 1 ∨ k = w.heap.size + 4) (fun i w' => Held (w.heap.size + 5) w' (w.heap.size + 1) (((conc L).take i).filter (dueP now)) ∧ Z w' ∧ w.heap.size + 5 ≤ w'.heap.size)
    (by rintro k (rfl | rfl) <;> omega) (V5.cell (j := 2) rfl) h5 (by omega) (fun k hk hs => by have := lt0 k hk; omega) ?_
    (fun i w' w'' hj hb => ⟨hj.1.bel hb, hZ hj.2.1 (.of_bel hb fun _ => False) (fun f => f) (fun f => f) (fun f => f), Nat.le_trans hj.2.2 hb.size⟩)
    ⟨by simpa using hd0, ⟨V5.at_ 0 _ rfl, V5.at_ 3 _ rfl, V5.at_ 4 _ rfl⟩, by omega⟩).mono ?_
  · rintro i x w' ⟨hh, hz, hsz⟩ hc hx
    rw [s5]
    rw [hL5.yield1 hz.2.2]
    simp only [List.set_cons_succ, List.set_cons_zero]
    refine s13G0Qb ?_
    unfold s13G0Q
    have B := local_bel w' (.cells Rw.zero.cs.toArray 73) x.cs.toArray
    have A := local_at w' x.cs Rw.zero.cs 73
    have hq : w.heap.size + 5 ≤ w'.heap.size := hsz
    simp only [alloc73, put73, go_sem]
    have hz2 := hZ hz (.of_bel B fun _ => False) (fun f => f) (fun f => f) (fun f => f)
    have hh2 := hh.bel B
    have z2 : w.heap.size + 5 ≤ ((w'.alloc (.cells Rw.zero.cs.toArray 73)).setRow w'.heap.size x.cs.toArray).heap.size := Nat.le_trans hsz B.size
    generalize (w'.alloc (.cells Rw.zero.cs.toArray 73)).setRow w'.heap.size x.cs.toArray = w6 at A B hz2 hh2 z2
    generalize w'.heap.size = q at A hq
    rw [begK_ready hz2.2.2 hL5.state]
    have cB := setB_chg w6 (w.heap.size + 4) (.loop { Lp with state := .busy })
    have A7 := A.chg cB (by omega)
    have hh7 := hh2.chg cB (by omega) (fun q hq _ => by omega)
    have n7 : (setB w6 (w.heap.size + 4) (.loop { Lp with state := .busy })).heap[w.heap.size]? = some (.cells #[.int .i64 now] 3) := cB.at_ hz2.1 (by omega)
    have d7 : (setB w6 (w.heap.size + 4) (.loop { Lp with state := .busy })).heap[w.heap.size + 3]? = some (.deferred (some [])) := cB.at_ hz2.2.1 (by omega)
    have l7 := setB_same (o := .loop { Lp with state := .busy }) hz2.2.2
    have c7 : Chg (fun k => (k = w.heap.size + 1 ∨ k = w.heap.size + 4) ∨ w.heap.size + 5 ≤ k) w' (setB w6 (w.heap.size + 4) (.loop { Lp with state := .busy })) := B.thenChg (cB.mono fun k _ hk => .inl (.inr hk))
    have z7 : w.heap.size + 5 ≤ (setB w6 (w.heap.size + 4) (.loop { Lp with state := .busy })).heap.size := by rw [setB_size]; exact z2
    generalize setB w6 (w.heap.size + 4) (.loop { Lp with state := .busy }) = w7 at A7 hh7 n7 d7 l7 c7 z7
    have e : ({ { Lp with state := .busy } with state := if (none : Option Code).isNone then .ready else .done, pending := none } : Loop) = Lp := by
      have h1 := hL5.state; have h2 := hL5.pending
      obtain ⟨st, pe, fn, tm, pa, asg, bd, de⟩ := Lp
      simp only at h1 h2
      subst h1 h2
      rfl
    simp only [fa73x2, Rw.b2 A7, Qload_cell one3 (cell_at n7 rfl : w7.cell? ⟨w.heap.size, 0, none⟩ = some (.int .i64 now)), go_sem]
    have tf := take_filter_next (p := dueP now) hx
    refine .cond (fun hd => ?_) (fun hd => ?_)
    · have hd : x.till ≤ now := by simpa using hd
      obtain ⟨v, s, w8, v', w9, w10, e1, e2, e3, e4, hh10, c10⟩ := held_push (x := x) hh7 (by have := hdl i; have := List.length_filter_le (dueP now) ((conc L).take i); omega) (by omega) z7
      simp only [e1, Rw.all A7, e2, e3, e4, go_sem]
      have l10 := c10.at_ l7 (by omega)
      rw [endR_eq l10, e]
      have cE := setB_chg w10 (w.heap.size + 4) (.loop Lp)
      refine .ret ⟨rfl, ?_, ⟨?_, ?_, ?_⟩⟩
      · exact (c7.trans (c10.mono fun k _ hk => hk.imp .inl fun h => h) fun _ _ h => h).trans (cE.mono fun k _ hk => .inl (.inr hk)) fun _ _ h => h
      · rw [tf, if_pos (by simpa [dueP] using hd)]
        exact hh10.chg cE (by omega) (fun q hq _ => by omega)
      · exact ⟨cE.at_ (c10.at_ n7 (by omega)) (by omega), cE.at_ (c10.at_ d7 (by omega)) (by omega), setB_same l10⟩
      · rw [setB_size]; exact Nat.le_trans z7 c10.size
    · have hd : ¬ x.till ≤ now := by simpa using hd
      rw [endR_eq l7, e]
      have cE := setB_chg w7 (w.heap.size + 4) (.loop Lp)
      refine .ret ⟨rfl, ?_, ⟨?_, ?_, ?_⟩⟩
      · exact c7.trans (cE.mono fun k _ hk => .inl (.inr hk)) fun _ _ h => h
      · rw [tf, if_neg (by simpa [dueP] using hd), List.append_nil]
        exact hh7.chg cE (by omega) (fun q hq _ => by omega)
      · exact ⟨cE.at_ n7 (by omega), cE.at_ d7 (by omega), setB_same l7⟩
      · rw [setB_size]; exact z7
  · rintro ⟨_, w9⟩ ⟨_, hc, hh, hz, hsz⟩
    simp only at hc hh hz hsz
    rw [s5] at hc
    have tl : (conc L).take L.length = conc L := by rw [← conc_len (L := L), List.take_length]
    rw [tl] at hh
    refine ⟨Lp, .normal, hz.2.2, by rw [hL5.state]; rfl, by rw [hL5.pending]; rfl, ?_⟩
    have cE := setB_chg w9 (w.heap.size + 4) (.loop { Lp with state := .exhausted })
    simp only [show w.heap.size + 3 + 1 = w.heap.size + 4 from rfl]
    have hh1 := hh.chg cE (by omega) (fun q hq _ => by omega)
    have d1 := cE.at_ hz.2.1 (by omega)
    have b1 : Bel w (setB w9 (w.heap.size + 4) (.loop { Lp with state := .exhausted })) := (V5.bel.thenChg (hc.trans (cE.mono fun k _ hk => .inl (.inr hk)) fun _ _ h => h)).bel fun k hk hs => by omega
    have z1 : w.heap.size + 5 ≤ (setB w9 (w.heap.size + 4) (.loop { Lp with state := .exhausted })).heap.size := by rw [setB_size]; exact hsz
    generalize setB w9 (w.heap.size + 4) (.loop { Lp with state := .exhausted }) = w10 at hh1 d1 b1 z1
    obtain ⟨v, hv, ho, hvn⟩ := hh1.ex
    have fl : ((conc L).filter (dueP now)).length ≤ 12 := by
      have := List.length_filter_le (dueP now) (conc L)
      rw [conc_len] at this; omega
    simp only [s13G0R, Qload_cell one62 (cell_at hv rfl : w10.cell? ⟨w.heap.size + 1, 0, none⟩ = some v), go_sem]
    refine (k29 ho fl).bind ?_
    rintro ⟨_, w11⟩ ⟨c11, l', o11, p11, wk11⟩
    simp only at c11 o11
    have hv11 := c11.at_ hv fun e => by have := hvn _ e; omega
    have d11 := c11.at_ d1 fun e => by have := hvn _ e; omega
    have b11 : Bel w w11 := (b1.thenChg c11).bel fun k hk e => by have := hvn _ e; omega
    have el := sort_due hA.seqs p11 wk11
    have V11 := View.of_owns o11 (Rw.lens _)
    have ll : l'.length ≤ 12 := by rw [p11.length_eq]; exact fl
    simp only [Qload_cell one62 (cell_at hv11 rfl : w11.cell? ⟨w.heap.size + 1, 0, none⟩ = some v), V11.len und62, go_sem]
    have z11 : w.heap.size + 5 ≤ w11.heap.size := Nat.le_trans z1 c11.size
    refine Brings.loop (fun m xs w' => ∃ (i : Nat) (u : Value), xs = [u, v, .int .i64 (l'.length : Int), .int .i64 (i : Int)] ∧ i ≤ l'.length ∧ m = l'.length - i ∧ Bel w11 w' ∧ Ks.Fresh w11 ((l'.take i).map (·.key)) (u, w')) ?_ l'.length _ _
      ⟨0, _, rfl, by omega, by omega, Bel.refl _, ⟨Bel.refl _, World.ownsRow_nil w11 0 37 5, fun k hk => by cases hk⟩⟩
    rintro m xs w' ⟨i, u, rfl, hi, hm, hb, hF⟩
    simp only [s13B1, go_sem]
    refine .cond (fun hlt => ?_) (fun hlt => ?_)
    · have hlt : i < l'.length := by
        have : (i : Int) < l'.length := by simpa using hlt
        omega
      have hx : l'[i]? = some l'[i] := List.getElem?_eq_getElem hlt
      generalize l'[i] = x at hx
      obtain ⟨g, hg, ix, lx⟩ := own_at (later_bel o11 hb) hx
      have B := local_bel w' (.cells Rw.zero.cs.toArray 73) x.cs.toArray
      have A := local_at w' x.cs Rw.zero.cs 73
      simp only [ix, lx, alloc73, put73, fa73x0, Tup.all (Rw.in0 A), Ks.lit30, go_sem]
      generalize (w'.alloc (.cells Rw.zero.cs.toArray 73)).setRow w'.heap.size x.cs.toArray = w12 at A B
      have ba : Bel w12 (w12.alloc (.cells x.key.cs.toArray 37)) := (Bel.refl _).alloc _
      obtain ⟨F1, F2, F3⟩ := hF
      simp only at F1 F2 F3
      have tl2 : ((l'.take i).map (·.key)).length ≤ 12 := by rw [List.length_map, List.length_take]; omega
      obtain ⟨u', w13, e13, o13, g13, n13⟩ := Ks.app30 (later_bel F2 (B.trans ba)) (Ks.litView x.key w12) (by simp; omega)
      simp only [e13, go_sem]
      have wr : IntKind.i64.wrap ((i : Int) + 1) = ((i + 1 : Nat) : Int) := by rw [wrap_i64 (by omega) (by omega)]; rfl
      rw [wr]
      have cg := Chg.of_grown g13
      have bb : Bel w11 w13 := ((F1.trans (B.trans ba)).thenChg cg).bel fun k hk e => by have := F3 k e.symm; omega
      refine .ret (.inl ⟨rfl, l'.length - (i + 1), by omega, i + 1, u', rfl, by omega, rfl, bb, bb, ?_, fun k hk => ?_⟩)
      · have : (l'.take (i + 1)).map (·.key) = (l'.take i).map (·.key) ++ [x.key] := by
          rw [List.take_add_one, hx, List.map_append]; rfl
        rw [this]
        exact o13
      · rcases n13 k hk with h1 | h1
        · exact F3 k h1
        · have := (F1.trans (B.trans ba)).size; omega
    · have : i = l'.length := by
        have : ¬ (i : Int) < l'.length := by simpa using hlt
        omega
      subst this
      obtain ⟨F1, F2, F3⟩ := hF
      simp only at F1 F2 F3
      rw [List.take_length] at F2
      refine .ret (.inr ⟨by simp, ?_⟩)
      have dd := F1.at_ d11
      simp only [s13R1, takeAll_one dd, go_sem]
      have cE := setB_chg w' (w.heap.size + 3) (.deferred none)
      have bf : Bel w (setB w' (w.heap.size + 3) (.deferred none)) := ((b11.trans F1).thenChg cE).bel fun k hk e => by omega
      refine .ret ⟨bf, ?_, fun k hk => ?_⟩
      · unfold dueM
        rw [← el]
        exact cE.owns F2 fun q hq e => by have := F3 q hq; omega
      · have := F3 k hk; show w.heap.size ≤ k; omega

end Go.Proofs.Ytcibkmahibnjeaa
