/- A table: the first, a fork, new ones. -/
import Derived.Test.YtcibkmahibnjeaaTa9
namespace Go.Proofs.Ytcibkmahibnjeaa
open Go Go.Ev Go.RowKit
open Go.Proofs

/-! ## All rows, collected -/

theorem k58 {w : World} {p a : Nat} {rv : Value} {bv : List Value} {lim seq : Int} {L : List Rw} (h : Tb w a rv bv lim seq L) (hL : L.length ≤ 1000) (hp : w.cell? ⟨p, 0, none⟩ = some (.pointer (some ⟨a, 0, none⟩))) :
    Brings (Xcall Try.prog (Value.func (Fn.func 58) #[] #[]) #[.slice none 0 0, .func (.func 49) #[] #[.pointer (some ⟨p, 0, none⟩)]] w) (fun r => Bel w r.2 ∧ Own r.2 r.1 (conc L) ∧ ∀ q, r.1.ownBlock = some q → w.heap.size ≤ q) := by
  refine e58 ?_
  unfold s58
  have V1 := (Locals.nil w).add rfl (.cells #[.slice none 0 0] 62)
  have s1 : (w.alloc (.cells #[.slice none 0 0] 62)).heap.size = w.heap.size + 1 := by simp
  rw [Xbox_eq]
  simp only [go_sem]
  have V1 : Locals w [.cells #[.slice none 0 0] 62] (w.alloc (.cells #[.slice none 0 0] 62)) := V1
  generalize w.alloc (.cells #[.slice none 0 0] 62) = w3 at V1 s1
  refine Brings.range (f := 49) (fd := Try.f49) Try.func49 (by kernel_rfl) (by kernel_rfl) (K := fun e d w' => s58G0R (.pointer (some ⟨w.heap.size, 0, none⟩)) d w' e) ?_
  rw [s1]
  generalize hE : enterW w3 58 _ _ _ _ = w5
  obtain ⟨Lp, hL5, V5⟩ := enterW_lay' hE V1 (by rw [s1]; rfl)
  have s5 : w5.heap.size = w.heap.size + 3 := by rw [← hE, enterW_size, s1]
  have V5 : Locals w [.cells #[.slice none 0 0] 62, .deferred (some []), .loop Lp] w5 := V5
  clear hE
  have h5 := h.bel V5.bel
  have lt0 := h.lt
  have hd0 : Held (w.heap.size + 3) w5 w.heap.size [] := ⟨.slice none 0 0, V5.at_ 0 _ rfl, own_nil _, fun q hq => by cases hq⟩
  have hdl : ∀ i, ((conc L).take i).length ≤ 1000 := fun i => by
    have := conc_len (L := L)
    rw [List.length_take]; omega
  let Z (w' : World) : Prop := w'.heap[w.heap.size + 1]? = some (.deferred (some [])) ∧ w'.heap[w.heap.size + 2]? = some (.loop Lp)
  have hZ : ∀ {T : Nat → Prop} {w' w'' : World}, Z w' → Chg T w' w'' → ¬ T (w.heap.size + 1) → ¬ T (w.heap.size + 2) → Z w'' := fun hz hc h1 h2 => ⟨hc.at_ hz.1 h1, hc.at_ hz.2 h2⟩
  refine (k49 (S := fun k => k = w.heap.size ∨ k = w.heap.size + 2) (fun i w' => Held (w.heap.size + 3) w' w.heap.size ((conc L).take i) ∧ Z w' ∧ w.heap.size + 3 ≤ w'.heap.size)
    (by rintro k (rfl | rfl) <;> omega) (V5.bel.cell_some hp) h5 (by omega) (fun k hk hs => by have := lt0 k hk; omega) ?_
    (fun i w' w'' hj hb => ⟨hj.1.bel hb, hZ hj.2.1 (.of_bel hb fun _ => False) (fun f => f) (fun f => f), Nat.le_trans hj.2.2 hb.size⟩)
    ⟨by simpa using hd0, ⟨V5.at_ 1 _ rfl, V5.at_ 2 _ rfl⟩, by omega⟩).mono ?_
  · rintro i x w' ⟨hh, hz, hsz⟩ hc hx
    rw [s5]
    rw [hL5.yield1 hz.2]
    simp only [List.set_cons_succ, List.set_cons_zero]
    refine s58G0Qb ?_
    unfold s58G0Q
    have B := local_bel w' (.cells Rw.zero.cs.toArray 73) x.cs.toArray
    have A := local_at w' x.cs Rw.zero.cs 73
    have hq : w.heap.size + 3 ≤ w'.heap.size := hsz
    simp only [alloc73, put73, go_sem]
    have hz2 := hZ hz (.of_bel B fun _ => False) (fun f => f) (fun f => f)
    have hh2 := hh.bel B
    have z2 : w.heap.size + 3 ≤ ((w'.alloc (.cells Rw.zero.cs.toArray 73)).setRow w'.heap.size x.cs.toArray).heap.size := Nat.le_trans hsz B.size
    generalize (w'.alloc (.cells Rw.zero.cs.toArray 73)).setRow w'.heap.size x.cs.toArray = w6 at A B hz2 hh2 z2
    generalize w'.heap.size = q at A hq
    rw [begK_ready hz2.2 hL5.state]
    have cB := setB_chg w6 (w.heap.size + 2) (.loop { Lp with state := .busy })
    have A7 := A.chg cB (by omega)
    have hh7 := hh2.chg cB (by omega) (fun q hq _ => by omega)
    have d7 : (setB w6 (w.heap.size + 2) (.loop { Lp with state := .busy })).heap[w.heap.size + 1]? = some (.deferred (some [])) := cB.at_ hz2.1 (by omega)
    have l7 := setB_same (o := .loop { Lp with state := .busy }) hz2.2
    have c7 : Chg (fun k => (k = w.heap.size ∨ k = w.heap.size + 2) ∨ w.heap.size + 3 ≤ k) w' (setB w6 (w.heap.size + 2) (.loop { Lp with state := .busy })) := B.thenChg (cB.mono fun k _ hk => .inl (.inr hk))
    have z7 : w.heap.size + 3 ≤ (setB w6 (w.heap.size + 2) (.loop { Lp with state := .busy })).heap.size := by rw [setB_size]; exact z2
    generalize setB w6 (w.heap.size + 2) (.loop { Lp with state := .busy }) = w7 at A7 hh7 d7 l7 c7 z7
    have e : ({ { Lp with state := .busy } with state := if (none : Option Code).isNone then .ready else .done, pending := none } : Loop) = Lp := by
      have h1 := hL5.state; have h2 := hL5.pending
      obtain ⟨st, pe, fn, tm, pa, asg, bd, de⟩ := Lp
      simp only at h1 h2
      subst h1 h2
      rfl
    have tf : (conc L).take (i + 1) = (conc L).take i ++ [x] := by rw [List.take_add_one, hx]; rfl
    obtain ⟨v, s, w8, v', w9, w10, e1, e2, e3, e4, hh10, c10⟩ := held_push (x := x) hh7 (by have := hdl i; omega) (by omega) z7
    simp only [e1, Rw.all A7, e2, e3, e4, go_sem]
    have l10 := c10.at_ l7 (by omega)
    rw [endR_eq l10, e]
    have cE := setB_chg w10 (w.heap.size + 2) (.loop Lp)
    refine .ret ⟨rfl, ?_, ⟨?_, ?_, ?_⟩⟩
    · exact (c7.trans (c10.mono fun k _ hk => hk.imp .inl fun h => h) fun _ _ h => h).trans (cE.mono fun k _ hk => .inl (.inr hk)) fun _ _ h => h
    · rw [tf]
      exact hh10.chg cE (by omega) (fun q hq _ => by omega)
    · exact ⟨cE.at_ (c10.at_ d7 (by omega)) (by omega), setB_same l10⟩
    · rw [setB_size]; exact Nat.le_trans z7 c10.size
  · rintro ⟨_, w9⟩ ⟨_, hc, hh, hz, hsz⟩
    simp only at hc hh hz hsz
    rw [s5] at hc
    have tl : (conc L).take L.length = conc L := by rw [← conc_len (L := L), List.take_length]
    rw [tl] at hh
    refine ⟨Lp, .normal, hz.2, by rw [hL5.state]; rfl, by rw [hL5.pending]; rfl, ?_⟩
    have cE := setB_chg w9 (w.heap.size + 2) (.loop { Lp with state := .exhausted })
    simp only [show w.heap.size + 1 + 1 = w.heap.size + 2 from rfl]
    have hh1 := hh.chg cE (by omega) (fun q hq _ => by omega)
    have d1 := cE.at_ hz.1 (by omega)
    have b1 : Bel w (setB w9 (w.heap.size + 2) (.loop { Lp with state := .exhausted })) := (V5.bel.thenChg (hc.trans (cE.mono fun k _ hk => .inl (.inr hk)) fun _ _ h => h)).bel fun k hk hs => by omega
    generalize setB w9 (w.heap.size + 2) (.loop { Lp with state := .exhausted }) = w10 at hh1 d1 b1
    obtain ⟨v, hv, ho, hvn⟩ := hh1.ex
    simp only [s58G0R, Qload_cell one62 (cell_at hv rfl : w10.cell? ⟨w.heap.size, 0, none⟩ = some v), takeAll_one d1, go_sem]
    have cF := setB_chg w10 (w.heap.size + 1) (.deferred none)
    exact .ret ⟨(b1.thenChg cF).bel fun k hk e => by omega, cF.owns ho fun q hq e => by have := hvn q hq; omega, fun q hq => by have := hvn q hq; omega⟩

theorem k47 {w : World} {p a : Nat} {rv : Value} {bv : List Value} {lim seq : Int} {L : List Rw} (h : Tb w a rv bv lim seq L) (hL : L.length ≤ 1000) (hp : w.cell? ⟨p, 0, none⟩ = some (.pointer (some ⟨a, 0, none⟩))) :
    Brings (Xcall Try.prog (Value.func (Fn.func 47) #[] #[]) #[.func (.func 49) #[] #[.pointer (some ⟨p, 0, none⟩)]] w) (fun r => Bel w r.2 ∧ Own r.2 r.1 (conc L) ∧ ∀ q, r.1.ownBlock = some q → w.heap.size ≤ q) := by
  refine e47 ?_
  unfold s47
  refine (k58 h hL hp).bind ?_
  rintro ⟨v, w2⟩ h2
  exact .ret h2

/-- The least of some rows. -/
def Least (l : List Rw) (x : Rw) : Prop := x ∈ l ∧ ∀ y ∈ l, lt y x = false

theorem k46 {w : World} {s : Value} {l : List Rw} (hv : View Rw.cs 8 w s l) (h0 : 0 < l.length) (hl : l.length ≤ 1000) : Brings (Xcall Try.prog (Value.func (Fn.func 46) #[] #[]) #[s, f30V] w) (fun r => Bel w r.2 ∧ ∃ x, Least l x ∧ r.1 = x.v) := by
  refine e46 ?_
  unfold s46
  have V1 := (Locals.nil w).add rfl (.cells Rw.zero.cs.toArray 73)
  have s1 : (w.alloc (.cells Rw.zero.cs.toArray 73)).heap.size = w.heap.size + 1 := by simp
  have d0 : decide ((l.length : Int) < 1) = false := by rw [decide_eq_false_iff_not]; omega
  simp only [alloc73, hv.len und62, d0, go_sem]
  unfold s46M0
  obtain ⟨x0, g0, o0, hx0, _, hix0, hc0⟩ := getR (hv.bel V1.bel) (n := 0) (by omega) (by omega)
  have V2 := V1.add (by rw [s1]; rfl) (.cells Rw.zero.cs.toArray 73)
  have V3 := V2.row (j := 1) rfl rfl x0.cs.toArray
  have o1 : ((w.alloc (.cells Rw.zero.cs.toArray 73)).alloc (.cells Rw.zero.cs.toArray 73)).heap[w.heap.size + 1]? = some (.cells Rw.zero.cs.toArray 73) := V2.at_ 1 _ rfl
  simp only [hix0, Rw.all hc0, alloc73, s1, store73 o1 rfl, go_sem]
  generalize ((w.alloc (.cells Rw.zero.cs.toArray 73)).alloc (.cells Rw.zero.cs.toArray 73)).setRow (w.heap.size + 1) x0.cs.toArray = w2 at V3
  have hx0 : l[0]? = some x0 := hx0
  refine Brings.loop (fun m xs w' => ∃ (i : Nat) (x : Rw), xs = [s, f30V, .pointer (some ⟨w.heap.size, 0, none⟩), .pointer (some ⟨w.heap.size + 1, 0, none⟩), .int .i64 (i : Int)] ∧ 1 ≤ i ∧ i ≤ l.length ∧ m = l.length - i ∧ Locals w [.cells Rw.zero.cs.toArray 73, .cells x.cs.toArray 73] w' ∧ x ∈ l ∧ ∀ y ∈ l.take i, lt y x = false) ?_ (l.length - 1) _ _
    ⟨1, x0, rfl, by omega, by omega, rfl, V3, List.mem_of_getElem? hx0, fun y hy => by
      rw [List.take_add_one, hx0] at hy
      simp at hy
      subst hy
      rw [lt_no]; omega⟩
  rintro m xs w' ⟨i, x, rfl, h1, hi, hm, V, hxl, hn⟩
  have Vw := hv.bel V.bel
  simp only [s46B1, Vw.len und62, go_sem]
  have q1 : w'.heap[w.heap.size + 1]? = some (.cells x.cs.toArray 73) := V.at_ 1 _ rfl
  refine .cond (fun hlt => ?_) (fun hlt => ?_)
  · have hlt : i < l.length := by
      have : (i : Int) < l.length := by simpa using hlt
      omega
    have bd : Bel w' w'.drew := (Bel.refl _).drew
    obtain ⟨y, g, o, hy, _, hix, hc⟩ := getR (Vw.bel bd) (n := i) (by omega) (by omega)
    rw [Int.toNat_natCast] at hy
    have Vd := V.later bd
    have qd : w'.drew.heap[w.heap.size + 1]? = some (.cells x.cs.toArray 73) := Vd.at_ 1 _ rfl
    simp only [hix, Rw.all hc, Rw.all (CellsAt.of qd), go_sem]
    unfold f30V
    refine (k30 (x := y) (y := x)).bind ?_
    rintro ⟨_, w3⟩ ⟨e3, b3⟩
    simp only at e3 b3
    subst e3
    have V3 := Vd.later b3
    have q3 : w3.heap[w.heap.size + 1]? = some (.cells x.cs.toArray 73) := V3.at_ 1 _ rfl
    have wr : IntKind.i64.wrap ((i : Int) + 1) = ((i + 1 : Nat) : Int) := by rw [wrap_i64 (by omega) (by omega)]; rfl
    have tn : l.take (i + 1) = l.take i ++ [y] := by rw [List.take_add_one, hy]; rfl
    simp only [ord_lt, go_sem]
    cases hlt2 : lt y x with
    | true =>
      have V4 := V3.row (j := 1) rfl rfl y.cs.toArray
      simp only [hix, Rw.all (hc.bel b3), store73 q3 rfl, wr, go_sem]
      refine .ret (.inl ⟨rfl, l.length - (i + 1), by omega, i + 1, y, rfl, by omega, by omega, rfl, V4, List.mem_of_getElem? hy, fun z hz => ?_⟩)
      rw [tn] at hz
      rcases List.mem_append.1 hz with hz | hz
      · have := hn z hz; rw [lt_iff] at hlt2; rw [lt_no] at *; omega
      · simp at hz; subst hz; rw [lt_no]; omega
    | false =>
      simp only [wr, go_sem]
      refine .ret (.inl ⟨rfl, l.length - (i + 1), by omega, i + 1, x, rfl, by omega, by omega, rfl, V3, hxl, fun z hz => ?_⟩)
      rw [tn] at hz
      rcases List.mem_append.1 hz with hz | hz
      · exact hn z hz
      · simp at hz; subst hz; exact hlt2
  · have : i = l.length := by
      have : ¬ (i : Int) < l.length := by simpa using hlt
      omega
    subst this
    rw [List.take_length] at hn
    refine .ret (.inr ⟨by simp, ?_⟩)
    have q0 : w'.heap[w.heap.size]? = some (.cells Rw.zero.cs.toArray 73) := V.at_ 0 _ rfl
    have V4 := V.row (j := 0) (k := w.heap.size) rfl rfl x.cs.toArray
    have q4 : (w'.setRow w.heap.size x.cs.toArray).heap[w.heap.size]? = some (.cells x.cs.toArray 73) := V4.at_ 0 _ rfl
    simp only [s46R1, Rw.all (CellsAt.of q1), store73 q0 rfl, Rw.all (CellsAt.of q4), go_sem, Option.map_some, oneOf_1]
    exact .ret ⟨V4.bel, x, ⟨hxl, hn⟩, rfl⟩

def firstM (L : List Rw) : Tup × Bool := match ordM L with | [] => (Tup.zero, false) | x :: _ => (x.key, true)
theorem least_ord {L : List Rw} {x : Rw} (hs : L.Pairwise fun x y => x.seq ≠ y.seq) (h : Least (conc L) x) : firstM L = (x.key, true) := by
  have hsrt := ord_srt hs
  have hm := ord_mem hs
  unfold firstM
  obtain ⟨hx, hn⟩ := h
  rw [mem_conc] at hx
  cases e : ordM L with
  | nil => rw [← hm, e] at hx; cases hx
  | cons y l =>
    rw [e] at hsrt hm
    obtain ⟨h1, _⟩ := List.pairwise_cons.1 hsrt
    have hy : y ∈ L := (hm y).1 (by simp)
    rcases List.mem_cons.1 ((hm x).2 hx) with e2 | hx2
    · rw [e2]
    · have := h1 x hx2
      rw [hn y (mem_conc.2 hy)] at this
      cases this

theorem build37z (w : World) : Qbuild Try.prog 37 #[] w = some Tup.zero.v := by kernel_rfl
theorem field73 (x : Rw) (w : World) : Qfield Try.prog 73 x.v 0 w = some x.key.v := by kernel_rfl

theorem k25 {w : World} {a : Nat} {rv : Value} {bv : List Value} {lim seq : Int} {L : List Rw} (h : Tb w a rv bv lim seq L) (hL : L.length ≤ 1000) (hA : Apart seq L) :
    Brings (Xcall Try.prog (Value.func (Fn.func 25) #[] #[]) #[.pointer (some ⟨a, 0, none⟩)] w) (fun r => Bel w r.2 ∧ r.1 = .tuple #[(firstM L).1.v, .bool (firstM L).2]) := by
  refine e25 ?_
  unfold s25
  have V1 := (Locals.nil w).add rfl (.cells Tup.zero.cs.toArray 37)
  have h1 := h.bel V1.bel
  have o1 : (w.alloc (.cells Tup.zero.cs.toArray 37)).heap[w.heap.size]? = some (.cells Tup.zero.cs.toArray 37) := V1.at_ 0 _ rfl
  simp only [alloc37, go_sem, Qb_eqlP (P := Try.prog) (t := 25) (e := 70) ptr25, Option.isNone_some, fa70x0, fa68x2, h1.l2]
  generalize w.alloc (.cells Tup.zero.cs.toArray 37) = w1 at V1 h1 o1
  by_cases c : L.length = 0
  · have : L = [] := List.length_eq_zero_iff.1 c
    subst this
    have V2 := V1.row (j := 0) (k := w.heap.size) rfl rfl Tup.zero.cs.toArray
    have o2 : (w1.setRow w.heap.size Tup.zero.cs.toArray).heap[w.heap.size]? = some (.cells Tup.zero.cs.toArray 37) := V2.at_ 0 _ rfl
    simp only [List.length_nil, show (((0 : Nat) : Int) == 0) = true from rfl, build37z, store37 o1 rfl, load37 o2, go_sem, Option.map_some, oneOf_2]
    exact .ret ⟨V2.bel, rfl⟩
  · have e1 : ((L.length : Int) == 0) = false := by rw [beq_eq_false_iff_ne]; omega
    simp only [e1, fa70x0, go_sem]
    refine k28.bind ?_
    rintro _ rfl
    have b2 : Bel w1 (w1.alloc (.cells #[.pointer (some ⟨a, 0, none⟩)] 90)) := (Bel.refl _).alloc _
    have p2 : (w1.alloc (.cells #[.pointer (some ⟨a, 0, none⟩)] 90)).cell? ⟨w1.heap.size, 0, none⟩ = some (.pointer (some ⟨a, 0, none⟩)) := cell_at (MapKept.heap_alloc w1 _).1 rfl
    have V2 := V1.later b2
    simp only
    generalize w1.alloc (.cells #[.pointer (some ⟨a, 0, none⟩)] 90) = w2 at b2 p2 V2
    refine (k47 (h1.bel b2) hL p2).bind ?_
    rintro ⟨v, w3⟩ ⟨b3, o3, _⟩
    simp only at b3 o3
    have V3 := V2.later b3
    have cl := conc_len (L := L)
    refine (k46 (View.of_owns o3 (Rw.lens _)) (by omega) (by omega)).bind ?_
    rintro ⟨_, w4⟩ ⟨b4, x, hx, e4⟩
    simp only at b4 e4
    subst e4
    have V4 := V3.later b4
    have o4 : w4.heap[w.heap.size]? = some (.cells Tup.zero.cs.toArray 37) := V4.at_ 0 _ rfl
    have V5 := V4.row (j := 0) (k := w.heap.size) rfl rfl x.key.cs.toArray
    have o5 : (w4.setRow w.heap.size x.key.cs.toArray).heap[w.heap.size]? = some (.cells x.key.cs.toArray 37) := V5.at_ 0 _ rfl
    simp only [field73, store37 o4 rfl, load37 o5, go_sem, Option.map_some, oneOf_2]
    exact .ret ⟨V5.bel, by rw [least_ord hA.seqs hx]⟩

/-! ## New; a fork -/

def vc (v : Value) : List Value := [v]
theorem vc_flat (l : List Value) : l.flatMap vc = l := by
  induction l with
  | nil => rfl
  | cons x l ih => rw [List.flatMap_cons, ih]; rfl

theorem k26 {w : World} {lim : Int} : Brings (Xcall Try.prog (Value.func (Fn.func 26) #[] #[]) #[.int .i64 lim] w) (fun r => Bel w r.2 ∧ (((lim < 1 ∨ 4096 < lim) ∧ r.1 = .pointer none) ∨ (¬ (lim < 1 ∨ 4096 < lim) ∧ ∃ a rv bv, r.1 = .pointer (some ⟨a, 0, none⟩) ∧ Tb r.2 a rv bv lim 0 [] ∧ ∀ k, Foot a rv bv k → w.heap.size ≤ k))) := by
  refine e26 ?_
  unfold s26
  simp only [go_sem]
  by_cases c1 : lim < 1
  · simp only [c1, decide_true, go_sem]
    exact .ret ⟨Bel.refl _, .inl ⟨.inl (by trivial), rfl⟩⟩
  · by_cases c2 : 4096 < lim
    · simp only [c1, c2, decide_true, decide_false, go_sem]
      exact .ret ⟨Bel.refl _, .inl ⟨.inr (by trivial), rfl⟩⟩
    · obtain ⟨i, hi, hz, h1, h2⟩ : ∃ i, Try.prog.info? 62 = some i ∧ i.zero = some (.slice none 0 0) ∧ i.size = 1 ∧ i.bytes = 24 :=
        ⟨(Try.prog.info? 62).get (by kernel_rfl), by kernel_rfl, by kernel_rfl, by kernel_rfl, by kernel_rfl⟩
      obtain ⟨w', e1, o1, b1⟩ := Xmade (w := w) (f := vc) (d := .slice none 0 0) (kl := .i64) (kc := .i64) und65 hi hz h1 rfl rfl rfl (n := 64) (by rw [h2]; omega) (by simp [maxLen])
      rw [vc_flat] at o1
      have e1' : XmakeSlice Try.prog 65 (.int .i64 64) (.int .i64 64) w = some (.slice (some ⟨w.heap.size, 0, none⟩) 64 64, w') := e1
      have bd1 : ∀ g : Nat, Qbuild Try.prog 68 #[(0, .slice (some ⟨g, 0, none⟩) 64 64), (1, .func (.func 48) #[] #[])] w' = some (.agg #[.slice (some ⟨g, 0, none⟩) 64 64, hV, .int .i64 0]) := fun g => by kernel_rfl
      have bd2 : ∀ g : Nat, Qbuild Try.prog 70 #[(0, .agg #[.slice (some ⟨g, 0, none⟩) 64 64, hV, .int .i64 0]), (1, .int .i64 lim)] w' = some (.agg #[.slice (some ⟨g, 0, none⟩) 64 64, hV, .int .i64 0, .int .i64 lim, .int .i64 0]) := fun g => by kernel_rfl
      have bx : ∀ cs : Array Value, Xbox Try.prog 70 (.agg cs) w' = some (.pointer (some ⟨w'.heap.size, 0, none⟩), w'.alloc (.cells cs 70)) := fun cs => nonrfl rfl
      simp only [c1, c2, decide_false, e1', bd1, bd2, bx, go_sem]
      have ba : Bel w' (w'.alloc (.cells #[.slice (some ⟨w.heap.size, 0, none⟩) 64 64, hV, .int .i64 0, .int .i64 lim, .int .i64 0] 70)) := (Bel.refl _).alloc _
      have hl := (World.ownsRow.lt o1 w.heap.size rfl).2
      have rep : ∀ (j : Nat) (v : Value), (List.replicate 64 (Value.slice none 0 0))[j]? = some v → v = .slice none 0 0 := fun j v h => by
        rw [List.getElem?_replicate] at h
        split at h
        · exact (Option.some.inj h).symm
        · exact absurd h (by simp)
      refine .ret ⟨b1.trans ba, .inr ⟨by simp, w'.heap.size, _, List.replicate 64 (.slice none 0 0), rfl, ⟨(MapKept.heap_alloc w' _).1, later_bel o1 ba, fun j hj => ⟨_, by rw [List.getElem?_replicate, if_pos hj], own_nil _⟩, fun e => ?_, fun j v q hv hq => ?_, fun i j u v q hu hv hq _ => ?_⟩, fun k hk => ?_⟩⟩
      · simp only [Value.ownBlock, Option.some.injEq] at e; omega
      · rw [rep j v hv] at hq; cases hq
      · rw [rep i u hu] at hq; cases hq
      · rcases hk with hk | hk | ⟨j, v, hv, hk⟩
        · have := b1.size; omega
        · simp only [Value.ownBlock, Option.some.injEq] at hk; omega
        · rw [rep j v hv] at hk; cases hk

theorem k42 {w : World} {v : Value} {l : List Rw} (ho : Own w v l) (hl : l.length ≤ 1000) : Brings (Xcall Try.prog (Value.func (Fn.func 42) #[] #[]) #[v] w) (Fresh w l) := by
  refine e42 ?_
  unfold s42
  obtain ⟨x, n, c, hx⟩ := owns_slice ho
  have V := View.of_owns ho (Rw.lens _)
  have e : Qbin Try.prog .eql 62 v (.slice none 0 0) = some (.bool x.isNone) := by rw [hx]; exact Qb_eqlL und62
  simp only [e, go_sem]
  cases x with
  | none =>
    have : l = [] := by
      obtain ⟨_, ⟨_, h⟩ | ⟨g, cap, cur, h, _⟩⟩ := ho
      · exact List.length_eq_zero_iff.1 h
      · rw [hx] at h; cases h
    subst this
    simp only [Option.isNone_none, go_sem]
    exact .ret ⟨Bel.refl _, own_nil _, fun q hq => by cases hq⟩
  | some p =>
    obtain ⟨v', w', e2, hF⟩ := copy62 V hl
    simp only [Option.isNone_some, lit0, e2, go_sem]
    exact .ret hF

theorem lit65 (w : World) : XbuildSlice Try.prog 65 0 #[] w = some (.slice (some ⟨w.heap.size, 0, none⟩) 0 0, w.alloc (.cells #[] 62)) := by kernel_rfl
theorem k41 {w : World} {rv : Value} {bv : List Value} (ho : w.ownsRow 0 62 1 rv 64 bv) (hl : bv.length = 64) (h1 : ∀ u ∈ bv, u.oneCell' = true) : Brings (Xcall Try.prog (Value.func (Fn.func 41) #[] #[]) #[rv] w) (fun r => Bel w r.2 ∧ r.2.ownsRow 0 62 1 r.1 64 bv ∧ ∀ q, r.1.ownBlock = some q → w.heap.size ≤ q) := by
  refine e41 ?_
  unfold s41
  have hr : ∃ R cap, rv = .slice (some ⟨R, 0, none⟩) 64 cap := by
    obtain ⟨_, ⟨_, e⟩ | ⟨g, cap, cur, rfl, _⟩⟩ := ho
    · omega
    · exact ⟨g, cap, rfl⟩
  have e : Qbin Try.prog .eql 65 rv (.slice none 0 0) = some (.bool false) := by
    obtain ⟨R, cap, rfl⟩ := hr
    exact Qb_eqlL und65
  have ho' : w.ownsRow 0 62 1 rv bv.length (bv.flatMap vc) := by rw [vc_flat, hl]; exact ho
  have V : View vc 1 w rv bv := View.of_owns ho' fun _ _ => rfl
  have ba : Bel w (w.alloc (.cells #[] 62)) := (Bel.refl _).alloc _
  have o0 : (w.alloc (.cells #[] 62)).ownsRow 0 62 1 (.slice (some ⟨w.heap.size, 0, none⟩) 0 0) ([] : List Value).length (([] : List Value).flatMap vc) :=
    ⟨rfl, .inr ⟨w.heap.size, 0, #[], rfl, Nat.zero_le _, (MapKept.heap_alloc w _).1, Nat.le_refl _, Nat.zero_le _, rfl, rfl⟩⟩
  obtain ⟨i, hi, hz, h3, h4⟩ : ∃ i, Try.prog.info? 62 = some i ∧ i.zero = some (.slice none 0 0) ∧ i.size = 1 ∧ i.bytes = 24 :=
    ⟨(Try.prog.info? 62).get (by kernel_rfl), by kernel_rfl, by kernel_rfl, by kernel_rfl, by kernel_rfl⟩
  obtain ⟨v', w', e2, o2, g2, n2⟩ := Xappend (ty := 65) und65 hi hz h3 h4 rfl (by omega) o0 (V.bel ba) (fun _ _ => rfl) (fun y hy u hu => by simp [vc] at hu; subst hu; exact h1 _ hy) (by simp [hl]) (by simp [hl, maxLen])
  simp only [e, lit65, e2, go_sem]
  have cg := Chg.of_grown g2
  refine .ret ⟨(ba.thenChg cg).bel fun k hk hs => ?_, ?_, fun q hq => ?_⟩
  · simp only [Value.ownBlock, Option.some.injEq] at hs; omega
  · rw [List.nil_append, vc_flat, hl] at o2
    exact o2
  · rcases n2 q hq with h | h
    · simp only [Value.ownBlock, Option.some.injEq] at h; omega
    · have := ba.size; show w.heap.size ≤ q; omega

end Go.Proofs.Ytcibkmahibnjeaa
