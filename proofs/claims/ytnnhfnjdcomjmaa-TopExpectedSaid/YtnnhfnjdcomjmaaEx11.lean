/- Laws: what is gone or due; Forks. -/
import Derived.Test.YtnnhfnjdcomjmaaEx10
namespace Go.Proofs.Ytnnhfnjdcomjmaa
open Go Go.Ev Go.RowKit
open Go.Proofs

theorem filt_len (p : Exp → Bool) : ∀ l : List Exp, (l.filter p).length + (l.filter fun x => !p x).length = l.length
  | [] => rfl
  | x :: l => by
    have := filt_len p l
    cases h : p x
    · rw [List.filter_cons_of_neg (by simp [h]), List.filter_cons_of_pos (by simp [h])]; simp; omega
    · rw [List.filter_cons_of_pos h, List.filter_cons_of_neg (by simp [h])]; simp; omega

def stayP (m now : Int) (x : Exp) : Bool := !masterP m x && !dueP now x
theorem stay_eq (m now : Int) (l : List Exp) : (l.filter fun x => !masterP m x).filter (fun x => !dueP now x) = l.filter (stayP m now) := by
  rw [List.filter_filter]
  congr 1
  funext x
  unfold stayP
  rw [Bool.and_comm]

theorem l8 {w : World} {s : Value} {ds : List Deed} {ma now : Int} (hv : View Deed.cs 16 w s ds) (hok : ∀ x ∈ ds, x.ok) : Brings (s8 s (.int .i64 ma) (.int .i64 now) w) (Yes w) := by
  unfold s8
  refine (k18 hv hok).bind ?_
  rintro ⟨_, w2⟩ ⟨a, sa, b, sb, h1, b2, T, fa, fb⟩
  simp only at h1 b2 T
  subst h1
  simp only [go_sem]
  generalize deedsM [] (ds.take 100) = l at T
  refine k15.bind ?_
  rintro ⟨_, w3⟩ ⟨h1, b3⟩
  simp only at h1 b3
  subst h1
  simp only [Bool.not_true, go_sem]
  have o3 := T.A.bel b3
  have B3 := b2.trans b3
  clear b2 b3 T
  refine (k17 o3).bind ?_
  rintro ⟨vl, w4⟩ hf
  have b4 := hf.1
  have V := Rows.view hf
  have fl := hf.2.2
  have ol : Own w4 vl l := hf.2.1
  simp only at b4 V fl
  have o4 := o3.bel b4
  have hm := o4.most
  have s34 := b4.size
  have lt3 := o3.lt
  have s3 := B3.size
  clear hf
  refine Brings.loop (fun n xs w' => ∃ (i : Nat) (v : Value), xs = [.int .i64 ma, .int .i64 now, .bool false, .pointer (some ⟨a, 0, none⟩), v, vl, .int .i64 i] ∧ i ≤ l.length ∧ n = l.length - i ∧ Bel w4 w' ∧ Own w' v ((l.take i).filter (stayP ma now)) ∧ Since w4 v) ?_ l.length _ _
    ⟨0, .slice none 0 0, rfl, by omega, by omega, Bel.refl _, own_nil w4, since_nil w4⟩
  rintro n xs w' ⟨i, v, rfl, hi, hn, bi, ov, sv⟩
  have Vi := V.bel bi
  simp only [s8B0, Vi.len und32, go_sem]
  refine .cond (fun hlt => ?_) (fun hlt => ?_)
  · have hlt : i < l.length := by
      have : (i : Int) < l.length := by simpa using hlt
      omega
    obtain ⟨x, g, o, hx, _, hix, hc⟩ := getR Vi (n := i) (by omega) (by omega)
    simp only [Int.toNat_natCast] at hx
    have t1 : l.take (i + 1) = l.take i ++ [x] := by rw [List.take_add_one, hx]; rfl
    have lenv : ((l.take i).filter (stayP ma now)).length ≤ l.length := Nat.le_trans (List.length_filter_le _ _) (by simp; omega)
    have w1' : IntKind.i64.wrap ((i : Int) + 1) = ((i + 1 : Nat) : Int) := by rw [wrap_i64 (by omega) (by omega)]; rfl
    have no : stayP ma now x = false → Brings (some (Exit.normal, [Value.int .i64 ma, .int .i64 now, .bool false, .pointer (some ⟨a, 0, none⟩), v, vl, .int .i64 ((i + 1 : Nat) : Int)], w')) (fun r => (r.1 = .normal ∧ ∃ m, m < n ∧ ∃ (i : Nat) (v : Value), r.2.1 = [.int .i64 ma, .int .i64 now, .bool false, .pointer (some ⟨a, 0, none⟩), v, vl, .int .i64 i] ∧ i ≤ l.length ∧ m = l.length - i ∧ Bel w4 r.2.2 ∧ Own r.2.2 v ((l.take i).filter (stayP ma now)) ∧ Since w4 v) ∨ (r.1 ≠ .normal ∧ Brings (s8R0 r.1 r.2.1 r.2.2) (Yes w))) := fun hs =>
      .ret (.inl ⟨rfl, l.length - (i + 1), by omega, i + 1, v, rfl, by omega, rfl, bi, by rw [t1, List.filter_append, List.filter_cons_of_neg (by simp [hs])]; simpa using ov, sv⟩)
    simp only [hix, Exp.f7 hc, go_sem, w1']
    cases c0 : x.master != ma <;> simp only [go_sem, hix, Exp.f8 hc]
    · exact no (by have c0 : x.master = ma := by simpa using c0
                   simp [stayP, masterP, c0])
    cases c1 : decide (now < x.deadline) <;> simp only [go_sem, hix, Exp.all hc, lit32]
    · exact no (by have c1 : ¬ now < x.deadline := by simpa using c1
                   have : x.deadline ≤ now := by omega
                   simp [stayP, dueP, this])
    · have hs : stayP ma now x = true := by
        have c1 : now < x.deadline := by simpa using c1
        have : ¬ x.deadline ≤ now := by omega
        have c0 : ¬ x.master = ma := by simpa using c0
        simp [stayP, dueP, masterP, this, c0]
      obtain ⟨v', w5, e5, o5, c5, k5⟩ := more (x := x) ov (by omega)
      simp only [e5, go_sem]
      have sb := bi.size
      refine .ret (.inl ⟨rfl, l.length - (i + 1), by omega, i + 1, v', rfl, by omega, rfl, (bi.thenChg c5).bel fun k hk h => by have := sv k h; omega, ?_, fun k hk => ?_⟩)
      · rw [t1, List.filter_append, List.filter_cons_of_pos hs]; exact o5
      · rcases k5 k hk with h | h
        · exact sv k h
        · omega
  · have : i = l.length := by
      have : ¬ (i : Int) < l.length := by simpa using hlt
      omega
    subst this
    rw [List.take_length] at ov
    refine .ret (.inr ⟨by simp, ?_⟩)
    simp only [s8R0]
    have si := bi.size
    refine (k22 (o4.bel bi)).bind ?_
    rintro ⟨v13, w5⟩ ⟨c5, o5, f5, sl5, k5, g5, d5⟩
    simp only at c5 o5 k5
    refine (k23 k5).bind ?_
    rintro ⟨v14, w6⟩ ⟨c6, o6, f6, sl6, k6, g6, d6⟩
    simp only at c6 o6 k6
    have old : ∀ k, w3.heap.size ≤ k → ¬ Foot a sa k := fun k hk hf => by have := lt3 k hf; omega
    have o13 := o5.chg c6 d5
    have nv : ∀ {u : Value}, (∀ k, u.ownBlock = some k → w3.heap.size ≤ k ∧ k < w'.heap.size) → ∀ k, u.ownBlock = some k → ¬ Foot a sl5 k := fun hu k hk hf => by
      obtain ⟨q1, q2⟩ := hu k hk
      rcases g5 k hf with h | h
      · exact old k q1 h
      · omega
    have vlb : ∀ k, vl.ownBlock = some k → w3.heap.size ≤ k ∧ k < w'.heap.size := fun k hk => ⟨fl k hk, (ol.bel bi).lt hk⟩
    have V6 := (Vi.chg c5 fun k hk => old k (fl k hk)).chg c6 (nv vlb)
    have o10 := (ov.chg c5 fun k hk => old k (by have := sv k hk; omega)).chg c6 (nv fun k hk => ⟨by have := sv k hk; omega, ov.lt hk⟩)
    rw [stay_eq] at k6
    have B' := (B3.trans b4).trans bi
    have sB := B'.size
    have B5 : Bel w w5 := (B'.thenChg c5).bel fun k hk h => by have := fa k h; omega
    have B6 : Bel w w6 := (B5.thenChg c6).bel fun k hk h => by
      rcases g5 k h with h | h
      · have := fa k h; omega
      · omega
    have L1 := filt_len (masterP ma) l
    have L2 := filt_len (dueP now) (l.filter fun x => !masterP ma x)
    rw [stay_eq] at L2
    have V13 := o13.view
    have V14 := o6.view
    have V10 := o10.view
    clear c5 c6 o5 o6 o13 ov bi B5 B' Vi
    -- all that went by the master
    refine Brings.loop (fun n xs w' => ∃ i : Nat, xs = [.int .i64 ma, .int .i64 now, .bool false, .pointer (some ⟨a, 0, none⟩), v, vl, v13, v14, .int .i64 i] ∧ i ≤ (l.filter (masterP ma)).length ∧ n = (l.filter (masterP ma)).length - i ∧ Bel w6 w') ?_ (l.filter (masterP ma)).length _ _ ⟨0, rfl, by omega, by omega, Bel.refl _⟩
    rintro n xs w7 ⟨i, rfl, hi, hn, b7⟩
    simp only [s8B1, V13.len und32, go_sem]
    refine .cond (fun hlt => ?_) (fun hlt => ?_)
    · have hlt : i < (l.filter (masterP ma)).length := by
        have : (i : Int) < ((l.filter (masterP ma)).length : Nat) := by simpa using hlt
        omega
      obtain ⟨x, g, o, hx, _, hix, hc⟩ := getR (V13.bel b7) (n := i) (by omega) (by omega)
      have hp := (List.mem_filter.1 (List.mem_of_getElem? hx)).2
      unfold masterP at hp
      have : (x.master != ma) = false := by simpa using hp
      simp only [hix, Exp.f7 hc, this, go_sem]
      exact .ret (.inl ⟨rfl, (l.filter (masterP ma)).length - (i + 1), by omega, i + 1, by rw [wrap_i64 (by omega) (by omega)]; rfl, by omega, rfl, b7⟩)
    refine .ret (.inr ⟨by simp, ?_⟩)
    simp only [s8R1]
    -- all whose time had come
    refine Brings.loop (fun n xs w' => ∃ i : Nat, xs = [.int .i64 ma, .int .i64 now, .bool false, .pointer (some ⟨a, 0, none⟩), v, vl, v13, v14, .int .i64 i] ∧ i ≤ ((l.filter fun x => !masterP ma x).filter (dueP now)).length ∧ n = ((l.filter fun x => !masterP ma x).filter (dueP now)).length - i ∧ Bel w6 w') ?_ ((l.filter fun x => !masterP ma x).filter (dueP now)).length _ _ ⟨0, rfl, by omega, by omega, b7⟩
    rintro n xs w8 ⟨i, rfl, hi, hn, b8⟩
    simp only [s8B2, V14.len und32, go_sem]
    refine .cond (fun hlt => ?_) (fun hlt => ?_)
    · have hlt : i < ((l.filter fun x => !masterP ma x).filter (dueP now)).length := by
        have : (i : Int) < (((l.filter fun x => !masterP ma x).filter (dueP now)).length : Nat) := by simpa using hlt
        omega
      obtain ⟨x, g, o, hx, _, hix, hc⟩ := getR (V14.bel b8) (n := i) (by omega) (by omega)
      obtain ⟨hm1, hp⟩ := List.mem_filter.1 (List.mem_of_getElem? hx)
      have hp2 := (List.mem_filter.1 hm1).2
      unfold dueP at hp
      unfold masterP at hp2
      have e1 : decide (now < x.deadline) = false := by
        have : x.deadline ≤ now := by simpa using hp
        rw [decide_eq_false_iff_not]; omega
      have e2 : (x.master == ma) = false := by simpa using hp2
      simp only [hix, Exp.f7 hc, Exp.f8 hc, e1, e2, go_sem]
      exact .ret (.inl ⟨rfl, ((l.filter fun x => !masterP ma x).filter (dueP now)).length - (i + 1), by omega, i + 1, by rw [wrap_i64 (by omega) (by omega)]; rfl, by omega, rfl, b8⟩)
    refine .ret (.inr ⟨by simp, ?_⟩)
    simp only [s8R2, V13.len und32, V14.len und32, V10.len und32, V6.len und32, go_sem]
    rw [wrap_i64 (n := ((l.filter (masterP ma)).length : Int) + (((l.filter fun x => !masterP ma x).filter (dueP now)).length : Int)) (by omega) (by omega), wrap_i64 (n := ((l.filter (masterP ma)).length : Int) + (((l.filter fun x => !masterP ma x).filter (dueP now)).length : Int) + ((l.filter (stayP ma now)).length : Int)) (by omega) (by omega)]
    have : ((((l.filter (masterP ma)).length : Nat) : Int) + (((l.filter fun x => !masterP ma x).filter (dueP now)).length : Nat) + ((l.filter (stayP ma now)).length : Nat) == (l.length : Int)) = true := by rw [beq_iff_eq]; omega
    simp only [this, go_sem]
    refine (k17 (k6.bel b8)).bind ?_
    rintro ⟨vz, w9⟩ hf9
    have b9 := hf9.1
    have V9 := Rows.view hf9
    simp only at b9 V9 ⊢
    refine (k24 V9 ((V10.bel b8).bel b9)).bind ?_
    rintro ⟨_, w10⟩ ⟨e1, b10⟩
    simp only [decide_true] at e1 b10
    subst e1
    simp only [go_sem]
    exact .ret ⟨rfl, ((B6.trans b8).trans b9).trans b10⟩

theorem law8 {v0 : Value} {n0 : Nat} {m k : Int} {w : World} {r0 : Reach} {b0 : Nat} (ho0 : Value.okWide Try.prog w r0 b0 35 v0) (h0 : Okc Try.prog w n0 35 v0.cells.toList) (_ : (Lit.int .i64 m).wf = true) (_ : (Lit.int .i64 k).wf = true) :
    Calls Try.prog 8 #[v0, .int .i64 m, .int .i64 k] w fun e w' => e = .returned (.bool true) ∧ Below w.heap.size w w' := by
  obtain ⟨ds, hv, hok⟩ := deeds ho0 h0
  exact law_of (l8 hv hok) fun _ => c8

/-! ## Forks -/

/-- Two books, and two others, all apart. -/
structure Four (w w' : World) (a : Nat) (sa : Value) (b : Nat) (sb : Value) (l : List Exp) (c : Nat) (sc : Value) (d : Nat) (sd : Value) (m : List Exp) : Prop where
  bel : Bel w w'
  one : Two w' a sa b sb l
  two : Two w' c sc d sd m
  fa : ∀ k, Foot a sa k ∨ Foot b sb k → w.heap.size ≤ k
  fc : ∀ k, Foot c sc k ∨ Foot d sd k → w.heap.size ≤ k
  dis : ∀ k, Foot c sc k ∨ Foot d sd k → ¬ (Foot a sa k ∨ Foot b sb k)

theorem Four.step {w w1 w2 : World} {a b c d : Nat} {sa sb sc sd : Value} {l m m' : List Exp} {v : Value} (h : Four w w1 a sa b sb l c sc d sd m) (hb : Both w1 c sc d sd m' (v, w2)) :
    v = .bool true ∧ ∃ sc' sd', Four w w2 a sa b sb l c sc' d sd' m' := by
  obtain ⟨e1, ch, sc', sd', T, f1, f2⟩ := hb
  have s1 := h.bel.size
  refine ⟨e1, sc', sd', ⟨(h.bel.thenChg ch).bel fun k hk hf => by have := h.fc k hf; omega, ⟨h.one.A.keep ch fun k hk hf => h.dis k hf (.inl hk), h.one.B.keep ch fun k hk hf => h.dis k hf (.inr hk), h.one.dis⟩, T, h.fa, ?_, ?_⟩⟩
  · rintro k (hk | hk)
    · rcases f1 k hk with h1 | h1
      · exact h.fc k (.inl h1)
      · omega
    · rcases f2 k hk with h1 | h1
      · exact h.fc k (.inr h1)
      · omega
  · rintro k hk hab
    have hlt : k < w1.heap.size := by
      rcases hab with h1 | h1
      · exact h.one.A.lt k h1
      · exact h.one.B.lt k h1
    have : Foot c sc k ∨ Foot d sd k := by
      rcases hk with hk | hk
      · rcases f1 k hk with h1 | h1
        · exact .inl h1
        · omega
      · rcases f2 k hk with h1 | h1
        · exact .inr h1
        · omega
    exact h.dis k this hab

theorem build37n (w : World) : Qbuild Try.prog 37 #[] w = some Tup.zero.v := by kernel_rfl

theorem l9 {w : World} {s t : Value} {ds es : List Deed} (hv : View Deed.cs 16 w s ds) (hok : ∀ x ∈ ds, x.ok) (hv2 : View Deed.cs 16 w t es) (hok2 : ∀ x ∈ es, x.ok) : Brings (s9 s t w) (Yes w) := by
  unfold s9
  refine (k18 hv hok).bind ?_
  rintro ⟨_, w2⟩ ⟨a, sa, b, sb, h1, b2, T, fa, fb⟩
  simp only at h1 b2 T
  subst h1
  simp only [go_sem]
  generalize deedsM [] (ds.take 100) = l at T
  refine k15.bind ?_
  rintro ⟨_, w3⟩ ⟨h1, b3⟩
  simp only at h1 b3
  subst h1
  have T3 := T.bel b3
  have B3 := b2.trans b3
  simp only [Bool.not_true, go_sem]
  refine (k25 T3.A).bind ?_
  rintro ⟨_, w4⟩ ⟨c, sc, h1, b4, oc, fc⟩
  simp only at h1 b4 oc
  subst h1
  simp only
  have T4 := T3.bel b4
  refine (k26 T4.B).bind ?_
  rintro ⟨_, w5⟩ ⟨d, sd, h1, b5, od, fd⟩
  simp only at h1 b5 od
  subst h1
  simp only
  have s3 := B3.size
  have s4 := b4.size
  have F0 : Four w w5 a sa b sb l c sc d sd l := by
    refine ⟨(B3.trans b4).trans b5, T4.bel b5, ⟨oc.bel b5, od, fun k hk hf => ?_⟩, fun k hk => ?_, fun k hk => ?_, fun k hk hab => ?_⟩
    · have := oc.lt k hk; have := fd k hf; omega
    · exact hk.elim (fa k) (fb k)
    · rcases hk with hk | hk
      · have := fc k hk; omega
      · have := fd k hk; omega
    · have : k < w3.heap.size := hab.elim (T3.A.lt k) (T3.B.lt k)
      rcases hk with hk | hk
      · have := fc k hk; omega
      · have := fd k hk; omega
  clear fc fd oc od b4 b5 T4 T3 B3 b2 b3 T fa fb
  have h63 := hv2.small
  simp only [maxLen] at h63
  refine Brings.loop (fun m xs w' => ∃ (i : Nat) (sc sd : Value) (l' : List Exp), xs = [t, .bool false, .pointer (some ⟨a, 0, none⟩), .pointer (some ⟨b, 0, none⟩), .pointer (some ⟨c, 0, none⟩), .pointer (some ⟨d, 0, none⟩), .int .i64 i] ∧ i ≤ es.length ∧ i ≤ 40 ∧ m = 40 - i ∧ Four w w' a sa b sb l c sc d sd l') ?_ 40 _ _
    ⟨0, sc, sd, l, rfl, by omega, by omega, by omega, F0⟩
  rintro m xs w' ⟨i, sc, sd, l', rfl, hi, hi40, hm, F⟩
  have hvw := hv2.bel F.bel
  simp only [s9B0, hvw.len und35, go_sem]
  have fin : Brings (s9R0 (.exit 0) [t, .bool false, .pointer (some ⟨a, 0, none⟩), .pointer (some ⟨b, 0, none⟩), .pointer (some ⟨c, 0, none⟩), .pointer (some ⟨d, 0, none⟩), .int .i64 i] w') (Yes w) := by
    simp only [s9R0, build37n, go_sem]
    refine (k19 F.one).bind ?_
    rintro ⟨_, w8⟩ ⟨e1, b8⟩
    simp only at e1 b8
    subst e1
    simp only [go_sem, build37n]
    refine (k19 (F.two.bel b8)).bind ?_
    rintro ⟨_, w9⟩ ⟨e1, b9⟩
    simp only at e1 b9
    subst e1
    simp only [go_sem]
    exact .ret ⟨rfl, (F.bel.trans b8).trans b9⟩
  by_cases h1 : i < es.length
  · have e1 : decide ((i : Int) < es.length) = true := by rw [decide_eq_true_iff]; omega
    by_cases h2 : i < 40
    · have e2 : decide ((i : Int) < 40) = true := by rw [decide_eq_true_iff]; omega
      simp only [e1, e2, go_sem]
      obtain ⟨ti, ht, hts⟩ := inf39
      obtain ⟨x, g, o, hx, _, hix, hc⟩ := hvw.get und35 ht hts (n := i) (by omega) (by omega)
      simp only [Int.toNat_natCast] at hx
      simp only [hix, Deed.all hc, go_sem]
      refine (k27 F.two (hok2 x (List.mem_of_getElem? hx))).bind ?_
      rintro ⟨_, w3⟩ hbo
      obtain ⟨rfl, sc', sd', F'⟩ := F.step hbo
      simp only [go_sem, Bool.not_true]
      exact .ret (.inl ⟨rfl, 40 - (i + 1), by omega, i + 1, sc', sd', _, by rw [wrap_i64 (by omega) (by omega)]; rfl, by omega, by omega, rfl, F'⟩)
    · have e2 : decide ((i : Int) < 40) = false := by rw [decide_eq_false_iff_not]; omega
      simp only [e1, e2, go_sem]
      exact .ret (.inr ⟨by simp, fin⟩)
  · have e1 : decide ((i : Int) < es.length) = false := by rw [decide_eq_false_iff_not]; omega
    simp only [e1, go_sem]
    exact .ret (.inr ⟨by simp, fin⟩)

theorem law9 {v0 v1 : Value} {n0 n1 : Nat} {w : World} {r0 r1 : Reach} {b0 b1 : Nat} (ho0 : Value.okWide Try.prog w r0 b0 35 v0) (h0 : Okc Try.prog w n0 35 v0.cells.toList) (ho1 : Value.okWide Try.prog w r1 b1 35 v1) (h1 : Okc Try.prog w n1 35 v1.cells.toList) :
    Calls Try.prog 9 #[v0, v1] w fun e w' => e = .returned (.bool true) ∧ Below w.heap.size w w' := by
  obtain ⟨ds, hv, hok⟩ := deeds ho0 h0
  obtain ⟨es, hv2, hok2⟩ := deeds ho1 h1
  exact law_of (l9 hv hok hv2 hok2) fun _ => c9

end Go.Proofs.Ytnnhfnjdcomjmaa
