/- Laws: what becomes of a Fork; nil rules. -/
import Derived.Test.YtiioaklogbjhhaaRu19
namespace Go.Proofs.Ytiioaklogbjhhaa
open Go Go.Ev Go.RowKit
open Go.Proofs

/-! ## Forks -/

theorem und33e : Try.prog.underlying 33 = some (.slice 26) := und33

/-- A place of a slice of one's own. -/
theorem own_place {w : World} {v : Value} {n : Nat} {xs : List Value} (ho : w.ownsRow 0 26 8 v n xs) (h0 : 0 < n) : ∃ g cap, v = .slice (some ⟨g, 0, none⟩) n cap ∧ n ≤ cap ∧ ∃ cur : Array Value, w.heap[g]? = some (.cells cur 26 (0, 0)) ∧ cur.size = cap * 8 := by
  obtain ⟨_, ⟨_, h⟩ | ⟨g, cap, cur, rfl, _, hg, hc, hm, hsz, _⟩⟩ := ho
  · omega
  · exact ⟨g, cap, rfl, hc, cur, hg, hsz⟩

/-- Two objects, and two others, all apart. -/
structure Four (w w' : World) (a : Nat) (sa : Value) (b : Nat) (sb : Value) (l : List Rule) (c : Nat) (sc : Value) (d : Nat) (sd : Value) (m : List Rule) : Prop where
  bel : Bel w w'
  one : Two w' a sa b sb l
  two : Two w' c sc d sd m
  fa : ∀ k, Foot a sa k ∨ Foot b sb k → w.heap.size ≤ k
  fc : ∀ k, Foot c sc k ∨ Foot d sd k → w.heap.size ≤ k
  dis : ∀ k, Foot c sc k ∨ Foot d sd k → ¬ (Foot a sa k ∨ Foot b sb k)

theorem Four.step {w w1 w2 : World} {a b c d : Nat} {sa sb sc sd : Value} {l m m' : List Rule} {v : Value} (h : Four w w1 a sa b sb l c sc d sd m) (hb : Both w1 c sc d sd m' (v, w2)) :
    v = .bool true ∧ ∃ sc' sd', Four w w2 a sa b sb l c sc' d sd' m' := by
  obtain ⟨e1, ch, sc', sd', T, f1, f2⟩ := hb
  have s1 := h.bel.size
  refine ⟨e1, sc', sd', ⟨(h.bel.thenChg ch).bel fun k hk hf => by have := h.fc k hf; omega, ⟨h.one.A.keep ch fun k hk hf => h.dis k hf (.inl hk), h.one.B.keep ch fun k hk hf => h.dis k hf (.inr hk), h.one.dis⟩, T, h.fa, ?_, ?_⟩⟩
  · rintro k (hk | hk)
    · rcases f1 k hk with h1 | h1
      · exact h.fc k (.inl h1)
      · omega
    · rcases f2 k hk with h1 | h1
      · exact h.fc k (.inr h1)
      · omega
  · rintro k hk hab
    have hlt : k < w1.heap.size := by
      rcases hab with h1 | h1
      · exact h.one.A.lt k h1
      · exact h.one.B.lt k h1
    have : Foot c sc k ∨ Foot d sd k := by
      rcases hk with hk | hk
      · rcases f1 k hk with h1 | h1
        · exact .inl h1
        · omega
      · rcases f2 k hk with h1 | h1
        · exact .inr h1
        · omega
    exact h.dis k this hab
theorem Four.later {w w1 w2 : World} {a b c d : Nat} {sa sb sc sd : Value} {l m : List Rule} (h : Four w w1 a sa b sb l c sc d sd m) (hb : Bel w1 w2) : Four w w2 a sa b sb l c sc d sd m :=
  ⟨h.bel.trans hb, h.one.bel hb, h.two.bel hb, h.fa, h.fc, h.dis⟩
theorem Four.chg {w w1 w2 : World} {a b c d : Nat} {sa sb sc sd : Value} {l m : List Rule} {S : Nat → Prop} (h : Four w w1 a sa b sb l c sc d sd m) (hc : Chg S w1 w2)
    (h0 : ∀ k, S k → w.heap.size ≤ k ∧ ¬ (Foot a sa k ∨ Foot b sb k) ∧ ¬ (Foot c sc k ∨ Foot d sd k)) : Four w w2 a sa b sb l c sc d sd m :=
  ⟨(h.bel.thenChg hc).bel fun k hk hs => by have := (h0 k hs).1; omega, ⟨h.one.A.keep hc fun k hk hs => (h0 k hs).2.1 (.inl hk), h.one.B.keep hc fun k hk hs => (h0 k hs).2.1 (.inr hk), h.one.dis⟩,
   ⟨h.two.A.keep hc fun k hk hs => (h0 k hs).2.2 (.inl hk), h.two.B.keep hc fun k hk hs => (h0 k hs).2.2 (.inr hk), h.two.dis⟩, h.fa, h.fc, h.dis⟩

theorem l9 {w : World} {s t : Value} {ds es : List Deed} {q : Ask} (hv : View Deed.cs 10 w s ds) (hok : ∀ x ∈ ds, x.ok) (hv2 : View Deed.cs 10 w t es) (hok2 : ∀ x ∈ es, x.ok) (hq : q.ok) : Brings (s9 s t q.v w) (Yes w) := by
  unfold s9
  have A := q.new w
  have hb : Bel w (w.alloc (.cells q.cs.toArray 37)) := (Bel.refl w).alloc _
  rw [q.box]
  simp only [go_sem]
  generalize w.alloc (.cells q.cs.toArray 37) = w1 at A hb
  generalize w.heap.size = p at A
  refine (k17 (hv.bel hb) hok).bind ?_
  rintro ⟨_, w2⟩ ⟨a, sa, b, sb, h1, b2, T, fa, fb⟩
  simp only at h1 b2 T
  subst h1
  simp only [go_sem]
  generalize deedsM [] (ds.take 60) = l at T
  refine k14.bind ?_
  rintro ⟨_, w3⟩ ⟨h1, b3⟩
  simp only at h1 b3
  subst h1
  have T3 := T.bel b3
  have B3 := b2.trans b3
  simp only [Bool.not_true, go_sem]
  refine (k23 T3.A).bind ?_
  rintro ⟨_, w4⟩ ⟨c, sc, h1, b4, oc, fc⟩
  simp only at h1 b4 oc
  subst h1
  simp only
  have T4 := T3.bel b4
  refine (k24 T4.B).bind ?_
  rintro ⟨_, w5⟩ ⟨d, sd, h1, b5, od, fd⟩
  simp only at h1 b5 od
  subst h1
  simp only
  have s3 := B3.size
  have s4 := b4.size
  have F0 : Four w1 w5 a sa b sb l c sc d sd l := by
    refine ⟨(B3.trans b4).trans b5, T4.bel b5, ⟨oc.bel b5, od, fun k hk hf => ?_⟩, fun k hk => ?_, fun k hk => ?_, fun k hk hab => ?_⟩
    · have := oc.lt k hk; have := fd k hf; omega
    · exact hk.elim (fa k) (fb k)
    · rcases hk with hk | hk
      · have := fc k hk; omega
      · have := fd k hk; omega
    · have : k < w3.heap.size := hab.elim (T3.A.lt k) (T3.B.lt k)
      rcases hk with hk | hk
      · have := fc k hk; omega
      · have := fd k hk; omega
  clear fc fd oc od b4 b5 T4 T3 B3 b2 b3 T fa fb
  have h63 := hv2.small
  simp only [maxLen] at h63
  refine Brings.loop (fun m xs w' => ∃ (i : Nat) (sc sd : Value) (l' : List Rule), xs = [t, .pointer (some ⟨p, 0, none⟩), .bool false, .pointer (some ⟨a, 0, none⟩), .pointer (some ⟨b, 0, none⟩), .pointer (some ⟨c, 0, none⟩), .pointer (some ⟨d, 0, none⟩), .int .i64 i] ∧ i ≤ es.length ∧ i ≤ 40 ∧ m = 40 - i ∧ Four w1 w' a sa b sb l c sc d sd l') ?_ 40 _ _
    ⟨0, sc, sd, l, rfl, by omega, by omega, by omega, F0⟩
  rintro m xs w' ⟨i, sc, sd, l', rfl, hi, hi40, hm, F⟩
  have hvw := (hv2.bel hb).bel F.bel
  simp only [s9B0, hvw.len und35, go_sem]
  have fin : Brings (s9R0 (.exit 0) [t, .pointer (some ⟨p, 0, none⟩), .bool false, .pointer (some ⟨a, 0, none⟩), .pointer (some ⟨b, 0, none⟩), .pointer (some ⟨c, 0, none⟩), .pointer (some ⟨d, 0, none⟩), .int .i64 i] w') (Yes w) := by
    simp only [s9R0]
    refine (k16 F.one.A).bind ?_
    rintro ⟨v, w6⟩ ⟨b6, o6, f6⟩
    simp only at b6 o6 f6 ⊢
    have F6 := F.later b6
    have V6 := View.of_owns o6 (Rule.lens l)
    have l32 := F.one.A.most
    -- the slice is written over
    refine Brings.loop (fun m xs w' => ∃ (j : Nat), xs = [.pointer (some ⟨p, 0, none⟩), .pointer (some ⟨a, 0, none⟩), .pointer (some ⟨b, 0, none⟩), .pointer (some ⟨c, 0, none⟩), .pointer (some ⟨d, 0, none⟩), v, .int .i64 j] ∧ j ≤ l.length ∧ m = l.length - j ∧ Four w1 w' a sa b sb l c sc d sd l' ∧
      ∀ g, v.ownBlock = some g → ∀ cur : Array Value, w6.heap[g]? = some (.cells cur 26 (0, 0)) → ∃ cur' : Array Value, w'.heap[g]? = some (.cells cur' 26 (0, 0)) ∧ cur'.size = cur.size) ?_ l.length _ _ ⟨0, rfl, by omega, by omega, F6, fun g hg cur hcur => ⟨cur, hcur, rfl⟩⟩
    rintro m xs w7 ⟨j, rfl, hj, hm, F7, hrow⟩
    simp only [s9B1, V6.len und33, go_sem]
    refine .cond (fun hlt => ?_) (fun hlt => ?_)
    · have hlt : (j : Int) < l.length := by simpa using hlt
      obtain ⟨g, cap, rfl, hc, cur, hcur, hsz⟩ := own_place o6 (by omega)
      obtain ⟨cur', hcur', hsz'⟩ := hrow g rfl cur hcur
      obtain ⟨ti, hti, hts⟩ := inf26
      have hix : QindexAddr Try.prog 33 (.slice (some ⟨g, 0, none⟩) l.length cap) (.int .i64 j) w7 = some (.pointer (some ⟨g, j * 8, none⟩)) := by
        rw [QindexAddr_slice und33 hti (by omega) (by omega), hts, Int.toNat_natCast, add_0]
      simp only [build26n, hix, go_sem]
      have hst := Xstore_row (P := Try.prog) (t := 26) (v := Rule.zero.v) hti (by rw [hts]; rfl) hcur' (o := j * 8) (by rw [hts]; omega) Rule.zero.one1
      rw [hst]
      simp only [go_sem]
      refine .ret (.inl ⟨rfl, l.length - (j + 1), by omega, j + 1, by rw [wrap_i64 (by omega) (by omega)]; rfl, by omega, rfl, F7.chg (setRow_chg g _) ?_, ?_⟩)
      · rintro k rfl
        have hg6 := f6 k rfl
        refine ⟨by have := F.bel.size; omega, fun h => ?_, fun h => ?_⟩
        · have : k < w'.heap.size := h.elim (F.one.A.lt k) (F.one.B.lt k)
          omega
        · have : k < w'.heap.size := h.elim (F.two.A.lt k) (F.two.B.lt k)
          omega
      · intro g' hg' cur2 hcur2
        simp only [Value.ownBlock, Option.some.injEq] at hg'
        subst hg'
        rw [hcur] at hcur2
        injection hcur2 with hcur2
        injection hcur2 with hcur2
        subst hcur2
        refine ⟨_, setRow_heap w7 g cur' _ 26 _ hcur', ?_⟩
        simp only [List.size_toArray, List.length_append, List.length_take, List.length_drop, Array.length_toList, hts]
        show min (j * 8) cur'.size + 8 + (cur'.size - (j * 8 + 8)) = cur.size
        omega
    · refine .ret (.inr ⟨by simp, ?_⟩)
      have AF := A.bel F7.bel
      simp only [s9R1, Ask.all AF, go_sem]
      refine (k22 F7.one hq).bind ?_
      rintro ⟨_, w8⟩ ⟨e1, b8⟩
      simp only at e1 b8
      subst e1
      simp only [go_sem, Ask.all (AF.bel b8)]
      refine (k22 (F7.two.bel b8) hq).bind ?_
      rintro ⟨_, w9⟩ ⟨e1, b9⟩
      simp only at e1 b9
      subst e1
      simp only [go_sem]
      exact .ret ⟨rfl, ((hb.trans F7.bel).trans b8).trans b9⟩
  by_cases h1 : i < es.length
  · have e1 : decide ((i : Int) < es.length) = true := by rw [decide_eq_true_iff]; omega
    by_cases h2 : i < 40
    · have e2 : decide ((i : Int) < 40) = true := by rw [decide_eq_true_iff]; omega
      simp only [e1, e2, go_sem]
      obtain ⟨ti, ht, hts⟩ := inf56
      obtain ⟨x, g, o, hx, _, hix, hc⟩ := hvw.get und35 ht hts (n := i) (by omega) (by omega)
      simp only [Int.toNat_natCast] at hx
      simp only [hix, Deed.all hc, go_sem]
      refine (k25 F.two (hok2 x (List.mem_of_getElem? hx))).bind ?_
      rintro ⟨_, w3⟩ hbo
      obtain ⟨rfl, sc', sd', F'⟩ := F.step hbo
      simp only [go_sem, Bool.not_true]
      exact .ret (.inl ⟨rfl, 40 - (i + 1), by omega, i + 1, sc', sd', _, by rw [wrap_i64 (by omega) (by omega)]; rfl, by omega, by omega, rfl, F'⟩)
    · have e2 : decide ((i : Int) < 40) = false := by rw [decide_eq_false_iff_not]; omega
      simp only [e1, e2, go_sem]
      exact .ret (.inr ⟨by simp, fin⟩)
  · have e1 : decide ((i : Int) < es.length) = false := by rw [decide_eq_false_iff_not]; omega
    simp only [e1, go_sem]
    exact .ret (.inr ⟨by simp, fin⟩)

theorem law9 {v0 v1 v2 : Value} {n0 n1 n2 : Nat} {w : World} {r0 r1 r2 : Reach} {b0 b1 b2 : Nat} (ho0 : Value.okWide Try.prog w r0 b0 35 v0) (h0 : Okc Try.prog w n0 35 v0.cells.toList) (ho1 : Value.okWide Try.prog w r1 b1 35 v1) (h1 : Okc Try.prog w n1 35 v1.cells.toList) (ho2 : Value.okWide Try.prog w r2 b2 37 v2) (h2 : Okc Try.prog w n2 37 v2.cells.toList) :
    Calls Try.prog 9 #[v0, v1, v2] w fun e w' => e = .returned (.bool true) ∧ Below w.heap.size w w' := by
  obtain ⟨ds, hv, hok⟩ := deeds ho0 h0
  obtain ⟨es, hv2, hok2⟩ := deeds ho1 h1
  obtain ⟨q, rfl, hq⟩ := open37 ho2 h2
  exact law_of (l9 hv hok hv2 hok2 hq) fun _ => c9

end Go.Proofs.Ytiioaklogbjhhaa
