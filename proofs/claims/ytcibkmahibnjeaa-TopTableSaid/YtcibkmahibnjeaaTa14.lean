/- Deeds on both tables; what is told behind them. -/
import Derived.Test.YtcibkmahibnjeaaTa13
namespace Go.Proofs.Ytcibkmahibnjeaa
open Go Go.Ev Go.RowKit
open Go.Proofs

/-! ## What holds behind deeds -/

def deedM (lim : Int) (s : Int × List Rw) (x : Deed) : Int × List Rw :=
  if x.kind = 0 then (putM lim s.1 s.2 x.k x.id_ x.till).2 else if x.kind = 1 then (moveM s.1 s.2 x.k x.till).2 else if x.kind = 2 then (dropM s.1 s.2 x.k).2 else s

theorem keyM_idem (k : Tup) : keyM (keyM k) = keyM k := by
  unfold keyM
  by_cases c : k.proto = 47
  · simp [c]
  · simp [c]

structure Good (lim : Int) (n : Nat) (s : Int × List Rw) : Prop where
  s0 : 0 ≤ s.1
  s1 : s.1 ≤ n
  len : (s.2.length : Int) ≤ lim
  apart : Apart s.1 s.2
  tills : ∀ x ∈ s.2, mayT x.till = true
  norm : ∀ x ∈ s.2, keyM x.key = x.key

theorem Good.mono {lim : Int} {n m : Nat} {s : Int × List Rw} (h : Good lim n s) (hm : n ≤ m) : Good lim m s := ⟨h.s0, by have := h.s1; omega, h.len, h.apart, h.tills, h.norm⟩
theorem Good.nil {lim : Int} (h : 0 ≤ lim) : Good lim 0 (0, []) := ⟨by decide, by decide, by simpa using h, ⟨List.Pairwise.nil, List.Pairwise.nil, by simp⟩, by simp, by simp⟩
theorem Apart.sub {seq : Int} {L M : List Rw} (h : Apart seq L) (hs : M.Sublist L) : Apart seq M := ⟨h.keys.sublist hs, h.seqs.sublist hs, fun x hx => h.most x (hs.subset hx)⟩
theorem Good.put {lim : Int} {n : Nat} {s : Int × List Rw} (h : Good lim n s) (k : Tup) (id till : Int) : Good lim (n + 1) (putM lim s.1 s.2 k id till).2 := by
  obtain ⟨h0, h1, h2, h3, h4, h5⟩ := h
  have same : Good lim (n + 1) (s.1, s.2) := ⟨h0, by show s.1 ≤ ((n + 1 : Nat) : Int); omega, h2, h3, h4, h5⟩
  unfold putM
  split
  · exact same
  split
  · exact same
  split
  · exact same
  · next ht hk hl =>
    have hk := (Bool.not_eq_true _).mp hk
    have ht := (Bool.not_eq_false _).mp ht
    unfold hasK at hk
    rw [List.any_eq_false] at hk
    refine ⟨by show (0 : Int) ≤ s.1 + 1; omega, by show s.1 + 1 ≤ ((n + 1 : Nat) : Int); omega, by rw [List.length_append]; simp; omega, ⟨?_, ?_, fun x hx => ?_⟩, fun x hx => ?_, fun x hx => ?_⟩
    · refine List.pairwise_append.2 ⟨h3.keys, by simp, fun x hx y hy => ?_⟩
      simp at hy
      subst hy
      simpa [isK] using hk x hx
    · refine List.pairwise_append.2 ⟨h3.seqs, by simp, fun x hx y hy => ?_⟩
      simp at hy
      subst hy
      have := h3.most x hx
      show x.seq ≠ s.1 + 1
      omega
    · rcases List.mem_append.1 hx with hx | hx
      · have := h3.most x hx; show x.seq ≤ s.1 + 1; omega
      · simp at hx; subst hx; exact Int.le_refl _
    · rcases List.mem_append.1 hx with hx | hx
      · exact h4 x hx
      · simp at hx; subst hx; exact ht
    · rcases List.mem_append.1 hx with hx | hx
      · exact h5 x hx
      · simp at hx; subst hx; exact keyM_idem k
theorem apart_move {seq till : Int} {L : List Rw} {k : Tup} (h : Apart seq L) : Apart (seq + 1) (moveL L k till (seq + 1)) := by
  refine ⟨?_, ?_, fun x hx => ?_⟩
  · unfold moveL
    rw [List.pairwise_map]
    refine h.keys.imp fun {x y} hxy => ?_
    rw [move_key, move_key]
    exact hxy
  · unfold moveL
    rw [List.pairwise_map]
    have := (h.keys.and h.seqs).imp_of_mem (S := fun x y => (if isK k x = true then moveF till (seq + 1) x else x).seq ≠ (if isK k y = true then moveF till (seq + 1) y else y).seq) (fun {x y} hx hy ⟨h1, h2⟩ => by
      have mx := h.most x hx
      have my := h.most y hy
      by_cases c1 : isK k x = true <;> by_cases c2 : isK k y = true
      · exfalso
        have e1 : x.key = k := by simpa [isK] using c1
        have e2 : y.key = k := by simpa [isK] using c2
        exact h1 (e1.trans e2.symm)
      · rw [if_pos c1, if_neg c2]
        show seq + 1 ≠ y.seq
        omega
      · rw [if_neg c1, if_pos c2]
        show x.seq ≠ seq + 1
        omega
      · rw [if_neg c1, if_neg c2]
        exact h2)
    exact this
  · unfold moveL at hx
    obtain ⟨y, hy, rfl⟩ := List.mem_map.1 hx
    have my := h.most y hy
    split
    · show seq + 1 ≤ seq + 1; omega
    · omega
theorem Good.next {lim : Int} {n : Nat} {s : Int × List Rw} (h : Good lim n s) (x : Deed) : Good lim (n + 1) (deedM lim s x) := by
  unfold deedM
  split
  · exact h.put _ _ _
  obtain ⟨h0, h1, h2, h3, h4, h5⟩ := h
  have same : Good lim (n + 1) (s.1, s.2) := ⟨h0, by show s.1 ≤ ((n + 1 : Nat) : Int); omega, h2, h3, h4, h5⟩
  split
  · unfold moveM
    split
    · exact same
    split
    · next ht _ =>
      have ht := (Bool.not_eq_false _).mp ht
      refine ⟨by show (0 : Int) ≤ s.1 + 1; omega, by show s.1 + 1 ≤ ((n + 1 : Nat) : Int); omega, by simpa [moveL] using h2, apart_move h3, fun y hy => ?_, fun y hy => ?_⟩
      · obtain ⟨z, hz, rfl⟩ := List.mem_map.1 hy
        split
        · exact ht
        · exact h4 z hz
      · obtain ⟨z, hz, rfl⟩ := List.mem_map.1 hy
        rw [move_key]
        exact h5 z hz
    · exact same
  split
  · unfold dropM
    split
    · refine ⟨h0, by show s.1 ≤ ((n + 1 : Nat) : Int); omega, ?_, h3.sub List.filter_sublist, fun y hy => h4 y (List.mem_filter.1 hy).1, fun y hy => h5 y (List.mem_filter.1 hy).1⟩
      have e := List.length_filter_le (fun y => !isK (keyM x.k) y) s.2
      show ((dropL s.2 (keyM x.k)).length : Int) ≤ lim
      unfold dropL
      omega
    · exact same
  · exact same
theorem Good.small {lim : Int} {n : Nat} {s : Int × List Rw} (h : Good lim n s) (hn : n ≤ 1000) (hl : lim ≤ 1000) : Small s.1 s.2 := ⟨h.s0, by have := h.s1; omega, by have := h.len; omega⟩

/-! ## Both -/

/-- Two tables of the same, apart from each other. -/
structure Two (w : World) (a : Nat) (rv : Value) (bv : List Value) (b : Nat) (sv : Value) (lim : Int) (s : Int × List Rw) : Prop where
  A : Tb w a rv bv lim s.1 s.2
  B : Rt w b sv lim s.1 s.2
  dis : ∀ k, Foot a rv bv k → ¬ FootR b sv k

section two
variable {w w' : World} {a b : Nat} {rv sv : Value} {bv : List Value} {lim : Int} {s : Int × List Rw}
theorem Two.chg {S : Nat → Prop} (h : Two w a rv bv b sv lim s) (hc : Chg S w w') (h1 : ∀ k, Foot a rv bv k → ¬ S k) (h2 : ∀ k, FootR b sv k → ¬ S k) : Two w' a rv bv b sv lim s := ⟨h.A.chg hc h1, h.B.chg hc h2, h.dis⟩
theorem Two.bel (h : Two w a rv bv b sv lim s) (hb : Bel w w') : Two w' a rv bv b sv lim s := ⟨h.A.bel hb, h.B.bel hb, h.dis⟩
end two

/-- A deed is done on both. -/
def Both (w : World) (a : Nat) (rv : Value) (bv : List Value) (b : Nat) (sv : Value) (lim : Int) (s : Int × List Rw) (r : Value × World) : Prop :=
  r.1 = .bool true ∧ Chg (fun k => Foot a rv bv k ∨ FootR b sv k) w r.2 ∧ ∃ bv' sv', Two r.2 a rv bv' b sv' lim s ∧ (∀ k, Foot a rv bv' k → Foot a rv bv k ∨ w.heap.size ≤ k) ∧ ∀ k, FootR b sv' k → FootR b sv k ∨ w.heap.size ≤ k

theorem both_of {w w1 w2 w3 : World} {a b : Nat} {rv sv : Value} {bv : List Value} {lim : Int} {s : Int × List Rw} {t : Int × Int × List Rw} {v2 v3 : Value} (h : Two w a rv bv b sv lim s) (hb : Bel w w1) (d2 : Did w1 a rv bv lim t (v2, w2)) (d3 : DidR w2 b sv lim t (v3, w3)) :
    Both w a rv bv b sv lim t.2 (.bool true, w3) := by
  obtain ⟨_, c2, bv', A2, f2⟩ := d2
  obtain ⟨_, c3, sv', B3, f3⟩ := d3
  simp only at c2 A2 c3 B3 f2 f3
  have s1 := hb.size
  have s2 := c2.size
  have la := h.A.lt
  have lb := h.B.lt
  have la2 := A2.lt
  refine ⟨rfl, (hb.thenChg (c2.mono fun k _ hk => .inl hk)).trans (c3.mono fun k _ hk => .inr hk) fun _ _ h => h, bv', sv', ⟨A2.chg c3 fun k hk hf => ?_, B3, fun k hk hf => ?_⟩, fun k hk => (f2 k hk).imp (fun h => h) fun h => by omega, fun k hk => (f3 k hk).imp (fun h => h) fun h => by show w.heap.size ≤ k; omega⟩
  · rcases f2 k hk with h1 | h1
    · exact h.dis k h1 hf
    · have := lb k hf; omega
  · rcases f3 k hf with h3 | h3
    · rcases f2 k hk with h1 | h1
      · exact h.dis k h1 h3
      · have := lb k h3; omega
    · have := la2 k hk; omega

theorem k24 {w : World} {a b n : Nat} {rv sv : Value} {bv : List Value} {lim : Int} {s : Int × List Rw} {x : Deed} (h : Two w a rv bv b sv lim s) (hG : Good lim n s) (hn : n ≤ 1000) (hl : lim ≤ 1000) :
    Brings (Xcall Try.prog (Value.func (Fn.func 24) #[] #[]) #[.pointer (some ⟨a, 0, none⟩), .pointer (some ⟨b, 0, none⟩), x.v] w) (Both w a rv bv b sv lim (deedM lim s x)) := by
  refine e24 ?_
  unfold s24 deedM
  have A := x.new w
  have hb : Bel w (w.alloc (.cells x.cs.toArray 44)) := (Bel.refl w).alloc _
  have na : ∀ k, Foot a rv bv k → k ≠ w.heap.size := fun k hk e => by have := h.A.lt k hk; omega
  rw [x.box]
  simp only [go_sem, Deed.b0 A]
  generalize w.alloc (.cells x.cs.toArray 44) = w0 at A hb
  have bd : Bel w0 w0.drew := (Bel.refl _).drew
  have A1 := A.bel bd
  have h0 := h.bel hb
  have hb1 := hb.trans bd
  have h1 := h.bel hb1
  have hS := hG.small hn hl
  have hA := hG.apart
  generalize w.heap.size = q at A A1 na
  refine .cond (fun k0 => ?_) (fun k0 => ?_)
  · have k0 : x.kind = 0 := by simpa using k0
    simp only [k0, if_true, fb44x1, fb44x2, fb44x3, Tup.all (Deed.in1 A1), Deed.b2 A1, Deed.b3 A1, go_sem]
    refine (k17 h1.A hS).bind ?_
    rintro ⟨v2, w2⟩ d2
    have A2 := A1.chg d2.2.1 fun hk => na q hk rfl
    simp only [Tup.all (Deed.in1 A2), Deed.b2 A2, Deed.b3 A2, go_sem]
    refine (k43 (h1.B.chg d2.2.1 fun k hk hf => h.dis k hf hk) hS).bind ?_
    rintro ⟨v3, w3⟩ d3
    have e2 := d2.1
    have e3 := d3.1
    simp only at e2 e3
    subst e2
    subst e3
    simp only [beq_self_eq_true, Tup.all (Deed.in1 A1), Tup.all (Deed.in1 A2), Deed.b2 A1, Deed.b2 A2, Deed.b3 A1, Deed.b3 A2, eq_self, and_self, go_sem]
    exact .ret (both_of h hb1 d2 d3)
  have k0 : ¬ x.kind = 0 := by simpa using k0
  refine .cond (fun k1 => ?_) (fun k1 => ?_)
  · have k1 : x.kind = 1 := by simpa using k1
    simp only [k1, show ¬ (1 : Int) = 0 by decide, if_true, if_false, fb44x1, fb44x3, Tup.all (Deed.in1 A1), Deed.b3 A1, go_sem]
    refine (k20 h1.A hS hA).bind ?_
    rintro ⟨v2, w2⟩ d2
    have A2 := A1.chg d2.2.1 fun hk => na q hk rfl
    simp only [Tup.all (Deed.in1 A2), Deed.b3 A2, go_sem]
    refine (k44 (h1.B.chg d2.2.1 fun k hk hf => h.dis k hf hk) hS hA).bind ?_
    rintro ⟨v3, w3⟩ d3
    have e2 := d2.1
    have e3 := d3.1
    simp only at e2 e3
    subst e2
    subst e3
    simp only [beq_self_eq_true, Tup.all (Deed.in1 A1), Tup.all (Deed.in1 A2), Deed.b3 A1, Deed.b3 A2, eq_self, and_self, go_sem]
    exact .ret (both_of h hb1 d2 d3)
  have k1 : ¬ x.kind = 1 := by simpa using k1
  refine .cond (fun k2 => ?_) (fun k2 => ?_)
  · have k2 : x.kind = 2 := by simpa using k2
    simp only [k2, show ¬ (2 : Int) = 0 by decide, show ¬ (2 : Int) = 1 by decide, if_true, if_false, fb44x1, Tup.all (Deed.in1 A1), go_sem]
    refine (k21 h1.A hS hA).bind ?_
    rintro ⟨v2, w2⟩ d2
    have A2 := A1.chg d2.2.1 fun hk => na q hk rfl
    simp only [Tup.all (Deed.in1 A2), go_sem]
    refine (k45 (h1.B.chg d2.2.1 fun k hk hf => h.dis k hf hk) hS hA).bind ?_
    rintro ⟨v3, w3⟩ d3
    have e2 := d2.1
    have e3 := d3.1
    simp only at e2 e3
    subst e2
    subst e3
    simp only [beq_self_eq_true, Tup.all (Deed.in1 A1), Tup.all (Deed.in1 A2), eq_self, and_self, go_sem]
    exact .ret (both_of h hb1 d2 d3)
  · have k2 : ¬ x.kind = 2 := by simpa using k2
    simp only [k0, k1, k2, if_false]
    exact .ret ⟨rfl, .of_bel hb _, bv, sv, h0, fun k hk => .inl hk, fun k hk => .inl hk⟩

/-! ## The same -/

theorem k14 {w : World} {u v : Value} {l m : List Tup} (hu : View Tup.cs 5 w u l) (hv : View Tup.cs 5 w v m) : Brings (Xcall Try.prog (Value.func (Fn.func 14) #[] #[]) #[u, v] w) (fun r => r.1 = .bool (decide (l = m)) ∧ Bel w r.2) := by
  refine e14 ?_
  unfold s14
  have su := hu.small
  simp only [maxLen] at su
  simp only [hu.len Ks.und30, hv.len Ks.und30, go_sem]
  refine .cond (fun hne => ?_) (fun he => ?_)
  · have hne : ¬ l.length = m.length := by
      have : ¬ (l.length : Int) = m.length := by simpa using hne
      omega
    refine .ret ⟨?_, Bel.refl _⟩
    rw [decide_eq_false fun e => hne (by rw [e])]
  · have hlm : l.length = m.length := by
      have : (l.length : Int) = m.length := by simpa using he
      omega
    refine Brings.loop (fun r xs w' => ∃ i : Nat, xs = [u, v, .bool false, .int .i64 (i : Int)] ∧ i ≤ l.length ∧ r = l.length - i ∧ Bel w w' ∧ l.take i = m.take i) ?_ l.length _ _
      ⟨0, rfl, by omega, by omega, Bel.refl _, rfl⟩
    rintro r xs w' ⟨i, rfl, hi, hr, hb, ht⟩
    simp only [s14B0, hu.len Ks.und30, go_sem]
    refine .cond (fun hlt => ?_) (fun hlt => ?_)
    · have hlt : i < l.length := by
        have : (i : Int) < l.length := by simpa using hlt
        omega
      have bd := hb.drew
      obtain ⟨x, g, o, hx, _, hix, hc⟩ := Ks.getR (hu.bel bd) (n := i) (by omega) (by omega)
      obtain ⟨y, g2, o2, hy, _, hiy, hc2⟩ := Ks.getR (hv.bel bd) (n := i) (by omega) (by omega)
      rw [Int.toNat_natCast] at hx hy
      have ne : Qbin Try.prog .neq 37 x.v y.v = some (.bool !decide (x = y)) := Tup.neq x y
      simp only [hix, hiy, Tup.all hc, Tup.all hc2, ne, go_sem]
      by_cases hxy : x = y
      · rw [decide_eq_true hxy]
        simp only [Bool.not_true, go_sem]
        rw [wrap_i64 (n := (i : Int) + 1) (by omega) (by omega)]
        refine .ret (.inl ⟨rfl, l.length - (i + 1), by omega, i + 1, rfl, by omega, rfl, bd, ?_⟩)
        rw [List.take_add_one, List.take_add_one, hx, hy, ht, hxy]
      · rw [decide_eq_false hxy]
        simp only [Bool.not_false, go_sem]
        refine .ret (.inr ⟨by simp, .ret ⟨?_, bd⟩⟩)
        rw [decide_eq_false fun e => hxy (by rw [e, hy] at hx; exact (Option.some.inj hx).symm)]
    · have : i = l.length := by
        have : ¬ (i : Int) < l.length := by simpa using hlt
        omega
      subst this
      rw [List.take_length, hlm, List.take_length] at ht
      refine .ret (.inr ⟨by simp, .ret ⟨?_, hb⟩⟩)
      rw [decide_eq_true ht]

theorem k19s {w : World} {a b : Nat} {rv sv : Value} {bv : List Value} {lim now sa sb : Int} {L : List Rw} {k : Tup} (hTA : Tb w a rv bv lim sa L) (hTB : Rt w b sv lim sb L) (hL : L.length ≤ 8) (hA : Apart sa L) :
    Brings (Xcall Try.prog (Value.func (Fn.func 19) #[] #[]) #[.pointer (some ⟨a, 0, none⟩), .pointer (some ⟨b, 0, none⟩), k.v, .int .i64 now] w) (fun r => r.1 = .bool true ∧ Bel w r.2) := by
  refine e19 ?_
  unfold s19
  have A := k.new w
  have hb : Bel w (w.alloc (.cells k.cs.toArray 37)) := (Bel.refl w).alloc _
  rw [k.box]
  simp only [go_sem, Tup.all A]
  generalize w.alloc (.cells k.cs.toArray 37) = w1 at A hb
  generalize w.heap.size = q at A
  have TA := hTA.bel hb
  have TB := hTB.bel hb
  refine (k15 TA (by omega)).bind ?_
  rintro ⟨_, w2⟩ ⟨e2, b2⟩
  simp only at e2 b2
  subst e2
  have A := A.bel b2
  have TA := TA.bel b2
  have TB := TB.bel b2
  have hb := hb.trans b2
  simp only [go_sem, Tup.all A]
  refine (k35 TB (by omega)).bind ?_
  rintro ⟨_, w3⟩ ⟨e3, b3⟩
  simp only at e3 b3
  subst e3
  have TA := TA.bel b3
  have TB := TB.bel b3
  have hb := hb.trans b3
  simp only [go_sem]
  refine (k25 TA (by omega) hA).bind ?_
  rintro ⟨_, w4⟩ ⟨b4, e4⟩
  simp only at e4 b4
  subst e4
  have TA := TA.bel b4
  have TB := TB.bel b4
  have hb := hb.trans b4
  have B5 := local_bel w4 (.cells Tup.zero.cs.toArray 37) (firstM L).1.cs.toArray
  have A5 := local_at w4 (firstM L).1.cs Tup.zero.cs 37
  simp only [go_sem, alloc37, put37]
  have TA := TA.bel B5
  have TB := TB.bel B5
  have hb := hb.trans B5
  generalize (w4.alloc (.cells Tup.zero.cs.toArray 37)).setRow w4.heap.size (firstM L).1.cs.toArray = w5 at A5 B5 TA TB hb
  generalize w4.heap.size = q5 at A5
  refine (k36 TB (by omega)).bind ?_
  rintro ⟨_, w6⟩ ⟨b6, e6⟩
  simp only at e6 b6
  subst e6
  have TA := TA.bel b6
  have TB := TB.bel b6
  have hb := hb.trans b6
  have A5 := A5.bel b6
  have B7 := local_bel w6 (.cells Tup.zero.cs.toArray 37) (firstM L).1.cs.toArray
  have A7 := local_at w6 (firstM L).1.cs Tup.zero.cs 37
  simp only [go_sem, alloc37, put37]
  have TA := TA.bel B7
  have TB := TB.bel B7
  have hb := hb.trans B7
  have A5 := A5.bel B7
  generalize (w6.alloc (.cells Tup.zero.cs.toArray 37)).setRow w6.heap.size (firstM L).1.cs.toArray = w7 at A5 A7 B7 TA TB hb
  generalize w6.heap.size = q7 at A7
  have qb : ∀ x : Bool, Qbin Try.prog .eql 4 (.bool x) (.bool x) = some (.bool true) := fun x => by rw [Qb_eqlB (by kernel_rfl), beq_self_eq_true]
  simp only [beq_self_eq_true, qb, Tup.all A5, Tup.all A7, Tup.eql, decide_true, go_sem]
  refine (k16 TA).bind ?_
  rintro _ rfl
  simp only
  refine (k37 TB).bind ?_
  rintro _ rfl
  simp only [beq_self_eq_true, go_sem]
  refine (k13 TA (by omega) hA).bind ?_
  rintro ⟨u, w8⟩ ⟨F1, F2, F3⟩
  simp only at F1 F2 F3
  have TA := TA.bel F1
  have TB := TB.bel F1
  have hb := hb.trans F1
  simp only
  refine (k38 TB (by omega)).bind ?_
  rintro ⟨v, w9⟩ ⟨G1, G2, G3⟩
  simp only at G1 G2 G3
  have hb := hb.trans G1
  simp only
  refine (k14 (View.of_owns (later_bel F2 G1) (Tup.lens _)) (View.of_owns G2 (Tup.lens _))).bind ?_
  rintro ⟨_, w10⟩ ⟨e10, b10⟩
  simp only [decide_true] at e10 b10
  subst e10
  simp only [go_sem]
  exact .ret ⟨rfl, hb.trans b10⟩
theorem k19 {w : World} {a b n : Nat} {rv sv : Value} {bv : List Value} {lim now : Int} {s : Int × List Rw} {k : Tup} (h : Two w a rv bv b sv lim s) (hG : Good lim n s) (hl : lim ≤ 8) :
    Brings (Xcall Try.prog (Value.func (Fn.func 19) #[] #[]) #[.pointer (some ⟨a, 0, none⟩), .pointer (some ⟨b, 0, none⟩), k.v, .int .i64 now] w) (fun r => r.1 = .bool true ∧ Bel w r.2) :=
  k19s h.A h.B (by have := hG.len; omega) hG.apart

/-! ## Live; played -/

theorem build37a (a : Int) (w : World) : Qbuild Try.prog 37 #[(1, .int .u32 a)] w = some (⟨0, a, 0, 0, 0⟩ : Tup).v := by kernel_rfl

theorem k12 {w : World} : Brings (Xcall Try.prog (Value.func (Fn.func 12) #[] #[]) #[] w) (fun r => r.1 = .bool true ∧ Bel w r.2) := by
  refine e12 ?_
  unfold s12
  refine k26.bind ?_
  rintro ⟨_, w1⟩ ⟨b1, ⟨hn, _⟩ | ⟨_, a, rv, bv, e1, T, hf⟩⟩
  · exact absurd hn (by decide)
  simp only at e1 b1 T
  subst e1
  simp only
  unfold s12M0
  have V1 := (Locals.nil w1).add rfl (.cells Tup.zero.cs.toArray 37)
  have s1 : (w1.alloc (.cells Tup.zero.cs.toArray 37)).heap.size = w1.heap.size + 1 := by simp
  have V2 := V1.add (by rw [s1]; rfl) (.cells Tup.zero.cs.toArray 37)
  have o2 : ((w1.alloc (.cells Tup.zero.cs.toArray 37)).alloc (.cells Tup.zero.cs.toArray 37)).heap[w1.heap.size]? = some (.cells Tup.zero.cs.toArray 37) := V2.at_ 0 _ rfl
  have V3 := V2.row (j := 0) (k := w1.heap.size) rfl rfl (⟨0, 1, 0, 0, 0⟩ : Tup).cs.toArray
  simp only [build37a, alloc37, s1, store37 o2 rfl, go_sem]
  generalize ((w1.alloc (.cells Tup.zero.cs.toArray 37)).alloc (.cells Tup.zero.cs.toArray 37)).setRow w1.heap.size (⟨0, 1, 0, 0, 0⟩ : Tup).cs.toArray = w2 at V3
  have o3 : w2.heap[w1.heap.size + 1]? = some (.cells Tup.zero.cs.toArray 37) := V3.at_ 1 _ rfl
  have V4 := V3.row (j := 1) rfl rfl (⟨0, 2, 0, 0, 0⟩ : Tup).cs.toArray
  have V4 : Locals w1 [.cells (⟨0, 1, 0, 0, 0⟩ : Tup).cs.toArray 37, .cells (⟨0, 2, 0, 0, 0⟩ : Tup).cs.toArray 37] (w2.setRow (w1.heap.size + 1) (⟨0, 2, 0, 0, 0⟩ : Tup).cs.toArray) := V4
  simp only [store37 o3 rfl, go_sem]
  generalize w2.setRow (w1.heap.size + 1) (⟨0, 2, 0, 0, 0⟩ : Tup).cs.toArray = w3 at V4
  unfold s12M1
  have V5 := V4.later (Bel.refl w3).drew
  have oa : w3.drew.heap[w1.heap.size]? = some (.cells (⟨0, 1, 0, 0, 0⟩ : Tup).cs.toArray 37) := V5.at_ 0 _ rfl
  have ob : w3.drew.heap[w1.heap.size + 1]? = some (.cells (⟨0, 2, 0, 0, 0⟩ : Tup).cs.toArray 37) := V5.at_ 1 _ rfl
  have T1 := T.bel V5.bel
  have lt1 := T.lt
  simp only [load37 oa, go_sem]
  generalize w3.drew = w4 at V5 oa ob T1
  have p1 : putM 4 0 [] ⟨0, 1, 0, 0, 0⟩ 1 5 = (0, 1, [⟨⟨0, 1, 0, 0, 0⟩, 1, 5, 1⟩]) := by decide +kernel
  have p2 : putM 4 1 [⟨⟨0, 1, 0, 0, 0⟩, 1, 5, 1⟩] ⟨0, 2, 0, 0, 0⟩ 2 3 = (0, 2, [⟨⟨0, 1, 0, 0, 0⟩, 1, 5, 1⟩, ⟨⟨0, 2, 0, 0, 0⟩, 2, 3, 2⟩]) := by decide +kernel
  have d1 : dueM [⟨⟨0, 1, 0, 0, 0⟩, 1, 5, 1⟩, ⟨⟨0, 2, 0, 0, 0⟩, 2, 3, 2⟩] 4 = [⟨0, 2, 0, 0, 0⟩] := by decide +kernel
  refine (k17 (k := ⟨0, 1, 0, 0, 0⟩) (id := 1) (till := 5) T1 ⟨by decide, by decide, by decide⟩).bind ?_
  rintro ⟨_, w5⟩ D1
  rw [p1] at D1
  obtain ⟨e5, c5, bv5, T5, f5⟩ := D1
  simp only at e5 c5 T5 f5
  subst e5
  have ob5 := c5.at_ ob fun hk => by have := lt1 _ hk; omega
  simp only [load37 ob5, go_sem]
  refine (k17 (k := ⟨0, 2, 0, 0, 0⟩) (id := 2) (till := 3) T5 ⟨by decide, by decide, by decide⟩).bind ?_
  rintro ⟨_, w6⟩ D2
  rw [p2] at D2
  obtain ⟨e6, c6, bv6, T6, f6⟩ := D2
  simp only at e6 c6 T6 f6
  subst e6
  have s5 := V5.size
  have ob6 := c6.at_ ob5 fun hk => by
    rcases f5 _ hk with h1 | h1
    · have := lt1 _ h1; omega
    · simp at s5; omega
  simp only [load37 ob, load37 ob5, eq_self, and_self, go_sem]
  unfold s12M2
  have ap : Apart 2 [⟨⟨0, 1, 0, 0, 0⟩, 1, 5, 1⟩, ⟨⟨0, 2, 0, 0, 0⟩, 2, 3, 2⟩] := ⟨by decide, by decide, by decide⟩
  refine (k13 (now := 4) T6 (by decide) ap).bind ?_
  rintro ⟨u, w7⟩ F
  rw [d1] at F
  obtain ⟨F1, F2, F3⟩ := F
  simp only at F1 F2 F3
  simp only
  unfold s12M3
  have bd : Bel w7 w7.drew := (Bel.refl _).drew
  have ob7 := (F1.trans bd).at_ ob6
  have V := View.of_owns (later_bel F2 bd) (Tup.lens _)
  obtain ⟨y, g, o, hy, _, hix, hc⟩ := Ks.getR V (n := 0) (by omega) (by decide)
  have hy : y = ⟨0, 2, 0, 0, 0⟩ := by
    have : ([⟨0, 2, 0, 0, 0⟩] : List Tup)[0]? = some y := hy
    exact (Option.some.inj this).symm
  subst hy
  simp only [V.len Ks.und30, show ((0 : Int) == 0) = true from rfl, hix, Tup.all hc, load37 ob7, Tup.eql, decide_true, show ((([⟨0, 2, 0, 0, 0⟩] : List Tup).length : Int) == 1) = true from rfl, go_sem]
  have T7 := T6.bel (F1.trans bd)
  refine (k16 T7).bind ?_
  rintro _ rfl
  simp only [show ((([⟨⟨0, 1, 0, 0, 0⟩, 1, 5, 1⟩, ⟨⟨0, 2, 0, 0, 0⟩, 2, 3, 2⟩] : List Rw).length : Int) == 2) = true from rfl, go_sem]
  have b5 : Bel w w5 := ((b1.trans V5.bel).thenChg c5).bel fun k hk hs => by have := hf k hs; omega
  have b6 : Bel w w6 := (b5.thenChg c6).bel fun k hk hs => by
    rcases f5 _ hs with h1 | h1
    · have := hf k h1; omega
    · have := b1.size; have := V5.bel.size; omega
  exact .ret ⟨rfl, (b6.trans F1).trans bd⟩

/-- The tables behind deeds. -/
def deedsM (lim : Int) (s : Int × List Rw) (ds : List Deed) : Int × List Rw := ds.foldl (deedM lim) s
theorem good_deeds {lim : Int} : ∀ (ds : List Deed) (n : Nat) (s : Int × List Rw), Good lim n s → Good lim (n + ds.length) (deedsM lim s ds)
  | [], n, s, h => h
  | x :: ds, n, s, h => by
    have := good_deeds ds (n + 1) (deedM lim s x) (h.next x)
    rw [List.length_cons, show n + (ds.length + 1) = n + 1 + ds.length by omega]
    exact this

theorem und22 : Try.prog.underlying 22 = some (.slice 44) := by kernel_rfl
def limN (n : Nat) : Nat := n % 8 + 1

def Played (w : World) (lim : Int) (s : Int × List Rw) (r : Value × World) : Prop :=
  ∃ a rv bv b sv, r.1 = .tuple #[.pointer (some ⟨a, 0, none⟩), .pointer (some ⟨b, 0, none⟩), .bool true] ∧ Bel w r.2 ∧ Two r.2 a rv bv b sv lim s ∧ (∀ k, Foot a rv bv k → w.heap.size ≤ k) ∧ ∀ k, FootR b sv k → w.heap.size ≤ k

theorem k11 {w : World} {n : Nat} {s : Value} {ds : List Deed} (hn : n < 256) (hv : View Deed.cs 8 w s ds) : Brings (Xcall Try.prog (Value.func (Fn.func 11) #[] #[]) #[.int .u8 (n : Int), s] w) (fun r => Played w (limN n) (deedsM (limN n) (0, []) (ds.take 100)) r ∧ Good (limN n) 100 (deedsM (limN n) (0, []) (ds.take 100))) := by
  refine e11 ?_
  unfold s11
  have cv : Qconv Try.prog 5 3 (.int .u8 (n : Int)) = some (.int .i64 (n : Int)) := by rw [Qconv_int (k := .i64) (by kernel_rfl), wrap_i64 (by omega) (by omega)]
  have d1 : (n : Int).tmod 8 = ((n % 8 : Nat) : Int) := by rw [Int.tmod_eq_emod_of_nonneg (by omega)]; rfl
  have n8 : (8 : Int) ≠ 0 := by decide
  have wr : IntKind.i64.wrap (((n % 8 : Nat) : Int) + 1) = (limN n : Int) := by rw [wrap_i64 (by omega) (by omega)]; rfl
  have l8 : limN n ≤ 8 ∧ 1 ≤ limN n := by unfold limN; omega
  simp only [cv, Qb_remP n8, d1, wr, go_sem]
  generalize limN n = lim at l8
  have hG : Good (lim : Int) 100 (deedsM lim (0, []) (ds.take 100)) := by
    have := good_deeds (ds.take 100) 0 (0, []) (Good.nil (lim := lim) (by omega))
    exact this.mono (by rw [List.length_take]; omega)
  refine k26.bind ?_
  rintro ⟨_, w1⟩ ⟨b1, ⟨hn', _⟩ | ⟨_, a, rv, bv, e1, TA, fa⟩⟩
  · omega
  simp only at e1 b1 TA
  subst e1
  simp only
  refine k27.bind ?_
  rintro ⟨_, w2⟩ ⟨b2, ⟨hn', _⟩ | ⟨_, b, sv, e2, TB, fb⟩⟩
  · omega
  simp only at e2 b2 TB
  subst e2
  have T0 : Two w2 a rv bv b sv lim (0, []) := ⟨TA.bel b2, TB, fun k hk hf => by have := TA.lt k hk; have := fb k hf; omega⟩
  have s1 := b1.size
  have h63 := hv.small
  simp only [maxLen] at h63
  simp only
  refine Brings.loop (fun m xs w' => ∃ (i : Nat) (bu : List Value) (tb : Value), xs = [s, .pointer none, .pointer none, .bool false, .pointer (some ⟨a, 0, none⟩), .pointer (some ⟨b, 0, none⟩), .int .i64 i] ∧ i ≤ ds.length ∧ i ≤ 100 ∧ m = 100 - i ∧ Bel w w' ∧ Two w' a rv bu b tb lim (deedsM lim (0, []) (ds.take i)) ∧ (∀ k, Foot a rv bu k → w.heap.size ≤ k) ∧ ∀ k, FootR b tb k → w.heap.size ≤ k) ?_ 100 _ _
    ⟨0, bv, sv, rfl, by omega, by omega, by omega, b1.trans b2, by simpa [deedsM] using T0, fa, fun k hk => by have := fb k hk; omega⟩
  rintro m xs w' ⟨i, bu, tb, rfl, hi, hi60, hm, hb, T, ha', hb'⟩
  simp only [s11B0, hv.len und22, go_sem]
  have fin : ¬ (i < ds.length ∧ i < 100) → Brings (s11R0 (.exit 0) [s, .pointer none, .pointer none, .bool false, .pointer (some ⟨a, 0, none⟩), .pointer (some ⟨b, 0, none⟩), .int .i64 i] w') (fun r => Played w lim (deedsM lim (0, []) (ds.take 100)) r ∧ Good (lim : Int) 100 (deedsM lim (0, []) (ds.take 100))) := fun hn => by
    have : ds.take 100 = ds.take i := by
      rcases Nat.lt_or_ge i 100 with h | h
      · have : i = ds.length := by omega
        subst this
        rw [List.take_length, List.take_of_length_le (by omega)]
      · rw [show i = 100 by omega]
    rw [this] at hG ⊢
    exact .ret ⟨⟨a, rv, bu, b, tb, rfl, hb, T, ha', hb'⟩, hG⟩
  by_cases h1 : i < ds.length
  · have e1 : decide ((i : Int) < ds.length) = true := by rw [decide_eq_true_iff]; omega
    by_cases h2 : i < 100
    · have e2 : decide ((i : Int) < 100) = true := by rw [decide_eq_true_iff]; omega
      simp only [e1, e2, go_sem]
      obtain ⟨t, ht, hts⟩ := inf44
      obtain ⟨x, g, o, hx, _, hix, hc⟩ := (hv.bel hb).get und22 ht hts (n := i) (by omega) (by omega)
      simp only [Int.toNat_natCast] at hx
      simp only [hix, Deed.all hc, go_sem]
      have gi := good_deeds (ds.take i) 0 (0, []) (Good.nil (lim := lim) (by omega))
      refine (k24 (x := x) T gi (by rw [List.length_take]; omega) (by omega)).bind ?_
      rintro ⟨_, w3⟩ ⟨e3, c3, bu', tb', T3, f3, g3⟩
      simp only at e3 c3 T3
      subst e3
      have sz := hb.size
      simp only [go_sem, Bool.not_true]
      refine .ret (.inl ⟨rfl, 100 - (i + 1), by omega, i + 1, bu', tb', by rw [wrap_i64 (by omega) (by omega)]; rfl, by omega, by omega, rfl, ?_, ?_, ?_, ?_⟩)
      · refine (hb.thenChg c3).bel fun k hk h => ?_
        rcases h with h | h
        · have := ha' k h; omega
        · have := hb' k h; omega
      · have : ds.take (i + 1) = ds.take i ++ [x] := by rw [List.take_add_one, hx]; rfl
        rw [this]
        unfold deedsM at T3 ⊢
        rw [List.foldl_append]
        exact T3
      · intro k hk
        rcases f3 k hk with h | h
        · exact ha' k h
        · omega
      · intro k hk
        rcases g3 k hk with h | h
        · exact hb' k h
        · omega
    · have e2 : decide ((i : Int) < 100) = false := by rw [decide_eq_false_iff_not]; omega
      simp only [e1, e2, go_sem]
      exact .ret (.inr ⟨by simp, fin (by omega)⟩)
  · have e1 : decide ((i : Int) < ds.length) = false := by rw [decide_eq_false_iff_not]; omega
    simp only [e1, go_sem]
    exact .ret (.inr ⟨by simp, fin (by omega)⟩)

end Go.Proofs.Ytcibkmahibnjeaa
