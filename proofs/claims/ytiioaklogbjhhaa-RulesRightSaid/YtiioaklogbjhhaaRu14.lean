/- Deeds on both, and what is told behind them. -/
import Derived.Test.YtiioaklogbjhhaaFj
import Derived.Test.YtiioaklogbjhhaaRu13
namespace Go.Proofs.Ytiioaklogbjhhaa
open Go Go.Ev
open Go.Proofs

/-- Two objects of the same rules, apart from each other. -/
structure Two (w : World) (a : Nat) (sa : Value) (b : Nat) (sb : Value) (l : List Rule) : Prop where
  A : Obj 60 w a sa l
  B : Obj 71 w b sb l
  dis : ∀ k, Foot a sa k → ¬ Foot b sb k

theorem Two.bel {w w' : World} {a b : Nat} {sa sb : Value} {l : List Rule} (h : Two w a sa b sb l) (hb : Bel w w') : Two w' a sa b sb l := ⟨h.A.bel hb, h.B.bel hb, h.dis⟩

theorem Did.foot {tt : TypeId} {w : World} {a : Nat} {sl sl' : Value} (hk : ∀ k, sl'.ownBlock = some k → sl.ownBlock = some k ∨ w.heap.size ≤ k) : ∀ k, Foot a sl' k → Foot a sl k ∨ w.heap.size ≤ k := by
  rintro k (rfl | h)
  · exact .inl (.inl rfl)
  · exact (hk k h).imp .inr id

def deedM (l : List Rule) (x : Deed) : Int × List Rule := if x.drop then dropM l x.at_ else addM l x.r

/-- A deed is done on both. -/
def Both (w : World) (a : Nat) (sa : Value) (b : Nat) (sb : Value) (l' : List Rule) (r : Value × World) : Prop :=
  r.1 = .bool true ∧ Chg (fun k => Foot a sa k ∨ Foot b sb k) w r.2 ∧ ∃ sa' sb', Two r.2 a sa' b sb' l' ∧ (∀ k, Foot a sa' k → Foot a sa k ∨ w.heap.size ≤ k) ∧ ∀ k, Foot b sb' k → Foot b sb k ∨ w.heap.size ≤ k

theorem both_of {w w1 w2 w3 : World} {a b : Nat} {sa sb sa' sb' : Value} {l l' : List Rule} (h : Two w a sa b sb l) (hb : Bel w w1) (c2 : Chg (Foot a sa) w1 w2) (o2 : Obj 60 w2 a sa' l') (k2 : ∀ k, sa'.ownBlock = some k → sa.ownBlock = some k ∨ w1.heap.size ≤ k)
    (c3 : Chg (Foot b sb) w2 w3) (o3 : Obj 71 w3 b sb' l') (k3 : ∀ k, sb'.ownBlock = some k → sb.ownBlock = some k ∨ w2.heap.size ≤ k) : Both w a sa b sb l' (.bool true, w3) := by
  have f2 := Did.foot (tt := 60) (a := a) k2
  have f3 := Did.foot (tt := 71) (a := b) k3
  have s1 := hb.size
  have s2 := c2.size
  have la := h.A.lt
  have lb := h.B.lt
  have la' := o2.lt
  refine ⟨rfl, (hb.thenChg (c2.mono fun k _ hk => .inl hk)).trans (c3.mono fun k _ hk => .inr hk) fun _ _ h => h, sa', sb', ⟨o2.keep c3 fun k hk hf => ?_, o3, fun k hk hf => ?_⟩, fun k hk => (f2 k hk).imp id fun h => by omega, fun k hk => (f3 k hk).imp id fun h => by omega⟩
  · rcases f2 k hk with h1 | h1
    · exact h.dis k h1 hf
    · have := lb k hf; omega
  · rcases f2 k hk with h1 | h1 <;> rcases f3 k hf with h2 | h2
    · exact h.dis k h1 h2
    · have := la k h1; omega
    · have := lb k h2; omega
    · have := la' k hk; omega

theorem k25 {w : World} {a b : Nat} {sa sb : Value} {l : List Rule} {x : Deed} (h : Two w a sa b sb l) (hx : x.ok) :
    Brings (Xcall Try.prog (Value.func (Fn.func 25) #[] #[]) #[.pointer (some ⟨a, 0, none⟩), .pointer (some ⟨b, 0, none⟩), x.v] w) (Both w a sa b sb (deedM l x).2) := by
  refine e25 ?_
  unfold s25 deedM
  have A := x.new w
  have hb : Bel w (w.alloc (.cells x.cs.toArray 56)) := (Bel.refl w).alloc _
  have nf : ∀ {p : Nat} {s : Value} (tt : TypeId) (_ : Obj tt w p s l), ¬ Foot p s w.heap.size := fun tt ho hf => by have := ho.lt _ hf; omega
  have na := nf 60 h.A
  have nb := nf 71 h.B
  rw [x.box]
  simp only [go_sem, Deed.b1 A]
  have A : CellsAt x.cs (w.alloc (.cells x.cs.toArray 56)).drew w.heap.size 0 := A.bel (Bel.refl _).drew
  have hb := hb.drew
  generalize (w.alloc (.cells x.cs.toArray 56)).drew = w1 at A hb
  generalize w.heap.size = q at A na nb
  have h1 := h.bel hb
  refine .cond (fun hd => ?_) (fun hd => ?_)
  · simp only [hd, if_true, Deed.b2 A, go_sem]
    refine (k20 h1.A).bind ?_
    rintro ⟨_, w2⟩ ⟨e1, c2, sa', o2, k2⟩
    simp only at e1 c2 o2
    subst e1
    have A2 := A.chg c2 na
    simp only [Deed.b2 A2, go_sem]
    refine (k39 (h1.B.keep c2 fun k hk hf => h1.dis k hf hk)).bind ?_
    rintro ⟨_, w3⟩ ⟨e1, c3, sb', o3, k3⟩
    simp only at e1 c3 o3
    subst e1
    simp only [go_sem, beq_self_eq_true, Deed.b2 A2, eq_self, and_self]
    exact .ret (both_of h hb c2 o2 k2 c3 o3 k3)
  · simp only [hd, Bool.false_eq_true, if_false, Rule.all (Deed.in0 A), go_sem]
    refine (k12 h1.A hx.1).bind ?_
    rintro ⟨_, w2⟩ ⟨e1, c2, sa', o2, k2⟩
    simp only at e1 c2 o2
    subst e1
    have A2 := A.chg c2 na
    simp only [Rule.all (Deed.in0 A2), go_sem]
    refine (k40 (h1.B.keep c2 fun k hk hf => h1.dis k hf hk) hx.1).bind ?_
    rintro ⟨_, w3⟩ ⟨e1, c3, sb', o3, k3⟩
    simp only at e1 c3 o3
    subst e1
    simp only [go_sem, beq_self_eq_true, Rule.all (Deed.in0 A2), eq_self, and_self]
    exact .ret (both_of h hb c2 o2 k2 c3 o3 k3)

/-- The rules behind deeds. -/
def deedsM (l : List Rule) (ds : List Deed) : List Rule := ds.foldl (fun l x => (deedM l x).2) l

theorem inf56' : ∃ i, Try.prog.info? 56 = some i ∧ i.size = 10 := inf56
theorem und35 : Try.prog.underlying 35 = some (.slice 56) := by kernel_rfl

/-- Two new objects behind deeds. -/
def Played (w : World) (l : List Rule) (r : Value × World) : Prop :=
  ∃ a sa b sb, r.1 = .tuple #[.pointer (some ⟨a, 0, none⟩), .pointer (some ⟨b, 0, none⟩), .bool true] ∧ Bel w r.2 ∧ Two r.2 a sa b sb l ∧ (∀ k, Foot a sa k → w.heap.size ≤ k) ∧ ∀ k, Foot b sb k → w.heap.size ≤ k

theorem k17 {w : World} {s : Value} {ds : List Deed} (hv : View Deed.cs 10 w s ds) (hok : ∀ x ∈ ds, x.ok) : Brings (Xcall Try.prog (Value.func (Fn.func 17) #[] #[]) #[s] w) (Played w (deedsM [] (ds.take 60))) := by
  refine e17 ?_
  unfold s17
  refine k11.bind ?_
  rintro ⟨_, w1⟩ ⟨a, sa, h1, b1, oa, fa⟩
  simp only at h1 b1 oa
  subst h1
  simp only
  refine k30.bind ?_
  rintro ⟨_, w2⟩ ⟨b, sb, h1, b2, ob, fb⟩
  simp only at h1 b2 ob
  subst h1
  simp only
  have T0 : Two w2 a sa b sb [] := ⟨oa.bel b2, ob, fun k hk hf => by have := oa.lt k hk; have := fb k hf; omega⟩
  have s1 := b1.size
  have h63 := hv.small
  simp only [maxLen] at h63
  refine Brings.loop (fun m xs w' => ∃ (i : Nat) (ta tb : Value), xs = [s, .pointer none, .pointer none, .bool false, .pointer (some ⟨a, 0, none⟩), .pointer (some ⟨b, 0, none⟩), .int .i64 i] ∧ i ≤ ds.length ∧ i ≤ 60 ∧ m = 60 - i ∧ Bel w w' ∧ Two w' a ta b tb (deedsM [] (ds.take i)) ∧ (∀ k, Foot a ta k → w.heap.size ≤ k) ∧ ∀ k, Foot b tb k → w.heap.size ≤ k) ?_ 60 _ _
    ⟨0, sa, sb, rfl, by omega, by omega, by omega, b1.trans b2, by simpa [deedsM] using T0, fa, fun k hk => by have := fb k hk; omega⟩
  rintro m xs w' ⟨i, ta, tb, rfl, hi, hi60, hm, hb, T, ha', hb'⟩
  simp only [s17B0, hv.len und35, go_sem]
  have fin : ¬ (i < ds.length ∧ i < 60) → Brings (s17R0 (.exit 0) [s, .pointer none, .pointer none, .bool false, .pointer (some ⟨a, 0, none⟩), .pointer (some ⟨b, 0, none⟩), .int .i64 i] w') (Played w (deedsM [] (ds.take 60))) := fun hn => by
    have : ds.take 60 = ds.take i := by
      rcases Nat.lt_or_ge i 60 with h | h
      · have : i = ds.length := by omega
        subst this
        rw [List.take_length, List.take_of_length_le (by omega)]
      · rw [show i = 60 by omega]
    rw [this]
    exact .ret ⟨a, ta, b, tb, rfl, hb, T, ha', hb'⟩
  by_cases h1 : i < ds.length
  · have e1 : decide ((i : Int) < ds.length) = true := by rw [decide_eq_true_iff]; omega
    by_cases h2 : i < 60
    · have e2 : decide ((i : Int) < 60) = true := by rw [decide_eq_true_iff]; omega
      simp only [e1, e2, go_sem]
      obtain ⟨t, ht, hts⟩ := inf56
      obtain ⟨x, g, o, hx, _, hix, hc⟩ := (hv.bel hb).get und35 ht hts (n := i) (by omega) (by omega)
      simp only [Int.toNat_natCast] at hx
      simp only [hix, Deed.all hc, go_sem]
      refine (k25 T (hok x (List.mem_of_getElem? hx))).bind ?_
      rintro ⟨_, w3⟩ ⟨e3, c3, ta', tb', T3, f3, g3⟩
      simp only at e3 c3 T3
      subst e3
      have sz := hb.size
      simp only [go_sem, Bool.not_true]
      refine .ret (.inl ⟨rfl, 60 - (i + 1), by omega, i + 1, ta', tb', by rw [wrap_i64 (by omega) (by omega)]; rfl, by omega, by omega, rfl, ?_, ?_, ?_, ?_⟩)
      · refine (hb.thenChg c3).bel fun k hk h => ?_
        rcases h with h | h
        · have := ha' k h; omega
        · have := hb' k h; omega
      · have : ds.take (i + 1) = ds.take i ++ [x] := by rw [List.take_add_one, hx]; rfl
        rw [this]
        unfold deedsM at T3 ⊢
        rw [List.foldl_append]
        exact T3
      · intro k hk
        rcases f3 k hk with h | h
        · exact ha' k h
        · omega
      · intro k hk
        rcases g3 k hk with h | h
        · exact hb' k h
        · omega
    · have e2 : decide ((i : Int) < 60) = false := by rw [decide_eq_false_iff_not]; omega
      simp only [e1, e2, go_sem]
      exact .ret (.inr ⟨by simp, fin (by omega)⟩)
  · have e1 : decide ((i : Int) < ds.length) = false := by rw [decide_eq_false_iff_not]; omega
    simp only [e1, go_sem]
    exact .ret (.inr ⟨by simp, fin (by omega)⟩)

end Go.Proofs.Ytiioaklogbjhhaa
