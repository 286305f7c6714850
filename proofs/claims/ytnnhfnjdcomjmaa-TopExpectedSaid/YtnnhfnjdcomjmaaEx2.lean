/- Books: objects; which expected flows are right. -/
import Derived.Test.YtnnhfnjdcomjmaaFi
import Derived.Test.YtnnhfnjdcomjmaaFe
import Derived.Test.YtnnhfnjdcomjmaaEx1
namespace Go.Proofs.Ytnnhfnjdcomjmaa
open Go Go.Ev Go.RowKit
open Go.Proofs

/-- A book: a variable that holds a slice of its own. -/
structure Bk (tt : TypeId) (w : World) (a : Nat) (sl : Value) (l : List Exp) : Prop where
  var : w.heap[a]? = some (.cells #[sl] tt (0, 0))
  owns : w.ownsRow 0 25 9 sl l.length (l.flatMap Exp.cs)
  apart : sl.ownBlock ≠ some a
  oks : ∀ x ∈ l, x.ok
  most : l.length ≤ 32

/-- The blocks of an object. -/
def Foot (a : Nat) (sl : Value) (k : Nat) : Prop := k = a ∨ sl.ownBlock = some k

section bk
variable {tt : TypeId} {w w' : World} {a : Nat} {sl : Value} {l : List Exp}
theorem Bk.keep {S : Nat → Prop} (h : Bk tt w a sl l) (hc : Chg S w w') (hs : ∀ k, Foot a sl k → ¬ S k) : Bk tt w' a sl l :=
  ⟨hc.at_ h.var (hs a (.inl rfl)), hc.owns h.owns fun k hk => hs k (.inr hk), h.apart, h.oks, h.most⟩
theorem Bk.bel (h : Bk tt w a sl l) (hb : Bel w w') : Bk tt w' a sl l := h.keep (.of_bel hb fun _ => False) fun _ _ f => f
theorem Bk.view (h : Bk tt w a sl l) : View Exp.cs 9 w sl l := View.of_owns h.owns (Exp.lens l)
theorem Bk.lt (h : Bk tt w a sl l) : ∀ k, Foot a sl k → k < w.heap.size := by
  rintro k (rfl | hk)
  · exact (Array.getElem?_eq_some_iff.1 h.var).1
  · exact (h.owns.lt k hk).2
theorem Bk.cells (h : Bk tt w a sl l) : w.cell? ⟨a, 0, none⟩ = some sl := cell_at h.var rfl
theorem Bk.ptr (h : Bk tt w a sl l) (hb : Bel w w') : Qload Try.prog 32 (.pointer (some ⟨a, 0, none⟩)) w' = some sl := Qload_cell one32 (hb.cell_some h.cells)
end bk

/-- A deed on a book: what it answers, and what the book is then. -/
def Did (tt : TypeId) (w : World) (a : Nat) (sl : Value) (v : Value) (l' : List Exp) (r : Value × World) : Prop :=
  r.1 = v ∧ Chg (Foot a sl) w r.2 ∧ ∃ sl', Bk tt r.2 a sl' l' ∧ ∀ k, Foot a sl' k → Foot a sl k ∨ w.heap.size ≤ k

/-- The variable of a book gets another slice of its own. -/
theorem Bk.put {tt : TypeId} {w w1 : World} {a : Nat} {sl sl' : Value} {l l' : List Exp} (h : Bk tt w a sl l) (hc : Chg (Foot a sl) w w1) (hva : w1.heap[a]? = some (.cells #[sl] tt (0, 0))) (ho : w1.ownsRow 0 25 9 sl' l'.length (l'.flatMap Exp.cs))
    (hk : ∀ k, sl'.ownBlock = some k → sl.ownBlock = some k ∨ w.heap.size ≤ k) (hok : ∀ x ∈ l', x.ok) (hm : l'.length ≤ 32) :
    Xstore Try.prog 32 (.pointer (some ⟨a, 0, none⟩)) sl' w1 = some (undef, w1.setRow a #[sl']) ∧ Chg (Foot a sl) w (w1.setRow a #[sl']) ∧ Bk tt (w1.setRow a #[sl']) a sl' l' ∧ ∀ k, Foot a sl' k → Foot a sl k ∨ w.heap.size ≤ k := by
  have hap : sl'.ownBlock ≠ some a := fun e => by
    rcases hk a e with h1 | h1
    · exact h.apart h1
    · have := h.lt a (.inl rfl); omega
  refine ⟨store32 hva (owns_slice ho), hc.trans ((setRow_chg a #[sl']).mono fun k _ hk => .inl hk) fun _ _ h => h, ⟨setRow_heap w1 a _ _ tt _ hva, (setRow_chg a #[sl']).owns ho (fun k hk e => hap (by rw [hk, e])), hap, hok, hm⟩, ?_⟩
  rintro k (rfl | h)
  · exact .inl (.inl rfl)
  · exact (hk k h).imp .inr id

/-! ## Which are right -/

def rightM (x : Exp) : Bool :=
  (x.proto == 6 || x.proto == 17 || x.proto == 47) && x.dst != 0 && x.host != 0 && x.dstPort != 0 && x.hostPort != 0 && decide (0 ≤ x.master) && decide (0 ≤ x.deadline) && decide (x.deadline ≤ 1099511627776) && (x.proto == 47 || x.srcPort == 0)

theorem und63 : Try.prog.underlying 63 = some (.slice 5) := by kernel_rfl
theorem inf5 : ∃ i, Try.prog.info? 5 = some i ∧ i.size = 1 := ⟨(Try.prog.info? 5).get (by kernel_rfl), by kernel_rfl, by kernel_rfl⟩
theorem lit63 (w : World) : XbuildSlice Try.prog 63 3 #[(0, .int .u8 6), (1, .int .u8 17), (2, .int .u8 47)] w = some (.slice (some ⟨w.heap.size, 0, none⟩) 3 3, w.alloc (.cells #[.int .u8 6, .int .u8 17, .int .u8 47] 5)) := by kernel_rfl
theorem protos (w : World) : View (fun m => [.int .u8 m]) 1 (w.alloc (.cells #[.int .u8 6, .int .u8 17, .int .u8 47] 5)) (.slice (some ⟨w.heap.size, 0, none⟩) 3 3) [6, 17, 47] :=
  ⟨_, 3, rfl, Nat.le_refl _, by decide, (fun h => by cases h), fun k y hk => ⟨_, 0, rfl, fun j v hj => by
    have hc := (MapKept.heap_alloc w (.cells #[.int .u8 6, .int .u8 17, .int .u8 47] 5)).1
    have hj0 : j = 0 ∧ v = .int .u8 y := by
      cases j with
      | zero => simp at hj; exact ⟨rfl, hj.symm⟩
      | succ j => simp at hj
    obtain ⟨rfl, rfl⟩ := hj0
    match k, hk with
    | 0, hk => simp at hk; subst hk; exact cell_at hc rfl
    | 1, hk => simp at hk; subst hk; exact cell_at hc rfl
    | 2, hk => simp at hk; subst hk; exact cell_at hc rfl⟩⟩

/-- The place of a byte in a slice. -/
theorem k47 {s : Value} {l : List Int} {x : Int} {w : World} (hv : View (fun m => [.int .u8 m]) 1 w s l) : Brings (Xcall Try.prog (Value.func (Fn.func 47) #[] #[]) #[s, .int .u8 x] w)
    (fun r => ∃ n : Int, r.1 = .int .i64 n ∧ decide (0 ≤ n) = decide (x ∈ l) ∧ r.2 = w) := by
  refine e47 ?_
  unfold s47
  simp only [go_sem, hv.len und63]
  have hsm := hv.small
  simp only [maxLen] at hsm
  refine Brings.loop (fun m xs w' => ∃ i : Nat, xs = [s, .int .u8 x, .int .i64 0, .int .i64 l.length, .int .i64 i] ∧ i ≤ l.length ∧ m = l.length - i ∧ w' = w ∧ ∀ j y, j < i → l[j]? = some y → y ≠ x) ?_ l.length _ _ ⟨0, rfl, by omega, by omega, rfl, fun j y h => by omega⟩
  rintro m xs w' ⟨i, rfl, hi, hm, rfl, hne⟩
  simp only [s47B0, go_sem]
  refine .cond (fun hlt => ?_) (fun hlt => ?_)
  · have hlt : (i : Int) < l.length := by simpa using hlt
    obtain ⟨t, ht, hts⟩ := inf5
    obtain ⟨y, g, o, hy, _, hix, hc⟩ := hv.get und63 ht hts (n := i) (by omega) hlt
    simp only [Int.toNat_natCast] at hy
    have hl : Qload Try.prog 5 (.pointer (some ⟨g, o, none⟩)) w' = some (.int .u8 y) := Qload_cell one5 (hc 0 _ rfl)
    simp only [hix, hl, go_sem]
    refine .cond (fun he => ?_) (fun he => ?_)
    · have he : x = y := by simpa using he
      subst he
      refine .ret (.inr ⟨by simp, .ret ⟨i, rfl, ?_, rfl⟩⟩)
      have : x ∈ l := List.mem_of_getElem? hy
      simp [this]
    · have he : ¬ x = y := by simpa using he
      refine .ret (.inl ⟨rfl, l.length - (i + 1), by omega, i + 1, by rw [wrap_i64 (by omega) (by omega)]; rfl, by omega, rfl, rfl, fun j z hj hz => ?_⟩)
      by_cases e : j = i
      · subst e
        rw [hy] at hz; injection hz with hz
        subst hz
        exact fun h => he h.symm
      · exact hne j z (by omega) hz
  · have hlt : ¬ (i : Int) < l.length := by simpa using hlt
    refine .ret (.inr ⟨by simp, .ret ⟨-1, rfl, ?_, rfl⟩⟩)
    have : x ∉ l := fun hx => by
      obtain ⟨j, hj, e⟩ := List.mem_iff_getElem.1 hx
      exact hne j x (by omega) (by rw [List.getElem?_eq_getElem hj, e]) rfl
    simp [this]

theorem k32 {s : Value} {l : List Int} {x : Int} {w : World} (hv : View (fun m => [.int .u8 m]) 1 w s l) : Brings (Xcall Try.prog (Value.func (Fn.func 32) #[] #[]) #[s, .int .u8 x] w) (fun r => r = (.bool (decide (x ∈ l)), w)) := by
  refine e32 ?_
  unfold s32
  refine (k47 hv).bind ?_
  rintro ⟨_, w2⟩ ⟨n, h1, h2, h3⟩
  simp only at h1 h3
  subst h1 h3
  simp only [go_sem, h2]
  exact .ret rfl

theorem known_eq (p : Int) : decide (p ∈ ([6, 17, 47] : List Int)) = (p == 6 || p == 17 || p == 47) := by
  rw [Bool.eq_iff_iff]
  simp [or_assoc]

theorem k14 {x : Exp} {w : World} : Brings (Xcall Try.prog (Value.func (Fn.func 14) #[] #[]) #[x.v] w) (fun r => r.1 = .bool (rightM x) ∧ Bel w r.2) := by
  refine e14 ?_
  unfold s14 rightM
  have A := x.new w
  have hb : Bel w (w.alloc (.cells x.cs.toArray 25)) := (Bel.refl w).alloc _
  rw [x.box]
  simp only [go_sem, lit63]
  generalize w.alloc (.cells x.cs.toArray 25) = w1 at A hb
  generalize w.heap.size = a at A
  have hb1 : Bel w1 (w1.alloc (.cells #[.int .u8 6, .int .u8 17, .int .u8 47] 5)) := (Bel.refl w1).alloc _
  have V := protos w1
  have A := A.bel hb1
  have hb := hb.trans hb1
  clear hb1
  generalize w1.alloc (.cells #[.int .u8 6, .int .u8 17, .int .u8 47] 5) = w2 at A V hb
  generalize w1.heap.size = p at V
  simp only [Exp.b0 A, go_sem]
  refine (k32 V).bind ?_
  rintro _ rfl
  rw [known_eq]
  simp only [Exp.b2 A, go_sem]
  cases c1 : x.dst != 0 <;> simp only [go_sem, Exp.b5 A]
  · cases (x.proto == 6 || x.proto == 17 || x.proto == 47) <;> simp only [go_sem, Bool.false_and, Bool.and_false] <;> exact .ret ⟨rfl, hb⟩
  cases c2 : x.host != 0 <;> simp only [go_sem, Exp.b4 A]
  · cases (x.proto == 6 || x.proto == 17 || x.proto == 47) <;> simp only [go_sem, Bool.false_and, Bool.and_false] <;> exact .ret ⟨rfl, hb⟩
  cases c3 : x.dstPort != 0 <;> simp only [go_sem, Exp.b6 A]
  · cases (x.proto == 6 || x.proto == 17 || x.proto == 47) <;> simp only [go_sem, Bool.false_and, Bool.and_false] <;> exact .ret ⟨rfl, hb⟩
  cases c4 : x.hostPort != 0
  · cases (x.proto == 6 || x.proto == 17 || x.proto == 47) <;> simp only [go_sem, Bool.false_and, Bool.and_false] <;> exact .ret ⟨rfl, hb⟩
  cases c0 : (x.proto == 6 || x.proto == 17 || x.proto == 47) <;> simp only [go_sem, Exp.b7 A, Bool.false_and, Bool.true_and]
  · exact .ret ⟨rfl, hb⟩
  cases decide (0 ≤ x.master) <;> simp only [go_sem, Exp.b8 A, Bool.false_and, Bool.true_and]
  · exact .ret ⟨rfl, hb⟩
  cases decide (0 ≤ x.deadline) <;> simp only [go_sem, Exp.b8 A, Bool.false_and, Bool.true_and]
  · exact .ret ⟨rfl, hb⟩
  cases decide (x.deadline ≤ 1099511627776) <;> simp only [go_sem, Exp.b0 A, Bool.false_and, Bool.true_and]
  · exact .ret ⟨rfl, hb⟩
  cases x.proto == 47 <;> simp only [go_sem, Exp.b3 A, Bool.false_or, Bool.true_or] <;> exact .ret ⟨rfl, hb⟩

theorem k16 {x : Exp} {w : World} : Brings (Xcall Try.prog (Value.func (Fn.func 16) #[] #[]) #[x.v] w) (fun r => r.1 = .bool (rightM x) ∧ Bel w r.2) := by
  refine e16 ?_
  unfold s16 rightM
  have A := x.new w
  have hb : Bel w (w.alloc (.cells x.cs.toArray 25)) := (Bel.refl w).alloc _
  rw [x.box]
  simp only [go_sem]
  generalize w.alloc (.cells x.cs.toArray 25) = w1 at A hb
  generalize w.heap.size = a at A
  simp only [Exp.b0 A, go_sem]
  simp only [bne]
  have fin : ∀ {b : Bool}, rightM x = b → Brings (some (Value.bool b, w1)) (fun r => r.1 = .bool (rightM x) ∧ Bel w r.2) := fun h => .ret ⟨by rw [h], hb⟩
  unfold rightM at fin
  simp only [bne] at fin
  cases p6 : x.proto == 6 <;> cases p17 : x.proto == 17 <;> cases p47 : x.proto == 47 <;> simp only [bne, p6, p17, p47, Bool.not_false, Bool.not_true, go_sem, Exp.b0 A, Exp.b2 A, Bool.or_false, Bool.or_true, Bool.false_or, Bool.true_or, Bool.true_and, Bool.false_and] at fin ⊢
  · exact fin rfl
  all_goals
    cases q2 : x.dst == 0 <;> simp only [q2, Bool.not_false, Bool.not_true, go_sem, Exp.b5 A, Bool.true_and, Bool.false_and] at fin ⊢
    rotate_left
    · exact fin rfl
    cases q5 : x.host == 0 <;> simp only [q5, Bool.not_false, Bool.not_true, go_sem, Exp.b4 A, Bool.true_and, Bool.false_and] at fin ⊢
    rotate_left
    · exact fin rfl
    cases q4 : x.dstPort == 0 <;> simp only [q4, Bool.not_false, Bool.not_true, go_sem, Exp.b6 A, Bool.true_and, Bool.false_and] at fin ⊢
    rotate_left
    · exact fin rfl
    cases q6 : x.hostPort == 0 <;> simp only [q6, Bool.not_false, Bool.not_true, go_sem, Exp.b7 A, Bool.true_and, Bool.false_and] at fin ⊢
    rotate_left
    · exact fin rfl
    cases q7 : decide (0 ≤ x.master) <;> simp only [q7, go_sem, Exp.b8 A, Bool.true_and, Bool.false_and] at fin ⊢
    · exact fin rfl
    cases q8 : decide (0 ≤ x.deadline) <;> simp only [q8, go_sem, Exp.b8 A, Bool.true_and, Bool.false_and] at fin ⊢
    · exact fin rfl
    cases q9 : decide (x.deadline ≤ 1099511627776) <;> simp only [q9, go_sem, Exp.b3 A, Bool.true_and, Bool.false_and] at fin ⊢
    · exact fin rfl
    cases q3 : x.srcPort == 0 <;> simp only [q3, p47, go_sem, Exp.b0 A] at fin ⊢ <;> exact fin rfl

end Go.Proofs.Ytnnhfnjdcomjmaa
