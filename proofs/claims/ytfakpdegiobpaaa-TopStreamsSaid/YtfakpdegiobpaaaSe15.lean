/- New, Len, Fork; Find, of both. -/
import Derived.Test.YtfakpdegiobpaaaSe14
namespace Go.Proofs.Ytfakpdegiobpaaa
open Go Go.Ev Go.RowKit
open Go.Proofs

theorem build66n (w : World) : Qbuild Try.prog 66 #[] w = some (.agg #[.slice none 0 0]) := by kernel_rfl
theorem build74n (w : World) : Qbuild Try.prog 74 #[] w = some (.agg #[.slice none 0 0]) := by kernel_rfl
theorem build66 (x : Option Addr) (n c : Nat) (w : World) : Qbuild Try.prog 66 #[(0, .slice x n c)] w = some (.agg #[.slice x n c]) := by kernel_rfl

theorem k19 {w : World} : Brings (Xcall Try.prog (Value.func (Fn.func 19) #[] #[]) #[] w) (fun r => ∃ b, r.1 = .pointer (some ⟨b, 0, none⟩) ∧ Bel w r.2 ∧ St r.2 b (.slice none 0 0) [] [] ∧ w.heap.size ≤ b) := by
  refine e19 ?_
  unfold s19
  simp only [build66n, go_sem]
  exact .ret ⟨w.heap.size, rfl, (Bel.refl w).alloc _, ⟨(MapKept.heap_alloc w _).1, World.ownsRow_nil _ 0 63 5, (fun h => by cases h), fun z hz => by simp at hz, rfl, by simp⟩, Nat.le_refl _⟩
theorem k27 {w : World} : Brings (Xcall Try.prog (Value.func (Fn.func 27) #[] #[]) #[] w) (fun r => ∃ b, r.1 = .pointer (some ⟨b, 0, none⟩) ∧ Bel w r.2 ∧ Rf r.2 b (.slice none 0 0) [] [] ∧ w.heap.size ≤ b) := by
  refine e27 ?_
  unfold s27
  simp only [build74n, go_sem]
  exact .ret ⟨w.heap.size, rfl, (Bel.refl w).alloc _, ⟨(MapKept.heap_alloc w _).1, World.ownsRow_nil _ 0 76 3, (fun h => by cases h), fun z hz => by simp at hz, rfl, by simp⟩, Nat.le_refl _⟩

theorem k21 {w : World} {a : Nat} {sl : Value} {Z : List (Pt × List By)} {l : List M} (h : St w a sl Z l) : Brings (Xcall Try.prog (Value.func (Fn.func 21) #[] #[]) #[.pointer (some ⟨a, 0, none⟩)] w) (fun r => r = (.int .i64 l.length, w)) := by
  refine e21 ?_
  unfold s21
  simp only [go_sem, Qb_eqlP (P := Try.prog) (t := 24) (e := 66) ptr24, Option.isNone_some, h.ptr (Bel.refl _), h.lenq]
  exact .ret rfl
theorem k36 {w : World} {a : Nat} {sl : Value} {Z : List (RPt × List By)} {l : List M} (h : Rf w a sl Z l) : Brings (Xcall Try.prog (Value.func (Fn.func 36) #[] #[]) #[.pointer (some ⟨a, 0, none⟩)] w) (fun r => r = (.int .i64 l.length, w)) := by
  refine e36 ?_
  unfold s36
  simp only [go_sem, Qb_eqlP (P := Try.prog) (t := 25) (e := 74) ptr25, Option.isNone_some, h.ptr (Bel.refl _), h.lenq]
  exact .ret rfl

/-- A Fork: the same parts, with the same texts, in a slice of its own. -/
theorem k24 {w : World} {a : Nat} {sl : Value} {Z : List (Pt × List By)} {l : List M} (h : St w a sl Z l) : Brings (Xcall Try.prog (Value.func (Fn.func 24) #[] #[]) #[.pointer (some ⟨a, 0, none⟩)] w)
    (fun r => ∃ b sm, r.1 = .pointer (some ⟨b, 0, none⟩) ∧ Bel w r.2 ∧ St r.2 b sm Z l ∧ ∀ k, Foot b sm k → w.heap.size ≤ k) := by
  refine e24 ?_
  unfold s24
  have hm := h.most
  simp only [go_sem, Qb_eqlP (P := Try.prog) (t := 24) (e := 66) ptr24, Option.isNone_some, h.ptr (Bel.refl _)]
  refine (Pt.k39 h.view (by rw [List.length_map, h.len]; omega)).bind ?_
  rintro ⟨v, w'⟩ ⟨b1, o1, f1⟩
  simp only at b1 o1 f1 ⊢
  obtain ⟨x, n, c, rfl⟩ := Pt.owns_slice o1
  simp only [build66, go_sem]
  have b2 : Bel w' (w'.alloc (.cells #[.slice x n c] 66)) := (Bel.refl _).alloc _
  have s1 := b1.size
  refine .ret ⟨w'.heap.size, _, rfl, b1.trans b2, ⟨(MapKept.heap_alloc w' _).1, (Chg.of_bel b2 fun _ => False).owns o1 fun _ _ f => f, fun e => ?_, fun z hz => ?_, h.tells, h.most⟩, ?_⟩
  · have := (o1.lt _ e).2
    omega
  · obtain ⟨q1, q2, q3⟩ := h.texts z hz
    refine ⟨q1.chg (.of_bel (b1.trans b2) fun _ => False) fun _ _ f => f, fun e => ?_, fun k hk e => ?_⟩
    · have := q1.lt e
      omega
    · have := q1.lt hk
      have := f1 k e
      omega
  · rintro k (rfl | hk)
    · exact s1
    · exact f1 k hk

/-! ## Find -/

def findM (l : List M) (start was : Int) : Option (List By) := (l.find? fun p => p.start == start && p.was == was).map (·.bs)
/-- Parts as they are added. -/
def Fine (l : List M) : Prop := ∀ p ∈ l, 0 ≤ p.start ∧ p.start < 4294967296 ∧ 1 ≤ p.was ∧ p.was ≤ 128 ∧ 1 ≤ p.bs.length ∧ p.bs.length ≤ 128

/-- A text and whether there is one. -/
def Texted (w : World) (t : Option (List By)) (r : Value × World) : Prop := Bel w r.2 ∧ ∃ v, r.1 = .tuple #[v, .bool t.isSome] ∧ OwnB r.2 v (t.getD []) ∧ ∀ k, v.ownBlock = some k → w.heap.size ≤ k

theorem texted_none {w w' : World} (hb : Bel w w') : Texted w none (.tuple #[.slice none 0 0, .bool false], w') :=
  ⟨hb, _, rfl, World.ownsRow_nil w' 0 5 1, fun k hk => by cases hk⟩

def Holds (f : Value) (P : Pt → Bool) (w : World) : Prop := ∀ x w', Bel w w' → Brings (Xcall Try.prog f #[x.v] w') fun r => r.1 = .bool (P x) ∧ Bel w' r.2
def askP (start was : Int) (x : Pt) : Bool := x.start == start && x.end_ == (start + was) % 4294967296

theorem h38 {w : World} {start was : Int} {p q : Nat} (hp : w.cell? ⟨p, 0, none⟩ = some (.int .u32 start)) (hq : w.cell? ⟨q, 0, none⟩ = some (.int .i64 was)) : Holds (.func (.func 38) #[] #[.pointer (some ⟨p, 0, none⟩), .pointer (some ⟨q, 0, none⟩)]) (askP start was) w := by
  intro x w' hb
  refine e38 ?_
  unfold s38 askP
  have A := x.new w'
  have hb1 : Bel w' (w'.alloc (.cells x.cs.toArray 63)) := (Bel.refl w').alloc _
  rw [x.box]
  simp only [go_sem]
  generalize w'.alloc (.cells x.cs.toArray 63) = w1 at A hb1
  have P := (hb.trans hb1).cell_some hp
  have Q := (hb.trans hb1).cell_some hq
  simp only [Pt.b0 A, Qload_cell one23 P, go_sem]
  cases x.start == start <;> simp only [go_sem, Pt.b1 A, Qload_cell one23 P, Qload_cell one3 Q, Bool.false_and, Bool.true_and]
  · exact .ret ⟨rfl, hb1⟩
  · rw [Qconv_int (k := .u32) (by kernel_rfl)]
    simp only [u32w, go_sem]
    rw [show (start + was % 4294967296) % 4294967296 = (start + was) % 4294967296 by omega]
    exact .ret ⟨rfl, hb1⟩

/-- The place of the first of which something holds; -1: there is none. -/
def idxM (P : Pt → Bool) (l : List Pt) : Int := match l.findIdx? P with | some i => i | none => -1
theorem idx_at {P : Pt → Bool} {l : List Pt} {i : Nat} {x : Pt} (hx : l[i]? = some x) (hp : P x = true) (hn : ∀ y ∈ l.take i, P y = false) : idxM P l = i := by
  obtain ⟨hi, he⟩ := List.getElem?_eq_some_iff.1 hx
  have : l.findIdx? P = some i := by
    rw [List.findIdx?_eq_some_iff_getElem]
    refine ⟨hi, by rw [he]; exact hp, fun j hj => ?_⟩
    have := hn l[j] (List.mem_take_iff_getElem.2 ⟨j, by omega, rfl⟩)
    simpa using this
  unfold idxM
  rw [this]
theorem idx_none {P : Pt → Bool} {l : List Pt} (hn : ∀ y ∈ l, P y = false) : idxM P l = -1 := by
  have : l.findIdx? P = none := by
    rw [List.findIdx?_eq_none_iff]
    exact fun x hx => hn x hx
  unfold idxM
  rw [this]
theorem k37 {s f : Value} {l : List Pt} {P : Pt → Bool} {w : World} (hv : View Pt.cs 5 w s l) (hf : Holds f P w) : Brings (Xcall Try.prog (Value.func (Fn.func 37) #[] #[]) #[s, f] w) (fun r => r.1 = .int .i64 (idxM P l) ∧ Bel w r.2) := by
  refine e37 ?_
  unfold s37
  simp only [go_sem, hv.len Pt.und64]
  have hsm := hv.small
  simp only [maxLen] at hsm
  refine Brings.loop (fun m xs w' => ∃ i : Nat, xs = [s, f, .int .i64 0, .int .i64 l.length, .int .i64 i] ∧ i ≤ l.length ∧ m = l.length - i ∧ Bel w w' ∧ ∀ y ∈ l.take i, P y = false) ?_ l.length _ _ ⟨0, rfl, by omega, by omega, Bel.refl _, by simp⟩
  rintro m xs w' ⟨i, rfl, hi, hm, hb, hne⟩
  simp only [s37B0, go_sem]
  refine .cond (fun hlt => ?_) (fun hlt => ?_)
  · have hlt : (i : Int) < l.length := by simpa using hlt
    obtain ⟨x, g, o, hx, _, hix, hc⟩ := Pt.getR (hv.bel hb) (n := i) (by omega) hlt
    simp only [Int.toNat_natCast] at hx
    simp only [hix, Pt.all hc, go_sem]
    refine (hf x w' hb).bind ?_
    rintro ⟨_, w2⟩ ⟨h1, b2⟩
    simp only at h1 b2
    subst h1
    refine .cond (fun ht => ?_) (fun hff => ?_)
    · exact .ret (.inr ⟨by simp, .ret ⟨by rw [idx_at hx ht hne], hb.trans b2⟩⟩)
    · exact .ret (.inl ⟨rfl, l.length - (i + 1), by omega, i + 1, by rw [wrap_i64 (by omega) (by omega)]; rfl, by omega, rfl, hb.trans b2, take_none hx hff hne⟩)
  · have hlt : ¬ (i : Int) < l.length := by simpa using hlt
    have : i = l.length := by omega
    subst this
    rw [List.take_length] at hne
    exact .ret (.inr ⟨by simp, .ret ⟨by rw [idx_none hne], hb⟩⟩)

end Go.Proofs.Ytfakpdegiobpaaa
