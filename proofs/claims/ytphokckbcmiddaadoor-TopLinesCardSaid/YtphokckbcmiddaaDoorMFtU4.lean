/- Numbers of a stream: how far ahead; parts, as both keep them. -/
import Derived.Test.YtphokckbcmiddaaDoorMFtU3
import Derived.Test.YtphokckbcmiddaaDoorMFtS
namespace Go.Proofs.YtphokckbcmiddaaDoor.Sq
open Go Go.Ev Go.RowKit
open Go.Proofs

set_option maxRecDepth 100000 in
theorem u32w (n : Int) : IntKind.u32.wrap n = n % 4294967296 := by
  unfold IntKind.wrap
  simp [IntKind.signed, IntKind.bits]
set_option maxRecDepth 100000 in
theorem i32w (n : Int) : IntKind.i32.wrap n = (n + 2147483648) % 4294967296 - 2147483648 := by
  unfold IntKind.wrap
  simp [IntKind.signed, IntKind.bits]
  split <;> omega

/-- How far one number is ahead of another. -/
def aheadM (a b : Int) : Int := (a - b + 2147483648) % 4294967296 - 2147483648

set_option maxRecDepth 100000 in
theorem k39 {a b : Int} {w : World} : Brings (Xcall Tryd.prog (Value.func (Fn.func 39) #[] #[]) #[.int .u32 a, .int .u32 b] w) (fun r => r = (.int .i64 (aheadM a b), w)) := by
  refine e39 ?_
  unfold s39
  simp only [go_sem]
  rw [Qconv_int (k := .i32) (by kernel_rfl), u32w, i32w]
  simp only [go_sem]
  rw [Qconv_int (k := .i64) (by kernel_rfl), wrap_i64 (by omega) (by omega)]
  simp only [go_sem]
  refine .ret ?_
  unfold aheadM
  congr 2
  omega

def mayM (n : Int) : Bool := decide (1 ≤ n) && decide (n ≤ 128)
set_option maxRecDepth 100000 in
theorem k37 {n : Int} {w : World} : Brings (Xcall Tryd.prog (Value.func (Fn.func 37) #[] #[]) #[.int .i64 n] w) (fun r => r = (.bool (mayM n), w)) := by
  refine e37 ?_
  unfold s37 mayM
  simp only [go_sem]
  cases decide (1 ≤ n) <;> simp only [go_sem, Bool.false_and, Bool.true_and] <;> exact .ret rfl

/-! ## Parts -/

/-- A part as the document keeps it. -/
structure M where
  start : Int
  was : Int
  bs : List By

def M.end_ (p : M) : Int := (p.start + p.was) % 4294967296
def M.more (p : M) (d : Int) : Int := (d + p.bs.length - p.was) % 4294967296

/-- A part with the differences ahead of it, and behind it. -/
structure C where
  start : Int
  end_ : Int
  ahead : Int
  behind : Int
  bs : List By

def cellsOf : Int → List M → List C
  | _, [] => []
  | d, p :: l => ⟨p.start, p.end_, d, p.more d, p.bs⟩ :: cellsOf (p.more d) l
def diffOf : Int → List M → Int
  | d, [] => d
  | d, p :: l => diffOf (p.more d) l

set_option maxRecDepth 100000 in
theorem cells_len : ∀ (l : List M) (d : Int), (cellsOf d l).length = l.length
  | [], _ => rfl
  | p :: l, d => by simp [cellsOf, cells_len l]
set_option maxRecDepth 100000 in
theorem cells_add : ∀ (l : List M) (d : Int) (p : M), cellsOf d (l ++ [p]) = cellsOf d l ++ [⟨p.start, p.end_, diffOf d l, p.more (diffOf d l), p.bs⟩]
  | [], _, _ => rfl
  | q :: l, d, p => by simp [cellsOf, diffOf, cells_add l]
set_option maxRecDepth 100000 in
theorem diff_add : ∀ (l : List M) (d : Int) (p : M), diffOf d (l ++ [p]) = p.more (diffOf d l)
  | [], _, _ => rfl
  | q :: l, d, p => by simp [diffOf, diff_add l]
set_option maxRecDepth 100000 in
theorem cells_at : ∀ (l : List M) (d : Int) (i : Nat) (p : M), l[i]? = some p → (cellsOf d l)[i]? = some ⟨p.start, p.end_, diffOf d (l.take i), p.more (diffOf d (l.take i)), p.bs⟩
  | [], _, _, _, h => by simp at h
  | q :: l, d, 0, p, h => by
    simp at h; subst h
    simp [cellsOf, diffOf]
  | q :: l, d, i + 1, p, h => by
    simp only [List.getElem?_cons_succ] at h
    simp [cellsOf, diffOf, cells_at l _ i p h]

/-- A text of one's own. -/
def OwnB (w : World) (v : Value) (bs : List By) : Prop := w.ownsRow 0 5 1 v bs.length (bs.flatMap By.cs)
set_option maxRecDepth 100000 in
theorem OwnB.view {w : World} {v : Value} {bs : List By} (h : OwnB w v bs) : View By.cs 1 w v bs := View.of_owns h (By.lens bs)
set_option maxRecDepth 100000 in
theorem OwnB.chg {w w' : World} {v : Value} {bs : List By} {S : Nat → Prop} (h : OwnB w v bs) (hc : Chg S w w') (hs : ∀ k, v.ownBlock = some k → ¬ S k) : OwnB w' v bs := hc.owns h hs
set_option maxRecDepth 100000 in
theorem OwnB.lt {w : World} {v : Value} {bs : List By} (h : OwnB w v bs) {k : Nat} (hk : v.ownBlock = some k) : k < w.heap.size := (World.ownsRow.lt h k hk).2

/-- The stream of the program: its parts in memory, and their texts. -/
structure St (w : World) (a : Nat) (sl : Value) (Z : List (Pt × List By)) (l : List M) : Prop where
  var : w.heap[a]? = some (.cells #[sl] 82 (0, 0))
  owns : w.ownsRow 0 85 5 sl (Z.map (·.1)).length ((Z.map (·.1)).flatMap Pt.cs)
  apart : sl.ownBlock ≠ some a
  texts : ∀ z ∈ Z, OwnB w z.1.text.v z.2 ∧ z.1.text.v.ownBlock ≠ some a ∧ ∀ k, z.1.text.v.ownBlock = some k → sl.ownBlock ≠ some k
  tells : Z.map (fun z => (⟨z.1.start, z.1.end_, z.1.ahead, z.1.behind, z.2⟩ : C)) = cellsOf 0 l
  most : l.length ≤ 8
/-- The blocks that a stream writes to, and those that it reads. -/
def Foot (a : Nat) (sl : Value) (k : Nat) : Prop := k = a ∨ sl.ownBlock = some k
def Reads {α : Type} (t : α → Sl) (Z : List (α × List By)) (k : Nat) : Prop := ∃ z ∈ Z, (t z.1).v.ownBlock = some k

section st
variable {w w' : World} {a : Nat} {sl : Value} {l : List M}
set_option maxRecDepth 100000 in
theorem St.len {Z : List (Pt × List By)} (h : St w a sl Z l) : Z.length = l.length := by
  have := congrArg List.length h.tells
  simpa [cells_len] using this
set_option maxRecDepth 100000 in
theorem St.keep {Z : List (Pt × List By)} {S : Nat → Prop} (h : St w a sl Z l) (hc : Chg S w w') (hs : ∀ k, Foot a sl k → ¬ S k) (ht : ∀ k, Reads Pt.text Z k → ¬ S k) : St w' a sl Z l :=
  ⟨hc.at_ h.var (hs a (.inl rfl)), hc.owns h.owns fun k hk => hs k (.inr hk), h.apart, fun z hz => ⟨(h.texts z hz).1.chg hc fun k hk => ht k ⟨z, hz, hk⟩, (h.texts z hz).2⟩, h.tells, h.most⟩
set_option maxRecDepth 100000 in
theorem St.bel {Z : List (Pt × List By)} (h : St w a sl Z l) (hb : Bel w w') : St w' a sl Z l := h.keep (.of_bel hb fun _ => False) (fun _ _ f => f) fun _ _ f => f
set_option maxRecDepth 100000 in
theorem St.view {Z : List (Pt × List By)} (h : St w a sl Z l) : View Pt.cs 5 w sl (Z.map (·.1)) := View.of_owns h.owns (Pt.lens _)
set_option maxRecDepth 100000 in
theorem St.lt {Z : List (Pt × List By)} (h : St w a sl Z l) : ∀ k, Foot a sl k → k < w.heap.size := by
  rintro k (rfl | hk)
  · exact (Array.getElem?_eq_some_iff.1 h.var).1
  · exact (h.owns.lt k hk).2
set_option maxRecDepth 100000 in
theorem St.cells {Z : List (Pt × List By)} (h : St w a sl Z l) : w.cell? ⟨a, 0, none⟩ = some sl := cell_at h.var rfl

end st

end Go.Proofs.YtphokckbcmiddaaDoor.Sq
