/- What the functions of the package track, and of its reference, come to. -/
import Derived.Test.YtmhpecfgipmgaaaFn
namespace Go.Proofs.Ytmhpecfgipmgaaa
open Go Go.Ev
open Go.Proofs

theorem one5 : one Try.prog 5 = true := by kernel_rfl
theorem one4 : one Try.prog 4 = true := by kernel_rfl

/-- Two bytes' common bits. -/
def band (a b : Int) : Int := iand .u8 a b
/-- Has it this bit? -/
def has (n m : Int) : Bool := band n m != 0

theorem k25 {m n : Int} {p : Addr} {w : World} (hc : w.cell? p = some (.int .u8 n)) :
    Brings (Xcall Try.prog (Value.func (Fn.func 25) #[] #[.pointer (some p)]) #[.int .u8 m] w) (fun r => r = (.bool (has n m), w)) :=
  e25 (by simp only [s25, Qload_cell one5 hc, go_sem]; exact .ret rfl)

def begins (n : Int) : Bool := band n 23 == 2
theorem k15 {n : Int} {w : World} : Brings (Xcall Try.prog (Value.func (Fn.func 15) #[] #[]) #[.int .u8 n] w) (fun r => r = (.bool (begins n), w)) :=
  e15 (by simp only [s15, go_sem]; exact .ret rfl)

/-- What flags tell. -/
def newsM (back : Bool) (n : Int) : Int × Bool :=
  if has n 4 then (1, true) else
  if has n 2 && has n 1 then (0, false) else
  if has n 2 && !back && begins n then (2, true) else
  if has n 2 then (3, true) else
  if has n 1 then (4, true) else
  if has n 16 then (5, true) else (0, true)

theorem k23 {n : Int} {back : Bool} {w : World} : Brings (Xcall Try.prog (Value.func (Fn.func 23) #[] #[]) #[.bool back, .int .u8 n] w)
    (fun r => r.1 = .tuple #[.int .i64 (newsM back n).1, .bool (newsM back n).2] ∧ Bel w r.2) := by
  refine e23 ?_
  simp only [s23, go_sem]
  have hc : (w.alloc (.cells #[.int .u8 n] 5)).cell? ⟨w.heap.size, 0, none⟩ = some (.int .u8 n) := by simp
  have hb : Bel w (w.alloc (.cells #[.int .u8 n] 5)) := (Bel.refl w).alloc _
  generalize w.alloc (.cells #[.int .u8 n] 5) = w1 at hc hb
  unfold newsM
  refine (k25 hc).bind ?_
  rintro _ rfl
  refine .cond (fun h4 => ?_) (fun h4 => ?_)
  · simp only [h4, if_true]; exact .ret ⟨rfl, hb⟩
  simp only [h4, Bool.false_eq_true, if_false]
  refine (k25 hc).bind ?_
  rintro _ rfl
  cases h2 : has n 2 with
  | false =>
    simp only [go_sem]
    refine (k25 hc).bind ?_
    rintro _ rfl
    simp only [h2, go_sem]
    refine (k25 hc).bind ?_
    rintro _ rfl
    simp only [h2, go_sem]
    refine (k25 hc).bind ?_
    rintro _ rfl
    refine .cond (fun h1 => ?_) (fun h1 => ?_)
    · simp [h1]; exact .ret ⟨rfl, hb⟩
    simp only [h1]
    refine (k25 hc).bind ?_
    rintro _ rfl
    refine .cond (fun h1 => ?_) (fun h1 => ?_)
    · simp [h1]; exact .ret ⟨rfl, hb⟩
    · simp [h1]; exact .ret ⟨rfl, hb⟩
  | true =>
    simp only [go_sem]
    refine (k25 hc).bind ?_
    rintro _ rfl
    simp only [go_sem]
    refine .cond (fun h1 => ?_) (fun h1 => ?_)
    · simp only [h1, Bool.true_and, if_true]; exact .ret ⟨rfl, hb⟩
    simp only [h1, Bool.true_and, Bool.false_eq_true, if_false]
    refine (k25 hc).bind ?_
    rintro _ rfl
    simp only [h2, go_sem]
    cases back with
    | true =>
      simp only [Bool.not_true, go_sem]
      refine (k25 hc).bind ?_
      rintro _ rfl
      simp only [h2, go_sem]
      exact .ret ⟨rfl, hb⟩
    | false =>
      simp only [Bool.not_false, Qload_cell one5 hc, go_sem]
      refine k15.bind ?_
      rintro _ rfl
      simp only [go_sem]
      refine .cond (fun h1 => ?_) (fun h1 => ?_)
      · simp only [h1, Bool.true_and, if_true]; exact .ret ⟨rfl, hb⟩
      simp only [h1, Bool.true_and, Bool.false_eq_true, if_false]
      refine (k25 hc).bind ?_
      rintro _ rfl
      simp only [h2, go_sem]
      exact .ret ⟨rfl, hb⟩

end Go.Proofs.Ytmhpecfgipmgaaa
