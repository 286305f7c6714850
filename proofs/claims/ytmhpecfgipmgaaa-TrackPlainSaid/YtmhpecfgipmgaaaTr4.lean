/- What the reference's Next comes to. -/
import Derived.Test.YtmhpecfgipmgaaaTr3
namespace Go.Proofs.Ytmhpecfgipmgaaa
open Go Go.Ev
open Go.Proofs

theorem band_def (a b : Int) : iand .u8 a b = band a b := rfl
theorem has_def (a b : Int) : (band a b != 0) = has a b := rfl

def beginsR (n : Int) : Bool := has n 2 && band n 21 == 0
theorem k16 {n : Int} {w : World} : Brings (Xcall Try.prog (Value.func (Fn.func 16) #[] #[]) #[.int .u8 n] w) (fun r => r = (.bool (beginsR n), w)) := by
  refine e16 ?_
  unfold beginsR
  simp only [s16, go_sem, band_def, has_def]
  cases has n 2 <;> simp only [go_sem, band_def] <;> exact .ret (by simp)

/-- The document's answer. -/
def refM (s : Int) (back rst syn fin ack beg : Bool) : Int × Bool :=
  if syn && fin && !rst then (0, false) else
  if s == 0 || s == 7 then
    if !back && beg then (1, true) else if s == 7 && rst then (7, true) else (0, false)
  else if decide (s < 1) || decide (6 < s) then (0, false) else
  if rst then (7, true) else
  if syn then
    if s == 1 && !back && beg then (1, true) else if s == 1 && back then (2, true) else if s == 2 then (2, true) else if s == 6 && !back && beg then (1, true) else (0, false)
  else if fin then
    if s == 2 || s == 3 then (4, true) else if s == 4 || s == 5 then (5, true) else if s == 6 then (6, true) else (0, false)
  else if ack then
    if s == 2 || s == 3 then (3, true) else if s == 4 then (4, true) else if s == 5 || s == 6 then (6, true) else (0, false)
  else (0, false)

set_option maxHeartbeats 8000000 in
theorem k13 {s n : Int} {back : Bool} {w : World} : Brings (Xcall Try.prog (Value.func (Fn.func 13) #[] #[]) #[.int .i64 s, .bool back, .int .u8 n] w)
    (fun r => r = (.tuple #[.int .i64 (refM s back (has n 4) (has n 2) (has n 1) (has n 16) (beginsR n)).1, .bool (refM s back (has n 4) (has n 2) (has n 1) (has n 16) (beginsR n)).2], w)) := by
  refine e13 ?_
  have hk := k16 (n := n) (w := w)
  unfold s13
  simp only [go_sem, band_def, has_def]
  generalize has n 4 = rst
  generalize has n 2 = syn
  generalize has n 1 = fin
  generalize has n 16 = ack
  generalize beginsR n = beg at hk
  obtain ⟨r, hr, rfl⟩ := hk
  unfold refM
  have h7 : (s == 0) = true ∨ (s == 0) = false := by cases s == 0 <;> simp
  rcases h7 with h0 | h0
  · have : s = 0 := by simpa using h0
    subst this
    cases syn <;> cases fin <;> cases rst <;> cases back <;> cases beg <;> simp [go_sem, hr] <;> exact .ret rfl
  cases e7 : s == 7
  · cases el : decide (s < 1) || decide (6 < s)
    · have hs : s = 1 ∨ s = 2 ∨ s = 3 ∨ s = 4 ∨ s = 5 ∨ s = 6 := by
        simp at el h0 e7; omega
      rcases hs with rfl | rfl | rfl | rfl | rfl | rfl <;> cases syn <;> cases fin <;> cases rst <;> cases back <;> cases beg <;> cases ack <;> simp [go_sem, hr, s13M0, s13M1, s13M2] <;> exact .ret rfl
    · cases el1 : decide (s < 1)
      · rw [el1, Bool.false_or] at el
        cases syn <;> cases fin <;> cases rst <;> simp only [go_sem, h0, e7, el1, el, Bool.not_false, Bool.not_true] <;> exact .ret (by simp)
      · cases syn <;> cases fin <;> cases rst <;> simp only [go_sem, h0, e7, el1, Bool.not_false, Bool.not_true] <;> exact .ret (by simp)
  · have : s = 7 := by simpa using e7
    subst this
    cases syn <;> cases fin <;> cases rst <;> cases back <;> cases beg <;> simp [go_sem, hr] <;> exact .ret rfl

end Go.Proofs.Ytmhpecfgipmgaaa
