/- A line replaced, by both, in whichever order the texts are made. -/
import Derived.Test.YtphokckbcmiddaaDoorMFt49
import Derived.Test.YtphokckbcmiddaaDoorMFt29
namespace Go.Proofs.YtphokckbcmiddaaDoor
open Go Go.Ev Go.RowKit
open Go.Proofs

noncomputable def ops6 : Array Oper := opsOf (nav [1, 1, 0] (bodyOf Tryd.f6))
noncomputable def o6 (i : Nat) : Oper := (ops6[i]?).getD default
theorem size6 : ops6.size = 15 := by kernel_rfl
def edgeTo (o : Oper) (i : Nat) : Bool := o.after.any fun e => Region.binds .any e && e.on == i
theorem edge_S {o : Oper} {i : Nat} {S : Nat → Bool} (h : edgeTo o i = true) (hS : ∀ e ∈ o.after, Region.binds .any e = true → S e.on = true) : S i = true := by
  unfold edgeTo at h
  rw [Array.any_eq_true] at h
  obtain ⟨k, hk, hb⟩ := h
  rw [Bool.and_eq_true] at hb
  have := hS o.after[k] (Array.getElem_mem hk) hb.1
  rw [← eq_of_beq hb.2]; exact this
theorem eval_tmp (a : Act) (t : Nat) : a.eval (.tmp t) = a.tmps.getD t undef := rfl
theorem getD_set {xs : Array Value} {d t : Nat} {v : Value} : (xs.setIfInBounds d v).getD t undef = if t = d then (if d < xs.size then v else undef) else xs.getD t undef := by
  simp only [Array.getD_eq_getD_getElem?, Array.getElem?_setIfInBounds]
  by_cases h : d = t
  · subst h
    by_cases hd : d < xs.size <;> simp [hd]
  · rw [if_neg h, if_neg (fun e => h e.symm)]
theorem put_other {a : Act} {d t : Nat} {v : Value} (h : t ≠ d) : (a.put (some d) v).tmps.getD t undef = a.tmps.getD t undef := by
  show (a.tmps.setIfInBounds d v).getD t undef = _
  rw [getD_set, if_neg h]
theorem put_same {a : Act} {d : Nat} {v : Value} (h : d < a.tmps.size) : (a.put (some d) v).tmps.getD d undef = v := by
  show (a.tmps.setIfInBounds d v).getD d undef = _
  rw [getD_set, if_pos rfl, if_pos h]
theorem put_size {a : Act} {d : Option Nat} {v : Value} : (a.put d v).tmps.size = a.tmps.size := by cases d <;> simp [Act.put]

def dst6 (i : Nat) : Nat := [15, 16, 17, 18, 19, 20, 21, 22, 23, 24, 25, 26, 27, 28, 6].getD i 0
theorem dst_inj : ∀ i j : Fin 15, dst6 i.val = dst6 j.val → i = j := by decide +kernel
theorem dst_lo : ∀ i : Fin 15, dst6 i.val < 29 ∧ (dst6 i.val < 15 → dst6 i.val = 6) := by decide +kernel

/-- What each operation tells. -/
def tell6 (s t : Value) (f : Fnd) (g : Rfd) (R : List Int) (w : World) (k : Nat) (v : Value) : Prop :=
  if k = 2 ∨ k = 7 then v = s else if k = 4 ∨ k = 9 then v = t else if k = 3 then v = f.v else if k = 8 then v = g.v
  else if k = 5 ∨ k = 10 then Vw w v R else if k = 6 ∨ k = 11 then v = .string (strOfNums R) else v = .bool true
theorem tell_bel {s t : Value} {f : Fnd} {g : Rfd} {R : List Int} {w w' : World} {k : Nat} {v : Value} (hb : Bel w w') (h : tell6 s t f g R w k v) : tell6 s t f g R w' k v := by
  unfold tell6 at h ⊢
  repeat' split at h
  all_goals first | (simp_all; done) | skip
  all_goals simp_all
  all_goals exact View.bel h hb

structure J6 (s t : Value) (f : Fnd) (g : Rfd) (R : List Int) (a0 : Act) (w0 : World) (S : Nat → Bool) (a : Act) (w : World) : Prop where
  size : a.tmps.size = 29
  keep : ∀ j, j < 15 → j ≠ 6 → a.tmps.getD j undef = a0.tmps.getD j undef
  bel : Bel w0 w
  tells : ∀ k, k < 15 → S k = true → tell6 s t f g R w k (a.tmps.getD (dst6 k) undef)

theorem J6.step {s t : Value} {f : Fnd} {g : Rfd} {R : List Int} {a0 : Act} {w0 : World} {S : Nat → Bool} {a : Act} {w w' : World} (h : J6 s t f g R a0 w0 S a w) {i : Nat} (hi : i < 15) (hb : Bel w w') {v : Value} (hv : tell6 s t f g R w' i v) :
    J6 s t f g R a0 w0 (fun j => S j || j == i) (a.put (some (dst6 i)) v) w' := by
  have hd := dst_lo ⟨i, hi⟩
  refine ⟨by rw [put_size]; exact h.size, fun j hj h6 => ?_, h.bel.trans hb, fun k hk hs => ?_⟩
  · rw [put_other (fun e => by subst e; exact h6 (hd.2 hj))]
    exact h.keep j hj h6
  · by_cases e : k = i
    · subst e
      rw [put_same (by rw [h.size]; exact hd.1)]
      exact hv
    · have h1 : (k == i) = false := by simpa using e
      simp only [h1, Bool.or_false] at hs
      rw [put_other (fun e2 => e (by have := dst_inj ⟨k, hk⟩ ⟨i, hi⟩ e2; simpa using this))]
      exact tell_bel hb (h.tells k hk hs)

theorem gs6 (a : Act) : gslot ops6 a 1 = a.tmps.getD 16 undef := by kernel_rfl
theorem q0 : (o6 0).op = .call { callee := .value (.func 12), args := #[], argTypes := #[] } ∧ (o6 0).dst = some (dst6 0) ∧ (o6 0).guard = none := ⟨by kernel_rfl, by kernel_rfl, by kernel_rfl⟩
theorem q1 : (o6 1).op = .move (.tmp 15) ∧ (o6 1).dst = some (dst6 1) ∧ (o6 1).guard = none ∧ edgeTo (o6 1) 0 = true := ⟨by kernel_rfl, by kernel_rfl, by kernel_rfl, by kernel_rfl⟩
theorem q2 : (o6 2).op = .move (.tmp 0) ∧ (o6 2).dst = some (dst6 2) ∧ (o6 2).guard = some (1, true) ∧ edgeTo (o6 2) 1 = true := ⟨by kernel_rfl, by kernel_rfl, by kernel_rfl, by kernel_rfl⟩
theorem q3 : (o6 3).op = .load 27 (.tmp 4) ∧ (o6 3).dst = some (dst6 3) ∧ (o6 3).guard = some (1, true) ∧ edgeTo (o6 3) 1 = true := ⟨by kernel_rfl, by kernel_rfl, by kernel_rfl, by kernel_rfl⟩
theorem q4 : (o6 4).op = .move (.tmp 2) ∧ (o6 4).dst = some (dst6 4) ∧ (o6 4).guard = some (1, true) ∧ edgeTo (o6 4) 1 = true := ⟨by kernel_rfl, by kernel_rfl, by kernel_rfl, by kernel_rfl⟩
theorem q5 : (o6 5).op = .call { callee := .value (.func 14), args := #[.tmp 17, .tmp 18, .tmp 19], argTypes := #[22, 27, 22] } ∧ (o6 5).dst = some (dst6 5) ∧ (o6 5).guard = some (1, true) ∧ edgeTo (o6 5) 1 = true ∧ edgeTo (o6 5) 2 = true ∧ edgeTo (o6 5) 3 = true ∧ edgeTo (o6 5) 4 = true :=
  ⟨by kernel_rfl, by kernel_rfl, by kernel_rfl, by kernel_rfl, by kernel_rfl, by kernel_rfl, by kernel_rfl⟩
theorem q6 : (o6 6).op = .convert 22 9 (.tmp 20) ∧ (o6 6).dst = some (dst6 6) ∧ (o6 6).guard = some (1, true) ∧ edgeTo (o6 6) 1 = true ∧ edgeTo (o6 6) 5 = true := ⟨by kernel_rfl, by kernel_rfl, by kernel_rfl, by kernel_rfl, by kernel_rfl⟩
theorem q7 : (o6 7).op = .move (.tmp 0) ∧ (o6 7).dst = some (dst6 7) ∧ (o6 7).guard = some (1, true) ∧ edgeTo (o6 7) 1 = true := ⟨by kernel_rfl, by kernel_rfl, by kernel_rfl, by kernel_rfl⟩
theorem q8 : (o6 8).op = .load 31 (.tmp 7) ∧ (o6 8).dst = some (dst6 8) ∧ (o6 8).guard = some (1, true) ∧ edgeTo (o6 8) 1 = true := ⟨by kernel_rfl, by kernel_rfl, by kernel_rfl, by kernel_rfl⟩
theorem q9 : (o6 9).op = .move (.tmp 2) ∧ (o6 9).dst = some (dst6 9) ∧ (o6 9).guard = some (1, true) ∧ edgeTo (o6 9) 1 = true := ⟨by kernel_rfl, by kernel_rfl, by kernel_rfl, by kernel_rfl⟩
theorem q10 : (o6 10).op = .call { callee := .value (.func 15), args := #[.tmp 22, .tmp 23, .tmp 24], argTypes := #[22, 31, 22] } ∧ (o6 10).dst = some (dst6 10) ∧ (o6 10).guard = some (1, true) ∧ edgeTo (o6 10) 1 = true ∧ edgeTo (o6 10) 7 = true ∧ edgeTo (o6 10) 8 = true ∧ edgeTo (o6 10) 9 = true :=
  ⟨by kernel_rfl, by kernel_rfl, by kernel_rfl, by kernel_rfl, by kernel_rfl, by kernel_rfl, by kernel_rfl⟩
theorem q11 : (o6 11).op = .convert 22 9 (.tmp 25) ∧ (o6 11).dst = some (dst6 11) ∧ (o6 11).guard = some (1, true) ∧ edgeTo (o6 11) 1 = true ∧ edgeTo (o6 11) 10 = true := ⟨by kernel_rfl, by kernel_rfl, by kernel_rfl, by kernel_rfl, by kernel_rfl⟩
theorem q12 : (o6 12).op = .binOp .eql 9 (.tmp 21) (.tmp 26) 9 ∧ (o6 12).dst = some (dst6 12) ∧ (o6 12).guard = some (1, true) ∧ edgeTo (o6 12) 1 = true ∧ edgeTo (o6 12) 6 = true ∧ edgeTo (o6 12) 11 = true := ⟨by kernel_rfl, by kernel_rfl, by kernel_rfl, by kernel_rfl, by kernel_rfl, by kernel_rfl⟩
theorem q13 : (o6 13).op = .pick (.tmp 16) (.tmp 27) (.const (.bool false)) ∧ (o6 13).dst = some (dst6 13) ∧ (o6 13).guard = none ∧ edgeTo (o6 13) 1 = true ∧ edgeTo (o6 13) 12 = true := ⟨by kernel_rfl, by kernel_rfl, by kernel_rfl, by kernel_rfl, by kernel_rfl⟩
theorem q14 : (o6 14).op = .assign (.tmp 28) ∧ (o6 14).dst = some (dst6 14) ∧ (o6 14).guard = none ∧ edgeTo (o6 14) 13 = true := ⟨by kernel_rfl, by kernel_rfl, by kernel_rfl, by kernel_rfl⟩
theorem back6 : ∀ j i, Edge1 ops6 j i → i < j := back_of (by kernel_rfl)

end Go.Proofs.YtphokckbcmiddaaDoor
