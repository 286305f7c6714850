/- The reference's Add. -/
import Derived.Test.YtiioaklogbjhhaaRu4
namespace Go.Proofs.Ytiioaklogbjhhaa
open Go Go.Ev
open Go.Proofs

theorem k40 {w : World} {a : Nat} {sl : Value} {l : List Rule} {x : Rule} (h : Obj 71 w a sl l) (hx : x.ok) :
    Brings (Xcall Try.prog (Value.func (Fn.func 40) #[] #[]) #[.pointer (some ⟨a, 0, none⟩), x.v] w) (Did 71 w a sl (addM l x).1 (addM l x).2) := by
  refine e40 ?_
  unfold s40
  have A := x.new w
  have hb : Bel w (w.alloc (.cells x.cs.toArray 26)) := (Bel.refl w).alloc _
  rw [x.box]
  simp only [go_sem, Qb_eqlP (P := Try.prog) (t := 38) (e := 71) (by kernel_rfl), Option.isNone_some]
  generalize w.alloc (.cells x.cs.toArray 26) = w1 at A hb
  generalize w.heap.size = q at A
  simp only [Rule.all A, go_sem]
  refine (k15 hx).bind ?_
  rintro ⟨_, w2⟩ ⟨h1, b2⟩
  simp only at h1 b2
  subst h1
  simp only [go_sem]
  unfold addM
  cases hr : rightM x with
  | false =>
    simp only [Bool.not_false, go_sem, if_true]
    exact .ret ⟨rfl, .of_bel (hb.trans b2) _, sl, h.bel (hb.trans b2), fun k hk => .inl hk⟩
  | true =>
    simp only [Bool.not_true, go_sem, Bool.true_eq_false, if_false]
    have b0 := hb.trans b2
    have hm := h.most
    refine Brings.loop (fun m xs w' => ∃ i : Nat, xs = [.pointer (some ⟨a, 0, none⟩), .pointer (some ⟨q, 0, none⟩), .int .i64 0, .int .i64 i] ∧ i ≤ l.length ∧ m = l.length - i ∧ Bel w2 w' ∧ ∀ j y, j < i → l[j]? = some y → y ≠ x) ?_ l.length _ _ ⟨0, rfl, by omega, by omega, Bel.refl _, fun j y h => by omega⟩
    rintro m xs w' ⟨i, rfl, hi, hm', hb', hne⟩
    have bw : Bel w w' := b0.trans hb'
    simp only [s40B0, go_sem, h.ptr bw, h.view.len und33]
    refine .cond (fun hlt => ?_) (fun hlt => ?_)
    · have hlt : (i : Int) < l.length := by simpa using hlt
      have bd : Bel w2 w'.drew := hb'.drew
      obtain ⟨y, g, o, hy, _, hix, hc⟩ := getR (h.bel (b0.trans bd)).view (n := i) (by omega) hlt
      simp only [Int.toNat_natCast] at hy
      simp only [Rule.all (A.bel (b2.trans bd)), h.ptr (b0.trans bd), hix, Rule.all hc, Rule.eql, go_sem]
      refine .cond (fun he => ?_) (fun he => ?_)
      · have he : y = x := by simpa using he
        subst he
        have hin : y ∈ l := List.mem_of_getElem? hy
        simp only [hin, if_true]
        exact .ret (.inr ⟨by simp, .ret ⟨rfl, .of_bel (b0.trans bd) _, sl, h.bel (b0.trans bd), fun k hk => .inl hk⟩⟩)
      · have he : ¬ y = x := by simpa using he
        refine .ret (.inl ⟨rfl, l.length - (i + 1), by omega, i + 1, by rw [wrap_i64 (by omega) (by omega)]; rfl, by omega, rfl, bd, fun j z hj hz => ?_⟩)
        by_cases e : j = i
        · subst e
          rw [hy] at hz; injection hz with hz
          subst hz
          exact he
        · exact hne j z (by omega) hz
    · have hlt : ¬ (i : Int) < l.length := by simpa using hlt
      have hin : x ∉ l := fun hx => by
        obtain ⟨j, hj, e⟩ := List.mem_iff_getElem.1 hx
        exact hne j x (by omega) (by rw [List.getElem?_eq_getElem hj, e]) rfl
      simp only [hin, if_false]
      refine .ret (.inr ⟨by simp, ?_⟩)
      simp only [s40R0, go_sem, h.ptr bw, h.view.len und33]
      by_cases hful : 32 ≤ l.length
      · have : decide ((32 : Int) ≤ (l.length : Int)) = true := by rw [decide_eq_true_iff]; omega
        simp only [this, go_sem, hful, if_true]
        exact .ret ⟨rfl, .of_bel bw _, sl, h.bel bw, fun k hk => .inl hk⟩
      · have : decide ((32 : Int) ≤ (l.length : Int)) = false := by rw [decide_eq_false_iff_not]; omega
        have b6 : Bel w w'.drew := bw.drew
        have A5 : CellsAt x.cs w'.drew q 0 := A.bel (b2.trans hb'.drew)
        generalize w'.drew = w5 at b6 A5
        simp only [this, go_sem, hful, if_false, h.ptr b6, Rule.all A5, lit33]
        obtain ⟨v', w7, w8, e1, e2, c8, o8, hk⟩ := addEnd (h.bel b6) hx hr (by omega)
        rw [e1]
        simp only [go_sem, e2]
        simp only [h.ptr (b6.alloc _), eq_self, and_self, go_sem]
        exact (.ret ⟨rfl, b6.thenChg c8, v', o8, fun k hk' => (hk k hk').imp id fun h1 => Nat.le_trans b6.size h1⟩)

end Go.Proofs.Ytiioaklogbjhhaa
