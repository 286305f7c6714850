/- The reference's parts. -/
import Derived.Test.YtphokckbcmiddaaDoorMFt29
import Derived.Test.YtphokckbcmiddaaDoorMFq
namespace Go.Proofs.YtphokckbcmiddaaDoor
open Go Go.Ev Go.RowKit
open Go.Proofs

def hasS (t r : List Int) : Bool := decide ((r.take t.length).map Ftp.up = t)
theorem qneq5 (a b : Int) : Qbin Tryd.prog .neq 5 (.int .u8 a) (.int .u8 b) = some (.bool (!(a == b))) := by simp only [go_sem]; rfl

theorem has_step {t r : List Int} {j : Nat} (hj : (r.take j).map Ftp.up = t.take j) (h1 : j < t.length) (h2 : j < r.length) (e : Ftp.up r[j] = t[j]) : (r.take (j + 1)).map Ftp.up = t.take (j + 1) := by
  rw [List.take_add_one, List.take_add_one, List.getElem?_eq_getElem h2, List.getElem?_eq_getElem h1, List.map_append, hj]
  simp [e]
theorem has_no {t r : List Int} {j : Nat} (h1 : j < t.length) (h2 : ∀ h : j < r.length, Ftp.up r[j] ≠ t[j]) : hasS t r = false := by
  unfold hasS
  refine decide_eq_false fun h => ?_
  have hlen := congrArg List.length h
  rw [List.length_map, List.length_take] at hlen
  have h3 : j < r.length := by omega
  refine h2 h3 ?_
  have := congrArg (·[j]?) h
  simp only [List.getElem?_map, List.getElem?_take, if_pos h1, List.getElem?_eq_getElem h3, List.getElem?_eq_getElem h1, Option.map_some, Option.some.injEq] at this
  exact this

theorem k27 {w : World} {s : Value} {l t : List Int} {p : Nat} (hs : Vw w s l) (hl : okB l) (ht : okB t) (hp : p ≤ l.length) (hl8 : l.length ≤ 1000) (htl : t.length ≤ 100) :
    Brings (Xcall Tryd.prog (Value.func (Fn.func 27) #[] #[]) #[s, .int .i64 (p : Int), .string (strOfNums t)] w) (fun r => r = (.bool (hasS t (l.drop p)), w)) := by
  refine e27 ?_
  unfold s27
  refine Brings.loop (fun k xs w' => ∃ j : Nat, j ≤ t.length ∧ p + j ≤ l.length ∧ k = t.length - j ∧ xs = [s, .int .i64 (p : Int), .string (strOfNums t), .bool false, .int .i64 (j : Int)] ∧ w = w' ∧ ((l.drop p).take j).map Ftp.up = t.take j) ?_ t.length _ _ ⟨0, Nat.zero_le _, by omega, rfl, rfl, rfl, by simp⟩
  rintro k _ w' ⟨j, hj, hpj, rfl, rfl, rfl, hm⟩
  simp only [s27B0, go_sem, qlen_str, strOfNums_size]
  by_cases hjt : j < t.length
  · rw [decide_eq_true (by omega)]
    simp only [go_sem, vlen hs]
    rw [wr (by omega) (by omega)]
    by_cases hpl : p + j < l.length
    · rw [decide_eq_false (by omega)]
      obtain ⟨x, a, hx, hq, hld⟩ := vget hs hpl
      have hxr := hl x (List.mem_of_getElem? hx)
      rw [← Int.natCast_add]
      simp only [go_sem, hq, hld]
      have hdx : (l.drop p)[j]? = some x := by rw [List.getElem?_drop]; exact hx
      obtain ⟨hjl, hdj⟩ := List.getElem?_eq_some_iff.1 hdx
      have htj := List.getElem?_eq_getElem hjt
      have htr := ht t[j] (List.getElem_mem _)
      have fin : ∀ y : Int, y = Ftp.up x → 0 ≤ y ∧ y ≤ 255 → Brings (s27M1 s (.int .i64 (p : Int)) (.string (strOfNums t)) (.bool false) (.int .i64 (j : Int)) (.int .u8 y) w) fun r =>
          (r.1 = .normal ∧ ∃ m, m < t.length - j ∧ ∃ j, j ≤ t.length ∧ p + j ≤ l.length ∧ m = t.length - j ∧ r.2.1 = [s, .int .i64 (p : Int), .string (strOfNums t), .bool false, .int .i64 (j : Int)] ∧ w = r.2.2 ∧ ((l.drop p).take j).map Ftp.up = t.take j) ∨
          (r.1 ≠ .normal ∧ Brings (s27R0 r.1 r.2.1 r.2.2) fun r => r = (.bool (hasS t (l.drop p)), w)) := by
        intro y hy hyr
        unfold s27M1
        rw [qidx_str htj htr, Option.bind_some, qneq5]
        by_cases e : y = t[j]
        · rw [show (y == t[j]) = true by simpa using e]
          simp only [go_sem, Bool.not_true]
          rw [wr (by omega) (by omega)]
          refine .ret (.inl ⟨rfl, t.length - (j + 1), by omega, j + 1, by omega, by omega, rfl, rfl, rfl, has_step hm hjt hjl ?_⟩)
          rw [hdj, ← hy, e]
        · rw [show (y == t[j]) = false by simpa using e]
          simp only [go_sem, Bool.not_false]
          refine .ret (.inr ⟨by simp, ?_⟩)
          simp only [s27R0]
          rw [has_no hjt fun h => by rw [hdj, ← hy]; exact e]
          exact .ret rfl
      by_cases c1 : 97 ≤ x
      · rw [decide_eq_true c1]
        by_cases c2 : x ≤ 122
        · simp only [go_sem]
          rw [decide_eq_true c2]
          simp only [go_sem]
          rw [show IntKind.u8.wrap (x - 32) = x - 32 by rw [wu8 (by omega)]; omega]
          exact fin _ (by unfold Ftp.up; rw [if_pos ⟨c1, c2⟩]) (by omega)
        · simp only [go_sem]
          rw [decide_eq_false c2]
          simp only [go_sem]
          exact fin _ (by unfold Ftp.up; rw [if_neg (by omega)]) hxr
      · rw [decide_eq_false c1]
        simp only [go_sem]
        exact fin _ (by unfold Ftp.up; rw [if_neg (by omega)]) hxr
    · rw [decide_eq_true (by omega)]
      simp only [go_sem]
      refine .ret (.inr ⟨by simp, ?_⟩)
      simp only [s27R0]
      rw [has_no hjt fun h => by rw [List.length_drop] at h; omega]
      exact .ret rfl
  · rw [decide_eq_false (by omega)]
    simp only [go_sem]
    refine .ret (.inr ⟨by simp, ?_⟩)
    simp only [s27R0]
    have : j = t.length := by omega
    subst this
    rw [List.take_of_length_le (Nat.le_refl _)] at hm
    rw [show hasS t (l.drop p) = true from decide_eq_true hm]
    exact .ret rfl

end Go.Proofs.YtphokckbcmiddaaDoor
