/- The reference's number. -/
import Derived.Test.YtphokckbcmiddaaDoorMFt36
namespace Go.Proofs.YtphokckbcmiddaaDoor
open Go Go.Ev Go.RowKit
open Go.Proofs

theorem val_split {t : List Int} (hd : ∀ c ∈ t, Ftp.dig c = true) (j : Nat) : Ftp.val (t.take j) ≤ Ftp.val t ∧ 0 ≤ Ftp.val (t.take j) := by
  have h1 : ∀ c ∈ t.take j, Ftp.dig c = true := fun c hc => hd c (List.mem_of_mem_take hc)
  have h2 : ∀ c ∈ t.drop j, Ftp.dig c = true := fun c hc => hd c (List.mem_of_mem_drop hc)
  have h0 := Ftp.val_nonneg h1
  refine ⟨?_, h0⟩
  have e : Ftp.val t = Ftp.valA (Ftp.val (t.take j)) (t.drop j) := by
    rw [Ftp.val, Ftp.val, ← Ftp.valA_app, List.take_append_drop]
  rw [e]
  rcases Ftp.valA_lt h2 (Ftp.val (t.take j)) with h | h
  · exact h
  · omega

/-- What the reference says of a number. -/
def numV2 (p : Nat) (o : Option (Int × List Int)) (len : Nat) : Value := match o with
  | some (n, r) => .tuple #[.int .i64 n, .int .i64 ((len - r.length : Nat) : Int), .bool true]
  | none => .tuple #[.int .i64 0, .int .i64 (p : Int), .bool false]

theorem num_end {w : World} {s : Value} {l : List Int} {p j : Nat} {most : Int} (hs : Vw w s l) (hl : okB l) (hp : p ≤ l.length) (hl8 : l.length ≤ 1000) (hm : 0 ≤ most ∧ most ≤ 65535)
    (hj : j ≤ ((l.drop p).takeWhile Ftp.dig).length) (hex : j = ((l.drop p).takeWhile Ftp.dig).length ∨ most < Ftp.val (((l.drop p).takeWhile Ftp.dig).take j)) :
    Brings (s31R0 (.exit 0) [s, .int .i64 (p : Int), .int .i64 most, .int .i64 (Ftp.val (((l.drop p).takeWhile Ftp.dig).take j)), .int .i64 ((p + j : Nat) : Int)] w) (fun r => r = (numV2 p (Ftp.numS most (l.drop p)) l.length, w)) := by
  have hd : ∀ c ∈ (l.drop p).takeWhile Ftp.dig, Ftp.dig c = true := Ftp.takeWhile_all _
  have htd := List.takeWhile_append_dropWhile (p := Ftp.dig) (l := l.drop p)
  generalize ht : (l.drop p).takeWhile Ftp.dig = t at *
  have hlt : t.length ≤ (l.drop p).length := by rw [← htd, List.length_append]; omega
  rw [List.length_drop] at hlt
  have none_of : (t = [] ∨ most < Ftp.val t ∨ (1 < t.length ∧ (l.drop p).head? = some 48)) → Ftp.numS most (l.drop p) = none := by
    intro h
    unfold Ftp.numS
    rw [ht, if_pos h]
  have bad : Ftp.numS most (l.drop p) = none → Brings (some ((.tuple #[.int .i64 0, .int .i64 (p : Int), .bool false] : Value), w)) (fun r => r = (numV2 p (Ftp.numS most (l.drop p)) l.length, w)) := by
    intro h
    rw [h]
    exact .ret rfl
  simp only [s31R0, go_sem]
  by_cases h0 : j = 0
  · subst h0
    rw [show (((p + 0 : Nat) : Int) == (p : Int)) = true by simp]
    simp only [go_sem]
    refine bad (none_of ?_)
    rcases hex with h | h
    · exact .inl (List.length_eq_zero_iff.1 h.symm)
    · exact .inr (.inl (by have := (val_split hd 0).1; omega))
  rw [show (((p + j : Nat) : Int) == (p : Int)) = false by simp; omega]
  simp only [go_sem]
  by_cases hbig : most < Ftp.val (t.take j)
  · rw [decide_eq_true hbig]
    simp only [go_sem]
    exact bad (none_of (.inr (.inl (by have := (val_split hd j).1; omega))))
  rw [decide_eq_false hbig]
  have hjt : j = t.length := by rcases hex with h | h; exact h; exact absurd h hbig
  subst hjt
  rw [List.take_of_length_le (Nat.le_refl _)] at hbig ⊢
  obtain ⟨x, a, hx, hq, hld⟩ := vget hs (j := p) (by omega)
  have hhd : (l.drop p).head? = some x := by rw [List.head?_drop]; exact hx
  simp only [go_sem, hq, hld]
  by_cases h48 : x = 48
  · subst h48
    rw [show ((48 : Int) == 48) = true from rfl]
    simp only [go_sem]
    rw [wr (by omega) (by omega)]
    by_cases h1 : 1 < t.length
    · rw [decide_eq_true (by omega)]
      simp only [go_sem]
      exact bad (none_of (.inr (.inr ⟨h1, hhd⟩)))
    rw [decide_eq_false (by omega)]
    simp only [go_sem, vlen hs]
    have hnum : Ftp.numS most (l.drop p) = some (Ftp.val t, (l.drop p).dropWhile Ftp.dig) := by
      unfold Ftp.numS
      rw [ht, if_neg]
      rintro (h | h | ⟨h2, h3⟩)
      · rw [h] at h0; exact h0 rfl
      · omega
      · exact h1 h2
    have hpos : (l.length - ((l.drop p).dropWhile Ftp.dig).length) = p + t.length := by
      have := congrArg List.length htd
      rw [List.length_append, List.length_drop] at this
      omega
    rw [hnum]
    by_cases hin : p + t.length < l.length
    · rw [decide_eq_true (by omega)]
      obtain ⟨y, b, hy, hq2, hld2⟩ := vget hs hin
      simp only [go_sem, hq2, hld2]
      have hdy : Ftp.dig y = false := by
        have h5 : (l.drop p)[t.length]? = some y := by rw [List.getElem?_drop]; exact hy
        rw [← htd, List.getElem?_append_right (Nat.le_refl _), Nat.sub_self] at h5
        have h6 := List.head?_dropWhile_not Ftp.dig (l.drop p)
        rw [List.head?_eq_getElem?, h5] at h6
        simpa using h6
      have hnd : ¬ (48 ≤ y ∧ y ≤ 57) := fun h => by rw [Ftp.dig_iff.2 h] at hdy; cases hdy
      by_cases hc : 48 ≤ y
      · rw [decide_eq_true hc]
        simp only [go_sem, hq2, hld2]
        rw [decide_eq_false (by omega)]
        simp only [go_sem]
        refine .ret ?_
        rw [numV2, hpos]
      · rw [decide_eq_false hc]
        simp only [go_sem]
        refine .ret ?_
        rw [numV2, hpos]
    · rw [decide_eq_false (by omega)]
      simp only [go_sem]
      refine .ret ?_
      rw [numV2, hpos]
  · rw [show (x == 48) = false by simpa using h48]
    simp only [go_sem, vlen hs]
    have hnum : Ftp.numS most (l.drop p) = some (Ftp.val t, (l.drop p).dropWhile Ftp.dig) := by
      unfold Ftp.numS
      rw [ht, if_neg]
      rintro (h | h | ⟨h2, h3⟩)
      · rw [h] at h0; exact h0 rfl
      · omega
      · rw [hhd] at h3; injection h3 with h3; exact h48 h3
    have hpos : (l.length - ((l.drop p).dropWhile Ftp.dig).length) = p + t.length := by
      have := congrArg List.length htd
      rw [List.length_append, List.length_drop] at this
      omega
    rw [hnum]
    by_cases hin : p + t.length < l.length
    · rw [decide_eq_true (by omega)]
      obtain ⟨y, b, hy, hq2, hld2⟩ := vget hs hin
      simp only [go_sem, hq2, hld2]
      have hdy : Ftp.dig y = false := by
        have h5 : (l.drop p)[t.length]? = some y := by rw [List.getElem?_drop]; exact hy
        rw [← htd, List.getElem?_append_right (Nat.le_refl _), Nat.sub_self] at h5
        have h6 := List.head?_dropWhile_not Ftp.dig (l.drop p)
        rw [List.head?_eq_getElem?, h5] at h6
        simpa using h6
      have hnd : ¬ (48 ≤ y ∧ y ≤ 57) := fun h => by rw [Ftp.dig_iff.2 h] at hdy; cases hdy
      by_cases hc : 48 ≤ y
      · rw [decide_eq_true hc]
        simp only [go_sem, hq2, hld2]
        rw [decide_eq_false (by omega)]
        simp only [go_sem]
        refine .ret ?_
        rw [numV2, hpos]
      · rw [decide_eq_false hc]
        simp only [go_sem]
        refine .ret ?_
        rw [numV2, hpos]
    · rw [decide_eq_false (by omega)]
      simp only [go_sem]
      refine .ret ?_
      rw [numV2, hpos]


theorem k31 {w : World} {s : Value} {l : List Int} {p : Nat} {most : Int} (hs : Vw w s l) (hl : okB l) (hp : p ≤ l.length) (hl8 : l.length ≤ 1000) (hm : 0 ≤ most ∧ most ≤ 65535) :
    Brings (Xcall Tryd.prog (Value.func (Fn.func 31) #[] #[]) #[s, .int .i64 (p : Int), .int .i64 most] w) (fun r => r = (numV2 p (Ftp.numS most (l.drop p)) l.length, w)) := by
  refine e31 ?_
  unfold s31
  have hd : ∀ c ∈ (l.drop p).takeWhile Ftp.dig, Ftp.dig c = true := Ftp.takeWhile_all _
  have htd := List.takeWhile_append_dropWhile (p := Ftp.dig) (l := l.drop p)
  have hlt : ((l.drop p).takeWhile Ftp.dig).length ≤ l.length - p := by
    have := congrArg List.length htd
    rw [List.length_append, List.length_drop] at this
    omega
  refine Brings.loop (fun k xs w' => ∃ j : Nat, j ≤ ((l.drop p).takeWhile Ftp.dig).length ∧ k = ((l.drop p).takeWhile Ftp.dig).length - j ∧
    xs = [s, .int .i64 (p : Int), .int .i64 most, .int .i64 (Ftp.val (((l.drop p).takeWhile Ftp.dig).take j)), .int .i64 ((p + j : Nat) : Int)] ∧ w = w') ?_ _ _ _ ⟨0, Nat.zero_le _, rfl, rfl, rfl⟩
  rintro k _ w' ⟨j, hj, rfl, rfl, rfl⟩
  have stop : (j = ((l.drop p).takeWhile Ftp.dig).length ∨ most < Ftp.val (((l.drop p).takeWhile Ftp.dig).take j)) → Brings (some ((Exit.exit 0, [s, .int .i64 (p : Int), .int .i64 most, .int .i64 (Ftp.val (((l.drop p).takeWhile Ftp.dig).take j)), .int .i64 ((p + j : Nat) : Int)], w) : Exit × List Value × World)) fun r =>
      (r.1 = .normal ∧ ∃ m, m < ((l.drop p).takeWhile Ftp.dig).length - j ∧ ∃ j : Nat, j ≤ ((l.drop p).takeWhile Ftp.dig).length ∧ m = ((l.drop p).takeWhile Ftp.dig).length - j ∧
    r.2.1 = [s, .int .i64 (p : Int), .int .i64 most, .int .i64 (Ftp.val (((l.drop p).takeWhile Ftp.dig).take j)), .int .i64 ((p + j : Nat) : Int)] ∧ w = r.2.2) ∨
      (r.1 ≠ .normal ∧ Brings (s31R0 r.1 r.2.1 r.2.2) fun r => r = (numV2 p (Ftp.numS most (l.drop p)) l.length, w)) := fun h => .ret (.inr ⟨by simp, num_end hs hl hp hl8 hm hj h⟩)
  simp only [s31B0, go_sem, vlen hs]
  by_cases hin : p + j < l.length
  · rw [decide_eq_true (by omega)]
    obtain ⟨y, b, hy, hq, hld⟩ := vget hs hin
    simp only [go_sem, hq, hld]
    have hyr := hl y (List.mem_of_getElem? hy)
    have hry : (l.drop p)[j]? = some y := by rw [List.getElem?_drop]; exact hy
    by_cases hdy : Ftp.dig y = true
    · have hr := Ftp.dig_iff.1 hdy
      rw [decide_eq_true (by omega)]
      simp only [go_sem, hq, hld]
      rw [decide_eq_true (by omega)]
      simp only [go_sem]
      by_cases hbig : most < Ftp.val (((l.drop p).takeWhile Ftp.dig).take j)
      · rw [decide_eq_false (by omega)]
        simp only [go_sem]
        exact stop (.inr hbig)
      rw [decide_eq_true (by omega)]
      have hjt : j < ((l.drop p).takeWhile Ftp.dig).length := by
        rcases Nat.lt_or_ge j ((l.drop p).takeWhile Ftp.dig).length with h | h
        · exact h
        exfalso
        have hje : j = ((l.drop p).takeWhile Ftp.dig).length := by omega
        rw [← htd, hje, List.getElem?_append_right (Nat.le_refl _), Nat.sub_self] at hry
        have h6 := List.head?_dropWhile_not Ftp.dig (l.drop p)
        rw [List.head?_eq_getElem?, hry] at h6
        have h7 : Ftp.dig y = false := h6
        rw [hdy] at h7
        cases h7
      have hty : ((l.drop p).takeWhile Ftp.dig)[j]? = some y := by
        rw [← htd, List.getElem?_append_left hjt] at hry
        exact hry
      have h0 := (val_split hd j).2
      have hstep : Ftp.val (((l.drop p).takeWhile Ftp.dig).take (j + 1)) = Ftp.val (((l.drop p).takeWhile Ftp.dig).take j) * 10 + (y - 48) := by
        rw [List.take_add_one, hty]
        exact val_app1 _ _
      simp only [go_sem, hq, hld]
      rw [show IntKind.u8.wrap (y - 48) = y - 48 by rw [wu8 (by omega)]; omega]
      have e53 : Qconv Tryd.prog 5 3 (.int .u8 (y - 48)) = some (.int .i64 (y - 48)) := by
        have := u8to3 (a := (y - 48).toNat) (by omega)
        rwa [Int.toNat_of_nonneg (by omega)] at this
      simp only [e53, go_sem]
      have wv : IntKind.i64.wrap (Ftp.val (((l.drop p).takeWhile Ftp.dig).take j) * 10) = Ftp.val (((l.drop p).takeWhile Ftp.dig).take j) * 10 := wr (by omega) (by omega)
      rw [wv, wr (by omega) (by omega), wr (by omega) (by omega)]
      refine .ret (.inl ⟨rfl, ((l.drop p).takeWhile Ftp.dig).length - (j + 1), by omega, j + 1, by omega, rfl, ?_, rfl⟩)
      rw [hstep]
      rfl
    · have hjt : j = ((l.drop p).takeWhile Ftp.dig).length := by
        rcases Nat.lt_or_ge j ((l.drop p).takeWhile Ftp.dig).length with h | h
        · exfalso
          have hty : ((l.drop p).takeWhile Ftp.dig)[j]? = some y := by
            rw [← htd, List.getElem?_append_left h] at hry
            exact hry
          exact hdy (hd y (List.mem_of_getElem? hty))
        · omega
      have hn : ¬ (48 ≤ y ∧ y ≤ 57) := fun h => hdy (Ftp.dig_iff.2 h)
      by_cases hc : 48 ≤ y
      · rw [decide_eq_true hc]
        simp only [go_sem, hq, hld]
        rw [decide_eq_false (by omega)]
        simp only [go_sem]
        exact stop (.inl hjt)
      · rw [decide_eq_false hc]
        simp only [go_sem]
        exact stop (.inl hjt)
  · rw [decide_eq_false (by omega)]
    simp only [go_sem]
    exact stop (.inl (by omega))

end Go.Proofs.YtphokckbcmiddaaDoor
