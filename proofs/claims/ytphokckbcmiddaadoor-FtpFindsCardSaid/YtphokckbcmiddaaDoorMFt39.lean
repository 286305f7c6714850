/- The reference's rows of numbers, walked. -/
import Derived.Test.YtphokckbcmiddaaDoorMFt38
namespace Go.Proofs.YtphokckbcmiddaaDoor
open Go Go.Ev Go.RowKit
open Go.Proofs

/-- What numbers brings. -/
def NumsR (w : World) (sep : Int) (n : Nat) (b r : List Int) (x : Value × World) : Prop :=
  ∃ v q, x.1 = .tuple #[v, .int .i64 q, .bool (Ftp.accS sep n r).isSome] ∧ Bel w x.2 ∧ ∀ xs r1, Ftp.accS sep n r = some (xs, r1) → q = ((b.length - r1.length : Nat) : Int) ∧ View (nc .i64) 1 x.2 v xs

theorem eat_sep {sep : Int} (hs : sep = 44 ∨ sep = 46) {c : Int} {r : List Int} : Ftp.eatS [sep] (c :: r) = if c = sep then some r else none := by
  unfold Ftp.eatS
  have : ([c].map Ftp.up = [sep]) ↔ c = sep := by
    simp only [List.map_cons, List.map_nil, List.cons.injEq, and_true]
    unfold Ftp.up
    split <;> omega
  by_cases h : c = sep
  · rw [if_pos h]
    exact if_pos (this.2 h)
  · rw [if_neg h]
    exact if_neg fun h2 => h (this.1 h2)

theorem k46 {w : World} {s : Value} {b : List Int} (hs : Vw w s (b ++ [13, 10])) (hl : okB (b ++ [13, 10])) (hb8 : b.length ≤ 900) {p n : Nat} {sep : Int} (hp : p ≤ b.length) (hn : n ≤ 6) (hsep : sep = 44 ∨ sep = 46) :
    Brings (Xcall Tryd.prog (Value.func (Fn.func 46) #[] #[]) #[s, .int .i64 (p : Int), .int .i64 (n : Int), .int .u8 sep] w) (NumsR w sep n b (b.drop p)) := by
  have hs48 : sep < 48 := by omega
  refine e46 ?_
  unfold s46
  refine Brings.loop (fun k xs w' => ∃ (j : Nat) (l ri : List Int) (v : Value), j ≤ n ∧ k = n - j ∧ Ftp.accS sep j (b.drop p) = some (l, ri) ∧ FreshN 3 .i64 w w' v l ∧
    xs = [s, .int .i64 ((b.length - ri.length : Nat) : Int), .int .i64 (n : Int), .int .u8 sep, .slice none 0 0, .int .i64 0, .bool false, v, .int .i64 (j : Int)]) ?_ n _ _ ⟨0, [], b.drop p, _, Nat.zero_le _, rfl, rfl, FreshN.start w, ?_⟩
  · rintro k _ w' ⟨j, l, ri, v, hj, rfl, hacc, hf, rfl⟩
    have hsufr := acc_suf hs48 hacc
    have hsuf : ri <:+ b := hsufr.trans (List.drop_suffix _ _)
    have hrl : ri.length ≤ b.length := hsuf.length_le
    have hs' := hs.bel hf.1
    simp only [s46B0, go_sem]
    by_cases hjn : j < n
    · rw [decide_eq_true (by omega)]
      -- a number at a rest
      have one : ∀ (r2 : List Int), r2 <:+ b → (if 0 < j then Ftp.eatS [sep] ri else some ri) = some r2 → Brings (s46M1 s (.int .i64 ((b.length - r2.length : Nat) : Int)) (.int .i64 (n : Int)) (.int .u8 sep) (.slice none 0 0) (.int .i64 0) (.bool false) v (.int .i64 (j : Int)) w') fun r =>
          (r.1 = .normal ∧ ∃ m, m < n - j ∧ ∃ (j : Nat) (l ri : List Int) (v : Value), j ≤ n ∧ m = n - j ∧ Ftp.accS sep j (b.drop p) = some (l, ri) ∧ FreshN 3 .i64 w r.2.2 v l ∧
            r.2.1 = [s, .int .i64 ((b.length - ri.length : Nat) : Int), .int .i64 (n : Int), .int .u8 sep, .slice none 0 0, .int .i64 0, .bool false, v, .int .i64 (j : Int)]) ∨
          (r.1 ≠ .normal ∧ Brings (s46R0 r.1 r.2.1 r.2.2) (NumsR w sep n b (b.drop p))) := by
        intro r2 h2 he
        have hr2 : r2.length ≤ b.length := h2.length_le
        unfold s46M1
        refine (k31b hs' hl hb8 (p := b.length - r2.length) (by omega) (by omega)).bind ?_
        rintro _ rfl
        rw [suf_drop h2]
        cases hnum : Ftp.numS 255 r2 with
        | none =>
          simp only [numV2, go_sem, Bool.not_false]
          refine .ret (.inr ⟨by simp, ?_⟩)
          simp only [s46R0]
          have hno : Ftp.accS sep n (b.drop p) = none := acc_none (j := j + 1) (by omega) (by rw [Ftp.accS, hacc, Option.bind_some, he, Option.bind_some, hnum]; rfl)
          refine .ret ⟨_, _, by rw [hno]; rfl, hf.1, fun xs r1 h => ?_⟩
          rw [hno] at h; cases h
        | some y =>
          obtain ⟨m, r3⟩ := y
          simp only [numV2, go_sem, Bool.not_true]
          obtain ⟨s1, w1, e1, v', w2, e2, hf2, _⟩ := FreshN.push t99 hf m (by have := ((Ftp.accS_iff hs48).1 hacc).1; omega)
          simp only [e1, e2, go_sem]
          rw [wr (by omega) (by omega)]
          refine .ret (.inl ⟨rfl, n - (j + 1), by omega, j + 1, l ++ [m], r3, v', by omega, rfl, ?_, hf2, rfl⟩)
          rw [Ftp.accS, hacc, Option.bind_some, he, Option.bind_some, hnum]
          rfl
      by_cases h0 : 0 < j
      · rw [decide_eq_true (by omega)]
        have hpl : b.length - ri.length < (b ++ [13, 10]).length := by simp; omega
        simp only [go_sem, vlen hs']
        rw [decide_eq_false (by omega)]
        obtain ⟨x, a, hx, hq, hld⟩ := vget hs' hpl
        simp only [go_sem, hq, hld]
        have hxr : (ri ++ [13, 10])[0]? = some x := by
          rw [← suf_drop hsuf, ← drop_crlf (by omega), List.getElem?_drop]
          exact hx
        have bad : Ftp.eatS [sep] ri = none → x ≠ sep → Brings (some ((Exit.ret, [s, .int .i64 ((b.length - ri.length : Nat) : Int), .int .i64 (n : Int), .int .u8 sep, .slice none 0 0, .int .i64 ((b.length - ri.length : Nat) : Int), .bool false, v, .int .i64 (j : Int)], w') : Exit × List Value × World)) fun r =>
            (r.1 = .normal ∧ ∃ m, m < n - j ∧ ∃ (j : Nat) (l ri : List Int) (v : Value), j ≤ n ∧ m = n - j ∧ Ftp.accS sep j (b.drop p) = some (l, ri) ∧ FreshN 3 .i64 w r.2.2 v l ∧
              r.2.1 = [s, .int .i64 ((b.length - ri.length : Nat) : Int), .int .i64 (n : Int), .int .u8 sep, .slice none 0 0, .int .i64 0, .bool false, v, .int .i64 (j : Int)]) ∨
            (r.1 ≠ .normal ∧ Brings (s46R0 r.1 r.2.1 r.2.2) (NumsR w sep n b (b.drop p))) := by
          intro he _
          refine .ret (.inr ⟨by simp, ?_⟩)
          simp only [s46R0]
          have hno : Ftp.accS sep n (b.drop p) = none := acc_none (j := j + 1) (by omega) (by rw [Ftp.accS, hacc, Option.bind_some, if_pos h0, he]; rfl)
          refine .ret ⟨_, _, by rw [hno]; rfl, hf.1, fun xs r1 h => ?_⟩
          rw [hno] at h; cases h
        cases ri with
        | nil =>
          have hx13 : x = 13 := by simpa using hxr.symm
          have hxs : x ≠ sep := by omega
          rw [show (x != sep) = true by simpa using hxs]
          simp only [go_sem]
          exact bad (by unfold Ftp.eatS; rw [if_neg (by simp)]) hxs
        | cons c ri =>
          have hxc : x = c := by simpa using hxr.symm
          subst hxc
          by_cases hxs : x = sep
          · rw [show (x != sep) = false by simpa using hxs]
            simp only [go_sem]
            rw [wr (by omega) (by omega)]
            have h2 : ri <:+ b := (List.suffix_cons x ri).trans hsuf
            have := one ri h2 (by rw [if_pos h0, eat_sep hsep, if_pos hxs])
            have e : ((b.length - (x :: ri).length : Nat) : Int) + 1 = ((b.length - ri.length : Nat) : Int) := by simp only [List.length_cons] at hrl ⊢; omega
            rw [e]
            exact this
          · rw [show (x != sep) = true by simpa using hxs]
            simp only [go_sem]
            exact bad (by rw [eat_sep hsep, if_neg hxs]) hxs
      · rw [decide_eq_false (by omega)]
        simp only [go_sem]
        exact one ri hsuf (by rw [if_neg h0])
    · rw [decide_eq_false (by omega)]
      obtain rfl : j = n := by omega
      simp only [go_sem]
      refine .ret (.inr ⟨by simp, ?_⟩)
      simp only [s46R0]
      refine .ret ⟨_, _, by rw [hacc]; rfl, hf.1, fun xs r1 h => ?_⟩
      rw [hacc] at h
      injection h with h
      injection h with h1 h2
      subst h1 h2
      exact ⟨rfl, hf.2.1.view⟩
  · have : b.length - (b.drop p).length = p := by rw [List.length_drop]; omega
    rw [this]
    rfl

end Go.Proofs.YtphokckbcmiddaaDoor
