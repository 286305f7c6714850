/- The reference's Find, walked. -/
import Derived.Test.YtphokckbcmiddaaDoorMFt42
namespace Go.Proofs.YtphokckbcmiddaaDoor
open Go Go.Ev Go.RowKit
open Go.Proofs

theorem eE1 : ({ data := #[69, 80, 82, 84, 32, 124, 49, 124] } : ByteArray) = strOfNums (Ftp.sEPRT ++ [124, 49, 124]) := by decide +kernel
theorem e227 : ({ data := #[50, 50, 55, 32] } : ByteArray) = strOfNums Ftp.s227 := by decide +kernel
theorem e229 : ({ data := #[50, 50, 57, 32] } : ByteArray) = strOfNums Ftp.s229 := by decide +kernel
theorem eBar : ({ data := #[40, 124, 124, 124] } : ByteArray) = strOfNums [40, 124, 124, 124] := by decide +kernel
theorem eEnd : ({ data := #[124, 41] } : ByteArray) = strOfNums [124, 41] := by decide +kernel

/-- The byte behind a rest. -/
theorem at_rest {w : World} {s : Value} {b r : List Int} (hs : Vw w s (b ++ [13, 10])) (h : r <:+ b) : ∃ x a, (r ++ [13, 10])[0]? = some x ∧ (∀ w2, QindexAddr Tryd.prog 22 s (.int .i64 ((b.length - r.length : Nat) : Int)) w2 = some (.pointer (some a))) ∧ Qload Tryd.prog 5 (.pointer (some a)) w = some (.int .u8 x) := by
  have hl := h.length_le
  obtain ⟨x, a, hx, hq, hld⟩ := vget hs (j := b.length - r.length) (by simp; omega)
  refine ⟨x, a, ?_, hq, hld⟩
  rw [← hx]
  conv => lhs; rw [← suf_drop h, ← drop_crlf (by omega), List.getElem?_drop]
  rfl
theorem rest_eat {c x : Int} {r : List Int} (hc : c ≠ 13 ∧ ∀ z, Ftp.up z = c ↔ z = c) (hx : (r ++ [13, 10])[0]? = some x) : (x = c ↔ (Ftp.eatS [c] r).isSome) ∧ (x = c → ∃ r2, r = c :: r2 ∧ Ftp.eatS [c] r = some r2) := by
  cases r with
  | nil =>
    have : x = 13 := by simpa using hx.symm
    subst this
    have e : Ftp.eatS [c] [] = none := by unfold Ftp.eatS; rw [if_neg (by simp)]
    rw [e]
    exact ⟨⟨fun h => absurd h.symm hc.1, fun h => by cases h⟩, fun h => absurd h.symm hc.1⟩
  | cons y r =>
    have : x = y := by simpa using hx.symm
    subst this
    by_cases h : x = c
    · subst h
      have e : Ftp.eatS [x] (x :: r) = some r := by
        unfold Ftp.eatS
        exact if_pos (by simpa using (hc.2 x).2 rfl)
      rw [e]
      exact ⟨⟨fun _ => rfl, fun _ => rfl⟩, fun _ => ⟨r, rfl, rfl⟩⟩
    · have e : Ftp.eatS [c] (x :: r) = none := by
        unfold Ftp.eatS
        exact if_neg (by simpa using fun h2 => h ((hc.2 x).1 h2))
      rw [e]
      exact ⟨⟨fun h2 => absurd h2 h, fun h2 => by cases h2⟩, fun h2 => absurd h2 h⟩
theorem up124 : (124 : Int) ≠ 13 ∧ ∀ z, Ftp.up z = 124 ↔ z = 124 := by
  refine ⟨by decide, fun z => ?_⟩
  unfold Ftp.up
  split <;> omega
theorem up41 : (41 : Int) ≠ 13 ∧ ∀ z, Ftp.up z = 41 ↔ z = 41 := by
  refine ⟨by decide, fun z => ?_⟩
  unfold Ftp.up
  split <;> omega

section
variable {w w0 : World} {s : Value} {b : List Int} {g : Nat} (hs : Vw w0 s (b ++ [13, 10])) (hl : okB (b ++ [13, 10])) (hb8 : b.length ≤ 126) (b0 : Bel w w0) (hg : w0.heap[g]? = some (.cells Rfd.zero.cs.toArray 31 (0, 0))) (hgw : w.heap.size ≤ g)
include hs hl hb8 b0 hg hgw

theorem portR {r : List Int} (hr : Ftp.eatS Ftp.sPORT b = some r) :
    Brings ((Xcall Tryd.prog (Value.func (Fn.func 28) #[] #[]) #[s, .int .i64 5, .int .i64 1] w0).bind fun r169 =>
        (Qext r169.1 0).bind fun v170 =>
        (Qext r169.1 1).bind fun v171 =>
        (Xalloc Tryd.prog 31 r169.2).bind fun r172 =>
        (Xstore Tryd.prog 31 r172.1 v170 r172.2).bind fun r173 =>
        (Qload Tryd.prog 31 r172.1 r173.2).bind fun v174 =>
        (guardQ v171 true (QfieldAddr Tryd.prog 31 r172.1 2)).bind fun v175 =>
        (guardQ v171 true (Qload Tryd.prog 3 v175 r173.2)).bind fun v176 =>
        (guardQ v171 true (Qbin Tryd.prog .eql 3 v176 (gv (isB v171 true) (.int .i64 (b.length : Int))))).bind fun v177 =>
        (Qpick v171 v177 (.bool false)).bind fun v178 =>
        (Xcall Tryd.prog (Value.func (Fn.func 29) #[] #[]) #[v174, v178] r173.2).bind fun r179 =>
        (Qext r179.1 0).bind fun v180 =>
        (Qext r179.1 1).bind fun v181 =>
        (Xstore Tryd.prog 31 (.pointer (some ⟨g, 0, none⟩)) v180 r179.2).bind fun r182 =>
        ((((Qload Tryd.prog 31 (.pointer (some ⟨g, 0, none⟩)) r182.2).bind fun v => ((((some [])).map fun vs => v181 :: vs)).map fun vs => v :: vs)).map oneOf).map fun v => (v, r182.2))
      (fun x => Bel w x.2 ∧ x.1 = resF (Ftp.portL b r)) := by
  obtain ⟨er, h5⟩ := eat_drop hr
  have h5' : 5 ≤ b.length := h5
  refine (k28 hs hl (by omega) (p := 5) (k := 1) h5').bind ?_
  rintro ⟨_, w1⟩ ⟨b1, rfl⟩
  rw [show b.drop 5 = r from er.symm]
  have e0 : Ftp.portL b r = (Ftp.sixS 1 b r).bind fun x => if x.2 = [] then some x.1 else none := rfl
  cases h6 : Ftp.sixS 1 b r with
  | none =>
    simp only [resR, go_sem]
    rw [alloc31, Option.bind_some, put31, Option.bind_some]
    simp only
    rw [Rfd.all (local_at w1 _ _ 31)]
    simp only [go_sem]
    rw [e0, h6]
    exact endF b0 hg hgw (b1.trans (local_bel _ _ _)) _ _ rfl
  | some x =>
    obtain ⟨f, x2⟩ := x
    have hst : f.stop = (b.length : Int) - x2.length := by
      unfold Ftp.sixS at h6
      obtain ⟨y, hy, h6⟩ := Option.bind_eq_some_iff.1 h6
      split at h6
      · cases h6
      · injection h6 with h6
        injection h6 with h7 h8
        rw [← h7, ← h8]
    simp only [resR, go_sem]
    rw [alloc31, Option.bind_some, put31, Option.bind_some]
    simp only
    have hc := local_at w1 (ofR f).cs Rfd.zero.cs 31
    have bl := local_bel w1 (.cells Rfd.zero.cs.toArray 31) (ofR f).cs.toArray
    revert hc bl
    generalize (w1.alloc (.cells Rfd.zero.cs.toArray 31)).setRow w1.heap.size (ofR f).cs.toArray = w2
    intro hc bl
    rw [Rfd.all hc]
    simp only [go_sem, Rfd.b2 hc, show (ofR f).end_ = f.stop from rfl]
    rw [e0, h6, Option.bind_some]
    by_cases hx : x2 = []
    · rw [show (f.stop == (b.length : Int)) = true by rw [hst, hx]; simp, if_pos hx]
      exact endF b0 hg hgw (b1.trans bl) _ _ rfl
    · have := List.length_pos_iff.2 hx
      rw [show (f.stop == (b.length : Int)) = false by rw [hst]; simp; omega, if_neg hx]
      exact endF b0 hg hgw (b1.trans bl) _ _ rfl

set_option maxRecDepth 100000 in
theorem eprtR {r : List Int} (hr : (Ftp.eatS Ftp.sEPRT b).bind (Ftp.eatS [124, 49, 124]) = some r) :
    Brings ((Xcall Tryd.prog (Value.func (Fn.func 30) #[] #[]) #[s, .int .i64 8] w0).bind fun r187 =>
          (Qext r187.1 0).bind fun v188 =>
          (Qext r187.1 1).bind fun v189 =>
          (Qext r187.1 2).bind fun v190 =>
          (Qun .not v190).bind fun v191 =>
          (guardQ v191 false (QindexAddr Tryd.prog 22 (gv (isB v191 false) s) (gv (isB v191 false) v189) r187.2)).bind fun v192 =>
          (guardQ v191 false (Qload Tryd.prog 5 v192 r187.2)).bind fun v193 =>
          (guardQ v191 false (Qbin Tryd.prog .neq 5 v193 (.int .u8 124))).bind fun v194 =>
          (Qpick v191 (.bool true) v194).bind fun v195 =>
          condK v195 (
            (Qbuild Tryd.prog 31 #[] r187.2).bind fun v196 =>
            (Xstore Tryd.prog 31 (.pointer (some ⟨g, 0, none⟩)) v196 r187.2).bind fun r197 =>
            ((((Qload Tryd.prog 31 (.pointer (some ⟨g, 0, none⟩)) r197.2).bind fun v => ((((some [])).map fun vs => (.bool false) :: vs)).map fun vs => v :: vs)).map oneOf).map fun v => (v, r197.2)
          ) (
            (Qbin Tryd.prog .add 3 v189 (.int .i64 1)).bind fun v198 =>
            (Xcall Tryd.prog (Value.func (Fn.func 31) #[] #[]) #[s, v198, .int .i64 65535] r187.2).bind fun r199 =>
            (Qext r199.1 0).bind fun v200 =>
            (Qext r199.1 1).bind fun v201 =>
            (Qext r199.1 2).bind fun v202 =>
            (Qbin Tryd.prog .add 3 v201 (.int .i64 1)).bind fun v203 =>
            (Qconv Tryd.prog 3 25 v200).bind fun v204 =>
            (Qbuild Tryd.prog 31 #[(0, .int .i64 2), (1, .int .i64 5), (2, v203), (3, v188), (4, v204)] r199.2).bind fun v205 =>
            (guardQ v202 true (Qbin Tryd.prog .gtr 3 (gv (isB v202 true) v200) (.int .i64 0))).bind fun v206 =>
            (Qpick v202 v206 (.bool false)).bind fun v207 =>
            (guardQ v207 true (QindexAddr Tryd.prog 22 (gv (isB v207 true) s) (gv (isB v207 true) v201) r199.2)).bind fun v208 =>
            (guardQ v207 true (Qload Tryd.prog 5 v208 r199.2)).bind fun v209 =>
            (guardQ v207 true (Qbin Tryd.prog .eql 5 v209 (.int .u8 124))).bind fun v210 =>
            (Qpick v207 v210 (.bool false)).bind fun v211 =>
            (guardQ v211 true (Qbin Tryd.prog .add 3 (gv (isB v211 true) v201) (.int .i64 1))).bind fun v212 =>
            (guardQ v211 true (Qbin Tryd.prog .eql 3 v212 (gv (isB v211 true) (.int .i64 (b.length : Int))))).bind fun v213 =>
            (Qpick v211 v213 (.bool false)).bind fun v214 =>
            (Xcall Tryd.prog (Value.func (Fn.func 29) #[] #[]) #[v205, v214] r199.2).bind fun r215 =>
            (Qext r215.1 0).bind fun v216 =>
            (Qext r215.1 1).bind fun v217 =>
            (Xstore Tryd.prog 31 (.pointer (some ⟨g, 0, none⟩)) v216 r215.2).bind fun r218 =>
            ((((Qload Tryd.prog 31 (.pointer (some ⟨g, 0, none⟩)) r218.2).bind fun v => ((((some [])).map fun vs => v217 :: vs)).map fun vs => v :: vs)).map oneOf).map fun v => (v, r218.2)))
      (fun x => Bel w x.2 ∧ x.1 = resF (Ftp.eprtL b)) := by
  have hr8 : Ftp.eatS (Ftp.sEPRT ++ [124, 49, 124]) b = some r := by rw [eat_app]; exact hr
  obtain ⟨er, h8⟩ := eat_drop hr8
  have h8' : 8 ≤ b.length := h8
  have er' : b.drop 8 = r := er.symm
  have e0 : Ftp.eprtL b = (Ftp.accS 46 4 r).bind fun x => (Ftp.eatS [124] x.2).bind fun r3 => (Ftp.numS 65535 r3).bind fun y => if y.1 = 0 then none else (Ftp.eatS [124] y.2).bind fun r5 => if r5 = [] then some ⟨2, 5, b.length, Ftp.addrS x.1, y.1⟩ else none := by
    unfold Ftp.eprtL
    obtain ⟨z, hz, hr2⟩ := Option.bind_eq_some_iff.1 hr
    rw [hz, Option.bind_some, hr2, Option.bind_some]
  refine (k30 hs hl (by omega) (p := 8) h8').bind ?_
  rintro ⟨v1, w1⟩ ⟨b1, h1⟩
  rw [er'] at h1
  have hs1 := hs.bel b1
  rw [e0]
  cases ha : Ftp.accS 46 4 r with
  | none =>
    rw [ha] at h1
    simp only at h1
    subst h1
    simp only [go_sem, Bool.not_false]
    exact endN b0 hg hgw b1 rfl
  | some x =>
    obtain ⟨xs, r1⟩ := x
    rw [ha] at h1
    simp only at h1
    subst h1
    have hsuf : r1 <:+ b := (acc_suf (by decide) ha).trans (by rw [← er']; exact List.drop_suffix _ _)
    have hr1 := hsuf.length_le
    obtain ⟨c, a, hc, hq, hld⟩ := at_rest hs1 hsuf
    simp only [go_sem, Bool.not_true, hq, hld, Option.bind_some]
    obtain ⟨hiff, hyes⟩ := rest_eat up124 hc
    by_cases hc1 : c = 124
    · obtain ⟨r3, e3, e3'⟩ := hyes hc1
      subst hc1
      rw [show ((124 : Int) != 124) = false from rfl]
      simp only [go_sem]
      rw [wr (by omega) (by omega)]
      subst e3
      have hsuf3 : r3 <:+ b := (List.suffix_cons _ _).trans hsuf
      have hl3 := hsuf3.length_le
      rw [e3', Option.bind_some]
      have ep : ((b.length - (124 :: r3).length : Nat) : Int) + 1 = ((b.length - r3.length : Nat) : Int) := by simp only [List.length_cons] at hr1 ⊢; omega
      rw [ep]
      refine (k31b hs1 hl (by omega) (p := b.length - r3.length) (most := 65535) (by omega) (by decide)).bind ?_
      rintro _ rfl
      rw [suf_drop hsuf3]
      cases hn : Ftp.numS 65535 r3 with
      | none =>
        simp only [numV2, go_sem]
        rw [show Qconv Tryd.prog 3 25 (.int .i64 0) = some (.int .u16 0) by kernel_rfl]
        simp only [go_sem, bld31]
        exact endF b0 hg hgw b1 _ _ rfl
      | some y =>
        obtain ⟨n, r4⟩ := y
        obtain ⟨n0, n1, _⟩ := Ftp.numS_iff.1 hn
        have hsuf4 : r4 <:+ b := (num_suf hn).trans hsuf3
        have hl4 := hsuf4.length_le
        obtain ⟨c4, a4, hc4, hq4, hld4⟩ := at_rest hs1 hsuf4
        simp only [numV2, go_sem]
        rw [conv325 ⟨n0, n1⟩]
        simp only [go_sem, bld31]
        rw [wr (by omega) (by omega)]
        by_cases hn0 : n = 0
        · rw [decide_eq_false (by omega)]
          simp only [go_sem, Option.bind_some]
          exact endF b0 hg hgw b1 _ _ (by rw [if_pos hn0]; rfl)
        rw [decide_eq_true (by omega)]
        simp only [go_sem, hq4, hld4, Option.bind_some]
        rw [if_neg hn0]
        obtain ⟨hiff4, hyes4⟩ := rest_eat up124 hc4
        by_cases h4 : c4 = 124
        · obtain ⟨r5, e5, e5'⟩ := hyes4 h4
          subst h4 e5
          rw [show ((124 : Int) == 124) = true from rfl]
          simp only [go_sem]
          rw [wr (by omega) (by omega), e5', Option.bind_some]
          simp only [List.length_cons] at hl4 ⊢
          by_cases h5 : r5 = []
          · subst h5
            simp only [List.length_nil] at hl4 ⊢
            rw [show (((b.length - (0 + 1) : Nat) : Int) + 1 == (b.length : Int)) = true by simp; omega]
            refine endF b0 hg hgw b1 _ _ ?_
            rw [if_pos rfl]
            show resR _ true = resR _ true
            congr 1
            show (⟨2, 5, (b.length : Int), Ftp.addrS xs, n⟩ : Rfd) = _
            congr 1
            omega
          · have := List.length_pos_iff.2 h5
            rw [show (((b.length - (r5.length + 1) : Nat) : Int) + 1 == (b.length : Int)) = false by simp; omega]
            exact endF b0 hg hgw b1 _ _ (by rw [if_neg h5]; rfl)
        · rw [show (c4 == 124) = false by simpa using h4]
          have e5 : Ftp.eatS [124] r4 = none := by
            cases h : Ftp.eatS [124] r4 with
            | none => rfl
            | some z => exact absurd (hiff4.2 (by rw [h]; rfl)) h4
          simp only [go_sem]
          rw [e5]
          exact endF b0 hg hgw b1 _ _ rfl
    · rw [show (c != 124) = true by simpa using hc1]
      have e3 : Ftp.eatS [124] r1 = none := by
        cases h : Ftp.eatS [124] r1 with
        | none => rfl
        | some z => exact absurd (hiff.2 (by rw [h]; rfl)) hc1
      simp only [go_sem]
      rw [e3]
      exact endN b0 hg hgw b1 rfl
end

end Go.Proofs.YtphokckbcmiddaaDoor
