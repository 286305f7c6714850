/- The reference's Find, whole. -/
import Derived.Test.YtphokckbcmiddaaDoorMFt44
namespace Go.Proofs.YtphokckbcmiddaaDoor
open Go Go.Ev Go.RowKit
open Go.Proofs

set_option maxRecDepth 100000 in
theorem k11 {w : World} {s : Value} {l : List Int} {back : Bool} (hs : Vw w s l) (hl : okB l) : Brings (Xcall Tryd.prog (Value.func (Fn.func 11) #[] #[]) #[s, .bool back] w) (fun r => Bel w r.2 ∧ r.1 = resF (Ftp.findS l back)) := by
  refine e11 ?_
  unfold s11
  rw [alloc31, Option.bind_some]
  have b0 : Bel w (w.alloc (.cells Rfd.zero.cs.toArray 31)) := (Bel.refl w).alloc _
  have h0 : (w.alloc (.cells Rfd.zero.cs.toArray 31)).heap[w.heap.size]? = some (.cells Rfd.zero.cs.toArray 31 (0, 0)) := (MapKept.heap_alloc w _).1
  revert b0 h0
  generalize w.alloc (.cells Rfd.zero.cs.toArray 31) = w0
  intro b0 h0
  have hs0 := hs.bel b0
  have hgw : w.heap.size ≤ w.heap.size := Nat.le_refl _
  refine (k26 hs0).bind ?_
  rintro _ rfl
  cases hline : Ftp.lineS l with
  | none =>
    have e : Ftp.findS l back = none := by unfold Ftp.findS; rw [hline]; rfl
    rw [e]
    simp only [go_sem, Option.isSome, Bool.not_false]
    exact endN b0 h0 hgw (Bel.refl _) rfl
  | some b =>
    obtain ⟨rfl, h128, _⟩ := Ftp.lineS_iff.1 hline
    have hb8 : b.length ≤ 126 := by simp at h128; omega
    have e : Ftp.findS (b ++ [13, 10]) back = Ftp.findB b back := by unfold Ftp.findS; rw [hline]; rfl
    rw [e]
    simp only [go_sem, Option.isSome, Bool.not_true, vlen hs0]
    have hlen : ((b ++ [13, 10]).length : Int) - 2 = (b.length : Int) := by simp
    rw [hlen, wr (by omega) (by omega)]
    cases back with
    | false =>
      simp only [go_sem, Bool.not_false]
      rw [eA1, eE1]
      refine (k27b hs0 hl (by omega) (p := 0) (t := Ftp.sPORT) (Nat.zero_le _) (by decide) (okB_of rfl) (by decide)).bind ?_
      rintro _ rfl
      rw [List.drop_zero]
      cases h5 : Ftp.eatS Ftp.sPORT b with
      | some r =>
        have ef : Ftp.findB b false = Ftp.portL b r := by unfold Ftp.findB; rw [if_neg (by decide), h5]
        rw [ef]
        simp only [Option.isSome, condK_t]
        exact portR hs0 hl hb8 b0 h0 hgw h5
      | none =>
        have ef : Ftp.findB b false = Ftp.eprtL b := by unfold Ftp.findB; rw [if_neg (by decide), h5]
        rw [ef]
        simp only [Option.isSome, condK_f]
        refine (k27b hs0 hl (by omega) (p := 0) (t := Ftp.sEPRT ++ [124, 49, 124]) (Nat.zero_le _) (by decide) (okB_of rfl) (by decide)).bind ?_
        rintro _ rfl
        rw [List.drop_zero, eat_app]
        cases h8 : (Ftp.eatS Ftp.sEPRT b).bind (Ftp.eatS [124, 49, 124]) with
        | none =>
          have en : Ftp.eprtL b = none := by
            unfold Ftp.eprtL
            cases hz : Ftp.eatS Ftp.sEPRT b with
            | none => rfl
            | some z =>
              rw [hz, Option.bind_some] at h8
              rw [Option.bind_some, h8]
              rfl
          rw [en]
          simp only [go_sem, Option.isSome, Bool.not_false]
          exact endN b0 h0 hgw (Bel.refl _) rfl
        | some r =>
          simp only [Qun_not, Option.isSome, Bool.not_true, Option.bind_some, condK_f]
          exact eprtR hs0 hl hb8 b0 h0 hgw h8
    | true =>
      simp only [go_sem, Bool.not_true]
      refine (k32 hs0 (by omega)).bind ?_
      rintro _ rfl
      rw [show (if (40 : Int) ∈ b then ((b.takeWhile fun c => decide (c ≠ 40)).length : Int) else -1) = opP b from rfl]
      rw [e227]
      refine (k27b hs0 hl (by omega) (p := 0) (t := Ftp.s227) (Nat.zero_le _) (by decide) (okB_of rfl) (by decide)).bind ?_
      rintro _ rfl
      rw [List.drop_zero]
      cases h7 : Ftp.eatS Ftp.s227 b with
      | none =>
        have ef : Ftp.findB b true = Ftp.epsvL b := by unfold Ftp.findB; rw [if_pos rfl, h7]
        rw [ef]
        simp only [go_sem, Option.isSome]
        exact epsvR hs0 hl hb8 b0 h0 hgw
      | some r =>
        have ef : Ftp.findB b true = Ftp.pasvL b r := by unfold Ftp.findB; rw [if_pos rfl, h7]
        rw [ef]
        obtain ⟨no, yes⟩ := open_rest h7 (by decide) rfl
        by_cases h40 : (40 : Int) ∈ r
        · obtain ⟨r2, eo, h2, hop, h4⟩ := yes h40
          rw [hop]
          simp only [Qb_geq, Option.isSome, guardQ_tt, gv_t, isB_t, Option.bind_some]
          rw [decide_eq_true (by omega)]
          rw [Qpick_t, Option.bind_some, condK_t]
          refine pasvR hs0 hl hb8 b0 h0 hgw h2 ?_
          unfold Ftp.pasvL
          rw [eo, Option.bind_some, show Ftp.eatS [40] (40 :: r2) = some r2 from if_pos rfl, Option.bind_some]
        · obtain ⟨hop, eo⟩ := no h40
          have e9 : Ftp.eatS Ftp.s229 b = none := by
            cases h9 : Ftp.eatS Ftp.s229 b with
            | none => rfl
            | some z =>
              obtain ⟨p, e1, m1⟩ := Ftp.eatS_iff.1 h7
              obtain ⟨p2, e2, m2⟩ := Ftp.eatS_iff.1 h9
              have l1 : p.length = 4 := by rw [← List.length_map (f := Ftp.up), m1]; rfl
              have l2 : p2.length = 4 := by rw [← List.length_map (f := Ftp.up), m2]; rfl
              have : p = p2 := by
                have := congrArg (List.take 4) (e1.symm.trans e2)
                rwa [List.take_left' l1, List.take_left' l2] at this
              rw [this, m2] at m1
              exact absurd m1 (by decide)
          have ep : Ftp.pasvL b r = Ftp.epsvL b := by
            unfold Ftp.pasvL Ftp.epsvL
            rw [eo, e9]
            rfl
          rw [ep]
          have := epsvR hs0 hl hb8 b0 h0 hgw
          rw [hop] at this ⊢
          simp only [go_sem, Option.isSome]
          rw [decide_eq_false (by decide)]
          simp only [go_sem]
          exact this

end Go.Proofs.YtphokckbcmiddaaDoor
