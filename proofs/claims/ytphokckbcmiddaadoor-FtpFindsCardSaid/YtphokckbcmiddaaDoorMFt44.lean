/- The reference's Find of a server. -/
import Derived.Test.YtphokckbcmiddaaDoorMFt43
namespace Go.Proofs.YtphokckbcmiddaaDoor
open Go Go.Ev Go.RowKit
open Go.Proofs

/-- Where the first open bracket stands. -/
def opP (b : List Int) : Int := if (40 : Int) ∈ b then ((b.takeWhile fun c => decide (c ≠ 40)).length : Int) else -1
theorem open_rest {s b r : List Int} (h : Ftp.eatS s b = some r) (hs : ∀ c ∈ s, c ≠ 40) (h4 : s.length = 4) :
    ((40 : Int) ∉ r → opP b = -1 ∧ Ftp.openS r = none) ∧ ((40 : Int) ∈ r → ∃ r2, Ftp.openS r = some (40 :: r2) ∧ (40 :: r2) <:+ b ∧ opP b = ((b.length - (40 :: r2).length : Nat) : Int) ∧ 4 ≤ b.length - (40 :: r2).length) := by
  obtain ⟨p, e, hp⟩ := Ftp.eatS_iff.1 h
  have hp40 : ∀ c ∈ p, c ≠ 40 := by
    intro c hc h40
    subst h40
    have : Ftp.up 40 ∈ s := by rw [← hp]; exact List.mem_map_of_mem hc
    exact hs _ this rfl
  have hpl : p.length = 4 := by rw [← h4, ← hp, List.length_map]
  have hmem : (40 : Int) ∈ b ↔ (40 : Int) ∈ r := by
    rw [e, List.mem_append]
    exact ⟨fun h => h.elim (fun h => absurd rfl (hp40 _ h)) id, .inr⟩
  constructor
  · intro hr
    unfold opP Ftp.openS
    rw [if_neg (fun h => hr (hmem.1 h)), if_neg hr]
    exact ⟨rfl, rfl⟩
  · intro hr
    have htd := List.takeWhile_append_dropWhile (p := fun c : Int => decide (c ≠ 40)) (l := r)
    have hhd := List.head?_dropWhile_not (fun c : Int => decide (c ≠ 40)) r
    cases hd : r.dropWhile (fun c : Int => decide (c ≠ 40)) with
    | nil =>
      rw [hd, List.append_nil] at htd
      rw [← htd] at hr
      have := Ftp.takeWhile_all (p := fun c : Int => decide (c ≠ 40)) r 40 hr
      simp at this
    | cons y r2 =>
      rw [hd] at hhd htd
      have hy : y = 40 := by simpa using hhd
      subst hy
      have key := Ftp.takeWhile_app (p := fun c : Int => decide (c ≠ 40)) (l := p ++ r.takeWhile fun c => decide (c ≠ 40)) (m := 40 :: r2) (by
        intro c hc
        rcases List.mem_append.1 hc with hc | hc
        · simpa using hp40 c hc
        · exact Ftp.takeWhile_all _ c hc) (by intro c hc; injection hc with hc; subst hc; rfl)
      rw [List.append_assoc, htd, ← e] at key
      have hlen := congrArg List.length htd
      have hbl := congrArg List.length e
      rw [List.length_append] at hlen hbl
      have hop : opP b = ((b.length - (40 :: r2).length : Nat) : Int) := by
        unfold opP
        rw [if_pos (hmem.2 hr), key.1, List.length_append]
        congr 1
        omega
      refine ⟨r2, ?_, ⟨p ++ r.takeWhile fun c => decide (c ≠ 40), by rw [List.append_assoc, htd, ← e]⟩, hop, by omega⟩
      unfold Ftp.openS
      rw [if_pos hr, hd]

section
variable {w w0 : World} {s : Value} {b : List Int} {g : Nat} (hs : Vw w0 s (b ++ [13, 10])) (hl : okB (b ++ [13, 10])) (hb8 : b.length ≤ 126) (b0 : Bel w w0) (hg : w0.heap[g]? = some (.cells Rfd.zero.cs.toArray 31 (0, 0))) (hgw : w.heap.size ≤ g)
include hs hl hb8 b0 hg hgw

set_option maxRecDepth 100000 in
theorem pasvR {r2 : List Int} (h2 : (40 :: r2) <:+ b) {o : Option Ftp.Fd} (ho : o = (Ftp.sixS 3 b r2).bind fun x => (Ftp.eatS [41] x.2).bind fun _ => some x.1) :
    Brings ((Qbin Tryd.prog .add 3 (.int .i64 ((b.length - (40 :: r2).length : Nat) : Int)) (.int .i64 1)).bind fun v223 =>
        (Xcall Tryd.prog (Value.func (Fn.func 28) #[] #[]) #[s, v223, .int .i64 3] w0).bind fun r224 =>
        (Qext r224.1 0).bind fun v225 =>
        (Qext r224.1 1).bind fun v226 =>
        (Xalloc Tryd.prog 31 r224.2).bind fun r227 =>
        (Xstore Tryd.prog 31 r227.1 v225 r227.2).bind fun r228 =>
        (Qload Tryd.prog 31 r227.1 r228.2.drew).bind fun v229 =>
        (guardQ v226 true (QfieldAddr Tryd.prog 31 r227.1 2)).bind fun v230 =>
        (guardQ v226 true (Qload Tryd.prog 3 v230 r228.2.drew)).bind fun v231 =>
        (guardQ v226 true (QindexAddr Tryd.prog 22 (gv (isB v226 true) s) v231 r228.2.drew)).bind fun v232 =>
        (guardQ v226 true (Qload Tryd.prog 5 v232 r228.2.drew)).bind fun v233 =>
        (guardQ v226 true (Qbin Tryd.prog .eql 5 v233 (.int .u8 41))).bind fun v234 =>
        (Qpick v226 v234 (.bool false)).bind fun v235 =>
        (Xcall Tryd.prog (Value.func (Fn.func 29) #[] #[]) #[v229, v235] r228.2.drew).bind fun r236 =>
        (Qext r236.1 0).bind fun v237 =>
        (Qext r236.1 1).bind fun v238 =>
        (Xstore Tryd.prog 31 (.pointer (some ⟨g, 0, none⟩)) v237 r236.2).bind fun r239 =>
        ((((Qload Tryd.prog 31 (.pointer (some ⟨g, 0, none⟩)) r239.2).bind fun v => ((((some [])).map fun vs => v238 :: vs)).map fun vs => v :: vs)).map oneOf).map fun v => (v, r239.2))
      (fun x => Bel w x.2 ∧ x.1 = resF o) := by
  have hl2 := h2.length_le
  have hsuf2 : r2 <:+ b := (List.suffix_cons _ _).trans h2
  have hlr := hsuf2.length_le
  simp only [go_sem]
  rw [wr (by omega) (by omega)]
  have ep : ((b.length - (40 :: r2).length : Nat) : Int) + 1 = ((b.length - r2.length : Nat) : Int) := by simp only [List.length_cons] at hl2 ⊢; omega
  rw [ep]
  refine (k28 hs hl (by omega) (p := b.length - r2.length) (k := 3) (by omega)).bind ?_
  rintro ⟨_, w1⟩ ⟨b1, rfl⟩
  rw [suf_drop hsuf2]
  cases h6 : Ftp.sixS 3 b r2 with
  | none =>
    simp only [resR, go_sem]
    rw [alloc31, Option.bind_some, put31, Option.bind_some]
    simp only
    have hc := local_at w1 Rfd.zero.cs Rfd.zero.cs 31
    have bl := local_bel w1 (.cells Rfd.zero.cs.toArray 31) Rfd.zero.cs.toArray
    revert hc bl
    generalize (w1.alloc (.cells Rfd.zero.cs.toArray 31)).setRow w1.heap.size Rfd.zero.cs.toArray = w2
    intro hc bl
    have bd : Bel w2 w2.drew := (Bel.refl w2).drew
    generalize w2.drew = wd at *
    rw [Rfd.all (hc.bel bd)]
    simp only [go_sem]
    exact endF b0 hg hgw (b1.trans (bl.trans bd)) _ _ (by rw [ho, h6]; rfl)
  | some x =>
    obtain ⟨f, x2⟩ := x
    have hst : f.stop = (b.length : Int) - x2.length ∧ x2 <:+ b := by
      unfold Ftp.sixS at h6
      obtain ⟨y, hy, h6⟩ := Option.bind_eq_some_iff.1 h6
      split at h6
      · cases h6
      · injection h6 with h6
        injection h6 with h7 h8
        rw [← h7, ← h8]
        exact ⟨rfl, (acc_suf (by decide) (show Ftp.accS 44 6 r2 = some (y.1, y.2) from hy)).trans hsuf2⟩
    obtain ⟨hst, hx2⟩ := hst
    have hlx := hx2.length_le
    simp only [resR, go_sem]
    rw [alloc31, Option.bind_some, put31, Option.bind_some]
    simp only
    have hc := local_at w1 (ofR f).cs Rfd.zero.cs 31
    have bl := local_bel w1 (.cells Rfd.zero.cs.toArray 31) (ofR f).cs.toArray
    revert hc bl
    generalize (w1.alloc (.cells Rfd.zero.cs.toArray 31)).setRow w1.heap.size (ofR f).cs.toArray = w2
    intro hc bl
    have bd : Bel w2 w2.drew := (Bel.refl w2).drew
    generalize w2.drew = wd at *
    have hcd := hc.bel bd
    have b1d := b1.trans (bl.trans bd)
    obtain ⟨c, a, hcx, hq, hld⟩ := at_rest (hs.bel b1d) hx2
    rw [Rfd.all hcd]
    simp only [go_sem, Rfd.b2 hcd, show (ofR f).end_ = ((b.length - x2.length : Nat) : Int) from by show f.stop = _; omega, hq, hld]
    obtain ⟨hiff, hyes⟩ := rest_eat up41 hcx
    by_cases h41 : c = 41
    · obtain ⟨r5, _, e5⟩ := hyes h41
      rw [show (c == 41) = true by simpa using h41]
      exact endF b0 hg hgw b1d _ _ (by rw [ho, h6, Option.bind_some, e5]; rfl)
    · have e5 : Ftp.eatS [41] x2 = none := by
        cases h : Ftp.eatS [41] x2 with
        | none => rfl
        | some z => exact absurd (hiff.2 (by rw [h]; rfl)) h41
      rw [show (c == 41) = false by simpa using h41]
      exact endF b0 hg hgw b1d _ _ (by rw [ho, h6, Option.bind_some, e5]; rfl)

set_option maxRecDepth 100000 in
theorem epsvR : Brings ((Xcall Tryd.prog (Value.func (Fn.func 27) #[] #[]) #[s, .int .i64 0, .string { data := #[50, 50, 57, 32] }] w0).bind fun r240 =>
        (guardQ r240.1 true (Qbin Tryd.prog .geq 3 (gv (isB r240.1 true) (.int .i64 (opP b))) (.int .i64 4))).bind fun v241 =>
        (Qpick r240.1 v241 (.bool false)).bind fun v242 =>
        (guardX v242 true r240.2 (Xcall Tryd.prog (Value.func (Fn.func 27) #[] #[]) #[(gv (isB v242 true) s), (gv (isB v242 true) (.int .i64 (opP b))), .string { data := #[40, 124, 124, 124] }] r240.2)).bind fun r243 =>
        (Qpick v242 r243.1 (.bool false)).bind fun v244 =>
        condK v244 (
          (Qbin Tryd.prog .add 3 (.int .i64 (opP b)) (.int .i64 4)).bind fun v245 =>
          (Xcall Tryd.prog (Value.func (Fn.func 31) #[] #[]) #[s, v245, .int .i64 65535] r243.2).bind fun r246 =>
          (Qext r246.1 0).bind fun v247 =>
          (Qext r246.1 1).bind fun v248 =>
          (Qext r246.1 2).bind fun v249 =>
          (Qbin Tryd.prog .add 3 (.int .i64 (opP b)) (.int .i64 4)).bind fun v250 =>
          (Qconv Tryd.prog 3 25 v247).bind fun v251 =>
          (Qbuild Tryd.prog 31 #[(0, .int .i64 4), (1, v250), (2, v248), (3, .int .u32 0), (4, v251)] r246.2).bind fun v252 =>
          (guardQ v249 true (Qbin Tryd.prog .gtr 3 (gv (isB v249 true) v247) (.int .i64 0))).bind fun v253 =>
          (Qpick v249 v253 (.bool false)).bind fun v254 =>
          (guardX v254 true r246.2 (Xcall Tryd.prog (Value.func (Fn.func 27) #[] #[]) #[(gv (isB v254 true) s), (gv (isB v254 true) v248), .string { data := #[124, 41] }] r246.2)).bind fun r255 =>
          (Qpick v254 r255.1 (.bool false)).bind fun v256 =>
          (Xcall Tryd.prog (Value.func (Fn.func 29) #[] #[]) #[v252, v256] r255.2).bind fun r257 =>
          (Qext r257.1 0).bind fun v258 =>
          (Qext r257.1 1).bind fun v259 =>
          (Xstore Tryd.prog 31 (.pointer (some ⟨g, 0, none⟩)) v258 r257.2).bind fun r260 =>
          ((((Qload Tryd.prog 31 (.pointer (some ⟨g, 0, none⟩)) r260.2).bind fun v => ((((some [])).map fun vs => v259 :: vs)).map fun vs => v :: vs)).map oneOf).map fun v => (v, r260.2)
        ) (
          (Qbuild Tryd.prog 31 #[] r243.2).bind fun v261 =>
          (Xstore Tryd.prog 31 (.pointer (some ⟨g, 0, none⟩)) v261 r243.2).bind fun r262 =>
          ((((Qload Tryd.prog 31 (.pointer (some ⟨g, 0, none⟩)) r262.2).bind fun v => ((((some [])).map fun vs => (.bool false) :: vs)).map fun vs => v :: vs)).map oneOf).map fun v => (v, r262.2)))
      (fun x => Bel w x.2 ∧ x.1 = resF (Ftp.epsvL b)) := by
  rw [e229, eBar, eEnd]
  refine (k27b hs hl (by omega) (p := 0) (t := Ftp.s229) (Nat.zero_le _) (by decide) (okB_of rfl) (by decide)).bind ?_
  rintro _ rfl
  rw [List.drop_zero]
  have e0 : Ftp.epsvL b = (Ftp.eatS Ftp.s229 b).bind fun r => (Ftp.openS r).bind fun r1 => (Ftp.eatS [40, 124, 124, 124] r1).bind fun r2 => (Ftp.numS 65535 r2).bind fun y =>
    if y.1 = 0 then none else (Ftp.eatS [124, 41] y.2).bind fun _ => some ⟨4, b.length - r2.length, b.length - y.2.length, 0, y.1⟩ := rfl
  rw [e0]
  cases h9 : Ftp.eatS Ftp.s229 b with
  | none =>
    simp only [go_sem, Option.isSome]
    exact endN b0 hg hgw (Bel.refl _) rfl
  | some r =>
    obtain ⟨no, yes⟩ := open_rest h9 (by decide) rfl
    simp only [go_sem, Option.isSome, Option.bind_some]
    by_cases h40 : (40 : Int) ∈ r
    · obtain ⟨r2, eo, h2, hop, h4⟩ := yes h40
      have hl2 := h2.length_le
      rw [eo, Option.bind_some, hop, decide_eq_true (by omega)]
      simp only [go_sem]
      refine (k27b hs hl (by omega) (p := b.length - (40 :: r2).length) (t := [40, 124, 124, 124]) (by omega) (by decide) (okB_of rfl) (by decide)).bind ?_
      rintro _ rfl
      rw [suf_drop h2]
      cases he : Ftp.eatS [40, 124, 124, 124] (40 :: r2) with
      | none =>
        simp only [go_sem, Option.isSome]
        exact endN b0 hg hgw (Bel.refl _) rfl
      | some r3 =>
        obtain ⟨er3, hle⟩ := eat_drop he
        have hsuf3 : r3 <:+ b := by rw [er3]; exact (List.drop_suffix _ _).trans h2
        have hl3 := hsuf3.length_le
        have hl34 : r3.length + 4 = (40 :: r2).length := by
          have := congrArg List.length er3
          rw [List.length_drop] at this
          simp only [List.length_cons, List.length_nil] at this hle ⊢
          omega
        have ep : ((b.length - (40 :: r2).length : Nat) : Int) + 4 = ((b.length - r3.length : Nat) : Int) := by omega
        simp only [go_sem, Option.isSome, Option.bind_some]
        rw [wr (by omega) (by omega), ep]
        refine (k31b hs hl (by omega) (p := b.length - r3.length) (most := 65535) (by omega) (by decide)).bind ?_
        rintro _ rfl
        rw [suf_drop hsuf3]
        cases hn : Ftp.numS 65535 r3 with
        | none =>
          simp only [numV2, go_sem]
          rw [show Qconv Tryd.prog 3 25 (.int .i64 0) = some (.int .u16 0) by kernel_rfl]
          simp only [go_sem, bld31]
          exact endF b0 hg hgw (Bel.refl _) _ _ rfl
        | some y =>
          obtain ⟨n, r4⟩ := y
          obtain ⟨n0, n1, _⟩ := Ftp.numS_iff.1 hn
          have hsuf4 : r4 <:+ b := (num_suf hn).trans hsuf3
          have hl4 := hsuf4.length_le
          simp only [numV2, go_sem]
          rw [conv325 ⟨n0, n1⟩]
          simp only [go_sem, bld31, Option.bind_some]
          by_cases hn0 : n = 0
          · rw [decide_eq_false (by omega), if_pos hn0]
            simp only [go_sem]
            exact endF b0 hg hgw (Bel.refl _) _ _ rfl
          rw [decide_eq_true (by omega), if_neg hn0]
          simp only [go_sem]
          refine (k27b hs hl (by omega) (p := b.length - r4.length) (t := [124, 41]) (by omega) (by decide) (okB_of rfl) (by decide)).bind ?_
          rintro _ rfl
          rw [suf_drop hsuf4]
          cases h5 : Ftp.eatS [124, 41] r4 with
          | none =>
            simp only [go_sem, Option.isSome]
            exact endF b0 hg hgw (Bel.refl _) _ _ rfl
          | some r5 =>
            simp only [go_sem, Option.isSome]
            refine endF b0 hg hgw (Bel.refl _) _ _ ?_
            show resR (⟨4, (b.length : Int) - (r3.length : Int), (b.length : Int) - (r4.length : Int), 0, n⟩ : Rfd) true = _
            rw [show (b.length : Int) - (r3.length : Int) = ((b.length - r3.length : Nat) : Int) by omega, show (b.length : Int) - (r4.length : Int) = ((b.length - r4.length : Nat) : Int) by omega]
            rfl
    · obtain ⟨hop, eo⟩ := no h40
      rw [eo, hop, decide_eq_false (by decide)]
      simp only [go_sem]
      exact endN b0 hg hgw (Bel.refl _) rfl
end

end Go.Proofs.YtphokckbcmiddaaDoor
