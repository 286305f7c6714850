/- The parts of a stream, one by one. -/
import Derived.Test.YtphokckbcmiddaaDoorMFtU5
namespace Go.Proofs.YtphokckbcmiddaaDoor.Sq
open Go Go.Ev Go.RowKit
open Go.Proofs

set_option maxRecDepth 100000 in
theorem k51n {w : World} {y : Value} {p ly : Nat} (hyv : y = .func (.yield ly) #[] #[]) (hp : w.cell? ⟨p, 0, none⟩ = some (.pointer none)) :
    Brings (Xcall Tryd.prog (Value.func (Fn.func 51) #[] #[.pointer (some ⟨p, 0, none⟩)]) #[y] w) (fun r => r.1 = .tuple #[] ∧ Bel w r.2) := by
  subst hyv
  refine e51 ?_
  unfold s51
  rw [Xbox_eq]
  have hb : Bel w (w.alloc (.cells #[.func (.yield ly) #[] #[]] 106)) := (Bel.refl w).alloc _
  simp only [go_sem, Qload_cell one47 (hb.cell_some hp), Qb_eqlP (P := Tryd.prog) (t := 47) (e := 82) ptr24, Option.isNone_none]
  exact .ret ⟨rfl, hb⟩

set_option maxRecDepth 100000 in
theorem k51 {S : Nat → Prop} {w : World} {ly p a : Nat} {sl : Value} {l : List Pt} (J : Nat → World → Prop) (D : World → Prop) (hS : ∀ k, S k → k < w.heap.size)
    (hp : w.cell? ⟨p, 0, none⟩ = some (.pointer (some ⟨a, 0, none⟩))) (ha : w.cell? ⟨a, 0, none⟩ = some sl) (hv : View Pt.cs 5 w sl l) (hvS : ∀ k, sl.ownBlock = some k → ¬ S k)
    (hy : ∀ i x w', J i w' → Chg S w w' → i < l.length → l[l.length - 1 - i]? = some x → Brings (Xcall Tryd.prog (.func (.yield ly) #[] #[]) #[x.v] w') fun r => Chg S w' r.2 ∧ ((r.1 = .bool true ∧ J (i + 1) r.2) ∨ (r.1 = .bool false ∧ D r.2)))
    (hb : ∀ i w' w'', J i w' → Chg (fun k => w.heap.size ≤ k) w' w'' → J i w'') (hd : ∀ w' w'', D w' → Chg (fun k => w.heap.size ≤ k) w' w'' → D w'') (h0 : J 0 w) :
    Brings (Xcall Tryd.prog (Value.func (Fn.func 51) #[] #[.pointer (some ⟨p, 0, none⟩)]) #[.func (.yield ly) #[] #[]] w) (fun r => r.1 = .tuple #[] ∧ Chg S w r.2 ∧ (J l.length r.2 ∨ D r.2)) := by
  refine e51 ?_
  unfold s51
  have hsl : ∃ x n c, sl = .slice x n c := by
    obtain ⟨x, cap, rfl, _⟩ := hv
    exact ⟨x, _, cap, rfl⟩
  rw [Xbox_eq]
  have b1 : Bel w (w.alloc (.cells #[.func (.yield ly) #[] #[]] 106)) := (Bel.refl w).alloc _
  simp only [go_sem, Qload_cell one47 (b1.cell_some hp), Qb_eqlP (P := Tryd.prog) (t := 47) (e := 82) ptr24, Option.isNone_some, Qload_cell one80 (b1.cell_some ha)]
  refine (k52 hsl).bind ?_
  rintro _ rfl
  have V0 := Locals.nil w
  have V1 := V0.add rfl (.cells #[.func (.yield ly) #[] #[]] 106)
  have V2 := V1.add (by simp) (.cells #[sl] 80)
  have hs2 : ((w.alloc (.cells #[.func (.yield ly) #[] #[]] 106)).alloc (.cells #[sl] 80)).heap.size = w.heap.size + 2 := by simp
  simp only [World.size_alloc]
  generalize (w.alloc (.cells #[.func (.yield ly) #[] #[]] 106)).alloc (.cells #[sl] 80) = w2 at V2 hs2
  refine Brings.range (f := 67) (fd := Tryd.f67) Tryd.func67 (by kernel_rfl) (by kernel_rfl) (K := fun e d w' => s51G0R d w' e) ?_
  obtain ⟨L, hL, V4⟩ := enterW_lay (fn := 51) (tmps := #[.func (.yield ly) #[] #[], .pointer (some ⟨p, 0, none⟩), .pointer (some ⟨w.heap.size, 0, none⟩), undef, undef, .pointer (some ⟨a, 0, none⟩), .bool false, .pointer (some ⟨a, 0, none⟩), .pointer (some ⟨a, 0, none⟩), .pointer (some ⟨a, 0, none⟩), sl, .func (.func 67) #[] #[.pointer (some ⟨w.heap.size + 1, 0, none⟩)], undef, undef, undef, undef, undef, undef]) (ps := #[12, 13]) (ass := nav [1, 1, 1, 0, 0] (bodyOf Tryd.f51)) (bdy := nav [1, 1, 1, 0, 1] (bodyOf Tryd.f51)) V2 (by rw [hs2]; rfl)
  rw [hs2]
  generalize enterW w2 51 _ _ _ _ = w4 at V4
  have V4 : Locals w [.cells #[.func (.yield ly) #[] #[]] 106, .cells #[sl] 80, .deferred (some []), .loop L] w4 := V4
  have fin : ∀ {L' : Loop} {w5 : World} {d : List Deferred}, Lay S w [.cells #[.func (.yield ly) #[] #[]] 106, .cells #[sl] 80, .deferred (some []), .loop L'] w5 →
      Chg (fun k => w.heap.size ≤ k) w5 (setB w5 (w.heap.size + 2) (.deferred none)) ∧ Lay S w [.cells #[.func (.yield ly) #[] #[]] 106, .cells #[sl] 80, .deferred none, .loop L'] (setB w5 (w.heap.size + 2) (.deferred none)) ∧ takeAll Tryd.prog [{ target := .collected (w.heap.size + 2), args := #[] }] w5 = some (setB w5 (w.heap.size + 2) (.deferred none)) := by
    intro L' w5 d hV
    exact ⟨(setB_chg _ _ _).mono fun k _ hk => by omega, hV.set (j := 2) (show _ < 4 by decide) rfl _, takeAll_one (hV.at_ 2 _ rfl)⟩
  refine (k67 (fun i w' => Lay S w [.cells #[.func (.yield ly) #[] #[]] 106, .cells #[sl] 80, .deferred (some []), .loop L] w' ∧ J i w')
    (fun w' => Lay S w [.cells #[.func (.yield ly) #[] #[]] 106, .cells #[sl] 80, .deferred (some []), .loop { L with state := .done, pending := some .ret }] w' ∧ D w')
    (fun i w' h => ⟨hv.chg h.1.chg hvS, h.1.cell (j := 1) rfl⟩) ?_ ⟨Lay.of V4 S, hb 0 _ _ h0 ((Chg.of_bel V4.bel fun _ => False).mono fun k _ f => f.elim)⟩).mono ?_
  · rintro i x w' ⟨hV, hj⟩ hi hx
    rw [hL.yield2 (hV.at_ 3 _ rfl)]
    simp only [List.set_cons_succ, List.set_cons_zero]
    refine s51G0Qb ?_
    unfold s51G0Q
    have B := local_bel w' (.cells Pt.zero.cs.toArray 85) x.cs.toArray
    have A := local_at w' x.cs Pt.zero.cs 85
    have hne : w'.heap.size ≠ w.heap.size + 3 := by have := hV.size; simp at this; omega
    have Cx : Chg (fun k => w.heap.size ≤ k) w' ((w'.alloc (.cells Pt.zero.cs.toArray 85)).setRow w'.heap.size x.cs.toArray) := (Chg.of_bel B fun _ => False).mono fun k _ f => f.elim
    simp only [alloc85, put85, go_sem]
    have V6 := hV.later B
    have j6 := hb i _ _ hj Cx
    clear Cx B
    generalize (w'.alloc (.cells Pt.zero.cs.toArray 85)).setRow w'.heap.size x.cs.toArray = w6 at A V6 j6
    generalize w'.heap.size = q at A hne
    rw [begK_ready (V6.at_ 3 _ rfl) hL.state]
    have A7 := A.chg (setB_chg w6 (w.heap.size + 3) (.loop { L with state := .busy })) hne
    have V7 := V6.set (j := 3) (show _ < 4 by decide) rfl (.loop { L with state := .busy })
    have j7 := hb i _ _ j6 ((setB_chg w6 (w.heap.size + 3) (.loop { L with state := .busy })).mono fun k _ hk => by omega)
    generalize setB w6 (w.heap.size + 3) _ = w7 at A7 V7 j7
    have q7 : w7.cell? ⟨w.heap.size, 0, none⟩ = some (.func (.yield ly) #[] #[]) := V7.cell (j := 0) rfl
    simp only [Qload_cell one106 q7, Pt.all A7, go_sem]
    refine (hy i x w7 j7 V7.chg hi hx).bind ?_
    rintro ⟨_, w8⟩ ⟨c8, ⟨h1, h2⟩ | ⟨h1, h2⟩⟩ <;> simp only at h1 h2 c8 <;> subst h1
    · have V8 := V7.call hS c8
      simp only [go_sem, Bool.not_true]
      rw [endR_eq (V8.at_ 3 _ rfl)]
      have e : ({ { L with state := .busy } with state := if (none : Option Code).isNone then .ready else .done, pending := none } : Loop) = L := by
        have h1 := hL.state; have h2 := hL.pending
        obtain ⟨st, pe, fn, tm, pa, asg, bd, de⟩ := L
        simp only at h1 h2
        subst h1 h2
        rfl
      refine .ret (.inl ⟨rfl, ?_, hb _ _ _ h2 ((setB_chg _ _ _).mono fun k _ hk => by omega)⟩)
      have := V8.set (j := 3) (show _ < 4 by decide) rfl (.loop { { L with state := .busy } with state := if (none : Option Code).isNone then .ready else .done, pending := none })
      rw [e] at this
      rw [e]
      exact this
    · have V8 := V7.call hS c8
      simp only [go_sem, Bool.not_false]
      rw [endR_eq (V8.at_ 3 _ rfl)]
      exact .ret (.inr ⟨rfl, V8.set (j := 3) (show _ < 4 by decide) rfl _, hd _ _ h2 ((setB_chg _ _ _).mono fun k _ hk => by omega)⟩)
  · rintro ⟨_, w9⟩ ⟨h1, ⟨hV, hj⟩ | ⟨hV, hj⟩⟩
    · refine ⟨L, .normal, hV.at_ 3 _ rfl, by rw [hL.state]; rfl, by rw [hL.pending]; rfl, ?_⟩
      have V1 := hV.set (j := 3) (show _ < 4 by decide) rfl (.loop { L with state := .exhausted })
      have j1 := hb _ _ _ hj ((setB_chg w9 (w.heap.size + 3) (.loop { L with state := .exhausted })).mono fun k _ hk => by omega)
      simp only [show w.heap.size + 2 + 1 = w.heap.size + 3 from rfl]
      generalize setB w9 (w.heap.size + 3) _ = w1 at V1 j1
      obtain ⟨f1, f2, f3⟩ := fin (d := []) V1
      simp only [s51G0R, f3, go_sem]
      exact .ret ⟨rfl, f2.chg, .inl (hb _ _ _ j1 f1)⟩
    · refine ⟨_, .ret, hV.at_ 3 _ rfl, rfl, rfl, ?_⟩
      have V1 := hV.set (j := 3) (show _ < 4 by decide) rfl (.loop { L with state := .exhausted, pending := some .ret })
      have j1 := hd _ _ hj ((setB_chg w9 (w.heap.size + 3) (.loop { L with state := .exhausted, pending := some .ret })).mono fun k _ hk => by omega)
      simp only [show w.heap.size + 2 + 1 = w.heap.size + 3 from rfl]
      generalize setB w9 (w.heap.size + 3) _ = w1 at V1 j1
      obtain ⟨f1, f2, f3⟩ := fin (d := []) V1
      simp only [s51G0R, f3, go_sem]
      exact .ret ⟨rfl, f2.chg, .inr (hd _ _ j1 f1)⟩

end Go.Proofs.YtphokckbcmiddaaDoor.Sq
