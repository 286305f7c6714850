/- The law that both replace the same. -/
import Derived.Test.YtphokckbcmiddaaDoorMFt51
namespace Go.Proofs.YtphokckbcmiddaaDoor
open Go Go.Ev Go.RowKit
open Go.Proofs

theorem repl_okB {l m : List Int} {a b : Int} (hl : okB l) (hm : okB m) : okB (Ftp.replS l a b m) := by
  unfold Ftp.replS
  split
  · exact hl
  · exact okB_app (okB_app (fun c hc => hl c (List.mem_of_mem_take hc)) hm) (fun c hc => hl c (List.mem_of_mem_drop hc))
theorem bld31k (k s e : Int) (w : World) : Qbuild Tryd.prog 31 #[(0, .int .i64 k), (1, .int .i64 s), (2, .int .i64 e)] w = some (Rfd.v ⟨k, s, e, 0, 0⟩) := by kernel_rfl

set_option maxRecDepth 100000 in
theorem law6 {w : World} (hT : Tab w) {s t : Value} {l m : List Int} {f : Fnd} (hs : Vw w s l) (ht : Vw w t m) (hl : okB l) (hm : okB m) (ll : l.length ≤ 10000000) (lm : m.length ≤ 10000000)
    (hr : -9223372036854775808 ≤ f.start ∧ f.start ≤ 9223372036854775807 ∧ -9223372036854775808 ≤ f.end_ ∧ f.end_ ≤ 9223372036854775807) : Brings (s6 s f.v t w) (fun r => r.1 = .bool true ∧ Bel w r.2) := by
  unfold s6
  rw [Fnd.box, Option.bind_some]
  have b1 : Bel w (w.alloc (.cells f.cs.toArray 27)) := (Bel.refl w).alloc _
  have hf := f.new w
  revert b1 hf
  dsimp only
  generalize w.alloc (.cells f.cs.toArray 27) = w1
  generalize w.heap.size = p4
  intro b1 hf
  rw [fb27x0, Option.bind_some, Fnd.b0 hf, Option.bind_some, fb27x1, Option.bind_some, Fnd.b1 hf, Option.bind_some, fb27x2, Option.bind_some, Fnd.b2 hf, Option.bind_some, bld31k, Option.bind_some, alloc31, Option.bind_some, put31, Option.bind_some]
  have hg := local_at w1 (Rfd.cs ⟨f.kind, f.start, f.end_, 0, 0⟩) Rfd.zero.cs 31
  have b2 := local_bel w1 (.cells Rfd.zero.cs.toArray 31) (Rfd.cs ⟨f.kind, f.start, f.end_, 0, 0⟩).toArray
  revert hg b2
  dsimp only
  generalize (w1.alloc (.cells Rfd.zero.cs.toArray 31)).setRow w1.heap.size (Rfd.cs ⟨f.kind, f.start, f.end_, 0, 0⟩).toArray = w2
  generalize w1.heap.size = p7
  intro hg b2
  have bd : Bel w2 w2.drew := (Bel.refl w2).drew
  have b12 := b2.trans bd
  have b := b1.trans b12
  generalize w2.tape w2.drawn (.order 6 2) = n
  revert bd b12 b
  generalize w2.drew = wd
  intro bd b12 b
  have hf' := hf.bel b12
  have hg' := hg.bel bd
  generalize ha : (⟨_, _⟩ : Act) = a
  have hk : ∀ j, j < 15 → a.tmps.getD j undef = [s, f.v, t, undef, .pointer (some ⟨p4, 0, none⟩), undef, .bool false, .pointer (some ⟨p7, 0, none⟩)].getD j (a.tmps.getD j undef) ∧ a.tmps.size = 29 := by
    intro j hj
    subst ha
    refine ⟨?_, rfl⟩
    match j, hj with
    | 0, _ => rfl
    | 1, _ => rfl
    | 2, _ => rfl
    | 3, _ => rfl
    | 4, _ => rfl
    | 5, _ => rfl
    | 6, _ => rfl
    | 7, _ => rfl
    | 8, _ => rfl
    | 9, _ => rfl
    | 10, _ => rfl
    | 11, _ => rfl
    | 12, _ => rfl
    | 13, _ => rfl
    | 14, _ => rfl
  clear ha
  obtain ⟨S, a', w', g1, g2, g3⟩ := lin_inv (P := Tryd.prog) (ops := ops6) (J6 s t f ⟨f.kind, f.start, f.end_, 0, 0⟩ (Ftp.replS l f.start f.end_ m) a wd) back6 (a := a) (w := wd)
    ⟨(hk 0 (by omega)).2, fun _ _ _ => rfl, Bel.refl _, fun _ _ h => by simp at h⟩
    (step6 (hk 0 (by omega)).1 (hk 2 (by omega)).1 (hk 4 (by omega)).1 (hk 7 (by omega)).1 hf' hg' (hT.bel b) (hs.bel b) (ht.bel b) hl hm ll lm rfl rfl hr (repl_okB hl hm)) n
  have t14 : a'.tmps.getD 6 undef = .bool true := g2.tells 14 (by omega) (g3 14 (by rw [size6]; decide))
  refine ⟨(.bool true, w'), ?_, rfl, b.trans g2.bel⟩
  refine (congrArg (fun z => Option.bind z _) g1).trans ?_
  unfold s6M0
  rw [Option.bind_some, t14]

end Go.Proofs.YtphokckbcmiddaaDoor
