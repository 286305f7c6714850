/- The law that the reference finds the same. -/
import Derived.Test.YtphokckbcmiddaaDoorMFt45
import Derived.Test.YtphokckbcmiddaaDoorMFt19
namespace Go.Proofs.YtphokckbcmiddaaDoor
open Go Go.Ev Go.RowKit
open Go.Proofs

def fr (o : Option Ftp.Fd) : Rfd := (o.map ofR).getD Rfd.zero
theorem resF_eq (o : Option Ftp.Fd) : resF o = .tuple #[(fr o).v, .bool o.isSome] := by
  unfold fr
  cases o <;> rfl
theorem same_fr (o : Option Ftp.Fd) : (ff o).kind = (fr o).kind ∧ (ff o).start = (fr o).start ∧ (ff o).end_ = (fr o).end_ ∧ (ff o).addr = (fr o).addr ∧ (ff o).port = (fr o).port := by
  unfold fr ff
  cases o <;> exact ⟨rfl, rfl, rfl, rfl, rfl⟩

set_option maxRecDepth 100000 in
theorem law3 {w : World} (hT : Tab w) {s : Value} {l : List Int} {back : Bool} (hs : Vw w s l) (hl : okB l) (hlen : l.length ≤ 140737488355328) : Brings (s3 s (.bool back) w) (fun r => r.1 = .bool true ∧ Bel w r.2) := by
  unfold s3
  rw [lit0_22, Option.bind_some]
  obtain ⟨v1, w1, e1, b1, o1⟩ := copyB hs hlen
  rw [e1, Option.bind_some]
  simp only at b1 o1
  refine findK o1.view hl (hT.bel b1) fun g2 u2 w2 b2 hc2 _ _ => ?_
  dsimp only
  have b12 := b1.trans b2
  refine (k11 (hs.bel b12) hl).bind ?_
  rintro ⟨_, w3⟩ ⟨b3, rfl⟩
  rw [resF_eq]
  simp only [go_sem]
  rw [alloc31, Option.bind_some, put31, Option.bind_some]
  have hc4 := local_at w3 (fr (Ftp.findS l back)).cs Rfd.zero.cs 31
  have bl := local_bel w3 (.cells Rfd.zero.cs.toArray 31) (fr (Ftp.findS l back)).cs.toArray
  revert hc4 bl
  dsimp only
  generalize (w3.alloc (.cells Rfd.zero.cs.toArray 31)).setRow w3.heap.size (fr (Ftp.findS l back)).cs.toArray = w4
  generalize w3.heap.size = g4
  intro hc4 bl
  have b14 := b12.trans (b3.trans bl)
  refine (k12 (hT.bel b14)).bind ?_
  rintro ⟨_, w5⟩ ⟨rfl, b5⟩
  have b15 := b14.trans b5
  have c2 := hc2.bel (b3.trans (bl.trans b5))
  have c4 := hc4.bel b5
  have v1' := o1.view.bel (b2.trans (b3.trans (bl.trans b5)))
  obtain ⟨q0, q1, q2, q3, q4⟩ := same_fr (Ftp.findS l back)
  simp only [go_sem, show Qbin Tryd.prog .eql 4 (.bool (Ftp.findS l back).isSome) (.bool (Ftp.findS l back).isSome) = some (.bool true) by rw [Qb_eqlB Tryd.underlying4]; simp, Fnd.b0 c2, Rfd.b0 c4, q0, beq_self_eq_true, Fnd.b1 c2, Rfd.b1 c4, q1, Fnd.b2 c2, Rfd.b2 c4, q2, Fnd.b3 c2, Rfd.b3 c4, q3, Fnd.b4 c2, Rfd.b4 c4, q4, vstr v1', vstr (hs.bel b15)]
  exact .ret ⟨rfl, b15⟩

end Go.Proofs.YtphokckbcmiddaaDoor
