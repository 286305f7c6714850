/- The reference's Find. -/
import Derived.Test.YtphokckbcmiddaaDoorMFt41
namespace Go.Proofs.YtphokckbcmiddaaDoor
open Go Go.Ev Go.RowKit
open Go.Proofs

theorem eat_app (s t r : List Int) : Ftp.eatS (s ++ t) r = (Ftp.eatS s r).bind (Ftp.eatS t) := by
  apply Option.ext
  intro x
  rw [Option.bind_eq_some_iff]
  constructor
  · intro h
    obtain ⟨p, e, hp⟩ := Ftp.eatS_iff.1 h
    obtain ⟨p1, p2, rfl, e1, e2⟩ := List.map_eq_append_iff.1 hp
    exact ⟨p2 ++ x, Ftp.eatS_iff.2 ⟨p1, by rw [e, List.append_assoc], e1⟩, Ftp.eatS_iff.2 ⟨p2, rfl, e2⟩⟩
  · rintro ⟨y, h1, h2⟩
    obtain ⟨p1, e1, m1⟩ := Ftp.eatS_iff.1 h1
    obtain ⟨p2, e2, m2⟩ := Ftp.eatS_iff.1 h2
    exact Ftp.eatS_iff.2 ⟨p1 ++ p2, by rw [e1, e2, List.append_assoc], by rw [List.map_append, m1, m2]⟩
theorem eat_drop {s r x : List Int} (h : Ftp.eatS s r = some x) : x = r.drop s.length ∧ s.length ≤ r.length := by
  obtain ⟨p, e, hp⟩ := Ftp.eatS_iff.1 h
  have hl : p.length = s.length := by rw [← hp, List.length_map]
  rw [e, ← hl]
  simp

def resF (o : Option Ftp.Fd) : Value := match o with
  | some f => resR (ofR f) true
  | none => resR Rfd.zero false

/-- The end: a result is stored and read. -/
theorem endR {w w0 w' : World} {g : Nat} (b0 : Bel w w0) (hg : w0.heap[g]? = some (.cells Rfd.zero.cs.toArray 31 (0, 0))) (hgw : w.heap.size ≤ g) (b : Bel w0 w') (f : Rfd) (c : Bool) :
    Brings ((Xstore Tryd.prog 31 (.pointer (some ⟨g, 0, none⟩)) f.v w').bind fun r => ((((Qload Tryd.prog 31 (.pointer (some ⟨g, 0, none⟩)) r.2).bind fun v => ((((some [])).map fun vs => (.bool c) :: vs)).map fun vs => v :: vs)).map oneOf).map fun v => (v, r.2))
      (fun r => Bel w r.2 ∧ r.1 = resR f c) := by
  have h2 := b.at_ hg
  rw [store31 h2 rfl, Option.bind_some]
  simp only
  rw [Rfd.all (CellsAt.of (setRow_heap _ _ _ _ _ _ h2))]
  exact .ret ⟨((Chg.of_bel (b0.trans b) _).trans (setRow_chg _ _) fun _ _ e => e).bel fun k hk e => by omega, rfl⟩

/-- What is found, by the reference, at the end of its roads. -/
theorem endF {w w0 w' : World} {g : Nat} (b0 : Bel w w0) (hg : w0.heap[g]? = some (.cells Rfd.zero.cs.toArray 31 (0, 0))) (hgw : w.heap.size ≤ g) (b : Bel w0 w') (f : Rfd) (c : Bool) {o : Option Ftp.Fd} (ho : resF o = resR (if c then f else Rfd.zero) c) :
    Brings ((Xcall Tryd.prog (Value.func (Fn.func 29) #[] #[]) #[f.v, .bool c] w').bind fun r1 => (Qext r1.1 0).bind fun v2 => (Qext r1.1 1).bind fun v3 => (Xstore Tryd.prog 31 (.pointer (some ⟨g, 0, none⟩)) v2 r1.2).bind fun r =>
      ((((Qload Tryd.prog 31 (.pointer (some ⟨g, 0, none⟩)) r.2).bind fun v => ((((some [])).map fun vs => v3 :: vs)).map fun vs => v :: vs)).map oneOf).map fun v => (v, r.2))
      (fun r => Bel w r.2 ∧ r.1 = resF o) := by
  refine (k29 f c).bind ?_
  rintro ⟨_, w2⟩ ⟨b2, rfl⟩
  simp only [resR, go_sem]
  rw [ho]
  exact endR b0 hg hgw (b.trans b2) _ _
theorem endN {w w0 w' : World} {g : Nat} (b0 : Bel w w0) (hg : w0.heap[g]? = some (.cells Rfd.zero.cs.toArray 31 (0, 0))) (hgw : w.heap.size ≤ g) (b : Bel w0 w') {o : Option Ftp.Fd} (ho : o = none) :
    Brings ((Qbuild Tryd.prog 31 #[] w').bind fun v1 => (Xstore Tryd.prog 31 (.pointer (some ⟨g, 0, none⟩)) v1 w').bind fun r => ((((Qload Tryd.prog 31 (.pointer (some ⟨g, 0, none⟩)) r.2).bind fun v => ((((some [])).map fun vs => (.bool false) :: vs)).map fun vs => v :: vs)).map oneOf).map fun v => (v, r.2))
      (fun r => Bel w r.2 ∧ r.1 = resF o) := by
  rw [bld31n, Option.bind_some, ho]
  exact endR b0 hg hgw b _ _

end Go.Proofs.YtphokckbcmiddaaDoor
