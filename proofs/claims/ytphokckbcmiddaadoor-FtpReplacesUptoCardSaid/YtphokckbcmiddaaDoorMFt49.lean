/- The reference's Replace. -/
import Derived.Test.YtphokckbcmiddaaDoorMFt19
import Derived.Test.YtphokckbcmiddaaDoorMFp
namespace Go.Proofs.YtphokckbcmiddaaDoor
open Go Go.Ev Go.RowKit
open Go.Proofs

theorem Ob.low {b b' : Nat} {w : World} {v : Value} {l : List Int} (h : Ob b w v l) (hb : b' ≤ b) : Ob b' w v l := ⟨h.1, h.2.elim Or.inl fun ⟨g, cap, cur, hv, hg, r⟩ => Or.inr ⟨g, cap, cur, hv, Nat.le_trans hb hg, r⟩⟩
set_option maxRecDepth 100000 in
theorem k15 {w : World} {s t : Value} {l m : List Int} {f : Rfd} (hs : Vw w s l) (ht : Vw w t m) (hl : l.length ≤ 10000000) (hm : m.length ≤ 10000000) :
    Brings (Xcall Tryd.prog (Value.func (Fn.func 15) #[] #[]) #[s, f.v, t] w) (New w (Ftp.replS l f.start f.end_ m)) := by
  refine e15 ?_
  unfold s15
  rw [Rfd.box, Option.bind_some]
  have b1 : Bel w (w.alloc (.cells f.cs.toArray 31)) := (Bel.refl w).alloc _
  have hf := f.new w
  revert b1 hf
  generalize w.alloc (.cells f.cs.toArray 31) = w1
  intro b1 hf
  have whole : (f.start < 0 ∨ f.end_ < f.start ∨ (l.length : Int) < f.end_) → Brings ((Xbi Tryd.prog .append #[22, 22] 22 #[.slice none 0 0, s] w1).bind fun r16 => some (r16.1, r16.2)) (New w (Ftp.replS l f.start f.end_ m)) := by
    intro h
    obtain ⟨v', w', e, o, g⟩ := (Ob.nil w.heap.size w1).appV b1.size (hs.bel b1) (by simp; omega)
    rw [e, Option.bind_some]
    refine .ret ⟨(b1.thenChg (Chg.of_grown g)).bel fun k hk e => (by cases e), ?_⟩
    unfold Ftp.replS
    rw [if_pos h]
    exact o
  simp only [go_sem, Rfd.b1 hf, Rfd.b2 hf]
  by_cases c1 : f.start < 0
  · rw [decide_eq_true c1]
    simp only [go_sem]
    exact whole (.inl c1)
  rw [decide_eq_false c1]
  simp only [go_sem, Rfd.b1 hf, Rfd.b2 hf]
  by_cases c2 : f.end_ < f.start
  · rw [decide_eq_true c2]
    simp only [go_sem]
    exact whole (.inr (.inl c2))
  rw [decide_eq_false c2]
  simp only [go_sem, Rfd.b2 hf, vlen (hs.bel b1)]
  by_cases c3 : (l.length : Int) < f.end_
  · rw [decide_eq_true c3]
    simp only [go_sem]
    exact whole (.inr (.inr c3))
  rw [decide_eq_false c3]
  simp only [go_sem, Rfd.b1 hf]
  obtain ⟨va, ea, hva, _⟩ := vhi (hs.bel b1) (hi := f.start.toNat) (by omega) w1
  rw [Int.toNat_of_nonneg (by omega)] at ea
  rw [ea, Option.bind_some]
  obtain ⟨v2, w2, e2, o2, g2⟩ := (Ob.nil w1.heap.size w1).appV (Nat.le_refl _) hva (by simp; omega)
  have b12 : Bel w1 w2 := (Chg.of_grown g2).bel fun k hk e => (by cases e)
  rw [e2, Option.bind_some]
  simp only
  rw [List.nil_append] at o2
  obtain ⟨v3, w3, e3, o3, g3⟩ := o2.appV b12.size (ht.bel (b1.trans b12)) (by rw [List.length_take]; omega)
  have c23 : Chg (fun k => w1.heap.size ≤ k) w2 w3 := grown_base o2 g3
  have b13 : Bel w1 w3 := ((Chg.of_bel b12 _).trans c23 fun _ _ e => e).bel fun k hk e => by omega
  rw [e3, Option.bind_some]
  simp only
  rw [Rfd.b2 (hf.bel b13), Option.bind_some]
  obtain ⟨vb, eb, hvb, _⟩ := vlo (hs.bel (b1.trans b13)) (lo := f.end_.toNat) (by omega) w3
  rw [Int.toNat_of_nonneg (by omega)] at eb
  rw [eb, Option.bind_some]
  obtain ⟨v4, w4, e4, o4, g4⟩ := o3.appV b13.size hvb (by rw [List.length_append, List.length_take, List.length_drop]; omega)
  have c34 : Chg (fun k => w1.heap.size ≤ k) w3 w4 := grown_base o3 g4
  have b14 : Bel w1 w4 := ((Chg.of_bel b13 _).trans c34 fun _ _ e => e).bel fun k hk e => by omega
  rw [e4, Option.bind_some]
  refine .ret ⟨b1.trans b14, ?_⟩
  unfold Ftp.replS
  rw [if_neg (by omega)]
  exact Ob.low o4 b1.size

end Go.Proofs.YtphokckbcmiddaaDoor
