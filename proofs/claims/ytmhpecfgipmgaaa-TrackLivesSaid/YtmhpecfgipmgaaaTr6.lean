/- The laws of the package track that take plain values. -/
import Derived.Test.YtmhpecfgipmgaaaTr5
namespace Go.Proofs.Ytmhpecfgipmgaaa
open Go Go.Ev Go.RowKit
open Go.Proofs

theorem wf_byte {n : Int} (h : (Lit.int .u8 n).wf = true) : 0 ≤ n ∧ n < 256 := by
  simp [Lit.wf, IntKind.min, IntKind.max, IntKind.signed, IntKind.bits] at h
  omega

theorem walk_of {P : Program} {f : FuncId} {args : Array Value} {w : World} {o : Option (Value × World)} (h : Brings o fun r => r.1 = .bool true ∧ Bel w r.2) (hc : ∀ r, o = some r → C P f args w = some r) :
    Calls P f args w fun e w' => e = .returned (.bool true) ∧ Below w.heap.size w w' := by
  obtain ⟨⟨v, w'⟩, ho, hv, hb⟩ := h
  simp only at hv hb
  subst hv
  refine (C_sound (hc _ ho)).mono fun e w2 ⟨h1, h2⟩ => ?_
  subst h2
  exact ⟨h1, hb⟩

/-! ### TrackNext -/
theorem l3 {s n : Int} {back : Bool} {w : World} (h0 : 0 ≤ n) (h1 : n < 256) : Brings (s3 (.int .i64 s) (.bool back) (.int .u8 n) w) (fun r => r.1 = .bool true ∧ Bel w r.2) := by
  unfold s3
  refine k12.bind ?_
  rintro ⟨_, w1⟩ ⟨h, b1⟩
  simp only at h b1
  subst h
  simp only [go_sem]
  refine k13.bind ?_
  rintro _ rfl
  simp only [go_sem, ← next_same back h0 h1]
  refine k14.bind ?_
  rintro ⟨_, w2⟩ ⟨h, b2⟩
  simp only at h b2
  subst h
  simp only [go_sem, beq_self_eq_true]
  rw [Qb_eqlB (by kernel_rfl)]
  simp only [go_sem, beq_self_eq_true]
  refine k15.bind ?_
  rintro _ rfl
  simp only
  refine k16.bind ?_
  rintro _ rfl
  simp only
  rw [Qb_eqlB (by kernel_rfl), begins_same h0 h1]
  simp only [go_sem, beq_self_eq_true]
  exact .ret ⟨rfl, b1.trans b2⟩

theorem law3 {s n : Int} {back : Bool} {w : World} (_ : (Lit.int .i64 s).wf = true) (h : (Lit.int .u8 n).wf = true) :
    Calls Try.prog 3 #[.int .i64 s, .bool back, .int .u8 n] w fun e w' => e = .returned (.bool true) ∧ Below w.heap.size w w' :=
  walk_of (l3 (wf_byte h).1 (wf_byte h).2) fun _ => c3

end Go.Proofs.Ytmhpecfgipmgaaa
