/- Add, whole. -/
import Derived.Test.YtphokckbcmiddaaDoorMFtU12
namespace Go.Proofs.YtphokckbcmiddaaDoor.Sq
open Go Go.Ev Go.RowKit
open Go.Proofs

set_option maxRecDepth 100000 in
theorem k17 {w : World} {a : Nat} {sl tv : Value} {Z : List (Pt × List By)} {l : List M} {p : M} (h : St w a sl Z l) (htv : View By.cs 1 w tv p.bs) :
    Brings (Xcall Tryd.prog (Value.func (Fn.func 17) #[] #[]) #[.pointer (some ⟨a, 0, none⟩), .int .u32 p.start, .int .i64 p.was, tv] w) (Did w a sl Z (addM l p).1 (addM l p).2) := by
  refine e17 ?_
  unfold s17
  have V0 := Locals.nil w
  have V1 := V0.add rfl (.cells #[.int .u32 p.start] 24)
  have V2 := V1.add (by simp) (.cells #[.int .i64 0] 49)
  have hs2 : ((w.alloc (.cells #[.int .u32 p.start] 24)).alloc (.cells #[.int .i64 0] 49)).heap.size = w.heap.size + 2 := by simp
  simp only [go_sem, alloc49, World.size_alloc, Qb_eqlP (P := Tryd.prog) (t := 47) (e := 82) ptr24, Option.isNone_some]
  generalize (w.alloc (.cells #[.int .u32 p.start] 24)).alloc (.cells #[.int .i64 0] 49) = w2 at V2 hs2
  have V2 : Locals w [.cells #[.int .u32 p.start] 24, .cells #[.int .i64 0] 49] w2 := V2
  have rv2 : w2.heap[w.heap.size + 1]? = some (.cells #[.int .i64 0] 49) := V2.at_ 1 _ rfl
  have range2 : ∀ (hn : mayM p.was = false ∨ mayM p.bs.length = false), Brings ((Xstore Tryd.prog 49 (.pointer (some ⟨w.heap.size + 1, 0, none⟩)) (.int .i64 2) w2).bind fun r662 => ((((Qload Tryd.prog 49 (.pointer (some ⟨w.heap.size + 1, 0, none⟩)) r662.2).bind fun v => ((some [])).map fun vs => v :: vs)).map oneOf).map fun v => (v, r662.2)) (Did w a sl Z (addM l p).1 (addM l p).2) := fun hn => by
    have V3 := V2.row (j := 1) rfl rfl #[.int .i64 2]
    have r3 : (w2.setRow (w.heap.size + 1) #[.int .i64 2]).heap[w.heap.size + 1]? = some (.cells #[.int .i64 2] 49) := V3.at_ 1 _ rfl
    unfold addM
    simp only [store49 rv2, load49 r3, go_sem, if_pos hn]
    exact .ret (did_same h V3.bel)
  refine k37.bind ?_
  rintro _ rfl
  cases hw : mayM p.was with
  | false =>
    simp only [go_sem, Bool.not_false]
    exact range2 (.inl hw)
  | true =>
  simp only [go_sem, Bool.not_true, htv.len By.und22]
  refine k37.bind ?_
  rintro _ rfl
  cases hl : mayM p.bs.length with
  | false =>
    simp only [go_sem, Bool.not_false]
    exact range2 (.inr hl)
  | true =>
  simp only [go_sem, Bool.not_true]
  clear range2
  have hlen : p.bs.length ≤ 128 := by
    unfold mayM at hl
    simp at hl
    omega
  -- the part
  have bd : Bel w2 w2.drew := (Bel.refl _).drew
  have V3 := V2.later bd
  have hs3 : w2.drew.heap.size = w.heap.size + 2 := hs2
  generalize w2.tape w2.drawn (.order 17 6) = n
  generalize w2.drew = w3 at bd V3 hs3
  obtain ⟨a', w4, hev, ha, keep, b4, q, tx, hq, lq, hqc, htx, nt⟩ := region20 n (start := p.start) (was := p.was) (bs := p.bs) (p := w.heap.size) (w := w3)
    (a := ⟨[.pointer (some ⟨a, 0, none⟩), .int .u32 p.start, .int .i64 p.was, tv, undef, .pointer (some ⟨w.heap.size, 0, none⟩), undef, undef, .pointer (some ⟨w.heap.size + 1, 0, none⟩), .func (.func 37) #[] #[], undef, undef, .pointer (some ⟨a, 0, none⟩), .bool false, .func (.func 37) #[] #[], .int .i64 p.was, .bool true, .bool false, .bool false, .func (.func 37) #[] #[], tv, .int .i64 p.bs.length, .bool true, .bool false, .bool false, undef, undef, undef, undef, undef, undef, undef, undef, undef, undef, undef, undef, undef, undef, undef, undef, undef, undef, undef, undef, undef, undef, undef, undef, undef, undef, undef, undef, undef, undef, undef, undef, undef, undef, undef, undef, undef, undef, undef, undef, undef, undef, undef, undef, undef].toArray, []⟩)
    rfl rfl (V3.cell (j := 0) rfl) rfl (htv.bel V3.bel) (by omega)
  unfold ops20 at hev
  simp only [hev, go_sem]
  have g0 : a'.tmps.getD 0 undef = .pointer (some ⟨a, 0, none⟩) := (keep 0 (by omega)).trans rfl
  have g2 : a'.tmps.getD 2 undef = .int .i64 p.was := (keep 2 (by omega)).trans rfl
  have g3 : a'.tmps.getD 3 undef = tv := (keep 3 (by omega)).trans rfl
  have g5 : a'.tmps.getD 5 undef = .pointer (some ⟨w.heap.size, 0, none⟩) := (keep 5 (by omega)).trans rfl
  have g8 : a'.tmps.getD 8 undef = .pointer (some ⟨w.heap.size + 1, 0, none⟩) := (keep 8 (by omega)).trans rfl
  rw [g0, g2, g3, g5, g8, hq]
  have b34 := V3.later b4
  exact m20 h b34.bel (b34.cell (j := 0) rfl) (b34.at_ 1 _ rfl) hqc ⟨htx.1, fun k hk => by have := htx.2 k hk; omega⟩ htv (by omega) (by omega) nt (by omega) hw hl

end Go.Proofs.YtphokckbcmiddaaDoor.Sq
