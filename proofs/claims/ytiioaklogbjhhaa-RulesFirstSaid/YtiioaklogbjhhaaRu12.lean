/- The first rule of some of which something holds. -/
import Derived.Test.YtiioaklogbjhhaaFi
import Derived.Test.YtiioaklogbjhhaaRu11
namespace Go.Proofs.Ytiioaklogbjhhaa
open Go Go.Ev
open Go.Proofs

def firstM (p : Rule → Bool) (l : List Rule) : Rule × Bool := match l.find? p with | some x => (x, true) | none => (Rule.zero, false)
/-- A rule and whether there is one. -/
def Told (w : World) (t : Rule × Bool) (r : Value × World) : Prop := r.1 = .tuple #[t.1.v, .bool t.2] ∧ Bel w r.2

theorem one31 : one Try.prog 31 = true := by kernel_rfl
theorem zero4 (w : World) : (zeroValue 4).run Try.prog w = .ok (.bool false) w := by kernel_rfl
theorem alloc4 (w : World) : Xalloc Try.prog 4 w = some (.pointer (some ⟨w.heap.size, 0, none⟩), w.alloc (.cells #[.bool false] 4)) := Xalloc_eq (zero4 w)
theorem inf4 : ∃ i, Try.prog.info? 4 = some i ∧ i.size = 1 := ⟨(Try.prog.info? 4).get (by kernel_rfl), by kernel_rfl, by kernel_rfl⟩
theorem store4 {w : World} {g : Nat} {u : Value} {te : TypeId} {b : Bool} (hg : w.heap[g]? = some (.cells #[u] te (0, 0))) : Xstore Try.prog 4 (.pointer (some ⟨g, 0, none⟩)) (.bool b) w = some (undef, w.setRow g #[.bool b]) := by
  obtain ⟨i, hi, hs⟩ := inf4
  exact Xstore_var (v := .bool b) hi (by rw [hs]; rfl) hg (by rw [hs]; rfl) (by simp [Value.cells, Value.oneCell'])

theorem tmps31 (x0 x1 a b c d x : Value) : ((#[8] : Array Tmp).zip #[x]).foldl (fun tmps (p : Tmp × Value) => tmps.setIfInBounds p.1 p.2) [x0, x1, undef, a, b, c, undef, d, undef, undef, undef, undef, undef, undef].toArray = [x0, x1, undef, a, b, c, undef, d, x, undef, undef, undef, undef, undef].toArray := by kernel_rfl

noncomputable def loop31 (w : World) (x0 x1 a b c : Value) : Loop := { state := .ready, pending := none, fn := 31, tmps := [x0, x1, undef, a, b, c, undef, x0, undef, undef, undef, undef, undef, undef].toArray, params := #[8], assign := nav [1, 0, 1, 0, 0] (bodyOf Try.f31), body := nav [1, 0, 1, 0, 1] (bodyOf Try.f31), defers := w.heap.size }

theorem yield31 {w' w : World} {l : Nat} {x0 x1 a b c x : Value} (h : w'.heap[l]? = some (.loop (loop31 w x0 x1 a b c))) :
    Xcall Try.prog (.func (.yield l) #[] #[]) #[x] w' = Rd Try.prog l 31 [x0, x1, undef, a, b, c, undef, x0, x, undef, undef, undef, undef, undef].toArray (nav [1, 0, 1, 0, 0] (bodyOf Try.f31)) (nav [1, 0, 1, 0, 1] (bodyOf Try.f31)) w' := by
  rw [Xcall_yield h rfl]
  simp only [loop31]
  rw [tmps31]

/-- The variables of first. -/
def vars31 (f : Value) (x : Rule) (b : Bool) (L : Loop) : List Go.Obj := [.cells #[f] 31, .cells x.cs.toArray 26, .cells #[.bool b] 4, .deferred (some []), .loop L]


theorem k31 {w : World} {fn : Fn} {fc : Array Value} {p q a : Nat} {sl : Value} {l : List Rule} {k : Int} {P : Rule → Bool}
    (hp : w.cell? ⟨p, 0, none⟩ = some (.pointer (some ⟨a, 0, none⟩))) (ha : w.cell? ⟨a, 0, none⟩ = some sl) (hq : w.cell? ⟨q, 0, none⟩ = some (.int .i64 k)) (hv : View Rule.cs 8 w sl l)
    (hP : ∀ x w', x ∈ l → x.kind = k → Bel w w' → Brings (Xcall Try.prog (.func fn #[] fc) #[x.v] w') fun r => r.1 = .bool (P x) ∧ Bel w' r.2) :
    Brings (Xcall Try.prog (Value.func (Fn.func 31) #[] #[]) #[.func (.func 42) #[] #[.pointer (some ⟨p, 0, none⟩), .pointer (some ⟨q, 0, none⟩)], .func fn #[] fc] w) (Told w (firstM (fun x => x.kind == k && P x) l)) := by
  refine e31 ?_
  unfold s31
  rw [Xbox_eq]
  simp only [go_sem, alloc26, alloc4, World.size_alloc]
  rw [show w.heap.size + 1 + 1 = w.heap.size + 2 from rfl]
  have V0 := Locals.nil w
  have V1 := V0.add rfl (.cells #[.func fn #[] fc] 31)
  have V2 := V1.add (by simp) (.cells Rule.zero.cs.toArray 26)
  have V3 := V2.add (by simp) (.cells #[.bool false] 4)
  have hs3 : (((w.alloc (.cells #[.func fn #[] fc] 31)).alloc (.cells Rule.zero.cs.toArray 26)).alloc (.cells #[.bool false] 4)).heap.size = w.heap.size + 3 := by simp
  generalize ((w.alloc (.cells #[.func fn #[] fc] 31)).alloc (.cells Rule.zero.cs.toArray 26)).alloc (.cells #[.bool false] 4) = w3 at V3 hs3
  refine Brings.range (f := 42) (fd := Try.f42) Try.func42 (by kernel_rfl) (by kernel_rfl) (K := fun e d w' => s31G0R (.pointer (some ⟨w.heap.size + 1, 0, none⟩)) (.pointer (some ⟨w.heap.size + 2, 0, none⟩)) d w' e) ?_
  -- the state between rounds
  have V4 : Locals w (vars31 (.func fn #[] fc) Rule.zero false (loop31 w3 (.func (.func 42) #[] #[.pointer (some ⟨p, 0, none⟩), .pointer (some ⟨q, 0, none⟩)]) (.func fn #[] fc) (.pointer (some ⟨w.heap.size, 0, none⟩)) (.pointer (some ⟨w.heap.size + 1, 0, none⟩)) (.pointer (some ⟨w.heap.size + 2, 0, none⟩)))) (enterW w3 31 _ _ _ _) :=
    (V3.add (by rw [hs3]; rfl) (.deferred (some []))).add (by rw [World.size_alloc, hs3]; rfl) (.loop _)
  rw [hs3, show w.heap.size + 3 + 1 = w.heap.size + 4 from rfl]
  generalize enterW w3 31 _ _ _ _ = w5 at V4
  generalize hL : loop31 w3 (.func (.func 42) #[] #[.pointer (some ⟨p, 0, none⟩), .pointer (some ⟨q, 0, none⟩)]) (.func fn #[] fc) (.pointer (some ⟨w.heap.size, 0, none⟩)) (.pointer (some ⟨w.heap.size + 1, 0, none⟩)) (.pointer (some ⟨w.heap.size + 2, 0, none⟩)) = L0 at V4
  refine (k42 (fun i w' => Locals w (vars31 (.func fn #[] fc) Rule.zero false L0) w' ∧ ∀ x ∈ l.take i, (x.kind == k && P x) = false)
    (fun w' => ∃ x, l.find? (fun x => x.kind == k && P x) = some x ∧ Locals w (vars31 (.func fn #[] fc) x true { L0 with state := .done, pending := some .ret }) w')
    (V4.bel.cell_some hp) (V4.bel.cell_some ha) (fun i w' h => ⟨hv.bel h.1.bel, h.1.bel.cell_some hq⟩) (fun i w' w'' h hb => ⟨h.1.later hb, h.2⟩) ?_ ?_ ⟨V4, by simp⟩).mono ?_
  · rintro i x w' ⟨hV, hn⟩ hx hk
    subst hL
    rw [yield31 (hV.at_ 4 _ rfl)]
    refine s31G0Qb ?_
    unfold s31G0Q
    have B := local_bel w' (.cells Rule.zero.cs.toArray 26) x.cs.toArray
    have A := local_at w' x.cs Rule.zero.cs 26
    simp only [alloc26, put26, go_sem]
    have hne : w'.heap.size ≠ w.heap.size + 4 := by have := hV.size; simp [vars31] at this; omega
    have V6 := hV.later B
    generalize (w'.alloc (.cells Rule.zero.cs.toArray 26)).setRow w'.heap.size x.cs.toArray = w6 at A V6
    rw [begK_ready (V6.at_ 4 _ rfl) rfl]
    have A7 := A.chg (setB_chg w6 (w.heap.size + 4) (.loop { loop31 w3 (.func (.func 42) #[] #[.pointer (some ⟨p, 0, none⟩), .pointer (some ⟨q, 0, none⟩)]) (.func fn #[] fc) (.pointer (some ⟨w.heap.size, 0, none⟩)) (.pointer (some ⟨w.heap.size + 1, 0, none⟩)) (.pointer (some ⟨w.heap.size + 2, 0, none⟩)) with state := .busy })) hne
    have V7 := V6.set (j := 4) (show _ < 5 by decide) rfl (.loop { loop31 w3 (.func (.func 42) #[] #[.pointer (some ⟨p, 0, none⟩), .pointer (some ⟨q, 0, none⟩)]) (.func fn #[] fc) (.pointer (some ⟨w.heap.size, 0, none⟩)) (.pointer (some ⟨w.heap.size + 1, 0, none⟩)) (.pointer (some ⟨w.heap.size + 2, 0, none⟩)) with state := .busy })
    generalize setB w6 (w.heap.size + 4) _ = w7 at A7 V7
    have q7 : w7.cell? ⟨w.heap.size, 0, none⟩ = some (.func fn #[] fc) := V7.cell (j := 0) rfl
    simp only [Qload_cell one31 q7, Rule.all A7, go_sem]
    refine (hP x w7 (List.mem_of_getElem? hx) hk V7.bel).bind ?_
    rintro ⟨_, w8⟩ ⟨h1, b8⟩
    simp only at h1 b8
    subst h1
    have V8 := V7.later b8
    refine .cond (fun ht => ?_) (fun hf => ?_)
    · have V9 := V8.row (j := 1) rfl rfl x.cs.toArray
      have V10 := V9.row (j := 2) rfl rfl #[.bool true]
      simp only [Rule.all (A7.bel b8), store26 (V8.at_ 1 _ rfl) rfl, store4 (V9.at_ 2 _ rfl), go_sem]
      rw [endR_eq (V10.at_ 4 _ rfl)]
      exact .ret (.inr ⟨rfl, x, find_first hx (by simp [hk, ht]) hn, V10.set (j := 4) (show _ < 5 by decide) rfl _⟩)
    · rw [endR_eq (V8.at_ 4 _ rfl)]
      refine .ret (.inl ⟨rfl, V8.set (j := 4) (show _ < 5 by decide) rfl _, take_none hx (by simp [hf]) hn⟩)
  · rintro i x w' ⟨hV, hn⟩ hx hk
    exact ⟨hV, take_none hx (by simp [hk]) hn⟩
  · rintro ⟨_, w9⟩ ⟨h1, ⟨hV, hn⟩ | ⟨x, hf, hV⟩⟩
    · simp only [List.take_length] at hn
      have hnone : l.find? (fun x => x.kind == k && P x) = none := List.find?_eq_none.2 fun x hx => by simp [hn x hx]
      subst hL
      refine ⟨_, .normal, hV.at_ 4 _ rfl, rfl, rfl, ?_⟩
      have V1 := hV.set (j := 4) (show _ < 5 by decide) rfl (.loop { loop31 w3 (.func (.func 42) #[] #[.pointer (some ⟨p, 0, none⟩), .pointer (some ⟨q, 0, none⟩)]) (.func fn #[] fc) (.pointer (some ⟨w.heap.size, 0, none⟩)) (.pointer (some ⟨w.heap.size + 1, 0, none⟩)) (.pointer (some ⟨w.heap.size + 2, 0, none⟩)) with state := .exhausted })
      generalize setB _ (w.heap.size + 4) _ = w1 at V1
      have V2 := V1.row (j := 1) rfl rfl Rule.zero.cs.toArray
      have V3 := V2.row (j := 2) rfl rfl #[.bool false]
      have V4 := V3.set (j := 3) (show _ < 5 by decide) rfl (.deferred none)
      simp only [s31G0R, Rule.all (CellsAt.of (V1.at_ 1 _ rfl)), store26 (V1.at_ 1 _ rfl) rfl, store4 (V2.at_ 2 _ rfl), go_sem]
      rw [takeAll_one (V3.at_ 3 _ rfl)]
      simp only [go_sem, Rule.all (CellsAt.of (V4.at_ 1 _ rfl)), Qload_cell one4 (V4.cell (j := 2) rfl)]
      refine .ret ⟨?_, V4.bel⟩
      unfold firstM
      rw [hnone]; rfl
    · subst hL
      refine ⟨_, .ret, hV.at_ 4 _ rfl, rfl, rfl, ?_⟩
      have V1 := hV.set (j := 4) (show _ < 5 by decide) rfl (.loop { loop31 w3 (.func (.func 42) #[] #[.pointer (some ⟨p, 0, none⟩), .pointer (some ⟨q, 0, none⟩)]) (.func fn #[] fc) (.pointer (some ⟨w.heap.size, 0, none⟩)) (.pointer (some ⟨w.heap.size + 1, 0, none⟩)) (.pointer (some ⟨w.heap.size + 2, 0, none⟩)) with state := .exhausted, pending := some .ret })
      generalize setB _ (w.heap.size + 4) _ = w1 at V1
      have V4 := V1.set (j := 3) (show _ < 5 by decide) rfl (.deferred none)
      simp only [s31G0R]
      rw [takeAll_one (V1.at_ 3 _ rfl)]
      simp only [go_sem, Rule.all (CellsAt.of (V4.at_ 1 _ rfl)), Qload_cell one4 (V4.cell (j := 2) rfl)]
      refine .ret ⟨?_, V4.bel⟩
      unfold firstM
      rw [hf]; rfl

end Go.Proofs.Ytiioaklogbjhhaa
