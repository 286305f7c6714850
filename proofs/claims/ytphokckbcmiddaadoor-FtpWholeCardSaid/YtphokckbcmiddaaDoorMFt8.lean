/- strings.Builder. -/
import Derived.Test.YtphokckbcmiddaaDoorMFt1
import Derived.Lib.AppendStr
import Derived.Lib.UnsafeStr
import Derived.Lib.MakeNoZero
import Derived.Laws.CopyRow
import Derived.Lib.Builder
import Derived.Laws.Strings3
/- strings.Builder. -/
namespace Go.Proofs.YtphokckbcmiddaaDoor
open Go Go.Ev Go.RowKit
open Go.Proofs

@[go_sem] theorem fa114x0 (g : Nat) : QfieldAddr Tryd.prog 114 (.pointer (some ⟨g, 0, none⟩)) 0 = some (.pointer (some ⟨g, 0, none⟩)) := by kernel_rfl
@[go_sem] theorem fa114x1 (g : Nat) : QfieldAddr Tryd.prog 114 (.pointer (some ⟨g, 0, none⟩)) 1 = some (.pointer (some ⟨g, 1, none⟩)) := by kernel_rfl
theorem one112 : one Tryd.prog 112 = true := by kernel_rfl
theorem und112 : Tryd.prog.underlying 112 = some (.pointer 114) := by kernel_rfl
theorem inf112 : ∃ i, Tryd.prog.info? 112 = some i ∧ i.size = 1 := ⟨(Tryd.prog.info? 112).get (by kernel_rfl), by kernel_rfl, by kernel_rfl⟩
theorem inf22 : ∃ i, Tryd.prog.info? 22 = some i ∧ i.size = 1 := ⟨(Tryd.prog.info? 22).get (by kernel_rfl), by kernel_rfl, by kernel_rfl⟩
theorem inf5z : ∃ i, Tryd.prog.info? 5 = some i ∧ i.zero = some (.int .u8 0) ∧ i.size = 1 ∧ i.bytes = 1 := ⟨(Tryd.prog.info? 5).get (by kernel_rfl), by kernel_rfl, by kernel_rfl, by kernel_rfl, by kernel_rfl⟩

/-- Bytes of one's own, laid behind a base. -/
abbrev Ob (b0 : Nat) (w : World) (v : Value) (l : List Int) : Prop := w.ownsRow b0 5 1 v l.length (l.flatMap (nc .u8))
theorem Ob.view {b0 : Nat} {w : World} {v : Value} {l : List Int} (h : Ob b0 w v l) : Vw w v l := View.of_owns h fun _ _ => rfl
theorem Ob.chg {b0 : Nat} {w w' : World} {v : Value} {l : List Int} {S : Nat → Prop} (h : Ob b0 w v l) (hc : Chg S w w') (hs : ∀ k, v.ownBlock = some k → ¬ S k) : Ob b0 w' v l := hc.owns h hs
theorem Ob.base {b0 : Nat} {w : World} {v : Value} {l : List Int} (h : Ob b0 w v l) {k : Nat} (hk : v.ownBlock = some k) : b0 ≤ k ∧ k < w.heap.size := World.ownsRow.lt h k hk
theorem Ob.nil (b0 : Nat) (w : World) : Ob b0 w (.slice none 0 0) [] := World.ownsRow_nil w b0 5 1
theorem Ob.slice {b0 : Nat} {w : World} {v : Value} {l : List Int} (h : Ob b0 w v l) : ∃ x n c, v = .slice x n c := by
  obtain ⟨_, ⟨e, _⟩ | ⟨g, cap, cur, e, _⟩⟩ := h
  · exact ⟨_, _, _, e⟩
  · exact ⟨_, _, _, e⟩

theorem strCells_nums {l : List Int} (h : okB l) : Lib.strCells (strOfNums l) = l.flatMap (nc .u8) := by
  unfold Lib.strCells
  rw [strOfNums_data]
  induction l with
  | nil => rfl
  | cons x l ih =>
    have hx := h x (by simp)
    have := ih fun c hc => h c (by simp [hc])
    simp only [List.map_cons, List.flatMap_cons, nc] at this ⊢
    rw [this]
    simp
    omega

set_option maxRecDepth 100000 in
theorem Ob.appS {b0 : Nat} {w : World} {v : Value} {l m : List Int} (h : Ob b0 w v l) (hb : b0 ≤ w.heap.size) (hm : okB m) (hl : l.length + m.length ≤ 140737488355328) :
    ∃ v' w', Xbi Tryd.prog .append #[22, 9] 22 #[v, .string (strOfNums m)] w = some (v', w') ∧ Ob b0 w' v' (l ++ m) ∧ w.grownBy w' v.ownBlock := by
  obtain ⟨i, hi, hz, h1, h2⟩ := inf5z
  obtain ⟨v', w', e1, e2, e3, _⟩ := Lib.run_append_own_string (P := Tryd.prog) (w := w) b0 22 9 22 5 i und22 und9 hi hz h1 h2 v l.length _ h (strOfNums m) (by rw [strOfNums_size]; simp [maxLen]; omega) (by rw [strOfNums_size]; exact hl) hb
  rw [strOfNums_size, strCells_nums hm] at e2
  exact ⟨v', w', Xbi_append e1, by simpa [Ob, List.flatMap_append] using e2, e3⟩

set_option maxRecDepth 100000 in
theorem Ob.appV {b0 : Nat} {w : World} {v s : Value} {l m : List Int} (h : Ob b0 w v l) (hb : b0 ≤ w.heap.size) (hv : Vw w s m) (hl : l.length + m.length ≤ 140737488355328) :
    ∃ v' w', Xbi Tryd.prog .append #[22, 22] 22 #[v, s] w = some (v', w') ∧ Ob b0 w' v' (l ++ m) ∧ w.grownBy w' v.ownBlock := by
  obtain ⟨i, hi, hz, h1, h2⟩ := inf5z
  have hf : ∀ y ∈ m, (nc .u8 y).length = 1 := fun _ _ => rfl
  obtain ⟨x, cap, rfl, hc1, hc2, hnil, hel⟩ := hv
  cases x with
  | none =>
    have hcap := hnil rfl
    have hm : m.length = 0 := by omega
    have : m = [] := List.length_eq_zero_iff.1 hm
    subst this
    subst hcap
    have hrun := run_append_owned_none (P := Tryd.prog) (w := w) b0 22 22 5 i 1 und22 hi v l.length (l.flatMap (nc .u8)) h
    exact ⟨v, w, Xbi_append hrun, by simpa using h, ⟨rfl, rfl, rfl, Nat.le_refl _, fun _ _ _ => rfl⟩⟩
  | some a =>
    have hlen : (m.flatMap (nc .u8)).length = m.length * 1 := flat_len m hf
    have hcells : ∀ j u, (m.flatMap (nc .u8))[j]? = some u → w.cell? (a.add j) = some u := by
      intro j u hj
      rcases Nat.eq_zero_or_pos m.length with h0 | h0
      · have : m = [] := List.length_eq_zero_iff.1 h0
        subst this
        simp at hj
      · obtain ⟨a', cap', e1, h⟩ := View.cells (v := .slice (some a) m.length cap) (l := m) (f := nc .u8) (size := 1) ⟨some a, cap, rfl, hc1, hc2, hnil, hel⟩ hf h0
        injection e1 with e1 _ _
        injection e1 with e1
        subst e1
        exact h j u hj
    obtain ⟨v', w', e1, e2, e3, _⟩ := run_append_own (P := Tryd.prog) (w := w) b0 22 22 5 i (.int .u8 0) 1 1 und22 hi hz h1 h2 rfl (by omega) v l.length _ h a m.length cap (m.flatMap (nc .u8)) hlen hcells (fun u hu => by
      obtain ⟨y, _, hy⟩ := List.mem_flatMap.1 hu
      simp [nc] at hy; subst hy; rfl) (by simp [maxLen]; omega) (by omega) hb
    exact ⟨v', w', Xbi_append e1, by simpa [Ob, List.flatMap_append] using e2, e3⟩

/-- A builder: its address, and what it holds. -/
structure Bd (b0 : Nat) (w : World) (g : Nat) (l : List Int) where
  a : Option Addr
  buf : Value
  at_ : w.heap[g]? = some (.cells #[.pointer a, buf] 114 (0, 0))
  self : a = none ∨ a = some ⟨g, 0, none⟩
  own : Ob b0 w buf l
  apart : buf.ownBlock ≠ some g
  low : b0 ≤ g

theorem Bd.lt {b0 : Nat} {w : World} {g : Nat} {l : List Int} (h : Bd b0 w g l) : g < w.heap.size := (Array.getElem?_eq_some_iff.1 h.at_).1
theorem Bd.ld0 {b0 : Nat} {w : World} {g : Nat} {l : List Int} (h : Bd b0 w g l) : Qload Tryd.prog 112 (.pointer (some ⟨g, 0, none⟩)) w = some (.pointer h.a) := Qload_cell one112 (cell_at h.at_ rfl)
theorem Bd.ld1 {b0 : Nat} {w : World} {g : Nat} {l : List Int} (h : Bd b0 w g l) : Qload Tryd.prog 22 (.pointer (some ⟨g, 1, none⟩)) w = some h.buf := Qload_cell one22 (cell_at h.at_ rfl)

theorem st0 {w : World} {g : Nat} {x y p : Value} (h : w.heap[g]? = some (.cells #[x, y] 114 (0, 0))) (hp : ∃ a, p = .pointer a) : Xstore Tryd.prog 112 (.pointer (some ⟨g, 0, none⟩)) p w = some (undef, w.setRow g #[p, y]) := by
  obtain ⟨i, hi, hs⟩ := inf112
  obtain ⟨a, rfl⟩ := hp
  rw [Xstore_row (v := .pointer a) hi (by rw [hs]; rfl) h (by rw [hs]; exact Nat.le_of_ble_eq_true rfl) (by intro u hu; simp [Value.cells] at hu; subst hu; rfl), hs]
  rfl
theorem st1 {w : World} {g : Nat} {x y s : Value} (h : w.heap[g]? = some (.cells #[x, y] 114 (0, 0))) (hp : ∃ a n c, s = .slice a n c) : Xstore Tryd.prog 22 (.pointer (some ⟨g, 1, none⟩)) s w = some (undef, w.setRow g #[x, s]) := by
  obtain ⟨i, hi, hs⟩ := inf22
  obtain ⟨a, n, c, rfl⟩ := hp
  rw [Xstore_row (v := .slice a n c) hi (by rw [hs]; rfl) h (by rw [hs]; exact Nat.le_of_ble_eq_true rfl) (by intro u hu; simp [Value.cells] at hu; subst hu; rfl), hs]
  rfl

theorem und157 : Tryd.prog.underlying 157 = some .unsafePointer := by kernel_rfl
theorem inf114 : ∃ i, Tryd.prog.info? 114 = some i ∧ i.size ≠ 0 := ⟨(Tryd.prog.info? 114).get (by kernel_rfl), by kernel_rfl, by decide +kernel⟩
theorem lies114 : liesAt Tryd.prog Tryd.prog.depth 114 (2 / Tryd.prog.cellsOf 114) 0 114 1 = true := by kernel_rfl
theorem conv1 {g : Nat} {w : World} {x y : Value} (h : w.heap[g]? = some (.cells #[x, y] 114 (0, 0))) : Xconv Tryd.prog 112 157 (.pointer (some ⟨g, 0, none⟩)) w = some (.pointer (some ⟨g, 0, none⟩), w) := by
  obtain ⟨i, hi, hs⟩ := inf114
  have hsh : w.shape? g = some (114, 2) := by simp [World.shape?, h]
  unfold Xconv xv
  rw [Lib.run_to_unsafe (P := Tryd.prog) w ⟨g, 0, none⟩ und112 und157 hi hs hsh (show 0 < 2 by decide)]
theorem conv2 {g : Nat} {w : World} {x y : Value} (h : w.heap[g]? = some (.cells #[x, y] 114 (0, 0))) : Xconv Tryd.prog 157 112 (.pointer (some ⟨g, 0, none⟩)) w = some (.pointer (some ⟨g, 0, none⟩), w) := by
  obtain ⟨i, hi, hs⟩ := inf114
  have hsh : w.shape? g = some (114, 2) := by simp [World.shape?, h]
  unfold Xconv xv
  rw [Lib.run_from_unsafe (P := Tryd.prog) w ⟨g, 0, none⟩ und157 und112 hi hsh lies114]
theorem x94 (v : Value) (w : World) : Xcall Tryd.prog (Value.func (Fn.func 94) #[] #[]) #[v] w = some (v, w) := by
  rw [Xcall_ext Tryd.func94 (by kernel_rfl) (by kernel_rfl) (by kernel_rfl) (e := Extern.AbiNoEscape.same) (by kernel_rfl)]
  rfl

theorem neq112 (a : Addr) : Qbin Tryd.prog .neq 112 (.pointer (some a)) (.pointer (some a)) = some (.bool false) := by
  obtain ⟨i, hi, hs⟩ := inf114
  show (eqV Tryd.prog 112 (.pointer (some a)) (.pointer (some a))).map (fun b => Value.bool !b) = _
  unfold eqV
  rw [und112]
  simp [hi]

/-- The builder that a call has made: of what was there nothing turns. -/
theorem k77 {b0 : Nat} {w : World} {g : Nat} {l : List Int} (h : Bd b0 w g l) : Brings (Xcall Tryd.prog (Value.func (Fn.func 77) #[] #[]) #[.pointer (some ⟨g, 0, none⟩)] w)
    (fun r => r.1 = .tuple #[] ∧ r.2.heap[g]? = some (.cells #[.pointer (some ⟨g, 0, none⟩), h.buf] 114 (0, 0)) ∧ Chg (fun k => k = g) w r.2 ∧ r.2.heap.size = w.heap.size) := by
  refine e77 ?_
  unfold s77
  simp only [go_sem, h.ld0]
  rw [Qb_eqlP (P := Tryd.prog) und112]
  rcases h.self with ha | ha
  · rw [ha]
    simp only [go_sem, Option.isNone_none, conv1 h.at_, x94, conv2 h.at_, st0 h.at_ ⟨_, rfl⟩]
    exact .ret ⟨rfl, setRow_heap w g _ _ 114 _ h.at_, setRow_chg g _, by simp⟩
  · have hat := h.at_
    rw [ha] at hat
    have hld : Qload Tryd.prog 112 (.pointer (some ⟨g, 0, none⟩)) w = some (.pointer (some ⟨g, 0, none⟩)) := Qload_cell one112 (cell_at hat rfl)
    rw [ha]
    simp only [go_sem, Option.isNone_some, neq112]
    exact .ret ⟨rfl, hat, Chg.refl _ w, rfl⟩

/-- What a writing leaves: a builder with more in it. -/
def BdR {b0 : Nat} {w : World} {g : Nat} {l0 : List Int} (h : Bd b0 w g l0) (l : List Int) (w' : World) : Prop := Nonempty (Bd b0 w' g l) ∧ Chg (fun k => k = g ∨ h.buf.ownBlock = some k) w w'
theorem BdR.base {b0 : Nat} {w w' : World} {g : Nat} {l0 l : List Int} {h : Bd b0 w g l0} (hr : BdR h l w') : Chg (fun k => b0 ≤ k) w w' := hr.2.mono fun k _ e => by
  rcases e with rfl | e
  · exact h.low
  · exact (h.own.base e).1

theorem Ob.apart {b0 : Nat} {w : World} {v x y : Value} {l : List Int} {g : Nat} (h : Ob b0 w v l) (hat : w.heap[g]? = some (.cells #[x, y] 114 (0, 0))) : v.ownBlock ≠ some g := by
  intro hk
  rcases h.2 with ⟨e, _⟩ | ⟨q, cap, cur, e, _, hq, _⟩
  · rw [e] at hk; cases hk
  · rw [e] at hk
    obtain rfl := Option.some.inj hk
    rw [hat] at hq
    injection hq with hq
    injection hq with _ hq
    cases hq

theorem Bd.put {b0 : Nat} {w0 w : World} {g : Nat} {a : Option Addr} {buf v : Value} {l : List Int} {S : Nat → Prop} (hat : w.heap[g]? = some (.cells #[.pointer a, buf] 114 (0, 0))) (ha : a = none ∨ a = some ⟨g, 0, none⟩) (ho : Ob b0 w v l) (hlow : b0 ≤ g) (hS : S g) (hc : Chg S w0 w) :
    Xstore Tryd.prog 22 (.pointer (some ⟨g, 1, none⟩)) v w = some (undef, w.setRow g #[.pointer a, v]) ∧ (Nonempty (Bd b0 (w.setRow g #[.pointer a, v]) g l) ∧ Chg S w0 (w.setRow g #[.pointer a, v])) ∧ Qload Tryd.prog 22 (.pointer (some ⟨g, 1, none⟩)) (w.setRow g #[.pointer a, v]) = some v := by
  have hr := setRow_heap w g _ #[.pointer a, v] 114 _ hat
  have ap := ho.apart hat
  refine ⟨st1 hat ho.slice, ⟨⟨⟨_, v, hr, ha, ho.chg (setRow_chg g _) (fun k hk e => ap (by rw [hk, e])), ap, hlow⟩⟩, ?_⟩, Qload_cell one22 (cell_at hr rfl)⟩
  exact hc.trans ((setRow_chg g _).mono fun k _ e => e ▸ hS) fun _ _ e => e

/-- Behind copyCheck. -/
theorem k77' {b0 : Nat} {w : World} {g : Nat} {l : List Int} (h : Bd b0 w g l) : Brings (Xcall Tryd.prog (Value.func (Fn.func 77) #[] #[]) #[.pointer (some ⟨g, 0, none⟩)] w)
    (fun r => r.1 = .tuple #[] ∧ r.2.heap[g]? = some (.cells #[.pointer (some ⟨g, 0, none⟩), h.buf] 114 (0, 0)) ∧ Chg (fun k => k = g ∨ h.buf.ownBlock = some k) w r.2 ∧ Ob b0 r.2 h.buf l ∧ Qload Tryd.prog 22 (.pointer (some ⟨g, 1, none⟩)) r.2 = some h.buf ∧ b0 ≤ r.2.heap.size) := by
  refine (k77 h).mono ?_
  rintro ⟨v, w1⟩ ⟨he, hat, hc, hsz⟩
  refine ⟨he, hat, hc.mono fun k _ e => .inl e, h.own.chg hc fun k hk e => h.apart (by rw [hk, e]), Qload_cell one22 (cell_at hat rfl), ?_⟩
  have := h.lt
  have := h.low
  simp only at hsz ⊢
  omega

theorem grown_base {b0 : Nat} {w w' : World} {v : Value} {l : List Int} (ho : Ob b0 w v l) (hg : w.grownBy w' v.ownBlock) : Chg (fun k => b0 ≤ k) w w' := (Chg.of_grown hg).mono fun _ _ e => (ho.base e.symm).1

theorem k58 {b0 : Nat} {w : World} {g : Nat} {l m : List Int} (h : Bd b0 w g l) (hm : okB m) (hl : l.length + m.length ≤ 140737488355328) : Brings (Xcall Tryd.prog (Value.func (Fn.func 58) #[] #[]) #[.pointer (some ⟨g, 0, none⟩), .string (strOfNums m)] w)
    (fun r => BdR h (l ++ m) r.2) := by
  refine e58 ?_
  unfold s58
  refine (k77' h).bind ?_
  rintro ⟨_, w1⟩ ⟨he, hat, hc, ho, hld, hb⟩
  simp only at he hat hc ho hld hb
  subst he
  obtain ⟨v', w2, e2, o2, g2⟩ := ho.appS hb hm hl
  have hat2 := (Chg.of_grown g2).at_ hat fun e => h.apart e.symm
  obtain ⟨p1, p2, _⟩ := Bd.put (S := fun k => k = g ∨ h.buf.ownBlock = some k) hat2 (.inr rfl) o2 h.low (.inl rfl) (hc.trans ((Chg.of_grown g2).mono fun k _ e => .inr e.symm) fun _ _ e => e)
  simp only [go_sem, hld, e2, p1, qlen_str]
  exact .ret p2

theorem lit1 (c : Int) (w : World) : XbuildSlice Tryd.prog 22 1 #[(0, .int .u8 c)] w = some (.slice (some ⟨w.heap.size, 0, none⟩) 1 1, w.alloc (.cells #[.int .u8 c] 5)) := t22.lit c w
theorem lit1_view (c : Int) (w : World) : Vw (w.alloc (.cells #[.int .u8 c] 5)) (.slice (some ⟨w.heap.size, 0, none⟩) 1 1) [c] :=
  ⟨some ⟨w.heap.size, 0, none⟩, 1, rfl, Nat.le_refl _, by simp [maxLen], fun h => (by cases h), fun j y hj => by
    match j, hj with
    | 0, hj =>
      injection hj with hj
      subst hj
      exact ⟨w.heap.size, 0, rfl, CellsAt.of (MapKept.heap_alloc w _).1⟩
    | j + 1, hj => simp at hj⟩

/-- append(v, c) -/
theorem Ob.push {b0 : Nat} {w : World} {v : Value} {l : List Int} (h : Ob b0 w v l) (hb : b0 ≤ w.heap.size) (c : Int) (hl : l.length + 1 ≤ 140737488355328) :
    ∃ s w1, XbuildSlice Tryd.prog 22 1 #[(0, .int .u8 c)] w = some (s, w1) ∧ ∃ v' w', Xbi Tryd.prog .append #[22, 22] 22 #[v, s] w1 = some (v', w') ∧ Ob b0 w' v' (l ++ [c]) ∧ Chg (fun k => some k = v.ownBlock) w w' := by
  have b1 : Bel w (w.alloc (.cells #[.int .u8 c] 5)) := (Bel.refl w).alloc _
  have h1 : Ob b0 (w.alloc (.cells #[.int .u8 c] 5)) v l := h.chg (Chg.of_bel b1 fun _ => False) fun _ _ f => f
  obtain ⟨v', w', e, o, g⟩ := h1.appV (by have := b1.size; omega) (lit1_view c w) (by simpa using hl)
  exact ⟨_, _, lit1 c w, v', w', e, o, b1.thenChg (Chg.of_grown g)⟩

theorem k61 {b0 : Nat} {w : World} {g : Nat} {l : List Int} (h : Bd b0 w g l) (c : Int) (hl : l.length + 1 ≤ 140737488355328) : Brings (Xcall Tryd.prog (Value.func (Fn.func 61) #[] #[]) #[.pointer (some ⟨g, 0, none⟩), .int .u8 c] w)
    (fun r => BdR h (l ++ [c]) r.2) := by
  refine e61 ?_
  unfold s61
  refine (k77' h).bind ?_
  rintro ⟨_, w1⟩ ⟨he, hat, hc, ho, hld, hb⟩
  simp only at he hat hc ho hld hb
  subst he
  obtain ⟨s, w2, e1, v', w3, e2, o2, g2⟩ := ho.push hb c hl
  have hat2 := g2.at_ hat fun e => h.apart e.symm
  obtain ⟨p1, p2, _⟩ := Bd.put (S := fun k => k = g ∨ h.buf.ownBlock = some k) hat2 (.inr rfl) o2 h.low (.inl rfl) (hc.trans (g2.mono fun k _ e => .inr e.symm) fun _ _ e => e)
  simp only [go_sem, hld, e1, e2, p1]
  exact .ret p2

theorem x95 {n : Nat} (hn : n ≤ 281474976710656) (w : World) : ∃ (cs : Array Value), Xcall Tryd.prog (Value.func (Fn.func 95) #[] #[]) #[.int .i64 (n : Int)] w = some (.slice (some ⟨w.heap.size, 0, none⟩) n cs.size, w.drew.drew.alloc (.cells cs 5)) ∧ n ≤ cs.size ∧ cs.size ≤ maxLen := by
  obtain ⟨cs, e, h1, h2⟩ := Lib.run_makeNoZero (P := Tryd.prog) w #[3] 22 5 und22 n hn
  refine ⟨cs, ?_, h1, h2 (by simp [maxLen]; omega)⟩
  rw [Xcall_ext Tryd.func95 (by kernel_rfl) (by kernel_rfl) (by kernel_rfl) (e := Extern.BytealgMakeNoZero.makeNoZero #[3] #[22]) (by kernel_rfl), e]

end Go.Proofs.YtphokckbcmiddaaDoor

/- strings.Builder: runes; room; its text. -/
namespace Go.Proofs.YtphokckbcmiddaaDoor
open Go Go.Ev Go.RowKit
open Go.Proofs

theorem wrap_u8 (n : Int) : 0 ≤ IntKind.u8.wrap n ∧ IntKind.u8.wrap n ≤ 255 := by
  simp only [IntKind.wrap, IntKind.bits, IntKind.signed]
  simp
  omega
theorem iand_hi {a b : Int} (ha : 0 ≤ a ∧ a ≤ 255) (hb : 0 ≤ b ∧ b ≤ 255) : 0 ≤ iand .u8 a b ∧ iand .u8 a b ≤ 255 := by
  obtain ⟨x, rfl⟩ := Int.eq_ofNat_of_zero_le ha.1
  obtain ⟨y, rfl⟩ := Int.eq_ofNat_of_zero_le hb.1
  rw [iand_u rfl (show x < 256 by omega) (show y < 256 by omega)]
  have := Nat.and_le_left (n := x) (m := y)
  omega
theorem ior_hi {a b : Int} (ha : 128 ≤ a ∧ a ≤ 255) (hb : 0 ≤ b ∧ b ≤ 255) : 128 ≤ ior .u8 a b ∧ ior .u8 a b ≤ 255 := by
  obtain ⟨x, rfl⟩ := Int.eq_ofNat_of_zero_le (show 0 ≤ a by omega)
  obtain ⟨y, rfl⟩ := Int.eq_ofNat_of_zero_le hb.1
  rw [ior_u rfl (show x < 256 by omega) (show y < 256 by omega)]
  have h1 := Nat.left_le_or (n := x) (m := y)
  have h2 : x ||| y < 2 ^ 8 := Nat.or_lt_two_pow (by omega) (by omega)
  omega
theorem conv215 {n : Int} : Qconv Tryd.prog 21 5 (.int .i32 n) = some (.int .u8 (IntKind.u8.wrap n)) := Qconv_int (k := .u8) (by kernel_rfl)
theorem conv2124 {n : Int} (h : 0 ≤ n ∧ n < 2147483648) : Qconv Tryd.prog 21 24 (.int .i32 n) = some (.int .u32 n) := by
  rw [Qconv_int (k := .u32) (by kernel_rfl)]
  congr 2
  simp only [IntKind.wrap, IntKind.bits, IntKind.signed]
  simp
  omega

theorem lits_view (l : List Int) (hl : l.length ≤ maxLen) (z : Nat × Nat) (w : World) : Vw (w.alloc (.cells (l.map (Value.int .u8)).toArray 5 z)) (.slice (some ⟨w.heap.size, 0, none⟩) l.length l.length) l := by
  refine ⟨_, l.length, rfl, Nat.le_refl _, hl, (fun h => by cases h), fun k y hk => ⟨_, 0, rfl, fun j v hj => ?_⟩⟩
  have hc := CellsAt.of (w := w.alloc (.cells (l.map (Value.int .u8)).toArray 5 z)) (cs := l.map (Value.int .u8)) (MapKept.heap_alloc w _).1
  match j, hj with
  | 0, hj =>
    obtain rfl := Option.some.inj hj
    have := hc k (.int .u8 y) (by rw [List.getElem?_map, hk]; rfl)
    simpa using this
  | j + 1, hj => simp [nc] at hj

theorem lit2 (a b : Int) (w : World) : XbuildSlice Tryd.prog 22 2 #[(0, .int .u8 a), (1, .int .u8 b)] w = some (.slice (some ⟨w.heap.size, 0, none⟩) 2 2, w.alloc (.cells ([a, b].map (Value.int .u8)).toArray 5)) := by kernel_rfl
theorem lit3 (a b c : Int) (w : World) : XbuildSlice Tryd.prog 22 3 #[(0, .int .u8 a), (1, .int .u8 b), (2, .int .u8 c)] w = some (.slice (some ⟨w.heap.size, 0, none⟩) 3 3, w.alloc (.cells ([a, b, c].map (Value.int .u8)).toArray 5)) := by kernel_rfl
theorem lit4 (a b c d : Int) (w : World) : XbuildSlice Tryd.prog 22 4 #[(0, .int .u8 a), (1, .int .u8 b), (2, .int .u8 c), (3, .int .u8 d)] w = some (.slice (some ⟨w.heap.size, 0, none⟩) 4 4, w.alloc (.cells ([a, b, c, d].map (Value.int .u8)).toArray 5)) := by kernel_rfl

/-- What a rune's bytes are like. -/
def RuneB (r : Int) (m : List Int) : Prop := okB m ∧ m.length ≤ 4 ∧ (r < 128 → m = [r]) ∧ (128 ≤ r → ∃ c ∈ m, 128 ≤ c)
/-- Appended to a row of one's own. -/
def AppR (b0 : Nat) (w : World) (v : Value) (l : List Int) (r : Int) (x : Value × World) : Prop := ∃ m, RuneB r m ∧ Ob b0 x.2 x.1 (l ++ m) ∧ Chg (fun k => some k = v.ownBlock) w x.2

theorem Ob.lits {b0 : Nat} {w : World} {v : Value} {l : List Int} (h : Ob b0 w v l) (hb : b0 ≤ w.heap.size) (m : List Int) (hm : m.length ≤ 4) (hl : l.length + 4 ≤ 140737488355328) (z : Nat × Nat) :
    ∃ v' w', Xbi Tryd.prog .append #[22, 22] 22 #[v, .slice (some ⟨w.heap.size, 0, none⟩) m.length m.length] (w.alloc (.cells (m.map (Value.int .u8)).toArray 5 z)) = some (v', w') ∧ Ob b0 w' v' (l ++ m) ∧ Chg (fun k => some k = v.ownBlock) w w' := by
  have b1 : Bel w (w.alloc (.cells (m.map (Value.int .u8)).toArray 5 z)) := (Bel.refl w).alloc _
  have h1 : Ob b0 (w.alloc (.cells (m.map (Value.int .u8)).toArray 5 z)) v l := h.chg (Chg.of_bel b1 fun _ => False) fun _ _ f => f
  obtain ⟨v', w', e, o, g⟩ := h1.appV (by have := b1.size; omega) (lits_view m (by simp [maxLen]; omega) z w) (by omega)
  exact ⟨v', w', e, o, b1.thenChg (Chg.of_grown g)⟩

theorem k96 {b0 : Nat} {w : World} {v : Value} {l : List Int} (h : Ob b0 w v l) (hb : b0 ≤ w.heap.size) {r : Int} (h0 : 128 ≤ r) (h1 : r < 2147483648) (hl : l.length + 4 ≤ 140737488355328) :
    Brings (Xcall Tryd.prog (Value.func (Fn.func 96) #[] #[]) #[v, .int .i32 r] w) (AppR b0 w v l r) := by
  refine e96 ?_
  unfold s96
  have fin : ∀ m : List Int, m ≠ [] → (∀ c ∈ m, 128 ≤ c ∧ c ≤ 255) → m.length ≤ 4 → Brings ((Xbi Tryd.prog .append #[22, 22] 22 #[v, .slice (some ⟨w.heap.size, 0, none⟩) m.length m.length] (w.alloc (.cells (m.map (Value.int .u8)).toArray 5))).bind fun r => some (r.1, r.2)) (AppR b0 w v l r) := by
    intro m hm hc h4
    obtain ⟨v', w', e, o, c⟩ := h.lits hb m h4 hl (0, 0)
    rw [e]
    refine .ret ⟨m, ⟨fun c hc' => by have := hc c hc'; omega, h4, fun hr => by omega, fun _ => ?_⟩, o, c⟩
    cases m with
    | nil => exact absurd rfl hm
    | cons c m => exact ⟨c, by simp, (hc c (by simp)).1⟩
  have w8 := wrap_u8
  have a63 : ∀ n : Int, 0 ≤ iand .u8 (IntKind.u8.wrap n) 63 ∧ iand .u8 (IntKind.u8.wrap n) 63 ≤ 255 := fun n => iand_hi (w8 n) (by decide)
  simp only [conv2124 (show 0 ≤ r ∧ r < 2147483648 by omega), go_sem]
  have hM0 : ∀ b : Bool, Brings (s96M0 v (.int .i32 r) (.int .u32 r) (.bool b) w) (AppR b0 w v l r) := by
    intro b
    unfold s96M0
    cases b with
    | true =>
      simp only [go_sem, conv215, lit3, Int.reduceLE]
      exact fin [_, _, _] (by simp) (by
        intro c hc
        simp only [List.mem_cons, List.not_mem_nil, or_false] at hc
        rcases hc with rfl | rfl | rfl
        · exact ior_hi (by decide) (w8 _)
        · exact ior_hi (by decide) (a63 _)
        · exact ior_hi (by decide) (a63 _)) (by simp)
    | false =>
      simp only [go_sem]
      by_cases c1 : (65535 : Int) < r
      · rw [decide_eq_true c1]
        simp only [go_sem]
        by_cases c2 : r ≤ 1114111
        · rw [decide_eq_true c2]
          simp only [go_sem, conv215, lit4, Int.reduceLE]
          exact fin [_, _, _, _] (by simp) (by
            intro c hc
            simp only [List.mem_cons, List.not_mem_nil, or_false] at hc
            rcases hc with rfl | rfl | rfl | rfl
            · exact ior_hi (by decide) (w8 _)
            · exact ior_hi (by decide) (a63 _)
            · exact ior_hi (by decide) (a63 _)
            · exact ior_hi (by decide) (a63 _)) (by simp)
        · rw [decide_eq_false c2]
          simp only [go_sem, lit3]
          exact fin [239, 191, 189] (by simp) (by decide) (by simp)
      · rw [decide_eq_false c1]
        simp only [go_sem, lit3]
        exact fin [239, 191, 189] (by simp) (by decide) (by simp)
  by_cases c1 : r ≤ 2047
  · rw [decide_eq_true c1]
    simp only [go_sem, conv215, lit2, Int.reduceLE]
    exact fin [_, _] (by simp) (by
      intro c hc
      simp only [List.mem_cons, List.not_mem_nil, or_false] at hc
      rcases hc with rfl | rfl
      · exact ior_hi (by decide) (w8 _)
      · exact ior_hi (by decide) (a63 _)) (by simp)
  · rw [decide_eq_false c1]
    simp only [go_sem]
    by_cases c2 : r < 55296
    · rw [decide_eq_true c2]
      simp only [go_sem]
      exact hM0 _
    · rw [decide_eq_false c2]
      simp only [go_sem]
      by_cases c3 : (57343 : Int) < r
      · rw [decide_eq_true c3]
        simp only [go_sem]
        exact hM0 _
      · rw [decide_eq_false c3]
        simp only [go_sem]
        exact hM0 _

theorem k79 {b0 : Nat} {w : World} {v : Value} {l : List Int} (h : Ob b0 w v l) (hb : b0 ≤ w.heap.size) {r : Int} (h0 : 0 ≤ r) (h1 : r < 2147483648) (hl : l.length + 4 ≤ 140737488355328) :
    Brings (Xcall Tryd.prog (Value.func (Fn.func 79) #[] #[]) #[v, .int .i32 r] w) (AppR b0 w v l r) := by
  refine e79 ?_
  unfold s79
  simp only [conv2124 (show 0 ≤ r ∧ r < 2147483648 by omega), go_sem]
  by_cases c1 : r ≤ 127
  · rw [decide_eq_true c1]
    have e8 : IntKind.u8.wrap r = r := by
      simp only [IntKind.wrap, IntKind.bits, IntKind.signed]
      simp
      omega
    simp only [go_sem, conv215, lit1, e8]
    obtain ⟨v', w', e, o, c⟩ := h.lits hb [r] (by simp) hl (0, 0)
    simp only [List.length_cons, List.length_nil, List.map_cons, List.map_nil, Nat.zero_add] at e
    simp only [e, go_sem]
    exact .ret ⟨[r], ⟨fun c hc => by simp at hc; omega, by simp, fun _ => rfl, fun hr => by omega⟩, o, c⟩
  · rw [decide_eq_false c1]
    simp only [go_sem]
    refine (k96 h hb (by omega) h1 hl).bind ?_
    rintro ⟨v', w'⟩ hr
    exact .ret hr

theorem k59 {b0 : Nat} {w : World} {g : Nat} {l : List Int} (h : Bd b0 w g l) {c : Int} (h0 : 0 ≤ c) (h1 : c < 2147483648) (hl : l.length + 4 ≤ 140737488355328) : Brings (Xcall Tryd.prog (Value.func (Fn.func 59) #[] #[]) #[.pointer (some ⟨g, 0, none⟩), .int .i32 c] w)
    (fun r => ∃ m, RuneB c m ∧ BdR h (l ++ m) r.2) := by
  refine e59 ?_
  unfold s59
  refine (k77' h).bind ?_
  rintro ⟨_, w1⟩ ⟨he, hat, hc, ho, hld, hb⟩
  simp only at he hat hc ho hld hb
  subst he
  simp only [go_sem, hld, vlen ho.view]
  refine (k79 ho hb h0 h1 hl).bind ?_
  rintro ⟨v', w2⟩ ⟨m, hm, o2, g2⟩
  simp only at o2 g2
  have hat2 := g2.at_ hat fun e => h.apart e.symm
  obtain ⟨p1, p2, p3⟩ := Bd.put (S := fun k => k = g ∨ h.buf.ownBlock = some k) hat2 (.inr rfl) o2 h.low (.inl rfl) (hc.trans (g2.mono fun k _ e => .inr e.symm) fun _ _ e => e)
  simp only [go_sem, p1, p3, vlen o2.view]
  exact .ret ⟨m, hm, p2⟩

theorem qcap {x : Option Addr} {n c : Nat} {w : World} : Qcap Tryd.prog #[22] 3 #[.slice x n c] w = some (.int .i64 c) := by
  unfold Qcap qv
  simp [Builtin.cap_, run_underlying und22, goInt]

theorem k60 {b0 : Nat} {w : World} {g : Nat} {l : List Int} (h : Bd b0 w g l) : Brings (Xcall Tryd.prog (Value.func (Fn.func 60) #[] #[]) #[.pointer (some ⟨g, 0, none⟩)] w)
    (fun r => r.2 = w ∧ ∃ c : Nat, r.1 = .int .i64 c ∧ l.length ≤ c ∧ (h.buf = .slice none 0 0 → c = 0)) := by
  refine e60 ?_
  unfold s60
  obtain ⟨x, n, c, e⟩ := h.own.slice
  have hcap : l.length ≤ c := by
    obtain ⟨a, c', e2, hc⟩ := vcap h.own.view
    rw [e] at e2
    injection e2 with _ _ e2
    omega
  simp only [go_sem, h.ld1, e, qcap]
  refine .ret ⟨rfl, c, rfl, hcap, fun hn => ?_⟩
  injection hn with _ _ hn

theorem cut0 {g n c : Nat} {w : World} : Qslice Tryd.prog 22 (.slice (some ⟨g, 0, none⟩) n c) none (some (.int .i64 0)) none w = some (.slice (some ⟨g, 0, none⟩) 0 c) := by
  obtain ⟨i, hi, hs⟩ := inf5
  unfold Qslice qv
  rw [run_sliceAt_slice _ _ _ _ _ _ und22', run_slice_h _ _ _ _ _ und22' _ _ (Int.le_refl 0) (by omega), elem22, run_size hi, hs]
  show some (sliced (some ⟨g, 0, none⟩) 0 (Int.toNat 0) c 1) = _
  unfold sliced
  by_cases e : c = 0
  · simp [e]
  · simp only [e, if_false, Option.map_some, Nat.zero_mul, Int.toNat_zero, Nat.sub_zero]
    rfl
theorem copy0 {g c : Nat} {w : World} : Xbi Tryd.prog .copy #[22, 22] 3 #[.slice (some ⟨g, 0, none⟩) 0 c, .slice none 0 0] w = some (.int .i64 0, w) := by
  obtain ⟨i, hi, hs⟩ := inf5
  unfold Xbi
  simp only [builtin, Sem.run_bind, run_copy_nil (P := Tryd.prog) w 22 22 3 5 ⟨g, 0, none⟩ 0 c und22 (by rw [hi]; rfl), Result.andThen_ok]
  rfl

/-- Room for a builder that is new. -/
theorem k78 {b0 : Nat} {w : World} {g : Nat} (h : Bd b0 w g []) (hn : h.buf = .slice none 0 0) {n : Nat} (hn8 : n ≤ 281474976710656) : Brings (Xcall Tryd.prog (Value.func (Fn.func 78) #[] #[]) #[.pointer (some ⟨g, 0, none⟩), .int .i64 (n : Int)] w)
    (fun r => BdR h [] r.2) := by
  refine e78 ?_
  unfold s78
  have hld := h.ld1
  have hat := h.at_
  rw [hn] at hld hat
  generalize hwd : w.drew = wd
  have bd : Bel w wd := by rw [← hwd]; exact (Bel.refl w).drew
  have hsz : wd.heap.size = w.heap.size := by rw [← hwd]; rfl
  have hat1 := bd.at_ hat
  have hld1 : Qload Tryd.prog 22 (.pointer (some ⟨g, 1, none⟩)) wd = some (.slice none 0 0) := Qload_cell one22 (cell_at hat1 rfl)
  obtain ⟨cs, e5, hcs, hcm⟩ := x95 hn8 wd
  have hw2 : Bel wd (wd.drew.drew.alloc (.cells cs 5)) := ((Bel.refl wd).drew.drew).alloc _
  have hnew : (wd.drew.drew.alloc (.cells cs 5)).heap[wd.heap.size]? = some (.cells cs 5 (0, 0)) := (MapKept.heap_alloc wd.drew.drew (.cells cs 5)).1
  simp only [go_sem, hld1, qcap, wr (show -9223372036854775808 ≤ (2 * ((0 : Nat) : Int)) by decide) (show (2 * ((0 : Nat) : Int)) ≤ 9223372036854775807 by decide)]
  rw [wr (by omega) (by omega), show (2 * ((0 : Nat) : Int)) + (n : Int) = (n : Int) by omega, e5]
  generalize wd.drew.drew.alloc (.cells cs 5) = w2 at hw2 hnew
  have hat2 := hw2.at_ hat1
  have hld2 : Qload Tryd.prog 22 (.pointer (some ⟨g, 1, none⟩)) w2 = some (.slice none 0 0) := Qload_cell one22 (cell_at hat2 rfl)
  have hlen0 : ∀ w', Qlen Tryd.prog #[22] 3 #[.slice none 0 0] w' = some (.int .i64 ((0 : Nat) : Int)) := fun w' => Qlen_slice (P := Tryd.prog) und22
  simp only [go_sem, hld2, hlen0, hld1]
  rw [show (((0 : Nat) : Int)) = 0 from rfl, cut0]
  simp only [go_sem, eq_self, and_self, copy0]
  have ho : Ob b0 w2 (.slice (some ⟨wd.heap.size, 0, none⟩) 0 cs.size) [] := ⟨rfl, .inr ⟨wd.heap.size, cs.size, cs, rfl, by have := h.lt; have := h.low; omega, hnew, Nat.zero_le _, hcm, by simp, rfl⟩⟩
  obtain ⟨p1, p2, _⟩ := Bd.put (S := fun k => k = g ∨ h.buf.ownBlock = some k) hat2 h.self ho h.low (.inl rfl) (Chg.of_bel (bd.trans hw2) _)
  simp only [p1, go_sem]
  exact .ret p2

theorem k57 {b0 : Nat} {w : World} {g : Nat} (h : Bd b0 w g []) (hn : h.buf = .slice none 0 0) {n : Nat} (hn0 : 0 < n) (hn8 : n ≤ 281474976710656) : Brings (Xcall Tryd.prog (Value.func (Fn.func 57) #[] #[]) #[.pointer (some ⟨g, 0, none⟩), .int .i64 (n : Int)] w)
    (fun r => BdR h [] r.2) := by
  refine e57 ?_
  unfold s57
  refine (k77' h).bind ?_
  rintro ⟨_, w1⟩ ⟨he, hat, hc, ho, hld, hb⟩
  simp only at he hat hc ho hld hb
  subst he
  simp only [go_sem]
  rw [decide_eq_false (by omega)]
  simp only [go_sem]
  unfold s57M0
  generalize hwd : w1.drew = wd
  have bd : Bel w1 wd := by rw [← hwd]; exact (Bel.refl w1).drew
  have hat1 := bd.at_ hat
  rw [hn] at hat1 ho
  have hld1 : Qload Tryd.prog 22 (.pointer (some ⟨g, 1, none⟩)) wd = some (.slice none 0 0) := Qload_cell one22 (cell_at hat1 rfl)
  have hlen0 : ∀ w', Qlen Tryd.prog #[22] 3 #[.slice none 0 0] w' = some (.int .i64 ((0 : Nat) : Int)) := fun w' => Qlen_slice (P := Tryd.prog) und22
  simp only [go_sem, hld1, qcap, hlen0]
  rw [wr (by decide) (by decide), decide_eq_true (by omega)]
  simp only [go_sem]
  refine (k78 (w := wd) (g := g) ⟨some ⟨g, 0, none⟩, .slice none 0 0, hat1, .inr rfl, Ob.nil _ _, (by simp [Value.ownBlock]), h.low⟩ rfl hn8).bind ?_
  rintro ⟨_, w2⟩ ⟨h1, h2⟩
  refine .ret ⟨h1, (hc.thenBel bd).trans h2 fun k _ e => ?_⟩
  rcases e with e | e
  · exact .inl e
  · cases e

theorem xsd {a : Addr} {n c : Nat} {w : World} (hc : c ≠ 0) : Xbi Tryd.prog .unsafeSliceData #[22] 136 #[.slice (some a) n c] w = some (.pointer (some a), w) := by
  unfold Xbi
  simp only [builtin, Sem.run_bind, Lib.run_unsafeSliceData_row (P := Tryd.prog) w #[22] 136 a n c hc, Result.andThen_ok]
  rfl
theorem und136 : Tryd.prog.underlying 136 = some (.pointer 5) := by kernel_rfl
theorem cof5 : Tryd.prog.cellsOf 5 = 1 := by kernel_rfl


set_option maxRecDepth 100000 in
theorem k62 {b0 : Nat} {w : World} {g : Nat} {l : List Int} (h : Bd b0 w g l) (hl : okB l) (h0 : l ≠ []) : Brings (Xcall Tryd.prog (Value.func (Fn.func 62) #[] #[]) #[.pointer (some ⟨g, 0, none⟩)] w)
    (fun r => r.1 = .string (strOfNums l) ∧ Chg (fun k => h.buf.ownBlock = some k) w r.2) := by
  refine e62 ?_
  unfold s62
  generalize hwd : w.drew = wd
  have bd : Bel w wd := by rw [← hwd]; exact (Bel.refl w).drew
  have hat1 := bd.at_ h.at_
  have ho : Ob b0 wd h.buf l := h.own.chg (Chg.of_bel bd fun _ => False) fun _ _ f => f
  have hld1 : Qload Tryd.prog 22 (.pointer (some ⟨g, 1, none⟩)) wd = some h.buf := Qload_cell one22 (cell_at hat1 rfl)
  have hpos : 0 < l.length := List.length_pos_iff.2 h0
  rcases ho.2 with ⟨_, e⟩ | ⟨q, cap, cur, e, hq, hqa, hc1, hc2, hsz, htk⟩
  · omega
  have hlen : ∀ w', Qlen Tryd.prog #[22] 3 #[h.buf] w' = some (.int .i64 l.length) := fun w' => vlen ho.view
  have hsd : Xbi Tryd.prog .unsafeSliceData #[22] 136 #[h.buf] wd = some (.pointer (some ⟨q, 0, none⟩), wd) := by rw [e]; exact xsd (by omega)
  have hstr : Xbi Tryd.prog .unsafeString #[136, 3] 9 #[.pointer (some ⟨q, 0, none⟩), .int .i64 (l.length : Int)] wd = some (.string (strOfNums l), wd.freeze ⟨q, 0, none⟩ l.length) := by
    have hlb : (Lib.bytesOf l).length = l.length := Lib.bytesOf_length l
    have := Lib.run_unsafeString_row (P := Tryd.prog) wd 136 3 9 5 und136 cof5 q cap (by simp [World.shape?, hqa, hsz]) (Lib.bytesOf l) (by intro e0; rw [e0] at hlb; simp at hlb; omega) (by rw [hlb]; exact hc1) (by rw [hlb]; simp [maxLen] at hc2; omega) (fun j x hj => by
      unfold Lib.bytesOf at hj
      rw [List.getElem?_map] at hj
      cases hlj : l[j]? with
      | none => rw [hlj] at hj; cases hj
      | some y =>
        rw [hlj] at hj
        have hx : UInt8.ofNat y.toNat = x := Option.some.inj hj
        have hy := hl y (List.mem_of_getElem? hlj)
        have hcell : wd.cell? ⟨q, j, none⟩ = some (.int .u8 y) := by
          refine cell_at hqa ?_
          have hfl : (l.flatMap (nc .u8))[j]? = some (.int .u8 y) := by
            have := flat_at (f := nc .u8) (size := 1) l j y (fun _ _ => rfl) hlj
            have h2 : (((l.flatMap (nc .u8)).drop (j * 1)).take 1)[0]? = some (.int .u8 y) := by rw [this]; rfl
            rw [List.getElem?_take, if_pos (by decide), List.getElem?_drop] at h2
            simpa using h2
          rw [← htk, List.getElem?_take] at hfl
          split at hfl
          · simpa using hfl
          · cases hfl
        rw [add_0, hcell, ← hx]
        congr 2
        simp
        omega)
    rw [hlb] at this
    unfold Xbi
    simp only [builtin, Sem.run_bind, this, Result.andThen_ok]
    rfl
  simp only [go_sem, hld1, hsd, hlen, hstr, eq_self, and_self]
  refine .ret ⟨rfl, ?_⟩
  refine (Chg.of_bel bd fun k => h.buf.ownBlock = some k).trans (T := fun k => h.buf.ownBlock = some k) ?_ fun _ _ e => e
  unfold World.freeze
  rw [if_neg (by omega)]
  refine ⟨rfl, rfl, rfl, by simp, fun k hk hn => ?_⟩
  simp only [Array.getElem?_modify]
  rw [if_neg (by intro e2; subst e2; exact hn (by rw [e]; rfl))]

end Go.Proofs.YtphokckbcmiddaaDoor

/- A text's first rune, weakly; strings.Map of the capitals. -/
namespace Go.Proofs.YtphokckbcmiddaaDoor
open Go Go.Ev Go.RowKit
open Go.Proofs

theorem und9' : Tryd.prog.underlying 9 = some .string := und9
theorem strOf_eq {s t : ByteArray} (h : s.data.toList = t.data.toList) : s = t := by
  cases s; cases t
  simp only [ByteArray.mk.injEq]
  exact Array.toList_inj.1 h
theorem str_lo {l : List Int} {i : Nat} (hi : i ≤ l.length) {w : World} : Qslice Tryd.prog 9 (.string (strOfNums l)) (some (.int .i64 (i : Int))) none none w = some (.string (strOfNums (l.drop i))) := by
  unfold Qslice qv
  rw [run_sliceAt_string _ _ _ _ _ _ und9, run_slice_string_from_if _ _ _ _ _ und9, if_pos ⟨by omega, by rw [strOfNums_size]; omega⟩]
  simp only [Option.some.injEq, Value.string.injEq]
  apply strOf_eq
  rw [Lib.extract_data, strOfNums_data, strOfNums_data, strOfNums_size, Int.toNat_natCast, List.map_drop, List.take_of_length_le (by simp)]
theorem str_hi {l : List Int} {i : Nat} (hi : i ≤ l.length) {w : World} : Qslice Tryd.prog 9 (.string (strOfNums l)) none (some (.int .i64 (i : Int))) none w = some (.string (strOfNums (l.take i))) := by
  unfold Qslice qv
  rw [run_sliceAt_string _ _ _ _ _ _ und9, run_slice_string_to_if _ _ _ _ _ und9, if_pos ⟨by omega, by rw [strOfNums_size]; omega⟩]
  simp only [Option.some.injEq, Value.string.injEq]
  apply strOf_eq
  rw [Lib.extract_data, strOfNums_data, strOfNums_data, Int.toNat_natCast, List.drop_zero, Nat.sub_zero, List.map_take]

/-- Some rune, and how many bytes it takes. -/
def DecS (w : World) (n : Nat) (r : Value × World) : Prop := Bel w r.2 ∧ ∃ c k : Int, r.1 = .tuple #[.int .i32 c, .int .i64 k] ∧ 1 ≤ k ∧ k ≤ n

theorem k76a {w : World} {l : List Int} {n : Nat} (hl : okB l) (h0 : l[0]? = some (n : Int)) (hx : 128 ≤ n) (hT : Tab w) {v : Nat} (hv : firstT n = v) (hv4 : v < 240) {sz : Int} (hm : (v : Int) % 8 = sz) {q : Nat} (hq : v / 16 = q) (hq5 : q < 5)
    (h2 : sz = 2 ∨ sz = 3 ∨ sz = 4) : Brings (s76 (.string (strOfNums l)) w) (DecS w l.length) := by
  unfold s76
  have hlen : 0 < l.length := (List.getElem?_eq_some_iff.1 h0).1
  have hx5 := hl n (List.mem_of_getElem? h0)
  have hix := fun w => qidx_str h0 hx5 w
  obtain ⟨i5, hi5, hs5⟩ := inf5
  obtain ⟨iR, hiR, hsR⟩ := inf155
  have hf := hT.first n (by omega)
  rw [hv] at hf
  have hL : Qload Tryd.prog 5 (.pointer (some ⟨1, n, none⟩)) w = some (.int .u8 ((v : Nat) : Int)) := Qload_cell one5 hf
  have hA : QindexAddr Tryd.prog 153 (.pointer (some ⟨1, 0, none⟩)) (.int .u8 ((n : Nat) : Int)) w = some (.pointer (some ⟨1, n, none⟩)) := by
    rw [QindexAddr_arr und153 hi5 hs5 (by omega)]; simp
  have hA2 : QindexAddr Tryd.prog 156 (.pointer (some ⟨2, 0, none⟩)) (.int .u8 ((q : Nat) : Int)) w = some (.pointer (some ⟨2, q * 2, none⟩)) := by
    rw [QindexAddr_arr und156 hiR hsR (by omega)]; simp
  have hac := hT.acc q hq5
  have hR : CellsAt (Rng.mk (accLo q) (accHi q)).cs w 2 (q * 2) := by
    intro j u hj
    rw [Nat.mul_comm q 2]
    match j, hj with
    | 0, hj => obtain rfl := Option.some.inj hj; exact hac.1
    | 1, hj => obtain rfl := Option.some.inj hj; exact hac.2
    | j + 2, hj => simp [Rng.cs] at hj
  generalize accLo q = lo at hR
  generalize accHi q = hi at hR
  simp only [Int.natCast_zero] at hix
  simp only [qlen_str, strOfNums_size, go_sem]
  rw [decide_eq_false (by omega)]
  simp only [go_sem, hix, hA, hL]
  rw [decide_eq_false (by omega)]
  have e16 : Int.fdiv (v : Int) (2 ^ min (4 : Int).toNat 8) = (q : Int) := by
    show Int.fdiv (v : Int) 16 = _
    rw [Int.fdiv_eq_ediv_of_nonneg _ (by decide)]
    omega
  simp only [go_sem, m7 (show 0 ≤ (v : Int) ∧ (v : Int) ≤ 255 by omega), hm, conv53 (show 0 ≤ sz ∧ sz ≤ 255 by omega), show (0 : Int) ≤ 4 by decide, e16, hA2, Rng.all hR, alloc155, put155]
  generalize hw1 : (w.alloc (.cells Rng.zero.cs.toArray 155)).setRow w.heap.size (Rng.mk lo hi).cs.toArray = w1
  have bel1 : Bel w w1 := by rw [← hw1]; exact local_bel _ _ _
  have hR1 : CellsAt (Rng.mk lo hi).cs w1 w.heap.size 0 := by rw [← hw1]; exact local_at _ _ _ _
  have err : ∀ c k : Int, 1 ≤ k → k ≤ l.length → DecS w l.length (.tuple #[.int .i32 c, .int .i64 k], w1) := fun c k h1 hk => ⟨bel1, c, k, rfl, h1, hk⟩
  simp only [Rng.b0 hR1, Rng.b1 hR1, go_sem]
  by_cases c0 : (l.length : Int) < sz
  · rw [decide_eq_true c0]
    simp only [go_sem]
    exact .ret (err _ 1 (by omega) (by omega))
  rw [decide_eq_false c0]
  obtain ⟨b1, hb1⟩ : ∃ b, l[1]? = some b := ⟨_, List.getElem?_eq_getElem (show 1 < l.length by omega)⟩
  have hb1' := hl b1 (List.mem_of_getElem? hb1)
  have hix1 := fun w => qidx_str hb1 hb1' w
  simp only [Int.natCast_one] at hix1
  simp only [hix1, go_sem]
  by_cases c1 : b1 < lo
  · rw [decide_eq_true c1]
    simp only [go_sem]
    exact .ret (err _ 1 (by omega) (by omega))
  rw [decide_eq_false c1]
  simp only [Rng.b1 hR1, go_sem]
  by_cases c2 : hi < b1
  · rw [decide_eq_true c2]
    simp only [go_sem]
    exact .ret (err _ 1 (by omega) (by omega))
  rw [decide_eq_false c2]
  simp only [go_sem]
  by_cases c3 : sz ≤ 2
  · rw [decide_eq_true c3]
    simp only [go_sem]
    rw [conv521 (iand_hi hx5 (by decide))]
    simp only [go_sem, Int.reduceLE]
    rw [conv521 (iand_hi hb1' (by decide))]
    simp only [go_sem]
    exact .ret (err _ 2 (by omega) (by omega))
  rw [decide_eq_false c3]
  obtain ⟨b2, hb2⟩ : ∃ b, l[2]? = some b := ⟨_, List.getElem?_eq_getElem (show 2 < l.length by omega)⟩
  have hb2' := hl b2 (List.mem_of_getElem? hb2)
  have hix2 := fun w => qidx_str hb2 hb2' w
  rw [show ((2 : Nat) : Int) = 2 from rfl] at hix2
  simp only [hix2, go_sem]
  by_cases c4 : b2 < 128
  · rw [decide_eq_true c4]
    simp only [go_sem]
    exact .ret (err _ 1 (by omega) (by omega))
  rw [decide_eq_false c4]
  simp only [go_sem]
  by_cases c5 : 191 < b2
  · rw [decide_eq_true c5]
    simp only [go_sem]
    exact .ret (err _ 1 (by omega) (by omega))
  rw [decide_eq_false c5]
  simp only [go_sem]
  by_cases c6 : sz ≤ 3
  · rw [decide_eq_true c6]
    simp only [go_sem]
    rw [conv521 (iand_hi hx5 (by decide))]
    simp only [go_sem, Int.reduceLE]
    rw [conv521 (iand_hi hb1' (by decide))]
    simp only [go_sem, Int.reduceLE]
    rw [conv521 (iand_hi hb2' (by decide))]
    simp only [go_sem]
    exact .ret (err _ 3 (by omega) (by omega))
  rw [decide_eq_false c6]
  obtain ⟨b3, hb3⟩ : ∃ b, l[3]? = some b := ⟨_, List.getElem?_eq_getElem (show 3 < l.length by omega)⟩
  have hb3' := hl b3 (List.mem_of_getElem? hb3)
  have hix3 := fun w => qidx_str hb3 hb3' w
  rw [show ((3 : Nat) : Int) = 3 from rfl] at hix3
  simp only [hix3, go_sem]
  by_cases c7 : b3 < 128
  · rw [decide_eq_true c7]
    simp only [go_sem]
    exact .ret (err _ 1 (by omega) (by omega))
  rw [decide_eq_false c7]
  simp only [go_sem]
  by_cases c8 : 191 < b3
  · rw [decide_eq_true c8]
    simp only [go_sem]
    exact .ret (err _ 1 (by omega) (by omega))
  rw [decide_eq_false c8]
  simp only [go_sem]
  rw [conv521 (iand_hi hx5 (by decide))]
  simp only [go_sem, Int.reduceLE]
  rw [conv521 (iand_hi hb1' (by decide))]
  simp only [go_sem, Int.reduceLE]
  rw [conv521 (iand_hi hb2' (by decide))]
  simp only [go_sem, Int.reduceLE]
  rw [conv521 (iand_hi hb3' (by decide))]
  simp only [go_sem]
  exact .ret (err _ 4 (by omega) (by omega))

theorem k76 {w : World} {l : List Int} {x0 : Int} (hl : okB l) (h0 : l[0]? = some x0) (hx : 128 ≤ x0) (hT : Tab w) : Brings (Xcall Tryd.prog (Value.func (Fn.func 76) #[] #[]) #[.string (strOfNums l)] w) (DecS w l.length) := by
  refine e76 ?_
  have hlen : 0 < l.length := (List.getElem?_eq_some_iff.1 h0).1
  have hx5 := hl x0 (List.mem_of_getElem? h0)
  obtain ⟨n, rfl⟩ := Int.eq_ofNat_of_zero_le hx5.1
  have hcls := first_cls n (by omega) (by omega)
  rcases hcls with hc | ⟨hc, ha, hb⟩ | ⟨hc, ha⟩ | ⟨hc, ha, hb, hd⟩ | ⟨hc, ha⟩ | ⟨hc, ha⟩ | ⟨hc, ha, hb⟩ | ⟨hc, ha⟩
  · unfold s76
    have hix := fun w => qidx_str h0 hx5 w
    obtain ⟨i5, hi5, hs5⟩ := inf5
    have hf := hT.first n (by omega)
    rw [hc] at hf
    have hL : Qload Tryd.prog 5 (.pointer (some ⟨1, n, none⟩)) w = some (.int .u8 241) := Qload_cell one5 hf
    have hA : QindexAddr Tryd.prog 153 (.pointer (some ⟨1, 0, none⟩)) (.int .u8 ((n : Nat) : Int)) w = some (.pointer (some ⟨1, n, none⟩)) := by
      rw [QindexAddr_arr und153 hi5 hs5 (by omega)]; simp
    simp only [qlen_str, strOfNums_size, go_sem]
    rw [decide_eq_false (by omega)]
    simp only [Int.natCast_zero] at hix
    simp only [go_sem, hix, hA, hL, Int.reduceLE, decide_true]
    rw [conv521 (by decide)]
    simp only [go_sem, hix, Int.reduceLE]
    rw [conv521 hx5]
    simp only [go_sem]
    exact .ret ⟨Bel.refl _, _, 1, rfl, by decide, by omega⟩
  · exact k76a hl h0 (by omega) hT hc (by decide) (sz := 2) (by decide) (q := 0) (by decide) (by decide) (.inl rfl)
  · exact k76a hl h0 (by omega) hT hc (by decide) (sz := 3) (by decide) (q := 1) (by decide) (by decide) (.inr (.inl rfl))
  · exact k76a hl h0 (by omega) hT hc (by decide) (sz := 3) (by decide) (q := 0) (by decide) (by decide) (.inr (.inl rfl))
  · exact k76a hl h0 (by omega) hT hc (by decide) (sz := 3) (by decide) (q := 2) (by decide) (by decide) (.inr (.inl rfl))
  · exact k76a hl h0 (by omega) hT hc (by decide) (sz := 4) (by decide) (q := 3) (by decide) (by decide) (.inr (.inr rfl))
  · exact k76a hl h0 (by omega) hT hc (by decide) (sz := 4) (by decide) (q := 0) (by decide) (by decide) (.inr (.inr rfl))
  · exact k76a hl h0 (by omega) hT hc (by decide) (sz := 4) (by decide) (q := 4) (by decide) (by decide) (.inr (.inr rfl))

theorem k55 {w : World} {l : List Int} {x0 : Int} (hl : okB l) (h0 : l[0]? = some x0) (hx : 128 ≤ x0) (hT : Tab w) : Brings (Xcall Tryd.prog (Value.func (Fn.func 55) #[] #[]) #[.string (strOfNums l)] w) (DecS w l.length) := by
  refine e55 ?_
  unfold s55
  have hx5 := hl x0 (List.mem_of_getElem? h0)
  have hix := qidx_str h0 hx5 w
  have hne : (!((strOfNums l).toList == ({ data := #[] } : ByteArray).toList)) = true := by
    have e : ({ data := #[] } : ByteArray) = strOfNums [] := rfl
    rw [e, str_eq hl (by intro c hc; simp at hc)]
    have : l ≠ [] := by intro e; subst e; simp at h0
    simp [this]
  simp only [Int.natCast_zero] at hix
  simp only [go_sem, hne, hix]
  rw [decide_eq_false (by omega)]
  simp only [go_sem]
  refine (k76 hl h0 hx hT).bind ?_
  rintro ⟨_, w2⟩ ⟨hb, c, k, h1, h2, h3⟩
  simp only at h1
  subst h1
  simp only [go_sem]
  exact .ret ⟨hb, c, k, rfl, h2, h3⟩

theorem x43 {c : Int} (h0 : 0 ≤ c) (h1 : c ≤ 1114111) (w : World) : Xcall Tryd.prog (Value.func (Fn.func 43) #[] #[]) #[.int .i32 c] w = some (.int .i32 (Ftp.up c), w) := by
  obtain ⟨r, h, hr⟩ := e43 (x0 := .int .i32 c) (w := w) (Q := fun r => r = (.int .i32 (Ftp.up c), w)) (by
    unfold s43
    simp only [go_sem]
    by_cases a : 97 ≤ c
    · rw [decide_eq_true a]
      simp only [go_sem]
      by_cases b : c ≤ 122
      · rw [decide_eq_true b]
        simp only [go_sem]
        rw [show IntKind.i32.wrap (c - 97) = c - 97 from wrap_i32 (by omega) (by omega), wrap_i32 (by omega) (by omega)]
        refine .ret ?_
        unfold Ftp.up
        rw [if_pos ⟨a, b⟩, show c - 97 + 65 = c - 32 by omega]
      · rw [decide_eq_false b]
        simp only [go_sem]
        refine .ret ?_
        unfold Ftp.up
        rw [if_neg (fun h => b h.2)]
    · rw [decide_eq_false a]
      simp only [go_sem]
      refine .ret ?_
      unfold Ftp.up
      rw [if_neg (fun h => a h.1)])
  rw [h, hr]

theorem x56 {c : Int} (h0 : 0 ≤ c) (h1 : c < 128) (w : World) : Xcall Tryd.prog (Value.func (Fn.func 56) #[] #[]) #[.int .i32 c] w = some (.int .i64 1, w) := by
  obtain ⟨r, h, hr⟩ := e56 (x0 := .int .i32 c) (w := w) (Q := fun r => r = (.int .i64 1, w)) (by
    unfold s56
    simp only [go_sem]
    rw [decide_eq_false (by omega)]
    simp only [go_sem]
    rw [decide_eq_true (by omega)]
    simp only [go_sem]
    exact .ret rfl)
  rw [h, hr]

end Go.Proofs.YtphokckbcmiddaaDoor

/- strings.Map of the capitals. -/
namespace Go.Proofs.YtphokckbcmiddaaDoor
open Go Go.Ev Go.RowKit
open Go.Proofs

/-- A byte beyond the letters. -/
def hiB (l : List Int) : Prop := ∃ c ∈ l, 128 ≤ c
theorem hiB.left {a b : List Int} (h : hiB a) : hiB (a ++ b) := by obtain ⟨c, hc, h⟩ := h; exact ⟨c, List.mem_append.2 (.inl hc), h⟩
theorem hiB.right {a b : List Int} (h : hiB b) : hiB (a ++ b) := by obtain ⟨c, hc, h⟩ := h; exact ⟨c, List.mem_append.2 (.inr hc), h⟩

/-- A text with its letters large: or both have bytes beyond the letters. -/
def MapR (l m : List Int) : Prop := (hiB l ∧ hiB m) ∨ (¬ hiB l ∧ m = l.map Ftp.up)

theorem up_hi {c : Int} (h : 128 ≤ c) : Ftp.up c = c := by
  unfold Ftp.up
  rw [if_neg (by omega)]
theorem up_ok {c : Int} (h : 0 ≤ c ∧ c ≤ 255) : 0 ≤ Ftp.up c ∧ Ftp.up c ≤ 255 := by
  unfold Ftp.up
  split <;> omega
theorem up_lt {c : Int} (h0 : 0 ≤ c) (h : c < 128) : 0 ≤ Ftp.up c ∧ Ftp.up c < 128 := by
  unfold Ftp.up
  split <;> omega

/-- What has been written of a text of which n bytes have been read. -/
def WrR (l : List Int) (n : Nat) (acc : List Int) : Prop := okB acc ∧ acc ≠ [] ∧ acc.length ≤ 4 * n ∧ ((hiB l ∧ hiB acc) ∨ (¬ hiB (l.take n) ∧ acc = (l.take n).map Ftp.up))

theorem RuneB.low {r : Int} {m : List Int} (h : RuneB r m) (hr : r < 128) : m = [r] := h.2.2.1 hr

/-- One rune more. -/
theorem WrR.step {l acc m : List Int} {n k : Nat} {x c : Int} (hl : okB l) (h : WrR l n acc) (hx : l[n]? = some x) (hk : 1 ≤ k) (hlow : x < 128 → c = x ∧ k = 1) (hhi : 128 ≤ x → 128 ≤ c) (hm : RuneB (Ftp.up c) m) : WrR l (n + k) (acc ++ m) := by
  obtain ⟨h1, h2, h3, h4⟩ := h
  have hx5 := hl x (List.mem_of_getElem? hx)
  refine ⟨h1.app hm.1, by simp [h2], by have := hm.2.1; rw [List.length_append]; omega, ?_⟩
  by_cases c128 : x < 128
  · obtain ⟨rfl, rfl⟩ := hlow c128
    have hu := up_lt hx5.1 c128
    have hmm := hm.low hu.2
    subst hmm
    rcases h4 with ⟨a, b⟩ | ⟨a, b⟩
    · exact .inl ⟨a, b.left⟩
    · refine .inr ⟨?_, ?_⟩
      · rw [List.take_add_one, hx]
        rintro ⟨d, hd, h128⟩
        rcases List.mem_append.1 hd with hd | hd
        · exact a ⟨d, hd, h128⟩
        · simp at hd; omega
      · rw [List.take_add_one, hx, b]; simp
  · have hc := hhi (by omega)
    rw [up_hi hc] at hm
    obtain ⟨d, hd, h128⟩ := hm.2.2.2 hc
    exact .inl ⟨⟨x, List.mem_of_getElem? hx, by omega⟩, hiB.right ⟨d, hd, h128⟩⟩

theorem conv215' {n : Int} (h : 0 ≤ n ∧ n < 128) : Qconv Tryd.prog 21 5 (.int .i32 n) = some (.int .u8 n) := by
  rw [conv215]
  congr 2
  simp only [IntKind.wrap, IntKind.bits, IntKind.signed]
  simp
  omega

theorem setB_Chg {b0 : Nat} {w : World} {k : Nat} {o : Obj} (h : b0 ≤ k) : Chg (fun j => b0 ≤ j) w (setB w k o) := (setB_chg w k o).mono fun j _ e => by rw [e]; exact h

theorem Ob.notIter {b0 : Nat} {w : World} {v : Value} {l : List Int} {i : Nat} {t : ByteArray} {p : Nat} (h : Ob b0 w v l) (hi : w.heap[i]? = some (.stringIter t p)) : v.ownBlock ≠ some i := by
  intro hk
  rcases h.2 with ⟨e2, _⟩ | ⟨q, cap, cur, e2, _, hq, _⟩
  · rw [e2] at hk; cases hk
  · rw [e2] at hk
    obtain rfl := Option.some.inj hk
    rw [show (⟨q, 0, none⟩ : Addr).block = q from rfl] at hi
    rw [hi] at hq; cases hq
theorem Bd.notIter {b0 : Nat} {w : World} {g : Nat} {l : List Int} {i : Nat} {t : ByteArray} {p : Nat} (h : Bd b0 w g l) (hi : w.heap[i]? = some (.stringIter t p)) : i ≠ g := by
  intro e
  subst e
  have := h.at_
  rw [hi] at this; cases this
theorem BdR.iter {b0 : Nat} {w w' : World} {g : Nat} {l0 l : List Int} {h : Bd b0 w g l0} (hr : BdR h l w') {i : Nat} {t : ByteArray} {p : Nat} (hi : w.heap[i]? = some (.stringIter t p)) : w'.heap[i]? = some (.stringIter t p) := by
  refine hr.2.at_ hi ?_
  rintro (e | e)
  · exact h.notIter hi e
  · exact h.own.notIter hi e

/-- The second loop: what is left of the text is written. -/
theorem map_rest {b0 : Nat} {w w0 : World} {l : List Int} (hl : okB l) (hll : l.length ≤ 10000000) {n0 g : Nat} (hn0 : n0 ≤ l.length) {acc : List Int} (hb : Bd b0 w g acc) (hw : WrR l n0 acc) (hc0 : Chg (fun k => b0 ≤ k) w0 w) (hb0 : b0 ≤ w0.heap.size) :
    Brings (loopR s42B2 s42R2 [.func (.func 43) #[] #[], .pointer (some ⟨g, 0, none⟩), .pointer (some ⟨w.heap.size, 0, none⟩)] (w.alloc (.stringIter (strOfNums (l.drop n0)) 0))) (fun r => (∃ m, r.1 = .string (strOfNums m) ∧ okB m ∧ MapR l m) ∧ Chg (fun k => b0 ≤ k) w0 r.2) := by
  have hgw := hb.lt
  have ha : Bel w (w.alloc (.stringIter (strOfNums (l.drop n0)) 0)) := (Bel.refl w).alloc _
  have hsz : b0 ≤ w.heap.size := Nat.le_trans hb0 hc0.size
  refine Brings.loop (fun n xs w' => ∃ (p : Nat) (acc : List Int), xs = [.func (.func 43) #[] #[], .pointer (some ⟨g, 0, none⟩), .pointer (some ⟨w.heap.size, 0, none⟩)] ∧ n0 + p ≤ l.length ∧ n = l.length - (n0 + p) ∧ Nonempty (Bd b0 w' g acc) ∧ WrR l (n0 + p) acc ∧ w'.heap[w.heap.size]? = some (.stringIter (strOfNums (l.drop n0)) p) ∧ Chg (fun k => b0 ≤ k) w0 w') ?_ (l.length - n0) _ _
    ⟨0, acc, rfl, by omega, rfl, ⟨⟨hb.a, hb.buf, ha.at_ hb.at_, hb.self, hb.own.chg (Chg.of_bel ha fun _ => False) (fun _ _ f => f), hb.apart, hb.low⟩⟩, hw, (MapKept.heap_alloc w _).1, hc0.thenBel ha⟩
  rintro n xs w' ⟨p, acc, rfl, hp, rfl, ⟨hb⟩, hw, hat, hc⟩
  have hsize : (strOfNums (l.drop n0)).size = l.length - n0 := by rw [strOfNums_size, List.length_drop]
  simp only [s42B2]
  by_cases hend : n0 + p < l.length
  rotate_left
  · rw [Xnext_end hat (by omega)]
    simp only [go_sem]
    refine .ret (.inr ⟨by simp, ?_⟩)
    simp only [s42R2]
    refine (k62 hb hw.1 hw.2.1).bind ?_
    rintro ⟨_, w2⟩ ⟨h1, h2⟩
    simp only at h1 h2
    subst h1
    refine .ret ⟨⟨acc, rfl, hw.1, ?_⟩, hc.trans h2 fun k _ e => (hb.own.base e).1⟩
    have e : n0 + p = l.length := by omega
    have h4 := hw.2.2.2
    rw [e, List.take_length] at h4
    exact h4
  have hx : l[n0 + p]? = some l[n0 + p] := List.getElem?_eq_getElem hend
  generalize l[n0 + p] = x at hx
  have hxd : (l.drop n0)[p]? = some x := by rw [List.getElem?_drop]; exact hx
  have hx5 := hl x (List.mem_of_getElem? hx)
  rw [Xnext_str hat (by omega)]
  obtain ⟨cN, kN, hd⟩ : ∃ cN kN, Utf8.decode (strOfNums (l.drop n0)) p = (cN, kN) := ⟨_, _, rfl⟩
  have hdd : (x < 128 → ((cN : Nat) : Int) = x ∧ kN = 1) ∧ (128 ≤ x → 128 ≤ (cN : Int)) ∧ (cN : Int) ≤ 1114111 ∧ 1 ≤ kN ∧ p + kN ≤ l.length - n0 := by
    by_cases c : x < 128
    · have := decode_low hxd hx5.1 c
      rw [hd] at this
      simp only at this
      exact ⟨fun _ => this, fun h => by omega, by omega, by omega, by omega⟩
    · have := decode_up hxd (by omega) hx5.2
      rw [hd, List.length_drop] at this
      simp only at this
      exact ⟨fun h => absurd h c, fun _ => by omega, by omega, this.2.2.1, this.2.2.2⟩
  rw [hd]
  obtain ⟨d1, d2, d3, d4, d5⟩ := hdd
  have hbase : b0 ≤ w'.heap.size := Nat.le_trans hb0 hc.size
  have hit : (w.heap.size : Nat) ≠ g := by omega
  -- the world behind the step
  generalize hws : setB w' w.heap.size (.stringIter (strOfNums (l.drop n0)) (p + kN)) = ws
  have hcs : Chg (fun k => k = w.heap.size) w' ws := by rw [← hws]; exact setB_chg _ _ _
  have hats : ws.heap[w.heap.size]? = some (.stringIter (strOfNums (l.drop n0)) (p + kN)) := by rw [← hws]; exact setB_same hat
  have hbs : Bd b0 ws g acc := ⟨hb.a, hb.buf, hcs.at_ hb.at_ (fun e => hit e.symm), hb.self, hb.own.chg hcs (fun k hk e => hb.own.notIter hat (by rw [hk, e])), hb.apart, hb.low⟩
  have hcw : Chg (fun k => b0 ≤ k) w0 ws := hc.trans (hcs.mono fun k _ e => by rw [e]; exact hsz) fun _ _ e => e
  simp only [go_sem, x43 (show (0 : Int) ≤ ((cN : Nat) : Int) by omega) d3]
  have hup : 0 ≤ Ftp.up (cN : Int) ∧ Ftp.up (cN : Int) ≤ 1114111 := by unfold Ftp.up; split <;> omega
  rw [decide_eq_true hup.1]
  have hlen := hw.2.2.1
  have next : ∀ (m : List Int) (w2 : World), RuneB (Ftp.up (cN : Int)) m → BdR hbs (acc ++ m) w2 →
      Brings (some (Exit.normal, [Value.func (.func 43) #[] #[], .pointer (some ⟨g, 0, none⟩), .pointer (some ⟨w.heap.size, 0, none⟩)], w2)) fun r => (r.1 = .normal ∧ ∃ m, m < l.length - (n0 + p) ∧ ∃ (p' : Nat) (acc' : List Int), r.2.1 = [.func (.func 43) #[] #[], .pointer (some ⟨g, 0, none⟩), .pointer (some ⟨w.heap.size, 0, none⟩)] ∧ n0 + p' ≤ l.length ∧ m = l.length - (n0 + p') ∧ Nonempty (Bd b0 r.2.2 g acc') ∧ WrR l (n0 + p') acc' ∧ r.2.2.heap[w.heap.size]? = some (.stringIter (strOfNums (l.drop n0)) p') ∧ Chg (fun k => b0 ≤ k) w0 r.2.2) ∨
        (r.1 ≠ .normal ∧ Brings (s42R2 r.1 r.2.1 r.2.2) (fun r => (∃ m, r.1 = .string (strOfNums m) ∧ okB m ∧ MapR l m) ∧ Chg (fun k => b0 ≤ k) w0 r.2)) := by
    intro m w2 hm hr
    refine .ret (.inl ⟨rfl, l.length - (n0 + (p + kN)), by omega, p + kN, acc ++ m, rfl, by omega, rfl, hr.1, ?_, hr.iter hats, hcw.trans hr.base fun _ _ e => e⟩)
    rw [← Nat.add_assoc]
    exact hw.step hl hx d4 (fun h => d1 h) d2 hm
  simp only [go_sem]
  by_cases c : Ftp.up (cN : Int) < 128
  · rw [decide_eq_true c]
    simp only [go_sem, conv215' ⟨hup.1, c⟩]
    refine (k61 hbs (Ftp.up (cN : Int)) (by omega)).bind ?_
    rintro ⟨_, w2⟩ hr
    exact next _ _ ⟨fun d hd => by simp at hd; omega, by simp, fun _ => rfl, fun h => by omega⟩ hr
  · rw [decide_eq_false c]
    simp only [go_sem]
    refine (k59 hbs hup.1 (by omega) (by omega)).bind ?_
    rintro ⟨_, w2⟩ ⟨m, hm, hr⟩
    exact next _ _ hm hr

end Go.Proofs.YtphokckbcmiddaaDoor

/- strings.Map of the capitals: whole. -/
namespace Go.Proofs.YtphokckbcmiddaaDoor
open Go Go.Ev Go.RowKit
open Go.Proofs

def MapQ (b0 : Nat) (w0 : World) (l : List Int) (r : Value × World) : Prop := (∃ m, r.1 = .string (strOfNums m) ∧ okB m ∧ MapR l m) ∧ Chg (fun k => b0 ≤ k) w0 r.2

/-- From the first letter on that turns. -/
theorem map_turn {w w0 : World} {l : List Int} (hl : okB l) (hll : l.length ≤ 10000000) {pos g it : Nat} {r width : Int} {x : Int} (hx : l[pos]? = some x) (hg : w.heap[g]? = some (.cells #[.pointer none, .slice none 0 0] 114 (0, 0))) (hb0 : w0.heap.size ≤ g)
    (hc0 : Chg (fun k => w0.heap.size ≤ k) w0 w) (hr0 : 0 ≤ r ∧ r ≤ 1114111) (hw1 : 1 ≤ width) (hw2 : (pos : Int) + width ≤ l.length) (hpre : hiB (l.take pos) ∨ ∀ c ∈ l.take pos, Ftp.up c = c) (hxr : (x < 128 ∧ r = Ftp.up x ∧ width = 1) ∨ (128 ≤ x ∧ 128 ≤ r)) :
    Brings (s42M1 (.func (.func 43) #[] #[]) (.string (strOfNums l)) (.pointer (some ⟨g, 0, none⟩)) (.int .i64 (pos : Int)) (.int .i32 r) (.int .i64 width) (.pointer (some ⟨it, 0, none⟩)) w)
      (fun x => x.1 = .exit 0 ∧ Brings (s42R0 x.1 x.2.1 x.2.2) (MapQ w0.heap.size w0 l)) := by
  have hxl := (List.getElem?_eq_some_iff.1 hx).1
  have hx5 := hl x (List.mem_of_getElem? hx)
  unfold s42M1
  simp only [qlen_str, strOfNums_size, go_sem]
  rw [wr (by omega) (by omega), show (l.length : Int) + 4 = ((l.length + 4 : Nat) : Int) by omega]
  have hb : Bd w0.heap.size w g [] := ⟨none, .slice none 0 0, hg, .inl rfl, Ob.nil _ _, (by simp [Value.ownBlock]), hb0⟩
  refine (k57 (b0 := w0.heap.size) (g := g) (w := w) ⟨none, .slice none 0 0, hg, .inl rfl, Ob.nil _ _, (by simp [Value.ownBlock]), hb0⟩ rfl (n := l.length + 4) (by omega) (by omega)).bind ?_
  rintro ⟨_, w3⟩ hr3
  have hc3 := hc0.trans hr3.base fun _ _ e => e
  obtain ⟨⟨hb3⟩, _⟩ := hr3
  simp only [str_hi (show pos ≤ l.length by omega), go_sem]
  refine (k58 hb3 (hl.take pos) (by simp; omega)).bind ?_
  rintro ⟨_, w4⟩ hr4
  have hc4 := hc3.trans hr4.base fun _ _ e => e
  obtain ⟨⟨hb4⟩, _⟩ := hr4
  rw [decide_eq_true hr0.1]
  simp only [go_sem]
  rw [List.nil_append] at hb4
  refine (k59 hb4 hr0.1 (by omega) (by rw [List.length_take]; omega)).bind ?_
  rintro ⟨_, w5⟩ ⟨m, hm, hr5⟩
  have hc5 := hc4.trans hr5.base fun _ _ e => e
  obtain ⟨⟨hb5⟩, _⟩ := hr5
  simp only at hb5 hc5
  rw [wr (by omega) (by omega), show (pos : Int) + width = ((pos + width.toNat : Nat) : Int) by omega]
  simp only [str_lo (show pos + width.toNat ≤ l.length by omega), go_sem]
  refine .ret ⟨rfl, ?_⟩
  simp only [s42R0]
  have hmpos : m ≠ [] := by
    rcases Int.lt_or_le r 128 with h | h
    · rw [hm.low h]; simp
    · obtain ⟨c, hc, _⟩ := hm.2.2.2 h
      intro e; subst e; simp at hc
  have hacc : l.take pos ++ m ≠ [] := by simp [hmpos]
  refine (k60 hb5).bind ?_
  rintro ⟨_, w6⟩ ⟨e6, c, e7, h8, _⟩
  simp only at e6 e7
  subst e6 e7
  have hcpos : 0 < c := by
    have := List.length_pos_iff.2 hacc
    omega
  simp only [go_sem]
  rw [show ((c : Int) == 0) = false by simp; omega]
  simp only [go_sem, Xrange_str]
  have hwr : WrR l (pos + width.toNat) (l.take pos ++ m) := by
    refine ⟨(hl.take pos).app hm.1, hacc, ?_, ?_⟩
    · have := hm.2.1
      rw [List.length_append, List.length_take]; omega
    · rcases hxr with ⟨hx1, hr, hw⟩ | ⟨hx1, hr⟩
      · subst hw
        by_cases hh : hiB (l.take pos)
        · left
          obtain ⟨d, hd, h128⟩ := hh
          exact ⟨⟨d, List.mem_of_mem_take hd, h128⟩, hiB.left ⟨d, hd, h128⟩⟩
        · right
          have hu := up_lt hx5.1 hx1
          have hm' := hm.low (by omega)
          subst hm'
          have hpre := hpre.resolve_left hh
          rw [show pos + (1 : Int).toNat = pos + 1 from rfl, List.take_add_one, hx]
          refine ⟨?_, ?_⟩
          · rintro ⟨d, hd, h128⟩
            rcases List.mem_append.1 hd with hd | hd
            · exact hh ⟨d, hd, h128⟩
            · simp at hd; omega
          · rw [List.map_append, List.map_congr_left (g := id) hpre, List.map_id, hr]
            rfl
      · obtain ⟨d, hd, h128⟩ := hm.2.2.2 hr
        exact .inl ⟨⟨x, List.mem_of_getElem? hx, hx1⟩, hiB.right ⟨d, hd, h128⟩⟩
  exact map_rest hl hll (by omega) hb5 hwr hc5 (Nat.le_refl _)

theorem zero114 (w : World) : (zeroValue 114).run Tryd.prog w = .ok (.agg #[.pointer none, .slice none 0 0]) w := by kernel_rfl

theorem k42 {w : World} {l : List Int} (hl : okB l) (hll : l.length ≤ 10000000) (hT : Tab w) : Brings (Xcall Tryd.prog (Value.func (Fn.func 42) #[] #[]) #[.func (.func 43) #[] #[], .string (strOfNums l)] w)
    (fun r => Bel w r.2 ∧ ∃ m, r.1 = .string (strOfNums m) ∧ okB m ∧ MapR l m) := by
  refine e42 ?_
  unfold s42
  rw [Xalloc_eq (zero114 w)]
  simp only [go_sem, Xrange_str, Value.cells]
  have h1 : (w.alloc (.cells #[.pointer none, .slice none 0 0] 114)).heap[w.heap.size]? = some (.cells #[.pointer none, .slice none 0 0] 114 (0, 0)) := (MapKept.heap_alloc w _).1
  have s1 : (w.alloc (.cells #[.pointer none, .slice none 0 0] 114)).heap.size = w.heap.size + 1 := by simp
  have b1 : Bel w (w.alloc (.cells #[.pointer none, .slice none 0 0] 114)) := (Bel.refl w).alloc _
  generalize w.alloc (.cells #[.pointer none, .slice none 0 0] 114) = w1 at h1 s1 b1
  rw [s1]
  have h2 : (w1.alloc (.stringIter (strOfNums l) 0)).heap[w.heap.size + 1]? = some (.stringIter (strOfNums l) 0) := by
    have := (MapKept.heap_alloc w1 (.stringIter (strOfNums l) 0)).1
    rwa [s1] at this
  have b2 : Bel w1 (w1.alloc (.stringIter (strOfNums l) 0)) := (Bel.refl w1).alloc _
  have h3 := b2.at_ h1
  have c0 : Chg (fun k => w.heap.size ≤ k) w (w1.alloc (.stringIter (strOfNums l) 0)) := Chg.of_bel (b1.trans b2) _
  generalize w1.alloc (.stringIter (strOfNums l) 0) = w2 at h2 h3 c0
  have fin : Brings (loopR s42B0 s42R0 [.func (.func 43) #[] #[], .string (strOfNums l), .pointer (some ⟨w.heap.size, 0, none⟩), .pointer (some ⟨w.heap.size + 1, 0, none⟩)] w2) (MapQ w.heap.size w l) := by
    refine Brings.loop (fun n xs w' => ∃ pos : Nat, xs = [.func (.func 43) #[] #[], .string (strOfNums l), .pointer (some ⟨w.heap.size, 0, none⟩), .pointer (some ⟨w.heap.size + 1, 0, none⟩)] ∧ pos ≤ l.length ∧ n = l.length - pos ∧ w'.heap[w.heap.size]? = some (.cells #[.pointer none, .slice none 0 0] 114 (0, 0)) ∧
      w'.heap[w.heap.size + 1]? = some (.stringIter (strOfNums l) pos) ∧ Chg (fun k => w.heap.size ≤ k) w w' ∧ (hiB (l.take pos) ∨ ∀ c ∈ l.take pos, Ftp.up c = c)) ?_ l.length _ _ ⟨0, rfl, Nat.zero_le _, rfl, h3, h2, c0, .inr fun c hc => by simp at hc⟩
    rintro n xs w' ⟨pos, rfl, hp, rfl, hg, hat, hc, hpre⟩
    simp only [s42B0]
    by_cases hend : pos < l.length
    rotate_left
    · rw [Xnext_end hat (by rw [strOfNums_size]; exact hend)]
      simp only [go_sem]
      refine .ret (.inr ⟨by simp, ?_⟩)
      simp only [s42R0]
      refine (k60 (b0 := w.heap.size) (g := w.heap.size) (w := w') (l := []) ⟨none, .slice none 0 0, hg, .inl rfl, Ob.nil _ _, (by simp [Value.ownBlock]), Nat.le_refl _⟩).bind ?_
      rintro ⟨_, w6⟩ ⟨e6, c, e7, _, hc0⟩
      simp only at e6 e7
      have hcz := hc0 rfl
      subst e6 e7
      subst hcz
      simp only [go_sem, show (((0 : Nat) : Int) == 0) = true from rfl]
      refine .ret ⟨⟨l, rfl, hl, ?_⟩, hc⟩
      rw [List.take_of_length_le (by omega)] at hpre
      by_cases hh : hiB l
      · exact .inl ⟨hh, hh⟩
      · refine .inr ⟨hh, ?_⟩
        rw [List.map_congr_left (g := id) (hpre.resolve_left hh), List.map_id]
    have hx : l[pos]? = some l[pos] := List.getElem?_eq_getElem hend
    generalize l[pos] = x at hx
    have hx5 := hl x (List.mem_of_getElem? hx)
    rw [Xnext_str hat (by rw [strOfNums_size]; exact hend)]
    obtain ⟨cN, kN, hd⟩ : ∃ cN kN, Utf8.decode (strOfNums l) pos = (cN, kN) := ⟨_, _, rfl⟩
    have hdd : (x < 128 → ((cN : Nat) : Int) = x ∧ kN = 1) ∧ (128 ≤ x → 128 ≤ (cN : Int)) ∧ (cN : Int) ≤ 1114111 ∧ 1 ≤ kN ∧ pos + kN ≤ l.length := by
      by_cases c : x < 128
      · have := decode_low hx hx5.1 c
        rw [hd] at this
        simp only at this
        exact ⟨fun _ => this, fun h => by omega, by omega, by omega, by omega⟩
      · have := decode_up hx (by omega) hx5.2
        rw [hd] at this
        simp only at this
        exact ⟨fun h => absurd h c, fun _ => by omega, by omega, this.2.2.1, this.2.2.2⟩
    rw [hd]
    obtain ⟨d1, d2, d3, d4, d5⟩ := hdd
    have hcs : Chg (fun k => k = w.heap.size + 1) w' (setB w' (w.heap.size + 1) (.stringIter (strOfNums l) (pos + kN))) := setB_chg _ _ _
    have hats : (setB w' (w.heap.size + 1) (.stringIter (strOfNums l) (pos + kN))).heap[w.heap.size + 1]? = some (.stringIter (strOfNums l) (pos + kN)) := setB_same hat
    generalize setB w' (w.heap.size + 1) (.stringIter (strOfNums l) (pos + kN)) = ws at hcs hats
    have hgs := hcs.at_ hg (by omega)
    have hcw : Chg (fun k => w.heap.size ≤ k) w ws := hc.trans (hcs.mono fun k _ e => by omega) fun _ _ e => e
    have cont : ∀ w3, ws.heap.size ≤ w3.heap.size → Bel ws w3 → (hiB (l.take (pos + kN)) ∨ ∀ c ∈ l.take (pos + kN), Ftp.up c = c) → Brings (some (Exit.normal, [Value.func (.func 43) #[] #[], .string (strOfNums l), .pointer (some ⟨w.heap.size, 0, none⟩), .pointer (some ⟨w.heap.size + 1, 0, none⟩)], w3)) fun r => (r.1 = .normal ∧ ∃ m, m < l.length - pos ∧ ∃ pos' : Nat, r.2.1 = [.func (.func 43) #[] #[], .string (strOfNums l), .pointer (some ⟨w.heap.size, 0, none⟩), .pointer (some ⟨w.heap.size + 1, 0, none⟩)] ∧ pos' ≤ l.length ∧ m = l.length - pos' ∧ r.2.2.heap[w.heap.size]? = some (.cells #[.pointer none, .slice none 0 0] 114 (0, 0)) ∧
      r.2.2.heap[w.heap.size + 1]? = some (.stringIter (strOfNums l) pos') ∧ Chg (fun k => w.heap.size ≤ k) w r.2.2 ∧ (hiB (l.take pos') ∨ ∀ c ∈ l.take pos', Ftp.up c = c)) ∨ (r.1 ≠ .normal ∧ Brings (s42R0 r.1 r.2.1 r.2.2) (MapQ w.heap.size w l)) := by
      intro w3 _ hb3 hp3
      exact .ret (.inl ⟨rfl, l.length - (pos + kN), by omega, pos + kN, rfl, d5, rfl, hb3.at_ hgs, hb3.at_ hats, hcw.thenBel hb3, hp3⟩)
    have hi_pre : 128 ≤ x → hiB (l.take (pos + kN)) := fun h => by
      refine ⟨x, ?_, h⟩
      have : (l.take (pos + kN))[pos]? = some x := by rw [List.getElem?_take, if_pos (by omega)]; exact hx
      exact List.mem_of_getElem? this
    simp only [go_sem, x43 (show (0 : Int) ≤ ((cN : Nat) : Int) by omega) d3]
    have hup : 0 ≤ Ftp.up (cN : Int) ∧ Ftp.up (cN : Int) ≤ 1114111 := by unfold Ftp.up; split <;> omega
    have turn : ∀ (w3 : World) (width : Int), Bel ws w3 → 1 ≤ width → (pos : Int) + width ≤ l.length → ((x < 128 ∧ Ftp.up (cN : Int) = Ftp.up x ∧ width = 1) ∨ (128 ≤ x ∧ 128 ≤ Ftp.up (cN : Int))) →
        Brings (s42M1 (.func (.func 43) #[] #[]) (.string (strOfNums l)) (.pointer (some ⟨w.heap.size, 0, none⟩)) (.int .i64 (pos : Int)) (.int .i32 (Ftp.up (cN : Int))) (.int .i64 width) (.pointer (some ⟨w.heap.size + 1, 0, none⟩)) w3) fun r => (r.1 = .normal ∧ ∃ m, m < l.length - pos ∧ ∃ pos' : Nat, r.2.1 = [.func (.func 43) #[] #[], .string (strOfNums l), .pointer (some ⟨w.heap.size, 0, none⟩), .pointer (some ⟨w.heap.size + 1, 0, none⟩)] ∧ pos' ≤ l.length ∧ m = l.length - pos' ∧ r.2.2.heap[w.heap.size]? = some (.cells #[.pointer none, .slice none 0 0] 114 (0, 0)) ∧
      r.2.2.heap[w.heap.size + 1]? = some (.stringIter (strOfNums l) pos') ∧ Chg (fun k => w.heap.size ≤ k) w r.2.2 ∧ (hiB (l.take pos') ∨ ∀ c ∈ l.take pos', Ftp.up c = c)) ∨ (r.1 ≠ .normal ∧ Brings (s42R0 r.1 r.2.1 r.2.2) (MapQ w.heap.size w l)) := by
      intro w3 width hb3 h1 h2 h3
      refine (map_turn hl hll hx (hb3.at_ hgs) (Nat.le_refl _) (hcw.thenBel hb3) hup h1 h2 hpre h3).mono ?_
      rintro r ⟨e, h⟩
      exact .inr ⟨by rw [e]; simp, h⟩
    by_cases ceq : Ftp.up (cN : Int) = (cN : Int)
    · rw [show (Ftp.up (cN : Int) == (cN : Int)) = true by simpa using ceq]
      simp only [go_sem]
      by_cases cfd : (cN : Int) = 65533
      · rw [show ((cN : Int) != 65533) = false by simpa using cfd]
        simp only [go_sem]
        rw [show ((cN : Int) == 65533) = true by simpa using cfd]
        simp only [go_sem, str_lo (show pos ≤ l.length by omega)]
        have hx128 : 128 ≤ x := by
          rcases Int.lt_or_le x 128 with h | h
          · have := (d1 h).1; omega
          · exact h
        have hTs : Tab ws := hT.chg hcw fun k hk e => by have := hT.size; omega
        refine (k55 (hl.drop pos) (x0 := x) (by rw [List.getElem?_drop]; exact hx) hx128 hTs).bind ?_
        rintro ⟨_, w3⟩ ⟨hb3, c', k', e3, hk1, hk2⟩
        simp only at e3 hb3
        subst e3
        rw [List.length_drop] at hk2
        simp only [go_sem]
        have htr := turn w3 k' hb3 hk1 (by omega) (.inr ⟨hx128, by omega⟩)
        by_cases c1 : k' = 1
        · rw [show (k' != 1) = false by simpa using c1]
          simp only [go_sem]
          exact htr
        · rw [show (k' != 1) = true by simpa using c1]
          simp only [go_sem]
          cases hq : (Ftp.up (cN : Int) == c') with
          | true =>
            simp only [go_sem]
            exact cont w3 hb3.size hb3 (.inl (hi_pre hx128))
          | false =>
            simp only [go_sem]
            exact htr
      · rw [show ((cN : Int) != 65533) = true by simpa using cfd]
        simp only [go_sem]
        refine cont ws (Nat.le_refl _) (Bel.refl _) ?_
        rcases Int.lt_or_le x 128 with h | h
        · obtain ⟨e1, e2⟩ := d1 h
          rcases hpre with hp | hp
          · left
            obtain ⟨d, hd, h128⟩ := hp
            exact ⟨d, (List.take_subset_take_left l (by omega)) hd, h128⟩
          · right
            rw [e2, List.take_add_one, hx]
            intro c hcm
            rcases List.mem_append.1 hcm with hcm | hcm
            · exact hp c hcm
            · simp at hcm
              rw [hcm, ← e1]; exact ceq
        · exact .inl (hi_pre h)
    · have hx128 : x < 128 := by
        rcases Int.lt_or_le x 128 with h | h
        · exact h
        · exact absurd (up_hi (d2 h)) ceq
      obtain ⟨e1, e2⟩ := d1 hx128
      rw [show (Ftp.up (cN : Int) == (cN : Int)) = false by simpa using ceq]
      simp only [go_sem]
      rw [show ((cN : Int) == 65533) = false by simp; omega]
      simp only [go_sem, x56 (show (0 : Int) ≤ (cN : Int) by omega) (show (cN : Int) < 128 by omega)]
      exact turn ws 1 (Bel.refl _) (by decide) (by omega) (.inl ⟨hx128, by rw [e1], rfl⟩)
  obtain ⟨r, hr, ⟨hm, hch⟩⟩ := fin
  exact ⟨r, hr, hch.bel fun k hk e => by omega, hm⟩

end Go.Proofs.YtphokckbcmiddaaDoor
