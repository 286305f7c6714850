/- What a value that came in is made of; bits. -/
import Derived.OpenShut
import Derived.ChangeOld
import Derived.Deep.Grids
import Derived.Test.YtcibkmahibnjeaaFb
namespace Go.Ev
open Go Go.RowKit

/-- A list of cells is a value of the type, all that it leads to among it. -/
def Okc (P : Program) (w : World) : Nat → TypeId → List Value → Prop
  | 0, _, _ => False
  | n + 1, t, cs =>
    match P.underlying t with
    | some .bool => ∃ b, cs = [.bool b]
    | some (.int k) => ∃ m, cs = [.int k m] ∧ (Lit.int k m).wf = true
    | some .string => ∃ s, cs = [.string s] ∧ s.size ≤ maxLen
    | some (.struct fs) => cs.length = P.cellsOf t ∧ ∀ f ∈ fs.toList, Okc P w n f.type ((cs.drop f.offset).take (P.cellsOf f.type))
    | some (.array m e) => cs.length = P.cellsOf t ∧ ∀ i, i < m → Okc P w n e ((cs.drop (i * P.cellsOf e)).take (P.cellsOf e))
    | some (.slice e) => cs = [.slice none 0 0] ∨ ∃ a len cap, cs = [.slice (some a) len cap] ∧ len ≤ cap ∧ cap ≤ maxLen ∧
        ∀ i, i < len → ∃ es, w.cells? 0 (a.add (i * P.cellsOf e)) (P.cellsOf e) = some es ∧ Okc P w n e es
    | _ => True

section
variable {H : Type} {enc : TypeId × Value → H} {P : Program} {w : World} {spare : Nat → Bool} {held : Bool}

theorem okc_of : ∀ (n : Nat) (t : TypeId) (cs : List Value) (x : DataW H × List MemPlace), DataW.trod enc P w 0 spare held n t cs = some x → Okc P w n t cs
  | 0, _, _, _, h => by simp [DataW.trod] at h
  | n + 1, t, cs, x, h => by
    unfold Okc
    cases hu : P.underlying t with
    | none => trivial
    | some d =>
      cases d with
      | bool =>
        obtain ⟨b, h1, _⟩ := DataW.trod_bool hu h
        exact ⟨b, h1⟩
      | int k =>
        unfold DataW.trod at h
        rw [hu] at h
        split at h <;> simp_all
      | string =>
        unfold DataW.trod at h
        rw [hu] at h
        split at h <;> simp_all
      | struct fs =>
        obtain ⟨xs, m', hm, _, hl, hx, hi⟩ := DataW.trod_struct hu h
        injection hm with hm
        subst hm
        refine ⟨hl, fun f hf => ?_⟩
        obtain ⟨i, hi', rfl⟩ := List.mem_iff_getElem.1 hf
        have h2 : i < fs.size := by simpa using hi'
        have := hi i fs[i] (by simp [h2])
        rw [List.getElem?_eq_getElem (by omega)] at this
        simpa using okc_of n _ _ _ this
      | array m e =>
        obtain ⟨xs, m', hm, _, hl, hx, hi⟩ := DataW.trod_array hu h
        injection hm with hm
        subst hm
        refine ⟨hl, fun i hi' => ?_⟩
        have := hi i hi'
        rw [List.getElem?_eq_getElem (by omega)] at this
        exact okc_of n _ _ _ this
      | slice e =>
        rcases DataW.trod_slice hu h with h0 | ⟨a, len, cap, elems, rest, m, hm, rfl, _, _, hl, hc, hlen, hel, _⟩
        · exact .inl h0.1
        · right
          injection hm with hm
          subst hm
          refine ⟨a, len, cap, rfl, hl, hc, fun i hi => ?_⟩
          have := hel i hi
          rw [List.getElem?_eq_getElem (by omega)] at this
          obtain ⟨es, h1, h2⟩ := bind_inv this
          exact ⟨es, h1, okc_of n _ _ _ h2⟩
      | _ => trivial
end

/-! ## Slices that were handed in -/

section rows
variable {P : Program} {w : World}

theorem cells1 {a : Addr} {es : List Value} (h : w.cells? 0 a 1 = some es) : ∃ v, es = [v] ∧ w.cell? a = some v := by
  unfold World.cells? at h
  rw [if_pos (Nat.zero_le _)] at h
  simp only [List.range_one, List.mapM_cons, List.mapM_nil] at h
  obtain ⟨v, hv, h⟩ := bind_inv h
  simp only [pure, bind, Option.bind] at h
  injection h with h
  exact ⟨v, h.symm, by simpa [Addr.add] using hv⟩

/-- A slice of variables of one cell. -/
theorem okc_row {n : Nat} {t e : TypeId} {v : Value} (ht : P.underlying t = some (.slice e)) (hc : P.cellsOf e = 1) (hv : v.cells.toList = [v]) (h : Okc P w n t v.cells.toList) :
    v = .slice none 0 0 ∨ ∃ a len cap m, v = .slice (some a) len cap ∧ len ≤ cap ∧ cap ≤ maxLen ∧ ∀ i, i < len → ∃ x, w.cell? (a.add i) = some x ∧ Okc P w m e [x] := by
  cases n with
  | zero => exact h.elim
  | succ n =>
    unfold Okc at h
    rw [ht, hv] at h
    rcases h with h | ⟨a, len, cap, h, h1, h2, h3⟩
    · left; simpa using h
    · right
      refine ⟨a, len, cap, n, by simpa using h, h1, h2, fun i hi => ?_⟩
      obtain ⟨es, h4, h5⟩ := h3 i hi
      rw [hc, Nat.mul_one] at h4
      obtain ⟨x, rfl, hx⟩ := cells1 h4
      exact ⟨x, hx, h5⟩
theorem okc_int {n : Nat} {t : TypeId} {k : IntKind} {x : Value} (ht : P.underlying t = some (.int k)) (h : Okc P w n t [x]) : ∃ m, x = .int k m ∧ (Lit.int k m).wf = true := by
  cases n with
  | zero => exact h.elim
  | succ n =>
    unfold Okc at h
    rw [ht] at h
    obtain ⟨m, h1, h2⟩ := h
    exact ⟨m, by simpa using h1, h2⟩
theorem okc_bool {n : Nat} {t : TypeId} {x : Value} (ht : P.underlying t = some .bool) (h : Okc P w n t [x]) : ∃ b, x = .bool b := by
  cases n with
  | zero => exact h.elim
  | succ n =>
    unfold Okc at h
    rw [ht] at h
    obtain ⟨m, h1⟩ := h
    exact ⟨m, by simpa using h1⟩
end rows

/-! ## Operations on memory -/

section mem
variable {P : Program} {t e : TypeId} {w : World}

theorem run_size {i : TypeInfo} (h : P.info? e = some i) (w : World) : (sizeOf e).run P w = .ok i.size w := by
  simp only [sizeOf, typeInfo, Sem.run_bind, run_program, Result.andThen_ok, h, Sem.run_pure]

theorem QindexAddr_slice {i : TypeInfo} {a : Addr} {len cap : Nat} {k : IntKind} {n : Int} (ht : P.underlying t = some (.slice e)) (hi : P.info? e = some i) (h0 : 0 ≤ n) (h1 : n < len) :
    QindexAddr P t (.slice (some a) len cap) (.int k n) w = some (.pointer (some (a.add (n.toNat * i.size)))) := by
  unfold QindexAddr qv
  simp only [Instr.indexAt, asIntOf, Sem.run_bind, Sem.run_pure, Result.andThen_ok, run_underlying ht, run_size hi, if_pos (And.intro h0 h1)]
theorem Qlen_slice {ty : TypeId} {a : Option Addr} {len cap : Nat} (ht : P.underlying t = some (.slice e)) : Qlen P #[t] ty #[.slice a len cap] w = some (.int .i64 len) := by
  unfold Qlen qv
  simp [Builtin.len_, run_underlying ht, goInt]

/-- A slice, and what its elements (of one cell each) are like. -/
def RowOf (p : Value → Prop) (w : World) (v : Value) (len : Nat) : Prop := ∃ x cap, v = .slice x len cap ∧ len ≤ maxLen ∧ ∀ i, i < len → ∃ a y, x = some a ∧ w.cell? (a.add i) = some y ∧ p y

theorem RowOf.bel {p : Value → Prop} {w w' : World} {v : Value} {len : Nat} (h : RowOf p w v len) (hb : Bel w w') : RowOf p w' v len := by
  obtain ⟨x, cap, hv, hl, h⟩ := h
  refine ⟨x, cap, hv, hl, fun i hi => ?_⟩
  obtain ⟨a, y, h1, h2, h3⟩ := h i hi
  exact ⟨a, y, h1, hb.cell_some h2, h3⟩
theorem RowOf.len {p : Value → Prop} {v : Value} {len : Nat} (h : RowOf p w v len) {ty : TypeId} (ht : P.underlying t = some (.slice e)) (w' : World) : Qlen P #[t] ty #[v] w' = some (.int .i64 len) := by
  obtain ⟨x, cap, rfl, _⟩ := h
  exact Qlen_slice ht
theorem RowOf.get {p : Value → Prop} {v : Value} {len : Nat} (h : RowOf p w v len) {i : TypeInfo} (ht : P.underlying t = some (.slice e)) (hi : P.info? e = some i) (hs : i.size = 1) {n : Int} (h0 : 0 ≤ n) (h1 : n < len) :
    ∃ q y, (∀ w', QindexAddr P t v (.int .i64 n) w' = some (.pointer (some q))) ∧ w.cell? q = some y ∧ p y := by
  obtain ⟨x, cap, rfl, _, h⟩ := h
  obtain ⟨a, y, rfl, h2, h3⟩ := h n.toNat (by omega)
  refine ⟨a.add n.toNat, y, fun w' => ?_, h2, h3⟩
  rw [QindexAddr_slice ht hi h0 h1, hs, Nat.mul_one]
theorem rowOf_int {n : Nat} {k : IntKind} {v : Value} (ht : P.underlying t = some (.slice e)) (he : P.underlying e = some (.int k)) (hc : P.cellsOf e = 1) (hv : v.cells.toList = [v]) (h : Okc P w n t v.cells.toList) :
    ∃ len, RowOf (fun y => ∃ m, y = .int k m ∧ (Lit.int k m).wf = true) w v len := by
  rcases okc_row ht hc hv h with rfl | ⟨a, len, cap, m, rfl, h1, h2, h3⟩
  · exact ⟨0, none, 0, rfl, Nat.zero_le _, fun i hi => absurd hi (Nat.not_lt_zero _)⟩
  · refine ⟨len, some a, cap, rfl, Nat.le_trans h1 h2, fun i hi => ?_⟩
    obtain ⟨x, h4, h5⟩ := h3 i hi
    exact ⟨a, x, rfl, h4, okc_int he h5⟩
theorem rowOf_bool {n : Nat} {v : Value} (ht : P.underlying t = some (.slice e)) (he : P.underlying e = some .bool) (hc : P.cellsOf e = 1) (hv : v.cells.toList = [v]) (h : Okc P w n t v.cells.toList) :
    ∃ len, RowOf (fun y => ∃ b, y = .bool b) w v len := by
  rcases okc_row ht hc hv h with rfl | ⟨a, len, cap, m, rfl, h1, h2, h3⟩
  · exact ⟨0, none, 0, rfl, Nat.zero_le _, fun i hi => absurd hi (Nat.not_lt_zero _)⟩
  · refine ⟨len, some a, cap, rfl, Nat.le_trans h1 h2, fun i hi => ?_⟩
    obtain ⟨x, h4, h5⟩ := h3 i hi
    exact ⟨a, x, rfl, h4, okc_bool he h5⟩
/-- A slice's value is one cell. -/
theorem cells_slice {r : Reach} {b0 : Nat} {v : Value} (ht : P.underlying t = some (.slice e)) (h : Value.okWide P w r b0 t v) : v.cells.toList = [v] := by
  obtain ⟨a, len, cap, rfl⟩ := Go.WideShapes.okWide_slice ht h
  rfl
end mem

end Go.Ev
