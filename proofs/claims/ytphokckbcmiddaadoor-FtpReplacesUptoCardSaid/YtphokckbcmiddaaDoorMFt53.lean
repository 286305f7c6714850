/- The row of the law that both replace the same. -/
import Derived.Test.YtphokckbcmiddaaDoorMFt52
import Derived.Test.YtphokckbcmiddaaDoorMFt47
import Derived.Deep.DeepWitnessRowRef
import Derived.Deep.DeepHandedRow
namespace Go.Proofs.YtphokckbcmiddaaDoor
open Go Go.Ev Go.RowKit
open Go.Proofs

theorem bulk_one {H : Type} (d : DataW H) : 1 ≤ Rows.uptoBulk d := by
  cases d with
  | lit l => cases l <;> simp [Rows.uptoBulk]
  | nil => simp [Rows.uptoBulk]
  | ptr d => simp [Rows.uptoBulk]
  | slice elems spare => simp [Rows.uptoBulk]
  | agg parts => simp [Rows.uptoBulk]
  | iface t d => simp [Rows.uptoBulk]
  | map entries => simp [Rows.uptoBulk]
  | held h => simp [Rows.uptoBulk]
theorem bulk_len {H : Type} (l : List (DataW H)) : l.length ≤ Rows.uptoBulkAll l := by
  induction l with
  | nil => simp [Rows.uptoBulkAll]
  | cons x r ih => have := bulk_one x; simp only [Rows.uptoBulkAll, List.length_cons]; omega
theorem bulk_part {H : Type} {d : DataW H} {l : List (DataW H)} (h : d ∈ l) : Rows.uptoBulk d ≤ Rows.uptoBulkAll l := by
  induction l with
  | nil => cases h
  | cons x r ih =>
    simp only [Rows.uptoBulkAll]
    rcases List.mem_cons.1 h with e | e
    · subst e; omega
    · have := ih e; omega

theorem len_upto {H : Type} {enc : TypeId × Value → H} {W : World} {sp : Nat → Bool} {held : Bool} {ds : List (DataW H)} (hz : Rows.uptoBulkAll ds ≤ 1048576) {d : DataW H} {v : Value} {p : List MemPlace}
    (hd : d ∈ ds) (h : DataW.Trod enc Tryd.prog W 0 sp held 22 v d p) (hc : v.cells.toList = [v]) {l : List Int} (hv : Vw W v l) : l.length ≤ 1048576 := by
  obtain ⟨fuel, h⟩ := h
  rw [hc] at h
  obtain ⟨x, cap, rfl, _⟩ := hv
  rcases DataW.trod_slice und22 h with ⟨e, _⟩ | ⟨a, len, cap', elems, rest, n, _, e, ex, _, _, _, hlen, _⟩
  · injection e with e _
    injection e with _ e _
    omega
  · injection e with e _
    injection e with _ e _
    injection ex with ex _
    subst ex
    have h1 := bulk_part hd
    have h2 := bulk_len (elems.map (·.1))
    rw [List.length_map] at h2
    simp only [Rows.uptoBulk] at h1
    omega

set_option maxRecDepth 100000 in
theorem row6 {w : World} (hT : Tab w) {H : Type} {enc : TypeId × Value → H} {sp sp2 : Nat → Bool} {held held2 : Bool} {ds : List (DataW H)} (hz : Rows.uptoBulkAll ds ≤ 1048576) {d0 d2 : DataW H} {p0 p2 : List MemPlace} {r r1 r2 : Reach} {b n b1 n1 b2 n2 : Nat} {s f t : Value}
    (m0 : d0 ∈ ds) (h0 : DataW.Trod enc Tryd.prog w 0 sp held 22 s d0 p0) (m2 : d2 ∈ ds) (h2 : DataW.Trod enc Tryd.prog w 0 sp2 held2 22 t d2 p2)
    (hw : Value.okWide Tryd.prog w r b 22 s) (h : Okc Tryd.prog w n 22 s.cells.toList) (hw1 : Value.okWide Tryd.prog w r1 b1 27 f) (h1 : Okc Tryd.prog w n1 27 f.cells.toList) (hw2 : Value.okWide Tryd.prog w r2 b2 22 t) (h3 : Okc Tryd.prog w n2 22 t.cells.toList) :
    Calls Tryd.prog 6 #[s, f, t] w fun e w' => e = .returned (.bool true) ∧ Below w.heap.size w w' := by
  obtain ⟨l, hv, hl⟩ := bytes_of hw h
  obtain ⟨m, hv2, hm⟩ := bytes_of hw2 h3
  obtain ⟨x, rfl, _, o1, o2, _⟩ := open27 hw1 h1
  have l0 := len_upto hz m0 h0 (cells_slice und22 hw) hv
  have l2 := len_upto hz m2 h2 (cells_slice und22 hw2) hv2
  have i1 := wf_i64 o1
  have i2 := wf_i64 o2
  exact law_of (law6 hT hv hv2 hl hm (by omega) (by omega) ⟨i1.1, i1.2, i2.1, i2.2⟩) fun _ => c6

end Go.Proofs.YtphokckbcmiddaaDoor
