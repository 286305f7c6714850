/- Slices that are made; bytes as a text. -/
import Derived.Test.YtcibkmahibnjeaaFk
import Derived.Test.YtcibkmahibnjeaaFj
import Derived.Laws.BytesArg
import Derived.Laws.OwnMore
namespace Go.Ev
open Go Go.RowKit

section
variable {P : Program} {w : World} {src dst e : TypeId}

/-- Bytes as a text. -/
theorem Xconv_bytes {α : Type} {g : α → Int} {f : α → List Value} {s : Value} {l : List α} (hs : P.underlying src = some (.slice e)) (he : P.underlying e = some (.int .u8)) (hd : P.underlying dst = some .string)
    (hf : ∀ x, f x = [.int .u8 (g x)]) (hv : View f 1 w s l) : Xconv P src dst s w = some (.string (strOfNums (l.map g)), w) := by
  obtain ⟨x, cap, rfl, h1, h2, h3, h4⟩ := hv
  have hr : (convert src dst (.slice x l.length cap)).run P w = .ok (.string (strOfNums (l.map g))) w := by
    cases x with
    | none =>
      have hl : l = [] := by
        cases l with
        | nil => rfl
        | cons y l =>
          obtain ⟨_, _, h, _⟩ := h4 0 y rfl
          cases h
      subst hl
      exact run_convert_bytes_nil w src e hs he _ _ dst hd
    | some a =>
      have hsp : l = [] ∨ ∃ b o, a = ⟨b, o, none⟩ := by
        cases l with
        | nil => exact .inl rfl
        | cons y l =>
          obtain ⟨b, o, h, _⟩ := h4 0 y rfl
          injection h with h
          exact .inr ⟨b, o, h⟩
      rcases hsp with rfl | ⟨b, o, rfl⟩
      · have hl := run_convert_bytes_string w src dst e (some a) 0 cap hs he hd
        have h0 : (convert src dst (.slice (some a) 0 cap)).run P w = .ok (.string (strOfNums [])) w := by
          rw [hl, run_bytesToString w _ 0 cap [] (by rfl)]
          rfl
        exact h0
      · refine run_convert_bytes_arg w src e hs he b o l.length cap (l.map g) (by simp) (fun i hi => ?_) dst hd
        obtain ⟨b', o', h, hc⟩ := h4 i l[i] (by simp [hi])
        injection h with h
        injection h with h1 h2
        subst h1 h2
        have := hc 0 (.int .u8 (g l[i])) (by rw [hf]; rfl)
        simpa [hi] using this
  unfold Xconv xv
  rw [hr]

/-- A slice of a length. -/
theorem Xmade {α : Type} {f : α → List Value} {d : α} {t : TypeId} {i : TypeInfo} {z : Value} {size : Nat} {kl kc : IntKind} (ht : P.underlying t = some (.slice e)) (hi : P.info? e = some i) (hz : i.zero = some z) (hsize : i.size = size)
    (hf : f d = z.cells.toList) (h1 : size = 1) (hc : z.cells.size = 1) {n : Nat} (hb : i.bytes * n ≤ 281474976710656) (h63 : n ≤ maxLen) :
    ∃ w', XmakeSlice P t (.int kl (n : Int)) (.int kc (n : Int)) w = some (.slice (some ⟨w.heap.size, 0, none⟩) n n, w') ∧ w'.ownsRow 0 e size (.slice (some ⟨w.heap.size, 0, none⟩) n n) n ((List.replicate n d).flatMap f) ∧ Bel w w' := by
  obtain ⟨w', e1, e2, e3⟩ := run_make_full (P := P) w 0 t e i z size ht hi hz hsize kl kc n hb h63 (Nat.zero_le _)
  refine ⟨w', ?_, ?_, (Chg.of_grown e3).bel fun k _ h => by cases h⟩
  · unfold XmakeSlice xv
    rw [e1]
  · obtain ⟨u, hu⟩ : ∃ u, z.cells = #[u] := by
      match hzc : z.cells with
      | ⟨[u]⟩ => exact ⟨u, rfl⟩
      | ⟨[]⟩ => rw [hzc] at hc; simp at hc
      | ⟨_ :: _ :: _⟩ => rw [hzc] at hc; simp at hc
    have e : (List.replicate n d).flatMap f = (madeCells z.cells (n * size)).toList := by
      rw [hu] at hf ⊢
      rw [toList_madeCells_one, h1, Nat.mul_one]
      clear e2 e1 h63 hb
      induction n with
      | zero => rfl
      | succ n ih => rw [List.replicate_succ, List.flatMap_cons, ih, hf]; rfl
    rw [e]; exact e2

/-- One cell of a row of one's own is written to. -/
theorem own_set1 {t : TypeId} {i : TypeInfo} (ht : P.underlying t = some (.slice e)) (hi : P.info? e = some i) (hs : i.size = 1) {v : Value} {n : Nat} {xs : List Value} (h : w.ownsRow 0 e 1 v n xs) {j : Nat} (hj : j < n) {u : Value} (hu : u.cells = #[u]) (h1 : u.oneCell' = true) :
    ∃ g, v.ownBlock = some g ∧ (∀ w2, QindexAddr P t v (.int .i64 (j : Int)) w2 = some (.pointer (some ⟨g, j, none⟩))) ∧
      ∃ w', Xstore P e (.pointer (some ⟨g, j, none⟩)) u w = some (undef, w') ∧ w'.ownsRow 0 e 1 v n (xs.set j u) ∧ Chg (fun k => k = g) w w' := by
  obtain ⟨hl, ⟨rfl, rfl⟩ | ⟨g, cap, cur, rfl, hb, hg, hn, hcap, hsz, htk⟩⟩ := h
  · omega
  · refine ⟨g, rfl, fun w2 => ?_, _, Xstore_row (P := P) (t := e) (v := u) hi (by rw [hu, hs]; rfl) hg (o := j) (by rw [hs]; omega) (by rw [hu]; intro x hx; simp at hx; subst hx; exact h1), ⟨by rw [List.length_set]; exact hl, .inr ⟨g, cap, _, rfl, hb, setRow_heap w g cur _ e _ hg, hn, hcap, ?_, ?_⟩⟩, setRow_chg _ _⟩
    · rw [QindexAddr_slice ht hi (by omega) (by omega), hs, Int.toNat_natCast, Nat.mul_one]
      unfold Addr.add
      by_cases hz : j = 0 <;> simp [hz]
    · simp only [hs, hu, List.size_toArray, List.length_append, List.length_take, List.length_drop, Array.length_toList]
      simp
      omega
    · have hjc : j < cur.toList.length := by rw [Array.length_toList]; omega
      have e1 : cur.toList.take j ++ (u.cells).toList ++ cur.toList.drop (j + i.size) = cur.toList.set j u := by
        rw [hs, hu, List.set_eq_take_append_cons_drop, if_pos hjc]
        simp
      rw [show ((cur.toList.take j ++ (u.cells).toList ++ cur.toList.drop (j + i.size)).toArray).toList = cur.toList.take j ++ (u.cells).toList ++ cur.toList.drop (j + i.size) from rfl, e1, List.take_set, htk]

/-- An array is loaded, whole. -/
theorem Qload_array {t : TypeId} {i : TypeInfo} {n g o : Nat} {cs : List Value} (ht : P.underlying t = some (.array n e)) (hi : P.info? t = some i) (hs : i.size = cs.length) (h : CellsAt cs w g o) :
    Qload P t (.pointer (some ⟨g, o, none⟩)) w = some (.agg cs.toArray) := by
  unfold Qload qv
  have hag : (isAgg t).run P w = .ok true w := by simp only [isAgg, Sem.run_bind, run_underlying ht, Result.andThen_ok]; rfl
  simp only [Instr.loadAt, Instr.sureAddr, loadVar, Sem.run_bind, Sem.run_pure, Result.andThen_ok, hag, if_true, run_size hi, hs]
  rw [run_loadCells_list (P := P) w _ cs fun j v hj => by
    have := h j v hj
    rw [show (⟨g, o, none⟩ : Addr).add j = ⟨g, o + j, none⟩ from ?_]
    · exact this
    · unfold Addr.add
      by_cases h : j = 0 <;> simp [h]]
  rfl
end
end Go.Ev
