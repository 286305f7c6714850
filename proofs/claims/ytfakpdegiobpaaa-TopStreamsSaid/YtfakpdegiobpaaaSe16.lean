/- Find, of both. -/
import Derived.Test.YtfakpdegiobpaaaSe15
namespace Go.Proofs.Ytfakpdegiobpaaa
open Go Go.Ev Go.RowKit
open Go.Proofs

theorem St.at_ {w : World} {a : Nat} {sl : Value} {Z : List (Pt × List By)} {l : List M} (h : St w a sl Z l) {i : Nat} {x : Pt} (hx : (Z.map (·.1))[i]? = some x) : ∃ z p, z ∈ Z ∧ z.1 = x ∧ l[i]? = some p ∧ x.start = p.start ∧ x.end_ = p.end_ ∧ z.2 = p.bs := by
  rw [List.getElem?_map] at hx
  cases hz : Z[i]? with
  | none => rw [hz] at hx; cases hx
  | some z =>
    rw [hz] at hx
    injection hx with hx
    have hi := (List.getElem?_eq_some_iff.1 hz).1
    obtain ⟨p, hp⟩ : ∃ p, l[i]? = some p := ⟨l[i]'(by rw [← h.len]; exact hi), by simp [← h.len, hi]⟩
    have hc := cells_at l 0 i p hp
    rw [← h.tells, List.getElem?_map, hz] at hc
    injection hc with hc
    injection hc with c1 c2 c3 c4 c5
    subst hx
    exact ⟨z, p, List.mem_of_getElem? hz, rfl, hp, c1, c2, c5⟩

theorem ask_eq {w : World} {a : Nat} {sl : Value} {Z : List (Pt × List By)} {l : List M} (h : St w a sl Z l) (hf : Fine l) {start was : Int} (h1 : 1 ≤ was) (h2 : was ≤ 128) {i : Nat} {x : Pt} {p : M} (hx : (Z.map (·.1))[i]? = some x) (hp : l[i]? = some p) :
    askP start was x = (p.start == start && p.was == was) := by
  obtain ⟨z, p', _, _, hp', e1, e2, _⟩ := h.at_ hx
  rw [hp] at hp'
  injection hp' with hp'
  subst hp'
  have hfp := hf p (List.mem_of_getElem? hp)
  unfold askP
  rw [e1, e2]
  by_cases hs : p.start = start
  · subst hs
    unfold M.end_
    obtain ⟨f1, f2, f3, f4, _⟩ := hfp
    have : ((p.start + p.was) % 4294967296 = (p.start + was) % 4294967296) ↔ p.was = was := by
      constructor
      · intro e
        omega
      · intro e
        rw [e]
    rw [Bool.eq_iff_iff]
    simp only [Bool.and_eq_true, beq_iff_eq, this]
  · have : (p.start == start) = false := by simpa using hs
    rw [this]; rfl

theorem k23 {w : World} {a : Nat} {sl : Value} {Z : List (Pt × List By)} {l : List M} {start was : Int} (h : St w a sl Z l) (hf : Fine l) : Brings (Xcall Try.prog (Value.func (Fn.func 23) #[] #[]) #[.pointer (some ⟨a, 0, none⟩), .int .u32 start, .int .i64 was] w) (Texted w (findM l start was)) := by
  refine e23 ?_
  unfold s23
  have V0 := Locals.nil w
  have V1 := V0.add rfl (.cells #[.int .u32 start] 23)
  have V2 := V1.add (by simp) (.cells #[.int .i64 was] 3)
  simp only [go_sem, World.size_alloc, Qb_eqlP (P := Try.prog) (t := 24) (e := 66) ptr24, Option.isNone_some]
  generalize (w.alloc (.cells #[.int .u32 start] 23)).alloc (.cells #[.int .i64 was] 3) = w2 at V2
  have V2 : Locals w [.cells #[.int .u32 start] 23, .cells #[.int .i64 was] 3] w2 := V2
  have c0 : w2.cell? ⟨w.heap.size, 0, none⟩ = some (.int .u32 start) := V2.cell (j := 0) rfl
  have c1 : w2.cell? ⟨w.heap.size + 1, 0, none⟩ = some (.int .i64 was) := V2.cell (j := 1) rfl
  have bad : (was < 1 ∨ 128 < was) → findM l start was = none := fun hb => by
    unfold findM
    rw [List.find?_eq_none.2 fun p hp => ?_]
    · rfl
    · have := hf p hp
      have : ¬ p.was = was := by omega
      simp [this]
  simp only [Qload_cell one3 c1, go_sem]
  cases a1 : decide (was < 1) <;> simp only [go_sem, Qload_cell one3 c1]
  rotate_left
  · rw [bad (.inl (by simpa using a1))]
    exact .ret (texted_none V2.bel)
  cases a2 : decide (128 < was) <;> simp only [go_sem]
  rotate_left
  · rw [bad (.inr (by simpa using a2))]
    exact .ret (texted_none V2.bel)
  have w1 : 1 ≤ was := by have : ¬ was < 1 := by simpa using a1
                          omega
  have w2' : was ≤ 128 := by have : ¬ 128 < was := by simpa using a2
                             omega
  clear bad
  have h2 := h.bel V2.bel
  simp only [h2.ptr (Bel.refl _), go_sem]
  refine (k37 h2.view (h38 c0 c1)).bind ?_
  rintro ⟨_, w3⟩ ⟨e1, b3⟩
  simp only at e1 b3
  subst e1
  have h3 := h2.bel b3
  cases hix : (Z.map (·.1)).findIdx? (askP start was) with
  | none =>
    have e : idxM (askP start was) (Z.map (·.1)) = -1 := by unfold idxM; rw [hix]
    have : decide ((-1 : Int) < 0) = true := by decide
    simp only [e, this, go_sem]
    have hno : findM l start was = none := by
      unfold findM
      rw [List.find?_eq_none.2 fun p hp => ?_]
      · rfl
      · obtain ⟨i, hi, e⟩ := List.mem_iff_getElem.1 hp
        have hp' : l[i]? = some p := by rw [List.getElem?_eq_getElem hi, e]
        obtain ⟨x, hx⟩ : ∃ x, (Z.map (·.1))[i]? = some x := ⟨(Z.map (·.1))[i]'(by rw [List.length_map, h.len]; exact hi), by rw [List.getElem?_eq_getElem]⟩
        rw [← ask_eq h hf w1 w2' hx hp', (List.findIdx?_eq_none_iff.1 hix) x (List.mem_of_getElem? hx)]
        decide
    rw [hno]
    exact .ret (texted_none (V2.bel.trans b3))
  | some i =>
    have e : idxM (askP start was) (Z.map (·.1)) = i := by unfold idxM; rw [hix]
    have : decide ((i : Int) < 0) = false := by simp
    obtain ⟨hi, hP, hno⟩ := List.findIdx?_eq_some_iff_getElem.1 hix
    simp only [e, this, go_sem, h3.ptr (Bel.refl _)]
    obtain ⟨x, g, o, hx, _, hia, hc⟩ := Pt.getR h3.view (n := i) (by omega) (by omega)
    rw [Int.toNat_natCast] at hx
    obtain ⟨z, p, hzm, rfl, hp, _, _, eb⟩ := h3.at_ hx
    simp only [hia, Pt.f4 hc, go_sem]
    have hfp := hf p (List.mem_of_getElem? hp)
    have hfind : findM l start was = some p.bs := by
      unfold findM
      have hpp : (p.start == start && p.was == was) = true := by
        rw [← ask_eq h hf w1 w2' hx hp]
        rw [List.getElem?_eq_getElem hi] at hx
        injection hx with hx
        rw [← hx]; exact hP
      rw [find_first hp hpp fun y hy => ?_]
      · rfl
      · obtain ⟨j, hj, ej⟩ := List.mem_take_iff_getElem.1 hy
        have hjl : j < l.length := by omega
        have hy' : l[j]? = some y := by rw [List.getElem?_eq_getElem hjl, ej]
        have hjZ : j < (Z.map (·.1)).length := by rw [List.length_map, h.len]; exact hjl
        have hxj : (Z.map (·.1))[j]? = some (Z.map (·.1))[j] := List.getElem?_eq_getElem hjZ
        rw [← ask_eq h hf w1 w2' hxj hy']
        have := hno j (by omega)
        simpa using this
    refine (By.k32 (h3.texts z hzm).1.view (by rw [eb]; omega)).bind ?_
    rintro ⟨v, w4⟩ ⟨b4, o4, f4⟩
    simp only at b4 o4 f4 ⊢
    rw [hfind]
    rw [eb] at o4
    exact .ret ⟨(V2.bel.trans b3).trans b4, v, rfl, o4, fun k hk => by have := f4 k hk; have := (V2.bel.trans b3).size; omega⟩

theorem k33 {w : World} {a : Nat} {sl : Value} {Z : List (RPt × List By)} {l : List M} {start was : Int} (h : Rf w a sl Z l) (hf : Fine l) : Brings (Xcall Try.prog (Value.func (Fn.func 33) #[] #[]) #[.pointer (some ⟨a, 0, none⟩), .int .u32 start, .int .i64 was] w) (Texted w (findM l start was)) := by
  refine e33 ?_
  unfold s33
  have hm := h.most
  refine Brings.loop (fun n xs w' => ∃ i : Nat, xs = [.pointer (some ⟨a, 0, none⟩), .int .u32 start, .int .i64 was, .slice none 0 0, .bool false, .int .i64 i] ∧ i ≤ l.length ∧ n = l.length - i ∧ w' = w ∧ ∀ p ∈ l.take i, (p.start == start && p.was == was) = false) ?_ l.length _ _ ⟨0, rfl, by omega, by omega, rfl, by simp⟩
  rintro n xs w' ⟨i, rfl, hi, hn, rfl, hne⟩
  simp only [s33B0, go_sem, Qb_neqP (P := Try.prog) (t := 25) (e := 74) ptr25, Option.isSome_some, h.ptr (Bel.refl _), h.lenq]
  refine .cond (fun hlt => ?_) (fun hlt => ?_)
  · have hlt : i < l.length := by
      have : (i : Int) < l.length := by simpa using hlt
      omega
    obtain ⟨x, g, o, hx, _, hix, hc⟩ := RPt.getR h.view (n := i) (by omega) (by rw [List.length_map, h.len]; omega)
    rw [Int.toNat_natCast] at hx
    obtain ⟨z, hzm, rfl, hp⟩ := h.at_ hx
    have w1' : IntKind.i64.wrap ((i : Int) + 1) = ((i + 1 : Nat) : Int) := by rw [wrap_i64 (by omega) (by omega)]; rfl
    have no : ((tellM z).start == start && (tellM z).was == was) = false → Brings (some (Exit.normal, [Value.pointer (some ⟨a, 0, none⟩), .int .u32 start, .int .i64 was, .slice none 0 0, .bool false, .int .i64 ((i + 1 : Nat) : Int)], w')) (fun r => (r.1 = .normal ∧ ∃ m, m < n ∧ ∃ i : Nat, r.2.1 = [.pointer (some ⟨a, 0, none⟩), .int .u32 start, .int .i64 was, .slice none 0 0, .bool false, .int .i64 i] ∧ i ≤ l.length ∧ m = l.length - i ∧ r.2.2 = w' ∧ ∀ p ∈ l.take i, (p.start == start && p.was == was) = false) ∨ (r.1 ≠ .normal ∧ Brings (s33R0 r.1 r.2.1 r.2.2) (Texted w' (findM l start was)))) := fun hs =>
      .ret (.inl ⟨rfl, l.length - (i + 1), by omega, i + 1, rfl, by omega, rfl, rfl, take_none hp hs hne⟩)
    simp only [hix, RPt.f0 hc, go_sem, w1']
    cases q0 : z.1.start == start <;> simp only [go_sem, h.ptr (Bel.refl _), hix, RPt.f1 hc]
    · exact no (by show (z.1.start == start && _) = false; rw [q0]; rfl)
    cases q1 : z.1.was == was <;> simp only [go_sem]
    · exact no (by show (z.1.start == start && z.1.was == was) = false; rw [q0, q1]; rfl)
    · have hfind : findM l start was = some z.2 := by
        unfold findM
        rw [find_first hp (by show (z.1.start == start && z.1.was == was) = true; rw [q0, q1]; rfl) hne]; rfl
      have hfp := hf _ (List.mem_of_getElem? hp)
      have hb1 : Bel w' (w'.alloc (.cells #[] 5)) := (Bel.refl w').alloc _
      obtain ⟨v, w4, e4, b4, o4, f4⟩ := By.copy34 (h.texts z hzm).1.view (show z.2.length ≤ 1000 from by have : (tellM z).bs.length ≤ 128 := hfp.2.2.2.2.2; exact Nat.le_trans this (by decide))
      simp only at b4 o4 f4
      simp only [By.lit0, h.ptr hb1, hix, RPt.f2 (hc.bel hb1), e4, go_sem]
      refine .ret (.inr ⟨by simp, .ret ?_⟩)
      rw [hfind]
      exact ⟨b4, v, rfl, o4, f4⟩
  · have : i = l.length := by
      have : ¬ (i : Int) < l.length := by simpa using hlt
      omega
    subst this
    rw [List.take_length] at hne
    have hno : findM l start was = none := by
      unfold findM
      rw [List.find?_eq_none.2 fun p hp => by rw [hne p hp]; decide]; rfl
    refine .ret (.inr ⟨by simp, .ret ?_⟩)
    rw [hno]
    exact texted_none (Bel.refl _)

end Go.Proofs.Ytfakpdegiobpaaa
