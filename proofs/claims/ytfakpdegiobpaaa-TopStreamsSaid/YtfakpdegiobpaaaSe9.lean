/- The reference's numbers. -/
import Derived.Test.YtfakpdegiobpaaaSe8
namespace Go.Proofs.Ytfakpdegiobpaaa
open Go Go.Ev Go.RowKit
open Go.Proofs

def tellM (z : RPt × List By) : M := ⟨z.1.start, z.1.was, z.2⟩
theorem Rf.at_ {w : World} {a : Nat} {sl : Value} {Z : List (RPt × List By)} {l : List M} (h : Rf w a sl Z l) {i : Nat} {x : RPt} (hx : (Z.map (·.1))[i]? = some x) : ∃ z, z ∈ Z ∧ z.1 = x ∧ l[i]? = some (tellM z) := by
  rw [List.getElem?_map] at hx
  cases hz : Z[i]? with
  | none => rw [hz] at hx; cases hx
  | some z =>
    rw [hz] at hx
    injection hx with hx
    refine ⟨z, List.mem_of_getElem? hz, hx, ?_⟩
    rw [← h.tells, List.getElem?_map, hz]; rfl
theorem Rf.ptr {w w' : World} {a : Nat} {sl : Value} {Z : List (RPt × List By)} {l : List M} (h : Rf w a sl Z l) (hb : Bel w w') : Qload Try.prog 72 (.pointer (some ⟨a, 0, none⟩)) w' = some sl := Qload_cell one72 (hb.cell_some h.cells)
theorem St.ptr {w w' : World} {a : Nat} {sl : Value} {Z : List (Pt × List By)} {l : List M} (h : St w a sl Z l) (hb : Bel w w') : Qload Try.prog 64 (.pointer (some ⟨a, 0, none⟩)) w' = some sl := Qload_cell one64 (hb.cell_some h.cells)

theorem diff_take {l : List M} {i : Nat} {p : M} (h : l[i]? = some p) : diffOf 0 (l.take (i + 1)) = p.more (diffOf 0 (l.take i)) := by
  rw [List.take_add_one, h]
  exact diff_add _ _ _

theorem k43 {w : World} {a : Nat} {sl : Value} {Z : List (RPt × List By)} {l : List M} {n : Nat} (h : Rf w a sl Z l) (hn : n ≤ l.length) : Brings (Xcall Try.prog (Value.func (Fn.func 43) #[] #[]) #[.pointer (some ⟨a, 0, none⟩), .int .i64 n] w) (fun r => r.1 = .int .u32 (diffOf 0 (l.take n)) ∧ Bel w r.2) := by
  refine e43 ?_
  unfold s43
  have hm := h.most
  have hl := h.len
  refine Brings.loop (fun m xs w' => ∃ i : Nat, xs = [.pointer (some ⟨a, 0, none⟩), .int .i64 n, .int .u32 (diffOf 0 (l.take i)), .int .i64 i] ∧ i ≤ n ∧ m = n - i ∧ Bel w w') ?_ n _ _ ⟨0, rfl, by omega, by omega, Bel.refl _⟩
  rintro m xs w' ⟨i, rfl, hi, hm', hb⟩
  simp only [s43B0, go_sem]
  refine .cond (fun hlt => ?_) (fun hlt => ?_)
  · have hlt : i < n := by
      have : (i : Int) < n := by simpa using hlt
      omega
    have bd := hb.drew
    have h' := h.bel bd
    generalize w'.drew = w1 at bd h'
    obtain ⟨x, g, o, hx, _, hix, hc⟩ := RPt.getR h'.view (n := i) (by omega) (by rw [List.length_map]; omega)
    rw [Int.toNat_natCast] at hx
    obtain ⟨z, hz, rfl, hp⟩ := h'.at_ hx
    simp only [h'.ptr (Bel.refl _), hix, RPt.f2 hc, RPt.f1 hc, (h'.texts z hz).1.view.len By.und34, go_sem]
    rw [Qconv_int (k := .u32) (by kernel_rfl), Qconv_int (k := .u32) (by kernel_rfl)]
    simp only [u32w, go_sem]
    refine .ret (.inl ⟨rfl, n - (i + 1), by omega, i + 1, ?_, by omega, rfl, bd⟩)
    rw [wrap_i64 (by omega) (by omega), diff_take hp]
    have : (diffOf 0 (l.take i) + ((z.2.length : Int) % 4294967296 - z.1.was % 4294967296) % 4294967296) % 4294967296 = (tellM z).more (diffOf 0 (l.take i)) := by
      unfold M.more tellM
      simp only
      omega
    rw [this]
    rfl
  · have : i = n := by
      have : ¬ (i : Int) < n := by simpa using hlt
      omega
    subst this
    exact .ret (.inr ⟨by simp, .ret ⟨rfl, hb⟩⟩)

theorem k40 {w : World} {x : RPt} : Brings (Xcall Try.prog (Value.func (Fn.func 40) #[] #[]) #[x.v] w) (fun r => r.1 = .int .u32 ((x.start + x.was) % 4294967296) ∧ Bel w r.2) := by
  refine e40 ?_
  unfold s40
  have A := x.new w
  have hb : Bel w (w.alloc (.cells x.cs.toArray 76)) := (Bel.refl w).alloc _
  rw [x.box]
  simp only [go_sem]
  generalize w.alloc (.cells x.cs.toArray 76) = w1 at A hb
  simp only [RPt.b0 A, RPt.b1 A, go_sem]
  rw [Qconv_int (k := .u32) (by kernel_rfl)]
  simp only [u32w, go_sem]
  refine .ret ⟨?_, hb⟩
  rw [show (x.start + x.was % 4294967296) % 4294967296 = (x.start + x.was) % 4294967296 by omega]

theorem mapC_hit {cs : List C} {n : Int} {k : Nat} {c : C} (hc : cs.reverse[k]? = some c) (hp : mapP n c = true) (hn : ∀ y ∈ cs.reverse.take k, mapP n y = false) : mapC n cs = mapV n c := by
  unfold mapC
  rw [find_first hc hp hn]
theorem mapC_no {cs : List C} {n : Int} (h : ∀ c ∈ cs.reverse, mapP n c = false) : mapC n cs = n := by
  unfold mapC
  rw [List.find?_eq_none.2 fun c hc => by rw [h c hc]; decide]
theorem unmapC_hit {cs : List C} {n : Int} {k : Nat} {c : C} (hc : cs.reverse[k]? = some c) (hp : unmapP n c = true) (hn : ∀ y ∈ cs.reverse.take k, unmapP n y = false) : unmapC n cs = unmapV n c := by
  unfold unmapC
  rw [find_first hc hp hn]
theorem unmapC_no {cs : List C} {n : Int} (h : ∀ c ∈ cs.reverse, unmapP n c = false) : unmapC n cs = n := by
  unfold unmapC
  rw [List.find?_eq_none.2 fun c hc => by rw [h c hc]; decide]
theorem rev_cell {l : List M} {k i : Nat} {p : M} (hk : k + i + 1 = l.length) (hp : l[i]? = some p) : (cellsOf 0 l).reverse[k]? = some ⟨p.start, p.end_, diffOf 0 (l.take i), p.more (diffOf 0 (l.take i)), p.bs⟩ := by
  rw [List.getElem?_reverse (by rw [cells_len]; omega), cells_len, show l.length - 1 - k = i by omega]
  exact cells_at l 0 i p hp

theorem k34 {w : World} {a : Nat} {sl : Value} {Z : List (RPt × List By)} {l : List M} {n : Int} (h : Rf w a sl Z l) : Brings (Xcall Try.prog (Value.func (Fn.func 34) #[] #[]) #[.pointer (some ⟨a, 0, none⟩), .int .u32 n] w) (fun r => r.1 = .int .u32 (mapC n (cellsOf 0 l)) ∧ Bel w r.2) := by
  refine e34 ?_
  unfold s34
  have hm := h.most
  have hl := h.len
  have lv : ∀ {w'} , Bel w w' → ∀ w2, Qlen Try.prog #[72] 3 #[sl] w2 = some (.int .i64 l.length) := fun hb w2 => by
    have := (h.bel hb).view.len RPt.und72 (ty := 3) w2
    rwa [List.length_map, hl] at this
  simp only [go_sem, Qb_eqlP (P := Try.prog) (t := 25) (e := 74) ptr25, Option.isNone_some, h.ptr (Bel.refl _), lv (Bel.refl _)]
  rw [wrap_i64 (by omega) (by omega)]
  refine Brings.loop (fun m xs w' => ∃ k : Nat, xs = [.pointer (some ⟨a, 0, none⟩), .int .u32 n, .int .u32 0, .int .i64 ((l.length : Int) - 1 - k)] ∧ k ≤ l.length ∧ m = l.length - k ∧ Bel w w' ∧ ∀ c ∈ (cellsOf 0 l).reverse.take k, mapP n c = false) ?_ l.length _ _ ⟨0, by simp, by omega, by omega, Bel.refl _, by simp⟩
  rintro m xs w' ⟨k, rfl, hk, hmk, hb, hno⟩
  simp only [s34B0, go_sem]
  refine .cond (fun hlt => ?_) (fun hlt => ?_)
  · have hlt : (0 : Int) ≤ (l.length : Int) - 1 - k := by simpa using hlt
    have ei : (l.length : Int) - 1 - k = ((l.length - 1 - k : Nat) : Int) := by omega
    have h' := h.bel hb
    rw [ei]
    obtain ⟨x, g, o, hx, _, hix, hc⟩ := RPt.getR h'.view (n := ((l.length - 1 - k : Nat) : Int)) (by omega) (by rw [List.length_map]; omega)
    rw [Int.toNat_natCast] at hx
    obtain ⟨z, hz, rfl, hp⟩ := h'.at_ hx
    have B := local_bel w' (.cells RPt.zero.cs.toArray 76) z.1.cs.toArray
    have A := local_at w' z.1.cs RPt.zero.cs 76
    simp only [h'.ptr (Bel.refl _), hix, RPt.all hc, alloc76, put76, go_sem]
    have b1 := hb.trans B
    generalize (w'.alloc (.cells RPt.zero.cs.toArray 76)).setRow w'.heap.size z.1.cs.toArray = w1 at A b1
    clear B
    have hcell := rev_cell (k := k) (i := l.length - 1 - k) (by omega) hp
    simp only [RPt.b0 A, go_sem]
    refine k18.bind ?_
    rintro _ rfl
    simp only [go_sem]
    refine .cond (fun hgt => ?_) (fun hgt => ?_)
    · have hgt : 0 < aheadM z.1.start n := by simpa using hgt
      refine .ret (.inl ⟨rfl, l.length - (k + 1), by omega, k + 1, ?_, by omega, rfl, b1, take_none hcell (by unfold mapP tellM; simp; omega) hno⟩)
      rw [wrap_i64 (by omega) (by omega), show ((l.length - 1 - k : Nat) : Int) - 1 = (l.length : Int) - 1 - (k + 1 : Nat) by omega]
    · have hgt : ¬ 0 < aheadM z.1.start n := by simpa using hgt
      have hm' := mapC_hit hcell (by unfold mapP tellM; simp; omega) hno
      simp only [RPt.all A, go_sem]
      refine k40.bind ?_
      rintro ⟨_, w2⟩ ⟨e1, b2⟩
      simp only at e1 b2
      subst e1
      simp only [go_sem]
      refine k18.bind ?_
      rintro _ rfl
      simp only [go_sem]
      have b3 := b1.trans b2
      refine .cond (fun h2 => ?_) (fun h2 => ?_)
      · have h2 : 0 < aheadM ((z.1.start + z.1.was) % 4294967296) n := by simpa using h2
        have bd := b3.drew
        have A3 : CellsAt z.1.cs w2.drew w'.heap.size 0 := A.bel b2.drew
        generalize w2.drew = w3 at bd A3
        simp only [RPt.b0 A3, go_sem]
        refine (k43 (n := l.length - 1 - k) (h.bel bd) (by omega)).bind ?_
        rintro ⟨_, w4⟩ ⟨e1, b4⟩
        simp only at e1 b4
        subst e1
        simp only [go_sem, RPt.b0 (A3.bel b4), eq_self, and_self, u32w]
        refine .ret (.inr ⟨by simp, .ret ⟨?_, bd.trans b4⟩⟩)
        rw [hm']
        unfold mapV
        rw [if_pos (by exact h2)]
        rfl
      · have h2 : ¬ 0 < aheadM ((z.1.start + z.1.was) % 4294967296) n := by simpa using h2
        rw [wrap_i64 (by omega) (by omega), show ((l.length - 1 - k : Nat) : Int) + 1 = ((l.length - 1 - k + 1 : Nat) : Int) by omega]
        refine (k43 (n := l.length - 1 - k + 1) (h.bel b3) (by omega)).bind ?_
        rintro ⟨_, w4⟩ ⟨e1, b4⟩
        simp only at e1 b4
        subst e1
        simp only [go_sem, u32w]
        refine .ret (.inr ⟨by simp, .ret ⟨?_, b3.trans b4⟩⟩)
        rw [hm', diff_take hp]
        unfold mapV
        rw [if_neg (by exact h2)]
  · have : k = l.length := by
      have : ¬ (0 : Int) ≤ (l.length : Int) - 1 - k := by simpa using hlt
      omega
    subst this
    rw [show (cellsOf 0 l).reverse.take l.length = (cellsOf 0 l).reverse by rw [← cells_len l 0, ← List.length_reverse, List.take_length]] at hno
    exact .ret (.inr ⟨by simp, .ret ⟨by rw [mapC_no hno], hb⟩⟩)

theorem k35 {w : World} {a : Nat} {sl : Value} {Z : List (RPt × List By)} {l : List M} {n : Int} (h : Rf w a sl Z l) : Brings (Xcall Try.prog (Value.func (Fn.func 35) #[] #[]) #[.pointer (some ⟨a, 0, none⟩), .int .u32 n] w) (fun r => r.1 = .int .u32 (unmapC n (cellsOf 0 l)) ∧ Bel w r.2) := by
  refine e35 ?_
  unfold s35
  have hm := h.most
  have hl := h.len
  have lv : ∀ {w'} , Bel w w' → ∀ w2, Qlen Try.prog #[72] 3 #[sl] w2 = some (.int .i64 l.length) := fun hb w2 => by
    have := (h.bel hb).view.len RPt.und72 (ty := 3) w2
    rwa [List.length_map, hl] at this
  simp only [go_sem, Qb_eqlP (P := Try.prog) (t := 25) (e := 74) ptr25, Option.isNone_some, h.ptr (Bel.refl _), lv (Bel.refl _)]
  rw [wrap_i64 (by omega) (by omega)]
  refine Brings.loop (fun m xs w' => ∃ k : Nat, xs = [.pointer (some ⟨a, 0, none⟩), .int .u32 n, .int .u32 0, .int .i64 ((l.length : Int) - 1 - k)] ∧ k ≤ l.length ∧ m = l.length - k ∧ Bel w w' ∧ ∀ c ∈ (cellsOf 0 l).reverse.take k, unmapP n c = false) ?_ l.length _ _ ⟨0, by simp, by omega, by omega, Bel.refl _, by simp⟩
  rintro m xs w' ⟨k, rfl, hk, hmk, hb, hno⟩
  simp only [s35B0, go_sem]
  refine .cond (fun hlt => ?_) (fun hlt => ?_)
  · have hlt : (0 : Int) ≤ (l.length : Int) - 1 - k := by simpa using hlt
    have ei : (l.length : Int) - 1 - k = ((l.length - 1 - k : Nat) : Int) := by omega
    have h' := h.bel hb
    rw [ei]
    obtain ⟨x, g, o, hx, _, hix, hc⟩ := RPt.getR h'.view (n := ((l.length - 1 - k : Nat) : Int)) (by omega) (by rw [List.length_map]; omega)
    rw [Int.toNat_natCast] at hx
    obtain ⟨z, hz, rfl, hp⟩ := h'.at_ hx
    have B := local_bel w' (.cells RPt.zero.cs.toArray 76) z.1.cs.toArray
    have A := local_at w' z.1.cs RPt.zero.cs 76
    simp only [h'.ptr (Bel.refl _), hix, RPt.all hc, alloc76, put76, go_sem]
    have A : CellsAt z.1.cs ((w'.alloc (.cells RPt.zero.cs.toArray 76)).setRow w'.heap.size z.1.cs.toArray).drew w'.heap.size 0 := A.bel (Bel.refl _).drew
    have b1 := (hb.trans B).drew
    generalize ((w'.alloc (.cells RPt.zero.cs.toArray 76)).setRow w'.heap.size z.1.cs.toArray).drew = w1 at A b1
    clear B
    have hcell := rev_cell (k := k) (i := l.length - 1 - k) (by omega) hp
    simp only [RPt.b0 A, go_sem]
    refine (k43 (n := l.length - 1 - k) (h.bel b1) (by omega)).bind ?_
    rintro ⟨_, w2⟩ ⟨e1, b2⟩
    simp only at e1 b2
    subst e1
    have A2 := A.bel b2
    have b3 := b1.trans b2
    simp only [go_sem, RPt.b0 A2, eq_self, and_self, u32w]
    refine k18.bind ?_
    rintro _ rfl
    simp only [go_sem]
    generalize hd : diffOf 0 (l.take (l.length - 1 - k)) = d at hcell
    refine .cond (fun hgt => ?_) (fun hgt => ?_)
    · have hgt : 0 < aheadM ((z.1.start + d) % 4294967296) n := by simpa using hgt
      refine .ret (.inl ⟨rfl, l.length - (k + 1), by omega, k + 1, ?_, by omega, rfl, b3, take_none hcell (by unfold unmapP tellM; simp; omega) hno⟩)
      rw [wrap_i64 (by omega) (by omega), show ((l.length - 1 - k : Nat) : Int) - 1 = (l.length : Int) - 1 - (k + 1 : Nat) by omega]
    · have hgt : ¬ 0 < aheadM ((z.1.start + d) % 4294967296) n := by simpa using hgt
      have hm' := unmapC_hit hcell (by unfold unmapP tellM; simp; omega) hno
      simp only [RPt.b2 A2, (h'.texts z hz).1.view.len By.und34, go_sem]
      rw [Qconv_int (k := .u32) (by kernel_rfl)]
      simp only [u32w, go_sem]
      have el : ((z.1.start + d) % 4294967296 + (z.2.length : Int) % 4294967296) % 4294967296 = (z.1.start + d + z.2.length) % 4294967296 := by omega
      rw [el]
      refine k18.bind ?_
      rintro _ rfl
      simp only [go_sem]
      refine .cond (fun h2 => ?_) (fun h2 => ?_)
      · have h2 : 0 < aheadM ((z.1.start + d + z.2.length) % 4294967296) n := by simpa using h2
        simp only [RPt.b0 A2, go_sem]
        refine .ret (.inr ⟨by simp, .ret ⟨?_, b3⟩⟩)
        rw [hm']
        unfold unmapV
        rw [if_pos (by exact h2)]
        rfl
      · have h2 : ¬ 0 < aheadM ((z.1.start + d + z.2.length) % 4294967296) n := by simpa using h2
        rw [wrap_i64 (by omega) (by omega), show ((l.length - 1 - k : Nat) : Int) + 1 = ((l.length - 1 - k + 1 : Nat) : Int) by omega]
        refine (k43 (n := l.length - 1 - k + 1) (h.bel b3) (by omega)).bind ?_
        rintro ⟨_, w4⟩ ⟨e1, b4⟩
        simp only at e1 b4
        subst e1
        simp only [go_sem, u32w]
        refine .ret (.inr ⟨by simp, .ret ⟨?_, b3.trans b4⟩⟩)
        rw [hm', diff_take hp, hd]
        unfold unmapV
        rw [if_neg (by exact h2)]
  · have : k = l.length := by
      have : ¬ (0 : Int) ≤ (l.length : Int) - 1 - k := by simpa using hlt
      omega
    subst this
    rw [show (cellsOf 0 l).reverse.take l.length = (cellsOf 0 l).reverse by rw [← cells_len l 0, ← List.length_reverse, List.take_length]] at hno
    exact .ret (.inr ⟨by simp, .ret ⟨by rw [unmapC_no hno], hb⟩⟩)

end Go.Proofs.Ytfakpdegiobpaaa
