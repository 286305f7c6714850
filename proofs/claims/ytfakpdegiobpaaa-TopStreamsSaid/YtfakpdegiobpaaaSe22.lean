/- Inside; Empty, and of nil. -/
import Derived.Test.YtfakpdegiobpaaaSe21
namespace Go.Proofs.Ytfakpdegiobpaaa
open Go Go.Ev Go.RowKit
open Go.Proofs

/-! ## One part -/

def oneZ (p : M) (y : Int) : Int := if 0 ≤ y then (if y < p.was then 0 else y + (p.bs.length - p.was)) else y
def unZ (p : M) (z : Int) : Int := if 0 ≤ z then (if z < p.bs.length then 0 else z - (p.bs.length - p.was)) else z

theorem ahead_self (s : Int) : aheadM s s = 0 := by unfold aheadM; omega
theorem close_one (p : M) : Close p.start [p] := by
  intro q hq
  obtain rfl := List.mem_singleton.1 hq
  rw [ahead_self]
  omega
theorem good_one {p : M} (h : Fine [p]) : Good [p] := ⟨h, ⟨trivial, trivial⟩, by simp⟩
theorem one_map {p : M} {n y : Int} (h : Fine [p]) (hn : n = (p.start + y) % 4294967296) (h1 : -1073751824 < y) (h2 : y < 1073751824) : mapC n (cellsOf 0 [p]) = (p.start + oneZ p y) % 4294967296 := by
  rw [(good_one h).map (close_one p) (by omega) (by omega) hn h1 h2]
  have e : mapZ ([p].reverse.map (zOf p.start)) y = oneZ p y := by
    simp only [List.reverse_singleton, List.map_cons, List.map_nil, mapZ, zOf, ahead_self, dif, oneZ, Int.zero_add, Int.add_zero]
  rw [e]
theorem one_unmap {p : M} {n y : Int} (h : Fine [p]) (hn : n = (p.start + y) % 4294967296) (h1 : -1073751824 < y) (h2 : y < 1073751824) : unmapC n (cellsOf 0 [p]) = (p.start + unZ p y) % 4294967296 := by
  rw [(good_one h).unmap (close_one p) (by omega) (by omega) hn h1 h2]
  have e : unmapZ ([p].reverse.map (zOf p.start)) y = unZ p y := by
    simp only [List.reverse_singleton, List.map_cons, List.map_nil, unmapZ, zOf, ahead_self, dif, unZ, Int.zero_add, Int.add_zero]
  rw [e]

theorem may_of {n : Int} (h : mayM n = true) : 1 ≤ n ∧ n ≤ 128 := by
  simpa [mayM] using h

theorem cv323 (n : Int) : Qconv Try.prog 3 23 (.int .i64 n) = some (.int .u32 (n % 4294967296)) := by rw [Qconv_int (k := .u32) (by kernel_rfl), u32w]

theorem l6 {w : World} {y : Part × List By} {k : Int} (ht : Came w y) (hk : 0 ≤ k ∧ k < 256) : Brings (s6 y.1.v (.int .u8 k) w) (Yes w) := by
  unfold s6
  have A := y.1.new w
  have hb : Bel w (w.alloc (.cells y.1.cs.toArray 41)) := (Bel.refl w).alloc _
  rw [y.1.box]
  simp only [go_sem]
  generalize w.alloc (.cells y.1.cs.toArray 41) = w1 at A hb
  generalize w.heap.size = p at A
  have hu := u32_ok ht.2.1.1
  refine (one_new (Bel.refl w1) (fun _ => False) fun _ f => f.elim).bind ?_
  rintro ⟨_, w2⟩ ⟨a, h1, b2, o2⟩
  simp only at h1 b2 o2
  subst h1
  have A2 := A.bel b2
  simp only [Part.b0 A2, Part.b1 A2, Part.b2 A2, go_sem]
  refine (o2.add (p := toM y) ((ht.bel hb).bel b2).1 hu.1 hu.2).bind ?_
  rintro ⟨_, w3⟩ ⟨e3, c3, o3⟩
  simp only at e3 o3
  subst e3
  have b3 : Bel w1 w3 := o3.1
  obtain ⟨sa, Z, S⟩ := o3.st
  rcases add_cases [] (toM y) with ⟨a1, a2, _, m1, m2⟩ | ⟨a1, a2⟩
  · obtain ⟨q1, q2⟩ := may_of m1
    obtain ⟨q3, q4⟩ := may_of m2
    have q1 : 1 ≤ y.1.was := q1
    have q2 : y.1.was ≤ 128 := q2
    have q3 : (1 : Int) ≤ y.2.length := q3
    have q4 : (y.2.length : Int) ≤ 128 := q4
    have hf : Fine [toM y] := by
      have := o3.2.1
      rw [a2] at this
      exact this
    rw [a2] at S
    simp only [List.nil_append] at S
    have bd : Bel w3 w3.drew.drew.drew := ((Bel.refl _).drew).drew.drew
    have bd1 : Bel w3 w3.drew := (Bel.refl _).drew
    have bd2 : Bel w3 w3.drew.drew := ((Bel.refl _).drew).drew
    have A3 := A.bel b3
    have n1 : y.1.was ≠ 0 := by omega
    have n2 : (y.2.length : Int) ≠ 0 := by omega
    have B0 := A3.bel bd1
    have B1 := A3.bel bd2
    simp only [a1, bne_self_eq_false, Part.b0 B0, Part.b1 B0, Part.b0 B1, Part.b1 B1, Part.b2 B1, ht.1.len By.und34, Qb_remP n1, Qb_remP n2, go_sem]
    have v1 : Qconv Try.prog 5 3 (.int .u8 k) = some (.int .i64 k) := by rw [Qconv_int (k := .i64) (by kernel_rfl), wrap_i64 (by omega) (by omega)]
    simp only [v1, cv323, Qb_remP n1, Qb_remP n2, u32w, go_sem]
    have j1 : 0 ≤ k.tmod y.1.was := Int.tmod_nonneg _ hk.1
    have j2 : k.tmod y.1.was < y.1.was := Int.tmod_lt_of_pos _ (by omega)
    have j3 : 0 ≤ k.tmod y.2.length := Int.tmod_nonneg _ hk.1
    have j4 : k.tmod y.2.length < y.2.length := Int.tmod_lt_of_pos _ (by omega)
    generalize k.tmod y.1.was = j at j1 j2
    generalize k.tmod y.2.length = i at j3 j4
    refine k13.bind ?_
    rintro ⟨_, w4⟩ ⟨h1, b4⟩
    simp only at h1 b4
    subst h1
    have S4 := (S.bel bd).bel b4
    have A4 := A.bel ((b3.trans bd).trans b4)
    simp only [go_sem]
    refine (k17 S4).bind ?_
    rintro ⟨_, w5⟩ ⟨h1, b5⟩
    simp only at h1 b5
    rw [one_map (y := j) hf (by show _ = (y.1.start + j) % 4294967296; omega) (by omega) (by omega)] at h1
    have e1 : ((toM y).start + oneZ (toM y) j) % 4294967296 = y.1.start := by
      unfold oneZ
      rw [if_pos j1, if_pos (show j < (toM y).was from j2)]
      show (y.1.start + 0) % 4294967296 = _
      omega
    rw [e1] at h1
    subst h1
    have A5 := A4.bel b5
    simp only [Part.b0 A4, Part.b0 A5, beq_self_eq_true, go_sem]
    refine (k16 (S4.bel b5)).bind ?_
    rintro ⟨_, w6⟩ ⟨h1, b6⟩
    simp only at h1 b6
    rw [one_unmap (y := i) hf (by show _ = (y.1.start + i) % 4294967296; omega) (by omega) (by omega)] at h1
    have e2 : ((toM y).start + unZ (toM y) i) % 4294967296 = y.1.start := by
      unfold unZ
      rw [if_pos j3, if_pos (show i < ((toM y).bs.length : Int) from j4)]
      show (y.1.start + 0) % 4294967296 = _
      omega
    rw [e2] at h1
    subst h1
    have A6 := A5.bel b6
    simp only [Part.b0 A6, Part.b1 A6, cv323, u32w, beq_self_eq_true, go_sem]
    refine (k17 ((S4.bel b5).bel b6)).bind ?_
    rintro ⟨_, w7⟩ ⟨h1, b7⟩
    simp only at h1 b7
    rw [one_map (y := y.1.was) hf (by show _ = (y.1.start + y.1.was) % 4294967296; omega) (by omega) (by omega)] at h1
    have e3 : ((toM y).start + oneZ (toM y) y.1.was) % 4294967296 = (y.1.start + y.2.length) % 4294967296 := by
      unfold oneZ
      rw [if_pos (by omega), if_neg (show ¬ y.1.was < (toM y).was from Int.lt_irrefl _)]
      show (y.1.start + (y.1.was + (y.2.length - y.1.was))) % 4294967296 = _
      omega
    rw [e3] at h1
    subst h1
    have A7 := A6.bel b7
    have q5 : ((y.1.start + y.2.length) % 4294967296 == (y.1.start + (y.2.length : Int) % 4294967296) % 4294967296) = true := by
      rw [beq_iff_eq]; omega
    simp only [Part.b0 A7, Part.b1 A7, Part.b2 A7, ht.1.len By.und34, cv323, u32w, q5, go_sem]
    refine (k17 (((S4.bel b5).bel b6).bel b7)).bind ?_
    rintro ⟨_, w8⟩ ⟨h1, b8⟩
    simp only at h1 b8
    rw [one_map (y := -1) hf (by show _ = (y.1.start + -1) % 4294967296; omega) (by omega) (by omega)] at h1
    have e4 : ((toM y).start + oneZ (toM y) (-1)) % 4294967296 = (y.1.start - 1) % 4294967296 := rfl
    rw [e4] at h1
    subst h1
    have A8 := A7.bel b8
    simp only [Part.b0 A8, cv323, u32w, beq_self_eq_true, go_sem]
    refine (k17 ((((S4.bel b5).bel b6).bel b7).bel b8)).bind ?_
    rintro ⟨_, w9⟩ ⟨h1, b9⟩
    simp only at h1 b9
    rw [one_map (y := 9000) hf (by show _ = (y.1.start + 9000) % 4294967296; omega) (by omega) (by omega)] at h1
    have e5 : ((toM y).start + oneZ (toM y) 9000) % 4294967296 = (y.1.start + (9000 + (y.2.length - y.1.was))) % 4294967296 := by
      unfold oneZ
      rw [if_pos (by omega), if_neg (show ¬ 9000 < (toM y).was from by show ¬ 9000 < y.1.was; omega)]
      rfl
    rw [e5] at h1
    subst h1
    have A9 := A8.bel b9
    have q6 : ((y.1.start + (9000 + (y.2.length - y.1.was))) % 4294967296 == ((y.1.start + 9000) % 4294967296 + ((y.2.length : Int) % 4294967296 - y.1.was % 4294967296) % 4294967296) % 4294967296) = true := by
      rw [beq_iff_eq]; omega
    simp only [Part.b0 A9, Part.b2 A6, u32w, q6, eq_self, and_self, go_sem]
    exact .ret ⟨rfl, hb.trans ((((((((b3.trans bd).trans b4).trans b5).trans b6).trans b7).trans b8).trans b9))⟩
  · have : ((addM [] (toM y)).1 != 0) = true := by simpa using a1
    simp only [this, go_sem]
    have bd : Bel w3 w3.drew := (Bel.refl _).drew
    refine k13.bind ?_
    rintro ⟨_, w4⟩ ⟨h1, b4⟩
    simp only at h1 b4
    subst h1
    rw [a2] at S
    have S4 := (S.bel bd).bel b4
    have A4 := A.bel ((b3.trans bd).trans b4)
    simp only [go_sem]
    refine (k21 S4).bind ?_
    rintro _ rfl
    have : ((([] : List M).length : Int) == 0) = true := rfl
    simp only [this, Part.b0 A4, go_sem]
    refine (k17 S4).bind ?_
    rintro ⟨_, w5⟩ ⟨h1, b5⟩
    simp only at h1 b5
    subst h1
    have e : mapC y.1.start (cellsOf 0 []) = y.1.start := rfl
    simp only [e, Part.b0 (A4.bel b5), beq_self_eq_true, eq_self, and_self, go_sem]
    exact .ret ⟨rfl, hb.trans (((b3.trans bd).trans b4).trans b5)⟩

theorem law6 {v0 : Value} {n0 : Nat} {k : Int} {w : World} {r0 : Reach} {b0 : Nat} (ho0 : Value.okWide Try.prog w r0 b0 41 v0) (h0 : Okc Try.prog w n0 41 v0.cells.toList) (hk : (Lit.int .u8 k).wf = true) :
    Calls Try.prog 6 #[v0, .int .u8 k] w fun e w' => e = .returned (.bool true) ∧ Below w.heap.size w w' := by
  obtain ⟨y, rfl, ht⟩ := part_of ho0 h0
  obtain ⟨d, rfl, hd⟩ := wf_u rfl hk
  have : (2 : Nat) ^ (IntKind.u8).bits = 256 := by decide +kernel
  exact law_of (l6 ht ⟨by omega, by omega⟩) fun _ => c6

/-! ## Of nil -/

theorem k23n {w : World} {s m : Int} : Brings (Xcall Try.prog (Value.func (Fn.func 23) #[] #[]) #[.pointer none, .int .u32 s, .int .i64 m] w) (fun r => r.1 = .tuple #[.slice none 0 0, .bool false] ∧ Bel w r.2) := by
  refine e23 ?_
  unfold s23
  simp only [go_sem, Qb_eqlP (P := Try.prog) (t := 24) (e := 66) ptr24, Option.isNone_none]
  exact .ret ⟨rfl, ((Bel.refl w).alloc _).alloc _⟩
theorem k21n {w : World} : Brings (Xcall Try.prog (Value.func (Fn.func 21) #[] #[]) #[.pointer none] w) (fun r => r = (.int .i64 0, w)) := by
  refine e21 ?_
  unfold s21
  simp only [go_sem, Qb_eqlP (P := Try.prog) (t := 24) (e := 66) ptr24, Option.isNone_none]
  exact .ret rfl
theorem k24n {w : World} : Brings (Xcall Try.prog (Value.func (Fn.func 24) #[] #[]) #[.pointer none] w) (fun r => r = (.pointer none, w)) := by
  refine e24 ?_
  unfold s24
  simp only [go_sem, Qb_eqlP (P := Try.prog) (t := 24) (e := 66) ptr24, Option.isNone_none]
  exact .ret rfl
theorem k20n {w : World} {s m : Int} {v : Value} : Brings (Xcall Try.prog (Value.func (Fn.func 20) #[] #[]) #[.pointer none, .int .u32 s, .int .i64 m, v] w) (fun r => r.1 = .int .i64 1 ∧ Bel w r.2) := by
  refine e20 ?_
  unfold s20
  have V0 := Locals.nil w
  have V1 := V0.add rfl (.cells #[.int .u32 s] 23)
  have V2 := V1.add (by simp) (.cells #[.int .i64 0] 37)
  simp only [go_sem, alloc37, World.size_alloc, Qb_eqlP (P := Try.prog) (t := 24) (e := 66) ptr24, Option.isNone_none]
  generalize (w.alloc (.cells #[.int .u32 s] 23)).alloc (.cells #[.int .i64 0] 37) = w2 at V2
  have V2 : Locals w [.cells #[.int .u32 s] 23, .cells #[.int .i64 0] 37] w2 := V2
  have rv2 : w2.heap[w.heap.size + 1]? = some (.cells #[.int .i64 0] 37) := V2.at_ 1 _ rfl
  have V3 := V2.row (j := 1) rfl rfl #[.int .i64 1]
  have r3 : (w2.setRow (w.heap.size + 1) #[.int .i64 1]).heap[w.heap.size + 1]? = some (.cells #[.int .i64 1] 37) := V3.at_ 1 _ rfl
  simp only [store37 rv2, load37 r3, go_sem]
  exact .ret ⟨rfl, V3.bel⟩
theorem k16n {w : World} {n : Int} : Brings (Xcall Try.prog (Value.func (Fn.func 16) #[] #[]) #[.pointer none, .int .u32 n] w) (fun r => r.1 = .int .u32 0 ∧ Bel w r.2) := by
  refine e16 ?_
  unfold s16
  have V0 := Locals.nil w
  have V1 := V0.add rfl (.cells #[.int .u32 n] 23)
  have V2 := V1.add (by simp) (.cells #[.int .u32 0] 23)
  simp only [go_sem, alloc23, World.size_alloc, Qb_eqlP (P := Try.prog) (t := 24) (e := 66) ptr24, Option.isNone_none]
  generalize (w.alloc (.cells #[.int .u32 n] 23)).alloc (.cells #[.int .u32 0] 23) = w2 at V2
  have V2 : Locals w [.cells #[.int .u32 n] 23, .cells #[.int .u32 0] 23] w2 := V2
  have rv2 : w2.heap[w.heap.size + 1]? = some (.cells #[.int .u32 0] 23) := V2.at_ 1 _ rfl
  have V3 := V2.row (j := 1) rfl rfl #[.int .u32 0]
  have r3 : (w2.setRow (w.heap.size + 1) #[.int .u32 0]).cell? ⟨w.heap.size + 1, 0, none⟩ = some (.int .u32 0) := V3.cell (j := 1) rfl
  simp only [store23 rv2, Qload_cell one23 r3, go_sem]
  exact .ret ⟨rfl, V3.bel⟩
theorem k17n {w : World} {n : Int} : Brings (Xcall Try.prog (Value.func (Fn.func 17) #[] #[]) #[.pointer none, .int .u32 n] w) (fun r => r.1 = .int .u32 0 ∧ Bel w r.2) := by
  refine e17 ?_
  unfold s17 s17M0
  have V0 := Locals.nil w
  have V1 := V0.add rfl (.cells #[.int .u32 n] 23)
  have V2 := V1.add (by simp) (.cells #[.int .u32 0] 23)
  simp only [go_sem, alloc23, World.size_alloc, Qb_eqlP (P := Try.prog) (t := 24) (e := 66) ptr24, Option.isNone_none]
  have e : takeAll Try.prog [] (w.alloc (.cells #[.int .u32 n] 23)) = some (w.alloc (.cells #[.int .u32 n] 23)) := nonrfl rfl
  simp only [e, go_sem]
  exact .ret ⟨rfl, (Bel.refl w).alloc _⟩

/-! ## Empty -/

theorem l9 {w : World} {y : Part × List By} {n : Int} (ht : Came w y) : Brings (s9 (.int .u32 n) y.1.v w) (Yes w) := by
  unfold s9
  have A := y.1.new w
  have hb : Bel w (w.alloc (.cells y.1.cs.toArray 41)) := (Bel.refl w).alloc _
  rw [y.1.box]
  simp only [go_sem]
  generalize w.alloc (.cells y.1.cs.toArray 41) = w1 at A hb
  generalize w.heap.size = p at A
  refine (one_new (Bel.refl w1) (fun _ => False) fun _ f => f.elim).bind ?_
  rintro ⟨_, w2⟩ ⟨a, h1, b2, o2⟩
  simp only at h1 b2 o2
  subst h1
  obtain ⟨sa, Z, S⟩ := o2.st
  have A2 := A.bel b2
  simp only [Part.b0 A2, Part.b1 A2, go_sem]
  refine k23n.bind ?_
  rintro ⟨_, w3⟩ ⟨h1, b3⟩
  simp only at h1 b3
  subst h1
  have A3 := A2.bel b3
  simp only [Part.b0 A3, Part.b1 A3, go_sem]
  refine (k23 (S.bel b3) fine_nil).bind ?_
  rintro ⟨_, w4⟩ ⟨b4, v, e4, o4, _⟩
  simp only at e4 b4 o4
  subst e4
  have hfn : findM [] y.1.start y.1.was = none := rfl
  rw [hfn] at o4
  simp only [hfn, go_sem]
  refine k13.bind ?_
  rintro ⟨_, w5⟩ ⟨h1, b5⟩
  simp only at h1 b5
  subst h1
  simp only [go_sem]
  have S5 := ((S.bel b3).bel b4).bel b5
  refine (k17 S5).bind ?_
  rintro ⟨_, w6⟩ ⟨h1, b6⟩
  simp only at h1 b6
  have em : mapC n (cellsOf 0 []) = n := rfl
  rw [em] at h1
  subst h1
  simp only [beq_self_eq_true, go_sem]
  refine (k16 (S5.bel b6)).bind ?_
  rintro ⟨_, w7⟩ ⟨h1, b7⟩
  simp only at h1 b7
  have eu : unmapC n (cellsOf 0 []) = n := rfl
  rw [eu] at h1
  subst h1
  simp only [beq_self_eq_true, go_sem]
  refine (k21 ((S5.bel b6).bel b7)).bind ?_
  rintro _ rfl
  have e0 : ((([] : List M).length : Int) == 0) = true := rfl
  have e1 : ((([] : List By).length : Int) == 0) = true := rfl
  have B7 := (((b3.trans b4).trans b5).trans b6).trans b7
  have A7 := A2.bel B7
  simp only [e0, Option.isSome_none, Bool.not_false, o4.view.len By.und34, Option.getD_none, e1, Part.b0 A7, Part.b1 A7, Part.b2 A7, go_sem]
  refine k20n.bind ?_
  rintro ⟨_, w8⟩ ⟨h1, b8⟩
  simp only at h1 b8
  subst h1
  have e2 : Qlen Try.prog #[34] 3 #[.slice none 0 0] w8 = some (.int .i64 0) := nonrfl rfl
  simp only [e2, beq_self_eq_true, Bool.not_false, go_sem]
  refine k17n.bind ?_
  rintro ⟨_, w9⟩ ⟨h1, b9⟩
  simp only at h1 b9
  subst h1
  simp only [beq_self_eq_true, go_sem]
  refine k16n.bind ?_
  rintro ⟨_, w10⟩ ⟨h1, b10⟩
  simp only at h1 b10
  subst h1
  simp only [beq_self_eq_true, go_sem]
  refine k21n.bind ?_
  rintro _ rfl
  simp only [beq_self_eq_true, go_sem]
  refine k24n.bind ?_
  rintro _ rfl
  simp only [Qb_eqlP (P := Try.prog) (t := 24) (e := 66) ptr24, Option.isNone_none, Part.b0 (A7.bel b8), go_sem]
  exact .ret ⟨rfl, hb.trans ((((b2.trans B7).trans b8).trans b9).trans b10)⟩

theorem law9 {v0 : Value} {n0 : Nat} {m : Int} {w : World} {r0 : Reach} {b0 : Nat} (_ : (Lit.int .u32 m).wf = true) (ho0 : Value.okWide Try.prog w r0 b0 41 v0) (h0 : Okc Try.prog w n0 41 v0.cells.toList) :
    Calls Try.prog 9 #[.int .u32 m, v0] w fun e w' => e = .returned (.bool true) ∧ Below w.heap.size w w' := by
  obtain ⟨y, rfl, ht⟩ := part_of ho0 h0
  exact law_of (l9 ht) fun _ => c9

end Go.Proofs.Ytfakpdegiobpaaa
