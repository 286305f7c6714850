/- The pool: what is free; given back; new; a fork. -/
import Derived.Test.YtebhknagnkcldaaDoorPo2
namespace Go.Proofs.YtebhknagnkcldaaDoor
open Go Go.Ev Go.RowKit
open Go.Proofs

theorem or_bit {x k j : Nat} : (x ||| 2 ^ k).testBit j = (x.testBit j || decide (k = j)) := by
  rw [Nat.testBit_or, Nat.testBit_two_pow]
theorem not_bit {x k j : Nat} (hk : k < 64) (hj : j < 64) : (x &&& (2 ^ 64 - 1 - 2 ^ k)).testBit j = (x.testBit j && decide (k ≠ j)) := by
  have hlt : 2 ^ k < 2 ^ 64 := Nat.pow_lt_pow_right (by omega) hk
  rw [Nat.testBit_and, show 2 ^ 64 - 1 - 2 ^ k = 2 ^ 64 - (2 ^ k + 1) by omega, Nat.testBit_two_pow_sub_succ hlt, Nat.testBit_two_pow]
  have : decide (j < 64) = true := by simpa using hj
  simp [this]

theorem words_set {W U : List Nat} (h : Words W U) {n x : Nat} (hn : n < 65536) (hx : W.getD (n / 64) 0 = x) (hx2 : x < 2 ^ 64) : Words (W.set (n / 64) (x ||| 2 ^ (n % 64))) (ins n U) := by
  have m64 : n % 64 < 64 := Nat.mod_lt _ (by omega)
  refine h.turn (by omega) (Nat.or_lt_two_pow hx2 (Nat.pow_lt_pow_right (by omega) m64)) (fun k hk => ?_) (fun m hm hne => ?_)
  · have hb := h.bit (64 * (n / 64) + k) (by omega)
    rw [show (64 * (n / 64) + k) / 64 = n / 64 by omega, show (64 * (n / 64) + k) % 64 = k by omega, hx] at hb
    rw [or_bit, hb, Bool.eq_iff_iff]
    simp only [Bool.or_eq_true, decide_eq_true_eq, mem_ins]
    constructor
    · rintro (h | h)
      · exact .inr h
      · exact .inl (by omega)
    · rintro (h | h)
      · exact .inr (by omega)
      · exact .inl h
  · rw [mem_ins]
    constructor
    · exact .inr
    · rintro (h | h)
      · exact absurd (by rw [h]) hne
      · exact h
theorem words_clear {W U : List Nat} (h : Words W U) {n x : Nat} (hn : n < 65536) (hx : W.getD (n / 64) 0 = x) (hx2 : x < 2 ^ 64) : Words (W.set (n / 64) (x &&& (2 ^ 64 - 1 - 2 ^ (n % 64)))) (U.filter fun k => decide (k ≠ n)) := by
  have m64 : n % 64 < 64 := Nat.mod_lt _ (by omega)
  refine h.turn (by omega) (Nat.lt_of_le_of_lt Nat.and_le_left hx2) (fun k hk => ?_) (fun m hm hne => ?_)
  · have hb := h.bit (64 * (n / 64) + k) (by omega)
    rw [show (64 * (n / 64) + k) / 64 = n / 64 by omega, show (64 * (n / 64) + k) % 64 = k by omega, hx] at hb
    rw [not_bit m64 hk, hb, Bool.eq_iff_iff]
    simp only [Bool.and_eq_true, decide_eq_true_eq, List.mem_filter]
    constructor
    · rintro ⟨h1, h2⟩
      exact ⟨h1, by omega⟩
    · rintro ⟨h1, h2⟩
      exact ⟨h1, by omega⟩
  · simp only [List.mem_filter, decide_eq_true_eq]
    constructor
    · intro hm
      exact ⟨hm, fun e => hne (by rw [e])⟩
    · exact fun h => h.1

/-- What is free, so many from one on. -/
def okN (lo hi : Nat) (U : List Nat) (n : Nat) : Bool := decide (lo ≤ n) && decide (n ≤ hi) && decide (n ∉ U)
def freeN (lo hi : Nat) (U : List Nat) (n m : Nat) : Bool := (List.range m).all fun i => okN lo hi U (n + i)

theorem ok_lo {lo hi n : Nat} {U : List Nat} (h : n < lo) : okN lo hi U n = false := by
  have : decide (lo ≤ n) = false := by
    rw [decide_eq_false_iff_not]
    omega
  unfold okN
  rw [this]; rfl
theorem ok_hi {lo hi n : Nat} {U : List Nat} (h : hi < n) : okN lo hi U n = false := by
  have : decide (n ≤ hi) = false := by
    rw [decide_eq_false_iff_not]
    omega
  unfold okN
  rw [this, Bool.and_false]; rfl

theorem k33 {w : World} {a lo hi n m : Nat} {U : List Nat} (h : Pl w a lo hi U) (hn : n < 65537) (hm : m ≤ 2) : Brings (Xcall Tryd.prog (Value.func (Fn.func 33) #[] #[]) #[.pointer (some ⟨a, 0, none⟩), .int .i64 (n : Int), .int .i64 (m : Int)] w) (fun r => r = (.bool (freeN lo hi U n m), w)) := by
  refine e33 ?_
  unfold s33
  refine Brings.loop (fun r xs w' => ∃ i : Nat, xs = [.pointer (some ⟨a, 0, none⟩), .int .i64 (n : Int), .bool false, .int .i64 (m : Int), .int .i64 (i : Int)] ∧ i ≤ m ∧ r = m - i ∧ w' = w ∧ ∀ j, j < i → okN lo hi U (n + j) = true) ?_ m _ _
    ⟨0, rfl, by omega, by omega, rfl, by omega⟩
  rintro r xs w' ⟨i, rfl, hi', hr, rfl, hall⟩
  have hP := h
  obtain ⟨hb, W, hW, ha⟩ := h
  simp only [s33B0, go_sem]
  refine .cond (fun hlt => ?_) (fun hlt => ?_)
  · have hlt : i < m := by
      have : (i : Int) < m := by simpa using hlt
      omega
    have e1 : IntKind.i64.wrap ((n : Int) + i) = ((n + i : Nat) : Int) := by rw [wrap_i64 (by omega) (by omega)]; rfl
    have e2 : IntKind.i64.wrap ((i : Int) + 1) = ((i + 1 : Nat) : Int) := by rw [wrap_i64 (by omega) (by omega)]; rfl
    have bad : okN lo hi U (n + i) = false → freeN lo hi U n m = false := fun hf => by
      unfold freeN
      rw [List.all_eq_false]
      exact ⟨i, by simpa using hlt, by simpa using hf⟩
    simp only [e1, fa53x0, fa53x1, pl_lo ha, pl_hi ha, go_sem]
    by_cases c1 : n + i < lo
    · have d1 : decide (((n + i : Nat) : Int) < (lo : Int)) = true := by rw [decide_eq_true_iff]; omega
      simp only [d1, go_sem]
      refine .ret (.inr ⟨by simp, .ret ?_⟩)
      rw [bad (ok_lo c1)]
    · have d1 : decide (((n + i : Nat) : Int) < (lo : Int)) = false := by rw [decide_eq_false_iff_not]; omega
      by_cases c2 : hi < n + i
      · have d2 : decide ((hi : Int) < ((n + i : Nat) : Int)) = true := by rw [decide_eq_true_iff]; omega
        simp only [d1, d2, e1, fa53x1, pl_hi ha, go_sem]
        refine .ret (.inr ⟨by simp, .ret ?_⟩)
        rw [bad (ok_hi c2)]
      · have d2 : decide ((hi : Int) < ((n + i : Nat) : Int)) = false := by rw [decide_eq_false_iff_not]; omega
        have hh := hb.hi1
        have cv : Qconv Tryd.prog 3 22 (.int .i64 ((n + i : Nat) : Int)) = some (.int .u16 ((n + i : Nat) : Int)) := by
          rw [Qconv_int (k := .u16) (by kernel_rfl), wrap_u rfl (show n + i < 2 ^ IntKind.u16.bits by show n + i < 65536; omega)]
        simp only [d1, d2, e1, cv, fa53x1, pl_hi ha, go_sem]
        refine (k16 hP (show n + i < 65536 by omega)).bind ?_
        rintro _ rfl
        by_cases c3 : n + i ∈ U
        · simp only [c3, decide_true, go_sem]
          refine .ret (.inr ⟨by simp, .ret ?_⟩)
          rw [bad (by unfold okN; simp [c3])]
        · simp only [c3, decide_false, go_sem]
          rw [e2]
          refine .ret (.inl ⟨rfl, m - (i + 1), by omega, i + 1, rfl, by omega, rfl, rfl, fun j hj => ?_⟩)
          rcases Nat.lt_or_ge j i with h | h
          · exact hall j h
          · have : j = i := by omega
            subst this
            unfold okN
            have q1 : decide (lo ≤ n + j) = true := by rw [decide_eq_true_iff]; omega
            have q2 : decide (n + j ≤ hi) = true := by rw [decide_eq_true_iff]; omega
            simp [q1, q2, c3]
  · have : i = m := by
      have : ¬ (i : Int) < m := by simpa using hlt
      omega
    subst this
    refine .ret (.inr ⟨by simp, .ret ?_⟩)
    have : freeN lo hi U n i = true := by
      unfold freeN
      rw [List.all_eq_true]
      exact fun j hj => hall j (by simpa using hj)
    rw [this]

theorem Bnd.filter {lo hi : Nat} {U : List Nat} (h : Bnd lo hi U) (p : Nat → Bool) : Bnd lo hi (U.filter p) := ⟨h.lo1, h.le, h.hi1, asc_filter p h.asc, fun u hu => h.mem u (List.mem_filter.1 hu).1⟩
theorem Bnd.ins {lo hi n : Nat} {U : List Nat} (h : Bnd lo hi U) (h1 : okN lo hi U n = true) : Bnd lo hi (ins n U) := by
  unfold okN at h1
  simp only [Bool.and_eq_true, decide_eq_true_eq] at h1
  exact ⟨h.lo1, h.le, h.hi1, asc_ins h.asc h1.2, fun u hu => by
    rcases mem_ins.1 hu with rfl | hu
    · exact h1.1
    · exact h.mem u hu⟩

/-- Given back. -/
def giveN (U : List Nat) (n : Nat) : Int × List Nat := if n ∈ U then (0, U.filter fun k => decide (k ≠ n)) else (11, U)

theorem k18 {w : World} {a lo hi n : Nat} {U : List Nat} (h : Pl w a lo hi U) (hn : n < 65536) : Brings (Xcall Tryd.prog (Value.func (Fn.func 18) #[] #[]) #[.pointer (some ⟨a, 0, none⟩), .int .u16 (n : Int)] w) (fun r => r.1 = .int .i64 (giveN U n).1 ∧ Chg (fun k => k = a) w r.2 ∧ Pl r.2 a lo hi (giveN U n).2) := by
  refine e18 ?_
  unfold s18
  simp only [go_sem, Qb_eqlP (P := Tryd.prog) (t := 24) (e := 53) ptr24, Option.isNone_some]
  refine (k16 h hn).bind ?_
  rintro _ rfl
  unfold giveN
  by_cases c : n ∈ U
  · have hb' := h.1
    have hd := h.bel ((Bel.refl w).drew)
    obtain ⟨hb, W, hW, ha⟩ := hd
    have n64 : (64 : Int) ≠ 0 := by decide
    have d1 : (n : Int).tdiv 64 = ((n / 64 : Nat) : Int) := by rw [Int.tdiv_eq_ediv_of_nonneg (by omega)]; omega
    have d2 : (n : Int).tmod 64 = ((n % 64 : Nat) : Int) := by rw [Int.tmod_eq_emod_of_nonneg (by omega)]; omega
    have d3 : IntKind.u16.wrap ((n / 64 : Nat) : Int) = ((n / 64 : Nat) : Int) := wrap_u rfl (Nat.lt_of_le_of_lt (Nat.div_le_self _ _) hn)
    obtain ⟨x, hx, hx2, hx3⟩ := hW.at_ (i := n / 64) (by omega)
    have m64 : n % 64 < 64 := Nat.mod_lt _ (by omega)
    have p64 : 2 ^ (n % 64) < 2 ^ 64 := Nat.pow_lt_pow_right (by omega) m64
    have sh : Qbin Tryd.prog .shl 50 (.int .u64 1) (.int .u16 ((n % 64 : Nat) : Int)) = some (wordV (2 ^ (n % 64))) := by
      rw [Qb_shl (by omega)]
      have d4 : min ((n % 64 : Nat) : Int).toNat IntKind.u64.bits = n % 64 := by
        rw [Int.toNat_natCast]
        exact Nat.min_eq_left (by show n % 64 ≤ 64; omega)
      rw [d4, show (1 : Int) * 2 ^ (n % 64) = ((2 ^ (n % 64) : Nat) : Int) by simp, wrap_u rfl p64]
      rfl
    have an : Qbin Tryd.prog .andNot 50 (wordV x) (wordV (2 ^ (n % 64))) = some (wordV (x &&& (2 ^ 64 - 1 - 2 ^ (n % 64)))) := by
      unfold wordV
      rw [Qb_andNot, iandNot_u (k := .u64) rfl hx3 p64]
      rfl
    obtain ⟨w', e1, e2, e3⟩ := pl_set ha hW.len (x &&& (2 ^ 64 - 1 - 2 ^ (n % 64))) (show n / 64 < 1024 by omega)
    simp only [c, decide_true, Bool.not_true, Qb_quoP n64, Qb_remP n64, d1, d2, d3, fa53x2, at51 w.drew (show n / 64 < 1024 by omega), pl_at ha hx, sh, an, e1, go_sem]
    exact .ret ⟨rfl, ((Bel.refl w).drew).thenChg e3, hb.filter _, _, words_clear hW hn hx2 hx3, e2⟩
  · simp only [c, decide_false, Bool.not_false, go_sem]
    exact .ret ⟨rfl, .of_bel (Bel.refl _) _, h⟩

theorem words_nil : Words (List.replicate 1024 0) [] := by
  refine ⟨List.length_replicate, fun x hx => by rw [List.eq_of_mem_replicate hx]; decide, fun n hn => ?_⟩
  have : (List.replicate 1024 0).getD (n / 64) 0 = 0 := by
    rw [List.getD_eq_getElem?_getD, List.getElem?_replicate]
    split <;> rfl
  rw [this]
  simp

def mayNew (lo hi : Nat) : Bool := decide (lo ≠ 0) && decide (lo ≤ hi)
theorem new_lt {lo hi : Nat} (h : hi < lo) : mayNew lo hi = false := by
  have : decide (lo ≤ hi) = false := by
    rw [decide_eq_false_iff_not]
    omega
  unfold mayNew
  rw [this, Bool.and_false]
theorem k23 {w : World} {lo hi : Nat} (h1 : lo < 65536) (h2 : hi < 65536) : Brings (Xcall Tryd.prog (Value.func (Fn.func 23) #[] #[]) #[.int .u16 (lo : Int), .int .u16 (hi : Int)] w)
    (fun r => Bel w r.2 ∧ ((mayNew lo hi = false ∧ r.1 = .pointer none) ∨ (mayNew lo hi = true ∧ ∃ a, r.1 = .pointer (some ⟨a, 0, none⟩) ∧ w.heap.size ≤ a ∧ Pl r.2 a lo hi []))) := by
  refine e23 ?_
  unfold s23
  have cv : ∀ n : Nat, n < 65536 → Qconv Tryd.prog 22 3 (.int .u16 (n : Int)) = some (.int .i64 (n : Int)) := fun n hn => by rw [Qconv_int (k := .i64) (by kernel_rfl), wrap_i64 (by omega) (by omega)]
  simp only [go_sem]
  by_cases c1 : lo = 0
  · have : ((lo : Int) == 0) = true := by simpa using c1
    simp only [this, go_sem]
    exact .ret ⟨Bel.refl _, .inl ⟨by unfold mayNew; simp [c1], rfl⟩⟩
  · have e1 : ((lo : Int) == 0) = false := by simpa using c1
    by_cases c2 : hi < lo
    · have : decide ((hi : Int) < (lo : Int)) = true := by rw [decide_eq_true_iff]; omega
      simp only [e1, this, go_sem]
      exact .ret ⟨Bel.refl _, .inl ⟨new_lt c2, rfl⟩⟩
    · have : decide ((hi : Int) < (lo : Int)) = false := by rw [decide_eq_false_iff_not]; omega
      simp only [e1, this, cv lo h1, cv hi h2, build53, box53, go_sem]
      refine .ret ⟨(Bel.refl w).alloc _, .inr ⟨by unfold mayNew; simp [c1]; omega, w.heap.size, rfl, Nat.le_refl _, ⟨by omega, by omega, h2, List.Pairwise.nil, fun u hu => by cases hu⟩, _, words_nil, (MapKept.heap_alloc w _).1⟩⟩

theorem inf53z (w : World) : Xalloc Tryd.prog 53 w = some (.pointer (some ⟨w.heap.size, 0, none⟩), w.alloc (.cells (plCs 0 0 (List.replicate 1024 0)).toArray 53)) := Xalloc_eq (zero53 w)
theorem pl_size {lo hi : Nat} {W : List Nat} (h : W.length = 1024) : (plCs lo hi W).length = 1026 := by simp [plCs, h]
theorem pl_one (lo hi : Nat) (W : List Nat) : ∀ u ∈ plCs lo hi W, u.oneCell' = true := by
  intro u hu
  unfold plCs at hu
  rcases List.mem_append.1 hu with hu | hu
  · simp at hu; rcases hu with rfl | rfl <;> rfl
  · obtain ⟨x, _, rfl⟩ := List.mem_map.1 hu; rfl
theorem k20 {w : World} {a lo hi : Nat} {U : List Nat} (h : Pl w a lo hi U) : Brings (Xcall Tryd.prog (Value.func (Fn.func 20) #[] #[]) #[.pointer (some ⟨a, 0, none⟩)] w) (fun r => ∃ b, r.1 = .pointer (some ⟨b, 0, none⟩) ∧ Bel w r.2 ∧ w.heap.size ≤ b ∧ Pl r.2 b lo hi U) := by
  refine e20 ?_
  unfold s20
  obtain ⟨hb, W, hW, ha⟩ := h
  obtain ⟨ti, hti, hts⟩ := inf53
  have ld : Qload Tryd.prog 53 (.pointer (some ⟨a, 0, none⟩)) w = some (.agg (plCs lo hi W).toArray) := Qload_cells Tryd.underlying53 hti (by rw [hts, pl_size hW.len]) (CellsAt.of ha)
  have st : Xstore Tryd.prog 53 (.pointer (some ⟨w.heap.size, 0, none⟩)) (.agg (plCs lo hi W).toArray) (w.alloc (.cells (plCs 0 0 (List.replicate 1024 0)).toArray 53)) = some (undef, (w.alloc (.cells (plCs 0 0 (List.replicate 1024 0)).toArray 53)).setRow w.heap.size (plCs lo hi W).toArray) :=
    Xstore_var (v := .agg (plCs lo hi W).toArray) hti (by rw [hts]; show (plCs lo hi W).toArray.size = 1026; rw [List.size_toArray, pl_size hW.len]) (MapKept.heap_alloc w _).1 (by rw [hts, List.size_toArray, pl_size List.length_replicate]) (fun u hu => pl_one lo hi W u (by simpa [Value.cells] using hu))
  simp only [go_sem, Qb_eqlP (P := Tryd.prog) (t := 24) (e := 53) ptr24, Option.isNone_some, ld, inf53z, st]
  exact .ret ⟨w.heap.size, rfl, local_bel w _ _, Nat.le_refl _, hb, W, hW, setRow_heap _ _ _ _ 53 _ (MapKept.heap_alloc w _).1⟩

end Go.Proofs.YtebhknagnkcldaaDoor
