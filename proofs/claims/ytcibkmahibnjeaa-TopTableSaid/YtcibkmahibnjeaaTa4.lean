/- Keys and their numbers; the order of rows. -/
import Derived.Test.YtcibkmahibnjeaaTa3
import Derived.Test.YtcibkmahibnjeaaFe
import Derived.Test.YtcibkmahibnjeaaFk
import Derived.Test.YtcibkmahibnjeaaFo
namespace Go.Proofs.Ytcibkmahibnjeaa
open Go Go.Ev Go.RowKit
open Go.Proofs

theorem oneOf_1 (v : Value) : oneOf [v] = v := rfl
theorem oneOf_2 (v u : Value) : oneOf [v, u] = .tuple #[v, u] := rfl

def keyM (t : Tup) : Tup := if t.proto = 47 then { t with srcPort := 0 } else t

theorem inf23 : ∃ i, Try.prog.info? 23 = some i ∧ i.size = 1 := ⟨(Try.prog.info? 23).get (by kernel_rfl), by kernel_rfl, by kernel_rfl⟩
/-- A port is struck. -/
theorem strike {w : World} {g : Nat} {x : Tup} (hg : w.heap[g]? = some (.cells x.cs.toArray 37 (0, 0))) : Xstore Try.prog 23 (.pointer (some ⟨g, 3, none⟩)) (.int .u16 0) w = some (undef, w.setRow g ({ x with srcPort := 0 } : Tup).cs.toArray) := by
  obtain ⟨i, hi, hs⟩ := inf23
  rw [Xstore_row (P := Try.prog) (t := 23) (v := .int .u16 0) hi (by rw [hs]; rfl) hg (o := 3) (by rw [hs]; simp [Tup.cs]) (by intro u hu; simp [Value.cells] at hu; subst hu; rfl), hs]
  rfl
theorem load37 {w : World} {g : Nat} {x : Tup} (hg : w.heap[g]? = some (.cells x.cs.toArray 37 (0, 0))) : Qload Try.prog 37 (.pointer (some ⟨g, 0, none⟩)) w = some x.v := Tup.all (CellsAt.of hg)
theorem build37 (p a b c d : Int) (w : World) : Qbuild Try.prog 37 #[(0, .int .u8 p), (1, .int .u32 a), (2, .int .u32 b), (3, .int .u16 c), (4, .int .u16 d)] w = some (⟨p, a, b, c, d⟩ : Tup).v := by kernel_rfl

theorem k32 {x : Tup} {w : World} : Brings (Xcall Try.prog (Value.func (Fn.func 32) #[] #[]) #[x.v] w) (fun r => r.1 = (keyM x).v ∧ Bel w r.2) := by
  refine e32 ?_
  unfold s32
  have V1 := (Locals.nil w).add rfl (.cells x.cs.toArray 37)
  have V2 := V1.add (by simp) (.cells Tup.zero.cs.toArray 37)
  simp only [x.box, alloc37, go_sem]
  simp only [World.size_alloc]
  have V2 : Locals w [.cells x.cs.toArray 37, .cells Tup.zero.cs.toArray 37] ((w.alloc (.cells x.cs.toArray 37)).alloc (.cells Tup.zero.cs.toArray 37)) := V2
  generalize (w.alloc (.cells x.cs.toArray 37)).alloc (.cells Tup.zero.cs.toArray 37) = w2 at V2
  have h0 : w2.heap[w.heap.size]? = some (.cells x.cs.toArray 37) := V2.at_ 0 _ rfl
  have A := CellsAt.of h0
  simp only [load37 h0, Tup.b1 A, Tup.b2 A, Tup.b3 A, Tup.b4 A, build37, Tup.eql, go_sem]
  by_cases c : x.proto = 47
  · have e : x = ⟨47, x.src, x.dst, x.srcPort, x.dstPort⟩ := by
      obtain ⟨p, a, b, c', d⟩ := x
      simp only at c
      subst c
      rfl
    rw [decide_eq_true e]
    have V3 := V2.row (j := 0) (k := w.heap.size) rfl rfl ({ x with srcPort := 0 } : Tup).cs.toArray
    simp only [strike h0, go_sem]
    generalize w2.setRow w.heap.size ({ x with srcPort := 0 } : Tup).cs.toArray = w3 at V3
    have h1 : w3.heap[w.heap.size + 1]? = some (.cells Tup.zero.cs.toArray 37) := V3.at_ 1 _ rfl
    have h2 : w3.heap[w.heap.size]? = some (.cells ({ x with srcPort := 0 } : Tup).cs.toArray 37) := V3.at_ 0 _ rfl
    have V4 := V3.row (j := 1) rfl rfl ({ x with srcPort := 0 } : Tup).cs.toArray
    have h3 : (w3.setRow (w.heap.size + 1) ({ x with srcPort := 0 } : Tup).cs.toArray).heap[w.heap.size + 1]? = some (.cells ({ x with srcPort := 0 } : Tup).cs.toArray 37) := V4.at_ 1 _ rfl
    simp only [load37 h2, store37 h1 rfl, load37 h3, go_sem, Option.map_some, oneOf_1]
    exact .ret ⟨by unfold keyM; rw [if_pos c], V4.bel⟩
  · have e : ¬ x = ⟨47, x.src, x.dst, x.srcPort, x.dstPort⟩ := fun e => c (by rw [e])
    rw [decide_eq_false e]
    have h1 : w2.heap[w.heap.size + 1]? = some (.cells Tup.zero.cs.toArray 37) := V2.at_ 1 _ rfl
    have V4 := V2.row (j := 1) rfl rfl x.cs.toArray
    have h3 : (w2.setRow (w.heap.size + 1) x.cs.toArray).heap[w.heap.size + 1]? = some (.cells x.cs.toArray 37) := V4.at_ 1 _ rfl
    simp only [load37 h0, store37 h1 rfl, load37 h3, go_sem, Option.map_some, oneOf_1]
    exact .ret ⟨by unfold keyM; rw [if_neg c], V4.bel⟩

theorem k18 {x : Tup} {w : World} : Brings (Xcall Try.prog (Value.func (Fn.func 18) #[] #[]) #[x.v] w) (fun r => r.1 = (keyM x).v ∧ Bel w r.2) := by
  refine e18 ?_
  unfold s18
  have V1 := (Locals.nil w).add rfl (.cells x.cs.toArray 37)
  have V2 := V1.add (by simp) (.cells Tup.zero.cs.toArray 37)
  simp only [x.box, alloc37, go_sem]
  simp only [World.size_alloc]
  have V2 : Locals w [.cells x.cs.toArray 37, .cells Tup.zero.cs.toArray 37] ((w.alloc (.cells x.cs.toArray 37)).alloc (.cells Tup.zero.cs.toArray 37)) := V2
  generalize (w.alloc (.cells x.cs.toArray 37)).alloc (.cells Tup.zero.cs.toArray 37) = w2 at V2
  have h0 : w2.heap[w.heap.size]? = some (.cells x.cs.toArray 37) := V2.at_ 0 _ rfl
  have A := CellsAt.of h0
  simp only [Tup.b0 A, go_sem]
  by_cases c : x.proto = 47
  · rw [beq_iff_eq.2 c]
    have V3 := V2.row (j := 0) (k := w.heap.size) rfl rfl ({ x with srcPort := 0 } : Tup).cs.toArray
    simp only [strike h0, go_sem]
    generalize w2.setRow w.heap.size ({ x with srcPort := 0 } : Tup).cs.toArray = w3 at V3
    have h1 : w3.heap[w.heap.size + 1]? = some (.cells Tup.zero.cs.toArray 37) := V3.at_ 1 _ rfl
    have h2 : w3.heap[w.heap.size]? = some (.cells ({ x with srcPort := 0 } : Tup).cs.toArray 37) := V3.at_ 0 _ rfl
    have V4 := V3.row (j := 1) rfl rfl ({ x with srcPort := 0 } : Tup).cs.toArray
    have h3 : (w3.setRow (w.heap.size + 1) ({ x with srcPort := 0 } : Tup).cs.toArray).heap[w.heap.size + 1]? = some (.cells ({ x with srcPort := 0 } : Tup).cs.toArray 37) := V4.at_ 1 _ rfl
    simp only [load37 h2, store37 h1 rfl, load37 h3, go_sem, Option.map_some, oneOf_1]
    exact .ret ⟨by unfold keyM; rw [if_pos c], V4.bel⟩
  · rw [show (x.proto == 47) = false by rw [beq_eq_false_iff_ne]; exact c]
    have h1 : w2.heap[w.heap.size + 1]? = some (.cells Tup.zero.cs.toArray 37) := V2.at_ 1 _ rfl
    have V4 := V2.row (j := 1) rfl rfl x.cs.toArray
    have h3 : (w2.setRow (w.heap.size + 1) x.cs.toArray).heap[w.heap.size + 1]? = some (.cells x.cs.toArray 37) := V4.at_ 1 _ rfl
    simp only [load37 h0, store37 h1 rfl, load37 h3, go_sem, Option.map_some, oneOf_1]
    exact .ret ⟨by unfold keyM; rw [if_neg c], V4.bel⟩

/-! ## The number of a key -/

def turnI (h v : Int) (n : Nat) : Int := IntKind.u32.wrap (ixor .u32 h (IntKind.u32.wrap (IntKind.u8.wrap (v.fdiv (2 ^ (8 * n))))) * 16777619)
def stepI (h v : Int) : Nat → Int
  | 0 => h
  | n + 1 => stepI (turnI h v n) v n

theorem zero35 (w : World) : (zeroValue 35).run Try.prog w = .ok (.int .u32 0) w := by kernel_rfl
theorem alloc35 (w : World) : Xalloc Try.prog 35 w = some (.pointer (some ⟨w.heap.size, 0, none⟩), w.alloc (.cells #[.int .u32 0] 35)) := Xalloc_eq (zero35 w)
theorem inf35 : ∃ i, Try.prog.info? 35 = some i ∧ i.size = 1 := ⟨(Try.prog.info? 35).get (by kernel_rfl), by kernel_rfl, by kernel_rfl⟩
theorem store35 {w : World} {g : Nat} {u : Value} {te : TypeId} {b : Int} (hg : w.heap[g]? = some (.cells #[u] te (0, 0))) : Xstore Try.prog 35 (.pointer (some ⟨g, 0, none⟩)) (.int .u32 b) w = some (undef, w.setRow g #[.int .u32 b]) := by
  obtain ⟨i, hi, hs⟩ := inf35
  exact Xstore_var (v := .int .u32 b) hi (by rw [hs]; rfl) hg (by rw [hs]; rfl) (by simp [Value.cells, Value.oneCell'])
theorem load35 {w : World} {g : Nat} {b : Int} (hg : w.heap[g]? = some (.cells #[.int .u32 b] 35 (0, 0))) : Qload Try.prog 35 (.pointer (some ⟨g, 0, none⟩)) w = some (.int .u32 b) := Qload_cell one35 (cell_at hg rfl)

theorem k59 {w : World} {g n : Nat} {h v : Int} (hg : w.heap[g]? = some (.cells #[.int .u32 h] 35)) (hn : n ≤ 8) : Brings (Xcall Try.prog (Value.func (Fn.func 59) #[] #[.pointer (some ⟨g, 0, none⟩)]) #[.int .u64 v, .int .i64 (n : Int)] w)
    (fun r => Chg (fun k => k = g) w r.2 ∧ r.2.heap[g]? = some (.cells #[.int .u32 (stepI h v n)] 35)) := by
  refine e59 ?_
  unfold s59
  refine Brings.loop (fun m xs w' => ∃ (i : Nat) (h' : Int), xs = [.int .u64 v, .int .i64 (i : Int), .pointer (some ⟨g, 0, none⟩)] ∧ i ≤ n ∧ m = i ∧ Chg (fun k => k = g) w w' ∧ w'.heap[g]? = some (.cells #[.int .u32 h'] 35) ∧ stepI h' v i = stepI h v n) ?_ n _ _
    ⟨n, h, rfl, Nat.le_refl _, rfl, Chg.refl _ _, hg, rfl⟩
  rintro m xs w' ⟨i, h', rfl, hi, rfl, c, hg', hs⟩
  simp only [s59B0, go_sem]
  refine .cond (fun hlt => ?_) (fun hlt => ?_)
  · obtain ⟨j, rfl⟩ : ∃ j, m = j + 1 := by
      have : (0 : Int) < m := by simpa using hlt
      exact ⟨m - 1, by omega⟩
    have hd : w'.drew.heap[g]? = some (.cells #[.int .u32 h'] 35) := hg'
    have s1 : IntKind.i64.wrap (((j + 1 : Nat) : Int) - 1) = (j : Int) := by rw [wrap_i64 (by omega) (by omega)]; omega
    have s2 : IntKind.i64.wrap (8 * (j : Int)) = ((8 * j : Nat) : Int) := by rw [wrap_i64 (by omega) (by omega)]; omega
    have mn : min (8 * j) IntKind.u64.bits = 8 * j := Nat.min_eq_left (by show 8 * j ≤ 64; omega)
    have cv1 : ∀ z, Qconv Try.prog 102 5 (.int .u64 z) = some (.int .u8 (IntKind.u8.wrap z)) := fun z => Qconv_int (k := .u8) (by kernel_rfl)
    have cv2 : ∀ z, Qconv Try.prog 5 35 (.int .u8 z) = some (.int .u32 (IntKind.u32.wrap z)) := fun z => Qconv_int (k := .u32) (by kernel_rfl)
    have sh : Qbin Try.prog .shr 102 (.int .u64 v) (.int .i64 ((8 * j : Nat) : Int)) = some (.int .u64 (v.fdiv (2 ^ (8 * j)))) := by
      rw [Qb_shr (by omega), Int.toNat_natCast, mn]
    simp only [load35 hd, s1, s2, sh, cv1, cv2, store35 hd, go_sem]
    refine .ret (.inl ⟨rfl, j, by omega, j, turnI h' v j, rfl, by omega, rfl, ?_, setRow_heap _ g _ _ 35 _ hd, ?_⟩)
    · exact (c.thenBel (Bel.refl _).drew).trans (setRow_chg _ _) fun _ _ h => h
    · exact hs
  · have : m = 0 := by
      have : ¬ (0 : Int) < m := by simpa using hlt
      omega
    subst this
    refine .ret (.inr ⟨by simp, .ret ⟨c, ?_⟩⟩)
    rw [← hs]
    exact hg'

def hashI (t : Tup) : Int :=
  let k := keyM t
  let a := stepI 2166136261 (IntKind.u64.wrap k.proto) 1
  let b := stepI a (ior .u64 (IntKind.u64.wrap (IntKind.u64.wrap k.src * 2 ^ 32)) (IntKind.u64.wrap k.dst)) 8
  stepI b (ior .u64 (IntKind.u64.wrap (IntKind.u64.wrap k.srcPort * 2 ^ 16)) (IntKind.u64.wrap k.dstPort)) 4

theorem k48 {x : Tup} {w : World} : Brings (Xcall Try.prog (Value.func (Fn.func 48) #[] #[]) #[x.v] w) (fun r => r.1 = .int .u32 (hashI x) ∧ Bel w r.2) := by
  refine e48 ?_
  unfold s48
  have A0 := x.new w
  have hb : Bel w (w.alloc (.cells x.cs.toArray 37)) := (Bel.refl w).alloc _
  rw [x.box]
  simp only [Tup.all A0, go_sem]
  generalize w.alloc (.cells x.cs.toArray 37) = w1 at hb
  refine k32.bind ?_
  rintro ⟨_, w2⟩ ⟨e2, b2⟩
  simp only at e2 b2
  subst e2
  simp only
  have V1 := (Locals.nil w2).add rfl (.cells Tup.zero.cs.toArray 37)
  have o1 : (w2.alloc (.cells Tup.zero.cs.toArray 37)).heap[w2.heap.size]? = some (.cells Tup.zero.cs.toArray 37) := V1.at_ 0 _ rfl
  have V2 := V1.row (j := 0) (k := w2.heap.size) rfl rfl (keyM x).cs.toArray
  have s2 : ((w2.alloc (.cells Tup.zero.cs.toArray 37)).setRow w2.heap.size (keyM x).cs.toArray).heap.size = w2.heap.size + 1 := by simp [World.setRow]
  simp only [alloc37, store37 o1 rfl, go_sem]
  generalize (w2.alloc (.cells Tup.zero.cs.toArray 37)).setRow w2.heap.size (keyM x).cs.toArray = w3 at V2 s2
  have V3 := V2.add (by rw [s2]; rfl) (.cells #[.int .u32 0] 35)
  have o3 : (w3.alloc (.cells #[.int .u32 0] 35)).heap[w2.heap.size + 1]? = some (.cells #[.int .u32 0] 35) := V3.at_ 1 _ rfl
  have V4 := V3.row (j := 1) rfl rfl #[.int .u32 2166136261]
  simp only [alloc35, s2, store35 o3, go_sem]
  generalize (w3.alloc (.cells #[.int .u32 0] 35)).setRow (w2.heap.size + 1) #[.int .u32 2166136261] = w4 at V4
  have k4 : w4.heap[w2.heap.size]? = some (.cells (keyM x).cs.toArray 37) := V4.at_ 0 _ rfl
  have g4 : w4.heap[w2.heap.size + 1]? = some (.cells #[.int .u32 2166136261] 35) := V4.at_ 1 _ rfl
  have cv1 : ∀ z, Qconv Try.prog 5 102 (.int .u8 z) = some (.int .u64 (IntKind.u64.wrap z)) := fun z => Qconv_int (k := .u64) (by kernel_rfl)
  have cv2 : ∀ z, Qconv Try.prog 35 102 (.int .u32 z) = some (.int .u64 (IntKind.u64.wrap z)) := fun z => Qconv_int (k := .u64) (by kernel_rfl)
  have cv3 : ∀ z, Qconv Try.prog 23 102 (.int .u16 z) = some (.int .u64 (IntKind.u64.wrap z)) := fun z => Qconv_int (k := .u64) (by kernel_rfl)
  simp only [Tup.b0 (CellsAt.of k4), cv1, go_sem]
  have ne : ¬ w2.heap.size = w2.heap.size + 1 := by omega
  refine (k59 (n := 1) g4 (by omega)).bind ?_
  rintro ⟨_, w5⟩ ⟨c5, g5⟩
  simp only at c5 g5
  have k5 := c5.at_ k4 ne
  simp only [Tup.b1 (CellsAt.of k5), Tup.b2 (CellsAt.of k5), cv2, go_sem]
  rw [Qb_shl (by omega)]
  simp only [go_sem]
  refine (k59 (n := 8) g5 (by omega)).bind ?_
  rintro ⟨_, w6⟩ ⟨c6, g6⟩
  simp only at c6 g6
  have k6 := c6.at_ k5 ne
  simp only [Tup.b3 (CellsAt.of k6), Tup.b4 (CellsAt.of k6), cv3, go_sem]
  rw [Qb_shl (by omega)]
  simp only [go_sem]
  refine (k59 (n := 4) g6 (by omega)).bind ?_
  rintro ⟨_, w7⟩ ⟨c7, g7⟩
  simp only at c7 g7
  simp only [load35 g7, go_sem]
  refine .ret ⟨rfl, (hb.trans b2).trans ?_⟩
  exact (V4.bel.thenChg ((c5.trans c6 fun _ _ h => h).trans c7 fun _ _ h => h)).bel fun k hk e => by omega

/-! ## Times -/

def mayT (till : Int) : Bool := decide (0 ≤ till) && decide (till ≤ 1099511627776)
theorem ptr25 : Try.prog.underlying 25 = some (.pointer 70) := by kernel_rfl
theorem ptr26 : Try.prog.underlying 26 = some (.pointer 87) := by kernel_rfl
theorem ptr76 : Try.prog.underlying 76 = some (.pointer 73) := by kernel_rfl
theorem k33 {w : World} {p : Addr} {till : Int} : Brings (Xcall Try.prog (Value.func (Fn.func 33) #[] #[]) #[.pointer (some p), .int .i64 till] w) (fun r => r = (.int .i64 (if mayT till = true then 0 else 2), w)) := by
  refine e33 ?_
  unfold s33 mayT
  simp only [go_sem, Qb_eqlP (P := Try.prog) (t := 25) (e := 70) ptr25, Option.isNone_some]
  by_cases c1 : till < 0
  · have h1 : decide (0 ≤ till) = false := by rw [decide_eq_false_iff_not]; omega
    simp only [c1, decide_true, h1, Bool.false_and, go_sem]
    exact .ret rfl
  · have h1 : decide (0 ≤ till) = true := by rw [decide_eq_true_iff]; omega
    simp only [c1, decide_false, h1, Bool.true_and, go_sem]
    by_cases c2 : till ≤ 1099511627776
    · have h2 : decide (1099511627776 < till) = false := by rw [decide_eq_false_iff_not]; omega
      simp only [h2, c2, decide_true, if_true, go_sem]
      exact .ret rfl
    · have h2 : decide (1099511627776 < till) = true := by rw [decide_eq_true_iff]; omega
      simp only [h2, c2, decide_false, go_sem]
      exact .ret rfl
theorem k33n {w : World} {till : Int} : Brings (Xcall Try.prog (Value.func (Fn.func 33) #[] #[]) #[.pointer none, .int .i64 till] w) (fun r => r = (.int .i64 1, w)) := by
  refine e33 ?_
  unfold s33
  simp only [go_sem, Qb_eqlP (P := Try.prog) (t := 25) (e := 70) ptr25, Option.isNone_none]
  exact .ret rfl

/-! ## The order of rows -/

def cmpI (a b : Int) : Int := if a < b then -1 else if b < a then 1 else 0
theorem k53 {w : World} {a b : Int} : Brings (Xcall Try.prog (Value.func (Fn.func 53) #[] #[]) #[.int .i64 a, .int .i64 b] w) (fun r => r = (.int .i64 (cmpI a b), w)) := by
  have k70 : ∀ {z : Int}, Brings (Xcall Try.prog (Value.func (Fn.func 70) #[] #[]) #[.int .i64 z] w) (fun r => r = (.bool false, w)) := by
    intro z
    refine e70 ?_
    unfold s70
    simp only [go_sem, bne_self_eq_false]
    exact .ret rfl
  refine e53 ?_
  unfold s53 cmpI
  refine k70.bind ?_
  rintro _ rfl
  refine k70.bind ?_
  rintro _ rfl
  simp only [go_sem]
  by_cases c1 : a < b
  · simp only [c1, decide_true, if_true, go_sem]
    exact .ret rfl
  · by_cases c2 : b < a
    · simp only [c1, c2, decide_true, decide_false, if_true, if_false, go_sem]
      exact .ret rfl
    · simp only [c1, c2, decide_false, if_false, go_sem]
      exact .ret rfl

/-- One row compared with another. -/
def ordI (x y : Rw) : Int := if cmpI x.till y.till ≠ 0 then cmpI x.till y.till else cmpI x.seq y.seq
/-- One is ahead of another. -/
def lt (x y : Rw) : Bool := decide (x.till < y.till) || (decide (x.till = y.till) && decide (x.seq < y.seq))
theorem ord_lt (x y : Rw) : decide (ordI x y < 0) = lt x y := by
  unfold ordI lt cmpI
  by_cases c1 : x.till < y.till
  · simp [c1]
  · by_cases c2 : y.till < x.till
    · have : ¬ x.till = y.till := by omega
      simp [c1, c2, this]
    · have : x.till = y.till := by omega
      by_cases c3 : x.seq < y.seq
      · simp [this, c3]
      · by_cases c4 : y.seq < x.seq <;> simp [this, c3, c4]

theorem t114 : NumTy Try.prog 114 3 .i64 := ⟨by kernel_rfl, by kernel_rfl, ⟨(Try.prog.info? 3).get (by kernel_rfl), by kernel_rfl, by kernel_rfl, by kernel_rfl, by decide +kernel⟩, by kernel_rfl, fun _ _ => by kernel_rfl, fun _ => by kernel_rfl⟩
theorem lit114 (a b : Int) (w : World) : XbuildSlice Try.prog 114 2 #[(0, .int .i64 a), (1, .int .i64 b)] w = some (.slice (some ⟨w.heap.size, 0, none⟩) 2 2, w.alloc (.cells #[.int .i64 a, .int .i64 b] 3)) := by kernel_rfl

theorem k52 {w : World} {s : Value} {l : List Int} (hv : View (nc .i64) 1 w s l) (hl : l.length ≤ 1000) : Brings (Xcall Try.prog (Value.func (Fn.func 52) #[] #[]) #[s] w) (fun r => r = (.int .i64 ((l.find? (fun z => decide (z ≠ 0))).getD 0), w)) := by
  refine e52 ?_
  unfold s52
  simp only [t114.len hv, go_sem]
  refine Brings.loop (fun m xs w' => ∃ i : Nat, xs = [.int .i64 0, .int .i64 0, s, .int .i64 (l.length : Int), .int .i64 (i : Int)] ∧ i ≤ l.length ∧ m = l.length - i ∧ w' = w ∧ ∀ z ∈ l.take i, z = 0) ?_ l.length _ _
    ⟨0, rfl, by omega, by omega, rfl, by simp⟩
  rintro m xs w' ⟨i, rfl, hi, hm, rfl, hz⟩
  simp only [s52B0, go_sem]
  refine .cond (fun hlt => ?_) (fun hlt => ?_)
  · have hlt : i < l.length := by
      have : (i : Int) < l.length := by simpa using hlt
      omega
    obtain ⟨x, a, hx, hix, hld⟩ := t114.get hv hlt
    simp only [hix, hld, go_sem]
    refine .cond (fun hne => ?_) (fun he => ?_)
    · have hne : x ≠ 0 := by simpa using hne
      refine .ret (.inr ⟨by simp, .ret ?_⟩)
      rw [find_first (p := fun z => decide (z ≠ 0)) hx (by simpa using hne) (fun y hy => by simpa using hz y hy)]
      rfl
    · have he : x = 0 := by simpa using he
      rw [wrap_i64 (by omega) (by omega)]
      refine .ret (.inl ⟨rfl, l.length - (i + 1), by omega, i + 1, rfl, by omega, rfl, rfl, fun z hz' => ?_⟩)
      rw [List.take_add_one, hx] at hz'
      rcases List.mem_append.1 hz' with h | h
      · exact hz z h
      · simp at h; subst h; exact he
  · have : i = l.length := by
      have : ¬ (i : Int) < l.length := by simpa using hlt
      omega
    subst this
    rw [List.take_length] at hz
    refine .ret (.inr ⟨by simp, .ret ?_⟩)
    rw [List.find?_eq_none.2 fun z hz' => by simpa using hz z hz']
    rfl

theorem k30 {w : World} {x y : Rw} : Brings (Xcall Try.prog (Value.func (Fn.func 30) #[] #[]) #[x.v, y.v] w) (fun r => r.1 = .int .i64 (ordI x y) ∧ Bel w r.2) := by
  refine e30 ?_
  unfold s30
  have A := x.new w
  have hb : Bel w (w.alloc (.cells x.cs.toArray 73)) := (Bel.refl w).alloc _
  have B := y.new (w.alloc (.cells x.cs.toArray 73))
  have hb2 : Bel (w.alloc (.cells x.cs.toArray 73)) ((w.alloc (.cells x.cs.toArray 73)).alloc (.cells y.cs.toArray 73)) := (Bel.refl _).alloc _
  have A := A.bel hb2
  have hb := hb.trans hb2
  rw [x.box]
  simp only [y.box, go_sem]
  generalize (w.alloc (.cells x.cs.toArray 73)).alloc (.cells y.cs.toArray 73) = w1 at A B hb
  have bd : Bel w1 w1.drew := (Bel.refl _).drew
  have A := A.bel bd
  have B := B.bel bd
  have hb := hb.trans bd
  simp only [Rw.b2 A, Rw.b2 B, go_sem]
  generalize w1.drew = w2 at A B hb
  refine k53.bind ?_
  rintro _ rfl
  simp only [Rw.b3 A, Rw.b3 B, go_sem]
  refine k53.bind ?_
  rintro _ rfl
  simp only [lit114, go_sem]
  have hb3 : Bel w2 (w2.alloc (.cells #[.int .i64 (cmpI x.till y.till), .int .i64 (cmpI x.seq y.seq)] 3)) := (Bel.refl _).alloc _
  have hv : View (nc .i64) 1 (w2.alloc (.cells #[.int .i64 (cmpI x.till y.till), .int .i64 (cmpI x.seq y.seq)] 3)) (.slice (some ⟨w2.heap.size, 0, none⟩) 2 2) [cmpI x.till y.till, cmpI x.seq y.seq] := by
    have hc := (MapKept.heap_alloc w2 (.cells #[.int .i64 (cmpI x.till y.till), .int .i64 (cmpI x.seq y.seq)] 3)).1
    refine ⟨some ⟨w2.heap.size, 0, none⟩, 2, rfl, Nat.le_refl _, by simp [maxLen], (fun h => by cases h), fun j z hj => ⟨w2.heap.size, 0, rfl, fun i u hi => ?_⟩⟩
    match j, hj, i, hi with
    | 0, hj, 0, hi =>
      injection hj with hj; subst hj
      injection hi with hi; subst hi
      exact cell_at hc rfl
    | 1, hj, 0, hi =>
      injection hj with hj; subst hj
      injection hi with hi; subst hi
      exact cell_at hc rfl
    | j + 2, hj, _, _ => simp at hj
    | _, _, i + 1, hi => simp [nc] at hi
  refine (k52 hv (by simp)).bind ?_
  rintro _ rfl
  simp only [eq_self, and_self, go_sem]
  refine .ret ⟨?_, hb.trans hb3⟩
  unfold ordI
  by_cases c : cmpI x.till y.till = 0
  · by_cases c2 : cmpI x.seq y.seq = 0 <;> simp [c, c2]
  · simp [c]

end Go.Proofs.Ytcibkmahibnjeaa
