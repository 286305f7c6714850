/- A table in memory; its buckets; what is found. -/
import Derived.Test.YtcibkmahibnjeaaTa4
import Derived.Test.YtcibkmahibnjeaaFl
namespace Go.Proofs.Ytcibkmahibnjeaa
open Go Go.Ev Go.RowKit
open Go.Proofs

theorem later_bel {w w' : World} {base : Nat} {e : TypeId} {size n : Nat} {v : Value} {xs : List Value} (h : w.ownsRow base e size v n xs) (hb : Bel w w') : w'.ownsRow base e size v n xs := (Chg.of_bel hb fun _ => False).owns h fun _ _ f => f
theorem iand63 (a : Int) : ∃ n : Nat, n < 64 ∧ iand .i64 a 63 = n := by
  unfold iand
  refine ⟨(BitVec.ofInt IntKind.i64.bits a &&& BitVec.ofInt IntKind.i64.bits 63).toNat, ?_, ?_⟩
  · rw [BitVec.toNat_and]
    exact Nat.lt_of_le_of_lt Nat.and_le_right (by decide)
  · have : (BitVec.ofInt IntKind.i64.bits a &&& BitVec.ofInt IntKind.i64.bits 63).toNat ≤ 63 := by
      rw [BitVec.toNat_and]
      exact Nat.le_trans Nat.and_le_right (by decide)
    rw [wrap_i64 (by omega) (by omega)]

/-- The bucket of a key. -/
def bk (t : Tup) : Nat := (iand .i64 (IntKind.i64.wrap (hashI t)) 63).toNat
theorem bk_eq (t : Tup) : iand .i64 (IntKind.i64.wrap (hashI t)) 63 = (bk t : Int) ∧ bk t < 64 := by
  unfold bk
  obtain ⟨n, hn, e⟩ := iand63 (IntKind.i64.wrap (hashI t))
  rw [e]
  exact ⟨rfl, by simpa using hn⟩
def Bj (L : List Rw) (j : Nat) : List Rw := L.filter fun x => decide (bk x.key = j)

def hV : Value := .func (.func 48) #[] #[]
/-- A table, its rows in the order in which they came. -/
structure Tb (w : World) (a : Nat) (rv : Value) (bv : List Value) (lim seq : Int) (L : List Rw) : Prop where
  cells : w.heap[a]? = some (.cells #[rv, hV, .int .i64 (L.length : Int), .int .i64 lim, .int .i64 seq] 70 (0, 0))
  rows : w.ownsRow 0 62 1 rv 64 bv
  own : ∀ j, j < 64 → ∃ v, bv[j]? = some v ∧ w.ownsRow 0 73 8 v (Bj L j).length ((Bj L j).flatMap Rw.cs)
  ra : rv.ownBlock ≠ some a
  ba : ∀ (j : Nat) (v : Value) (q : Nat), bv[j]? = some v → v.ownBlock = some q → q ≠ a ∧ rv.ownBlock ≠ some q
  dist : ∀ (i j : Nat) (u v : Value) (q : Nat), bv[i]? = some u → bv[j]? = some v → u.ownBlock = some q → v.ownBlock = some q → i = j

def Foot (a : Nat) (rv : Value) (bv : List Value) (k : Nat) : Prop := k = a ∨ rv.ownBlock = some k ∨ ∃ (j : Nat) (v : Value), bv[j]? = some v ∧ v.ownBlock = some k

section tb
variable {w w' : World} {a : Nat} {rv : Value} {bv : List Value} {lim seq : Int} {L : List Rw}
theorem Tb.len (h : Tb w a rv bv lim seq L) : bv.length = 64 := by simpa using h.rows.1
theorem Tb.chg {S : Nat → Prop} (h : Tb w a rv bv lim seq L) (hc : Chg S w w') (hs : ∀ k, Foot a rv bv k → ¬ S k) : Tb w' a rv bv lim seq L :=
  ⟨hc.at_ h.cells (hs a (.inl rfl)), hc.owns h.rows fun k hk => hs k (.inr (.inl hk)), fun j hj => by
    obtain ⟨v, hv, ho⟩ := h.own j hj
    exact ⟨v, hv, hc.owns ho fun k hk => hs k (.inr (.inr ⟨j, v, hv, hk⟩))⟩, h.ra, h.ba, h.dist⟩
theorem Tb.bel (h : Tb w a rv bv lim seq L) (hb : Bel w w') : Tb w' a rv bv lim seq L := h.chg (.of_bel hb fun _ => False) fun _ _ f => f
theorem Tb.lt (h : Tb w a rv bv lim seq L) : ∀ k, Foot a rv bv k → k < w.heap.size := fun k hk => by
  rcases hk with rfl | hk | ⟨j, v, hv, hk⟩
  · exact (Array.getElem?_eq_some_iff.1 h.cells).1
  · exact (World.ownsRow.lt h.rows k hk).2
  · have hj : j < 64 := by have := (List.getElem?_eq_some_iff.1 hv).1; rw [h.len] at this; exact this
    obtain ⟨v', hv', ho⟩ := h.own j hj
    rw [hv] at hv'
    injection hv' with hv'
    subst hv'
    exact (World.ownsRow.lt ho k hk).2
theorem Tb.row (h : Tb w a rv bv lim seq L) : ∃ R cap, rv = .slice (some ⟨R, 0, none⟩) 64 cap := by
  obtain ⟨_, ⟨_, e⟩ | ⟨g, cap, cur, rfl, _⟩⟩ := h.rows
  · omega
  · exact ⟨g, cap, rfl⟩

theorem one65 : one Try.prog 65 = true := by kernel_rfl
theorem one66 : one Try.prog 66 = true := by kernel_rfl
theorem one62 : one Try.prog 62 = true := by kernel_rfl
theorem und65 : Try.prog.underlying 65 = some (.slice 62) := by kernel_rfl
theorem fa70x0 (g : Nat) : QfieldAddr Try.prog 70 (.pointer (some ⟨g, 0, none⟩)) 0 = some (.pointer (some ⟨g, 0, none⟩)) := by kernel_rfl
theorem fa70x1 (g : Nat) : QfieldAddr Try.prog 70 (.pointer (some ⟨g, 0, none⟩)) 1 = some (.pointer (some ⟨g, 3, none⟩)) := by kernel_rfl
theorem fa70x2 (g : Nat) : QfieldAddr Try.prog 70 (.pointer (some ⟨g, 0, none⟩)) 2 = some (.pointer (some ⟨g, 4, none⟩)) := by kernel_rfl
theorem fa68x0 (g : Nat) : QfieldAddr Try.prog 68 (.pointer (some ⟨g, 0, none⟩)) 0 = some (.pointer (some ⟨g, 0, none⟩)) := by kernel_rfl
theorem fa68x1 (g : Nat) : QfieldAddr Try.prog 68 (.pointer (some ⟨g, 0, none⟩)) 1 = some (.pointer (some ⟨g, 1, none⟩)) := by kernel_rfl
theorem fa68x2 (g : Nat) : QfieldAddr Try.prog 68 (.pointer (some ⟨g, 0, none⟩)) 2 = some (.pointer (some ⟨g, 2, none⟩)) := by kernel_rfl

theorem Tb.l0 (h : Tb w a rv bv lim seq L) : Qload Try.prog 65 (.pointer (some ⟨a, 0, none⟩)) w = some rv := Qload_cell one65 (cell_at h.cells rfl)
theorem Tb.l1 (h : Tb w a rv bv lim seq L) : Qload Try.prog 66 (.pointer (some ⟨a, 1, none⟩)) w = some hV := Qload_cell one66 (cell_at h.cells rfl)
theorem Tb.l2 (h : Tb w a rv bv lim seq L) : Qload Try.prog 3 (.pointer (some ⟨a, 2, none⟩)) w = some (.int .i64 (L.length : Int)) := Qload_cell one3 (cell_at h.cells rfl)
theorem Tb.l3 (h : Tb w a rv bv lim seq L) : Qload Try.prog 3 (.pointer (some ⟨a, 3, none⟩)) w = some (.int .i64 lim) := Qload_cell one3 (cell_at h.cells rfl)
theorem Tb.l4 (h : Tb w a rv bv lim seq L) : Qload Try.prog 3 (.pointer (some ⟨a, 4, none⟩)) w = some (.int .i64 seq) := Qload_cell one3 (cell_at h.cells rfl)
theorem Tb.len65 (h : Tb w a rv bv lim seq L) (w2 : World) : Qlen Try.prog #[65] 3 #[rv] w2 = some (.int .i64 ((64 : Nat) : Int)) := by
  obtain ⟨R, cap, rfl⟩ := h.row
  exact Qlen_slice und65
/-- A bucket's place. -/
theorem Tb.at65 (h : Tb w a rv bv lim seq L) {j : Nat} (hj : j < 64) : ∃ R, rv.ownBlock = some R ∧ (∀ w2, QindexAddr Try.prog 65 rv (.int .i64 (j : Int)) w2 = some (.pointer (some ⟨R, j, none⟩))) := by
  obtain ⟨i, hi, hs⟩ := inf62
  obtain ⟨R, cap, rfl⟩ := h.row
  refine ⟨R, rfl, fun w2 => ?_⟩
  rw [QindexAddr_slice und65 hi (by omega) (by omega), hs, Int.toNat_natCast, Nat.mul_one, add_0]
theorem Tb.l62 (h : Tb w a rv bv lim seq L) {R j : Nat} {v : Value} (hR : rv.ownBlock = some R) (hv : bv[j]? = some v) : Qload Try.prog 62 (.pointer (some ⟨R, j, none⟩)) w = some v := by
  refine Qload_cell one62 ?_
  have := h.rows.cells hR j v hv
  rwa [add_0] at this

theorem Tb.turn {seq' : Int} {L' : List Rw} {j : Nat} {v v' : Value} (h : Tb w a rv bv lim seq L) (hj : j < 64) (hv : bv[j]? = some v)
    (hc : Chg (fun k => k = a ∨ rv.ownBlock = some k ∨ v.ownBlock = some k) w w')
    (ha : w'.heap[a]? = some (.cells #[rv, hV, .int .i64 (L'.length : Int), .int .i64 lim, .int .i64 seq'] 70 (0, 0)))
    (hr : w'.ownsRow 0 62 1 rv 64 (bv.set j v'))
    (ho : w'.ownsRow 0 73 8 v' (Bj L' j).length ((Bj L' j).flatMap Rw.cs))
    (hn : ∀ k, v'.ownBlock = some k → v.ownBlock = some k ∨ w.heap.size ≤ k)
    (hB : ∀ i, i < 64 → i ≠ j → Bj L' i = Bj L i) : Tb w' a rv (bv.set j v') lim seq' L' ∧ ∀ k, Foot a rv (bv.set j v') k → Foot a rv bv k ∨ w.heap.size ≤ k := by
  have hjl : j < bv.length := by rw [h.len]; exact hj
  have hlt := h.lt
  have get : ∀ (i : Nat) (u : Value), (bv.set j v')[i]? = some u → (i = j ∧ u = v') ∨ (i ≠ j ∧ bv[i]? = some u) := fun i u hu => by
    by_cases e : i = j
    · subst e
      rw [List.getElem?_set_self hjl] at hu
      injection hu with hu
      exact .inl ⟨rfl, hu.symm⟩
    · rw [List.getElem?_set_ne (fun x => e x.symm)] at hu
      exact .inr ⟨e, hu⟩
  refine ⟨⟨ha, hr, fun i hi => ?_, h.ra, fun i u q hu hq => ?_, fun i i' u u' q hu hu' hq hq' => ?_⟩, fun k hk => ?_⟩
  · by_cases e : i = j
    · subst e
      exact ⟨v', List.getElem?_set_self hjl, ho⟩
    · obtain ⟨u, hu, hou⟩ := h.own i hi
      refine ⟨u, by rw [List.getElem?_set_ne (fun x => e x.symm)]; exact hu, ?_⟩
      rw [hB i hi e]
      refine hc.owns hou fun k hk hs => ?_
      rcases hs with hs | hs | hs
      · exact (h.ba i u k hu hk).1 hs
      · exact (h.ba i u k hu hk).2 hs
      · exact e (h.dist i j u v k hu hv hk hs)
  · rcases get i u hu with ⟨rfl, rfl⟩ | ⟨_, hu⟩
    · rcases hn q hq with h1 | h1
      · exact h.ba i v q hv h1
      · refine ⟨fun e => ?_, fun e => ?_⟩
        · have := hlt a (.inl rfl); omega
        · have := hlt q (.inr (.inl e)); omega
    · exact h.ba i u q hu hq
  · have new : ∀ (i : Nat) (u : Value), i ≠ j → bv[i]? = some u → u.ownBlock = some q → v'.ownBlock = some q → False := fun i u hne hu h1 h2 => by
      rcases hn q h2 with h3 | h3
      · exact hne (h.dist i j u v q hu hv h1 h3)
      · have := hlt q (.inr (.inr ⟨i, u, hu, h1⟩)); omega
    rcases get i u hu with ⟨e1, e2⟩ | ⟨hne, h2⟩ <;> rcases get i' u' hu' with ⟨e3, e4⟩ | ⟨hne', h4⟩
    · rw [e1, e3]
    · exact (new i' u' hne' h4 hq' (by rw [← e2]; exact hq)).elim
    · exact (new i u hne h2 hq (by rw [← e4]; exact hq')).elim
    · exact h.dist i i' u u' q h2 h4 hq hq'
  · rcases hk with hk | hk | ⟨i, u, hu, hk⟩
    · exact .inl (.inl hk)
    · exact .inl (.inr (.inl hk))
    · rcases get i u hu with ⟨rfl, rfl⟩ | ⟨_, hu⟩
      · rcases hn k hk with h1 | h1
        · exact .inl (.inr (.inr ⟨i, v, hv, h1⟩))
        · exact .inr h1
      · exact .inl (.inr (.inr ⟨i, u, hu, hk⟩))
end tb

/-! ## The bucket; the first that fits -/

theorem k34r {w : World} {a : Nat} {rv c2 c3 c4 : Value} {k : Tup} (ha : w.heap[a]? = some (.cells #[rv, hV, c2, c3, c4] 70 (0, 0))) (hr : ∃ R cap, rv = .slice (some ⟨R, 0, none⟩) 64 cap) : Brings (Xcall Try.prog (Value.func (Fn.func 34) #[] #[]) #[.pointer (some ⟨a, 0, none⟩), k.v] w)
    (fun r => Bel w r.2 ∧ ∃ R, rv.ownBlock = some R ∧ r.1 = .pointer (some ⟨R, bk k, none⟩)) := by
  refine e34 ?_
  unfold s34
  obtain ⟨R, cap, rfl⟩ := hr
  have l0 : ∀ {w' : World}, Bel w w' → Qload Try.prog 65 (.pointer (some ⟨a, 0, none⟩)) w' = some (.slice (some ⟨R, 0, none⟩) 64 cap) := fun hb => Qload_cell one65 (cell_at (hb.at_ ha) rfl)
  have l1 : ∀ {w' : World}, Bel w w' → Qload Try.prog 66 (.pointer (some ⟨a, 1, none⟩)) w' = some hV := fun hb => Qload_cell one66 (cell_at (hb.at_ ha) rfl)
  have ln : ∀ w' : World, Qlen Try.prog #[65] 3 #[.slice (some ⟨R, 0, none⟩) 64 cap] w' = some (.int .i64 ((64 : Nat) : Int)) := fun _ => Qlen_slice und65
  have A := k.new w
  have hb : Bel w (w.alloc (.cells k.cs.toArray 37)) := (Bel.refl w).alloc _
  rw [k.box]
  have bd := hb.drew
  have A1 := A.bel (Bel.refl _).drew
  simp only [go_sem, fa68x0, fa68x1, l0 bd, l1 bd, Tup.all A1]
  generalize (w.alloc (.cells k.cs.toArray 37)).drew = w1 at bd A1
  unfold hV
  refine k48.bind ?_
  rintro ⟨_, w2⟩ ⟨e2, b2⟩
  simp only at e2 b2
  subst e2
  have cv : Qconv Try.prog 35 3 (.int .u32 (hashI k)) = some (.int .i64 (IntKind.i64.wrap (hashI k))) := Qconv_int (k := .i64) (by kernel_rfl)
  obtain ⟨e3, hlt⟩ := bk_eq k
  obtain ⟨i, hi, hs⟩ := inf62
  have hix : ∀ w2, QindexAddr Try.prog 65 (.slice (some ⟨R, 0, none⟩) 64 cap) (.int .i64 (bk k : Int)) w2 = some (.pointer (some ⟨R, bk k, none⟩)) := fun w2 => by
    rw [QindexAddr_slice und65 hi (by omega) (by omega), hs, Int.toNat_natCast, Nat.mul_one, add_0]
  have w63 : IntKind.i64.wrap (((64 : Nat) : Int) - 1) = 63 := by rw [wrap_i64 (by omega) (by omega)]; rfl
  simp only [cv, l0 bd, l0 (bd.trans b2), ln, w63, e3, hix, eq_self, and_self, go_sem]
  exact .ret ⟨bd.trans b2, R, rfl, rfl⟩
theorem k34 {w : World} {a : Nat} {rv : Value} {bv : List Value} {lim seq : Int} {L : List Rw} {k : Tup} (h : Tb w a rv bv lim seq L) : Brings (Xcall Try.prog (Value.func (Fn.func 34) #[] #[]) #[.pointer (some ⟨a, 0, none⟩), k.v] w)
    (fun r => Bel w r.2 ∧ ∃ R, rv.ownBlock = some R ∧ r.1 = .pointer (some ⟨R, bk k, none⟩)) := k34r h.cells h.row

def idxM (p : Rw → Bool) (l : List Rw) : Int := match l.findIdx? p with | none => -1 | some i => (i : Int)

theorem find_at {p : Rw → Bool} {l : List Rw} {i : Nat} {x : Rw} (hx : l[i]? = some x) (hp : p x = true) (hn : ∀ y ∈ l.take i, p y = false) : l.findIdx? p = some i := by
  obtain ⟨hi, he⟩ := List.getElem?_eq_some_iff.1 hx
  rw [List.findIdx?_eq_some_iff_getElem]
  refine ⟨hi, by rw [he]; exact hp, fun j hj => ?_⟩
  have := hn l[j] (List.mem_take_iff_getElem.2 ⟨j, by omega, rfl⟩)
  simpa using this

theorem k54 {w : World} {s f : Value} {l : List Rw} {p : Rw → Bool} (hv : View Rw.cs 8 w s l) (hl : l.length ≤ 100000) (hf : ∀ (x : Rw) (w1 : World), Bel w w1 → Brings (Xcall Try.prog f #[x.v] w1) fun r => r.1 = .bool (p x) ∧ Bel w1 r.2) :
    Brings (Xcall Try.prog (Value.func (Fn.func 54) #[] #[]) #[s, f] w) (fun r => r.1 = .int .i64 (idxM p l) ∧ Bel w r.2) := by
  refine e54 ?_
  unfold s54
  simp only [hv.len und62, go_sem]
  refine Brings.loop (fun m xs w' => ∃ i : Nat, xs = [s, f, .int .i64 0, .int .i64 (l.length : Int), .int .i64 (i : Int)] ∧ i ≤ l.length ∧ m = l.length - i ∧ Bel w w' ∧ ∀ y ∈ l.take i, p y = false) ?_ l.length _ _
    ⟨0, rfl, by omega, by omega, Bel.refl _, by simp⟩
  rintro m xs w' ⟨i, rfl, hi, hm, hb, hn⟩
  simp only [s54B0, go_sem]
  refine .cond (fun hlt => ?_) (fun hlt => ?_)
  · have hlt : i < l.length := by
      have : (i : Int) < l.length := by simpa using hlt
      omega
    obtain ⟨x, g, o, hx, _, hix, hc⟩ := getR (hv.bel hb) (n := i) (by omega) (by omega)
    rw [Int.toNat_natCast] at hx
    simp only [hix, Rw.all hc, go_sem]
    refine (hf x w' hb).bind ?_
    rintro ⟨_, w2⟩ ⟨e2, b2⟩
    simp only at e2 b2
    subst e2
    cases hp : p x with
    | true =>
      simp only [go_sem]
      refine .ret (.inr ⟨by simp, .ret ⟨?_, hb.trans b2⟩⟩)
      unfold idxM
      rw [find_at hx hp hn]
    | false =>
      simp only [go_sem]
      rw [wrap_i64 (by omega) (by omega)]
      exact .ret (.inl ⟨rfl, l.length - (i + 1), by omega, i + 1, rfl, by omega, rfl, hb.trans b2, take_none hx hp hn⟩)
  · have : i = l.length := by
      have : ¬ (i : Int) < l.length := by simpa using hlt
      omega
    subst this
    rw [List.take_length] at hn
    refine .ret (.inr ⟨by simp, .ret ⟨?_, hb⟩⟩)
    unfold idxM
    rw [List.findIdx?_eq_none_iff.2 hn]

theorem eqK {w : World} {x : Rw} {k : Tup} {q : Nat} {f : Nat} (hf : f = 55 ∨ f = 40) (hq : CellsAt k.cs w q 0) : Brings (Xcall Try.prog (Value.func (Fn.func f) #[] #[.pointer (some ⟨q, 0, none⟩)]) #[x.v] w) (fun r => r.1 = .bool (decide (x.key = k)) ∧ Bel w r.2) := by
  have A := x.new w
  have hb : Bel w (w.alloc (.cells x.cs.toArray 73)) := (Bel.refl w).alloc _
  rcases hf with rfl | rfl
  · refine e55 ?_
    unfold s55
    rw [x.box]
    simp only [go_sem, Tup.all (Rw.in0 A), Tup.all (hq.bel hb), Tup.eql]
    exact .ret ⟨rfl, hb⟩
  · refine e40 ?_
    unfold s40
    rw [x.box]
    simp only [go_sem, Tup.all (Rw.in0 A), Tup.all (hq.bel hb), Tup.eql]
    exact .ret ⟨rfl, hb⟩

def isK (k : Tup) (x : Rw) : Bool := decide (x.key = k)
/-- A key's row: where it is. -/
def FoundAt (bv : List Value) (L : List Rw) (k : Tup) (p : Value) : Prop :=
  ((Bj L (bk k)).findIdx? (isK k) = none ∧ p = .pointer none) ∨ ∃ i v g, (Bj L (bk k)).findIdx? (isK k) = some i ∧ bv[bk k]? = some v ∧ v.ownBlock = some g ∧ p = .pointer (some ⟨g, i * 8, none⟩)

theorem Bj_len (L : List Rw) (j : Nat) : (Bj L j).length ≤ L.length := List.length_filter_le _ _

theorem k31 {w : World} {a : Nat} {rv : Value} {bv : List Value} {lim seq : Int} {L : List Rw} {k : Tup} (h : Tb w a rv bv lim seq L) (hL : L.length ≤ 100000) : Brings (Xcall Try.prog (Value.func (Fn.func 31) #[] #[]) #[.pointer (some ⟨a, 0, none⟩), k.v] w)
    (fun r => Bel w r.2 ∧ FoundAt bv L k r.1) := by
  refine e31 ?_
  unfold s31
  have A := k.new w
  have hb : Bel w (w.alloc (.cells k.cs.toArray 37)) := (Bel.refl w).alloc _
  rw [k.box]
  simp only [go_sem, Tup.all A]
  generalize w.alloc (.cells k.cs.toArray 37) = w1 at A hb
  generalize w.heap.size = q at A
  refine (k34 (h.bel hb)).bind ?_
  rintro ⟨_, w2⟩ ⟨b2, R, hR, e2⟩
  simp only at e2 b2
  subst e2
  have h2 := (h.bel hb).bel b2
  obtain ⟨v, hv, ho⟩ := h2.own (bk k) (bk_eq k).2
  have V := View.of_owns ho (Rw.lens _)
  have A2 := A.bel b2
  simp only [go_sem, h2.l62 hR hv]
  have hbl := Bj_len L (bk k)
  refine (k54 (p := isK k) V (by omega) fun x w3 b3 => eqK (.inl rfl) (A2.bel b3)).bind ?_
  rintro ⟨_, w3⟩ ⟨e3, b3⟩
  simp only at e3 b3
  subst e3
  unfold FoundAt idxM
  cases hf : (Bj L (bk k)).findIdx? (isK k) with
  | none =>
    simp only [go_sem, show decide ((-1 : Int) < 0) = true from rfl]
    exact .ret ⟨(hb.trans b2).trans b3, .inl ⟨by trivial, rfl⟩⟩
  | some i =>
    have hi : i < (Bj L (bk k)).length := (List.findIdx?_eq_some_iff_getElem.1 hf).1
    have d : decide ((i : Int) < 0) = false := by rw [decide_eq_false_iff_not]; omega
    obtain ⟨ti, hti, hts⟩ := inf73
    obtain ⟨g, hg, hix⟩ := owns_at (k := (i : Int)) ho und62 hti hts (by omega) (by omega)
    simp only [go_sem, d, hix]
    exact .ret ⟨(hb.trans b2).trans b3, .inr ⟨i, v, g, rfl, hv, hg, by rw [Int.toNat_natCast]⟩⟩

/-! ## Keys are apart -/

theorem mem_Bj {L : List Rw} {j : Nat} {x : Rw} : x ∈ Bj L j ↔ x ∈ L ∧ bk x.key = j := by simp [Bj]
def hasK (L : List Rw) (k : Tup) : Bool := L.any (isK k)
theorem none_has {L : List Rw} {k : Tup} (h : (Bj L (bk k)).findIdx? (isK k) = none) : hasK L k = false := by
  unfold hasK
  rw [List.any_eq_false]
  intro x hx hk
  rw [List.findIdx?_eq_none_iff] at h
  have e : x.key = k := by simpa [isK] using hk
  have := h x (mem_Bj.2 ⟨hx, by rw [e]⟩)
  rw [hk] at this
  cases this
theorem some_has {L : List Rw} {k : Tup} {i : Nat} (h : (Bj L (bk k)).findIdx? (isK k) = some i) : hasK L k = true := by
  obtain ⟨hi, hp, _⟩ := List.findIdx?_eq_some_iff_getElem.1 h
  unfold hasK
  rw [List.any_eq_true]
  exact ⟨_, (mem_Bj.1 (List.getElem_mem hi)).1, hp⟩

end Go.Proofs.Ytcibkmahibnjeaa
