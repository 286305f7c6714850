/- Masq and Dnat, of both. -/
import Derived.Test.YtiioaklogbjhhaaRu12
namespace Go.Proofs.Ytiioaklogbjhhaa
open Go Go.Ev
open Go.Proofs


def masqP (n : Nat) (x : Rule) : Bool := (upN n x.bits : Int) == x.net
def dnatP (p d t : Int) (x : Rule) : Bool := x.proto == p && x.to_ == d && x.port == t
def masqM (n : Nat) (l : List Rule) : Rule × Bool := firstM (fun x => x.kind == 1 && masqP n x) l
def dnatM (p d t : Int) (l : List Rule) : Rule × Bool := firstM (fun x => x.kind == 2 && dnatP p d t x) l

theorem right_bits {x : Rule} (h : rightM x = true) (hk : x.kind = 1) : 0 ≤ x.bits ∧ x.bits ≤ 32 := by
  unfold rightM at h
  simp only [hk, beq_self_eq_true, if_true, Bool.and_eq_true, decide_eq_true_eq] at h
  exact ⟨h.1.1.1.1.1.1.1, h.1.1.1.1.1.1.2⟩

theorem and_mask {n : Nat} {b : Int} (hn : n < 2 ^ 32) (h0 : 0 ≤ b) (h1 : b ≤ 32) : iand .u32 (n : Int) (maskN b : Int) = (upN n b : Int) := by
  unfold maskN upN
  have hs : (32 - b).toNat ≤ 32 := by omega
  generalize (32 - b).toNat = s at hs
  have hpos : 0 < 2 ^ s := Nat.pow_pos (by omega)
  rw [iand_u rfl hn (show 2 ^ 32 - 2 ^ s < 2 ^ IntKind.u32.bits from by show _ < 2 ^ 32; omega), and_upper hn hs]

theorem k33 {w : World} {n q : Nat} {x : Rule} (hn : n < 2 ^ 32) (hq : w.cell? ⟨q, 0, none⟩ = some (.int .u32 n)) (h0 : 0 ≤ x.bits) (h1 : x.bits ≤ 32) :
    Brings (Xcall Try.prog (Value.func (Fn.func 33) #[] #[.pointer (some ⟨q, 0, none⟩)]) #[x.v] w) (fun r => r.1 = .bool (masqP n x) ∧ Bel w r.2) := by
  refine e33 ?_
  unfold s33
  have A := x.new w
  have hb : Bel w (w.alloc (.cells x.cs.toArray 26)).drew := ((Bel.refl w).alloc _).drew
  rw [x.box]
  simp only [go_sem]
  have A : CellsAt x.cs (w.alloc (.cells x.cs.toArray 26)).drew w.heap.size 0 := A.bel (Bel.refl _).drew
  generalize (w.alloc (.cells x.cs.toArray 26)).drew = w1 at A hb
  simp only [Qload_cell one23 (hb.cell_some hq), Rule.b3 A, go_sem]
  refine (k27 h0 h1).bind ?_
  rintro _ rfl
  simp only [go_sem, and_mask hn h0 h1, Rule.b2 A, Qload_cell one23 (hb.cell_some hq), eq_self, and_self]
  exact .ret ⟨rfl, hb⟩

theorem k34 {w : World} {a b c : Nat} {p d t : Int} {x : Rule} (h0 : w.cell? ⟨a, 0, none⟩ = some (.int .u8 p)) (h1 : w.cell? ⟨b, 0, none⟩ = some (.int .u32 d)) (h2 : w.cell? ⟨c, 0, none⟩ = some (.int .u16 t)) :
    Brings (Xcall Try.prog (Value.func (Fn.func 34) #[] #[.pointer (some ⟨a, 0, none⟩), .pointer (some ⟨b, 0, none⟩), .pointer (some ⟨c, 0, none⟩)]) #[x.v] w) (fun r => r.1 = .bool (dnatP p d t x) ∧ Bel w r.2) := by
  refine e34 ?_
  unfold s34 dnatP
  have A := x.new w
  have hb : Bel w (w.alloc (.cells x.cs.toArray 26)) := (Bel.refl w).alloc _
  rw [x.box]
  simp only [go_sem]
  generalize w.alloc (.cells x.cs.toArray 26) = w1 at A hb
  simp only [Rule.b1 A, Qload_cell one5 (hb.cell_some h0), go_sem]
  cases x.proto == p <;> simp only [go_sem, Rule.b4 A, Qload_cell one23 (hb.cell_some h1), Bool.false_and, Bool.true_and]
  · exact .ret ⟨rfl, hb⟩
  cases x.to_ == d <;> simp only [go_sem, Rule.b5 A, Qload_cell one24 (hb.cell_some h2), Bool.false_and, Bool.true_and]
  · exact .ret ⟨rfl, hb⟩
  · exact .ret ⟨rfl, hb⟩

theorem k18 {w : World} {a : Nat} {sl : Value} {l : List Rule} {n : Nat} (h : Obj 60 w a sl l) (hn : n < 2 ^ 32) : Brings (Xcall Try.prog (Value.func (Fn.func 18) #[] #[]) #[.pointer (some ⟨a, 0, none⟩), .int .u32 n] w) (Told w (masqM n l)) := by
  refine e18 ?_
  unfold s18
  simp only [go_sem, alloc26]
  have b2 : Bel w ((w.alloc (.cells #[.int .u32 n] 23)).alloc (.cells Rule.zero.cs.toArray 26)) := ((Bel.refl w).alloc _).alloc _
  have hc : ((w.alloc (.cells #[.int .u32 n] 23)).alloc (.cells Rule.zero.cs.toArray 26)).cell? ⟨w.heap.size, 0, none⟩ = some (.int .u32 n) := ((Bel.refl _).alloc _).cell_some (cell_at (MapKept.heap_alloc w _).1 rfl)
  have hz : ((w.alloc (.cells #[.int .u32 n] 23)).alloc (.cells Rule.zero.cs.toArray 26)).heap[w.heap.size + 1]? = some (.cells Rule.zero.cs.toArray 26) := by
    have := (MapKept.heap_alloc (w.alloc (.cells #[.int .u32 n] 23)) (.cells Rule.zero.cs.toArray 26)).1
    rwa [World.size_alloc] at this
  simp only [World.size_alloc]
  generalize (w.alloc (.cells #[.int .u32 n] 23)).alloc (.cells Rule.zero.cs.toArray 26) = w2 at b2 hc hz
  refine k32.bind ?_
  rintro ⟨_, w3⟩ ⟨p, q, h1, b3, hp, hq⟩
  simp only at h1 b3 hp hq
  subst h1
  simp only [go_sem]
  have h3 := h.bel (b2.trans b3)
  refine (k31 (P := masqP n) hp h3.cells hq h3.view (fun x w' hx hk hb => k33 hn (hb.cell_some (b3.cell_some hc)) (right_bits (h.right x hx) hk).1 (right_bits (h.right x hx) hk).2)).bind ?_
  rintro ⟨_, w4⟩ ⟨h1, b4⟩
  simp only at h1 b4
  subst h1
  have hz4 := (b3.trans b4).at_ hz
  simp only [go_sem, store26 hz4 rfl, Rule.all (CellsAt.of (setRow_heap _ _ _ _ _ _ hz4))]
  refine .ret ⟨rfl, (((b2.trans b3).trans b4).thenChg (setRow_chg _ _)).bel fun k hk e => by omega⟩


theorem k19 {w : World} {a : Nat} {sl : Value} {l : List Rule} {pr d t : Int} (h : Obj 60 w a sl l) : Brings (Xcall Try.prog (Value.func (Fn.func 19) #[] #[]) #[.pointer (some ⟨a, 0, none⟩), .int .u8 pr, .int .u32 d, .int .u16 t] w) (Told w (dnatM pr d t l)) := by
  refine e19 ?_
  unfold s19
  have V0 := Locals.nil w
  have V1 := V0.add rfl (.cells #[.int .u8 pr] 5)
  have V2 := V1.add (by simp) (.cells #[.int .u32 d] 23)
  have V3 := V2.add (by simp) (.cells #[.int .u16 t] 24)
  have V4 := V3.add (by simp) (.cells Rule.zero.cs.toArray 26)
  simp only [go_sem, alloc26, World.size_alloc]
  rw [show w.heap.size + 1 + 1 = w.heap.size + 2 from rfl, show w.heap.size + 2 + 1 = w.heap.size + 3 from rfl]
  generalize (((w.alloc (.cells #[.int .u8 pr] 5)).alloc (.cells #[.int .u32 d] 23)).alloc (.cells #[.int .u16 t] 24)).alloc (.cells Rule.zero.cs.toArray 26) = w2 at V4
  refine k32.bind ?_
  rintro ⟨_, w3⟩ ⟨p, q, h1, b3, hp, hq⟩
  simp only at h1 b3 hp hq
  subst h1
  simp only [go_sem]
  have W := V4.later b3
  have c0 : w3.cell? ⟨w.heap.size, 0, none⟩ = some (.int .u8 pr) := W.cell (j := 0) rfl
  have c1 : w3.cell? ⟨w.heap.size + 1, 0, none⟩ = some (.int .u32 d) := W.cell (j := 1) rfl
  have c2 : w3.cell? ⟨w.heap.size + 2, 0, none⟩ = some (.int .u16 t) := W.cell (j := 2) rfl
  have h3 := h.bel W.bel
  refine (k31 (P := dnatP pr d t) hp h3.cells hq h3.view (fun x w' hx hk hb => k34 (hb.cell_some c0) (hb.cell_some c1) (hb.cell_some c2))).bind ?_
  rintro ⟨_, w4⟩ ⟨h1, b4⟩
  simp only at h1 b4
  subst h1
  have X := W.later b4
  have hz4 : w4.heap[w.heap.size + 3]? = some (.cells Rule.zero.cs.toArray 26) := X.at_ 3 _ rfl
  simp only [go_sem, store26 hz4 rfl, Rule.all (CellsAt.of (setRow_heap _ _ _ _ _ _ hz4))]
  exact .ret ⟨rfl, (X.row (j := 3) rfl rfl _).bel⟩

/-! ## The reference's -/

theorem build26n (w : World) : Qbuild Try.prog 26 #[] w = some Rule.zero.v := by kernel_rfl

theorem k36 {w : World} {a : Nat} {sl : Value} {l : List Rule} {n : Nat} (h : Obj 71 w a sl l) (hn : n < 2 ^ 32) : Brings (Xcall Try.prog (Value.func (Fn.func 36) #[] #[]) #[.pointer (some ⟨a, 0, none⟩), .int .u32 n] w) (Told w (masqM n l)) := by
  refine e36 ?_
  unfold s36 masqM
  have hm := h.most
  have V0 := (Locals.nil w).add rfl (.cells Rule.zero.cs.toArray 26)
  simp only [go_sem, alloc26]
  generalize w.alloc (.cells Rule.zero.cs.toArray 26) = w1 at V0
  refine Brings.loop (fun m xs w' => ∃ i : Nat, xs = [.pointer (some ⟨a, 0, none⟩), .int .u32 n, .pointer (some ⟨w.heap.size, 0, none⟩), .bool false, .int .i64 i] ∧ i ≤ l.length ∧ m = l.length - i ∧ Locals w [.cells Rule.zero.cs.toArray 26] w' ∧ ∀ x ∈ l.take i, (x.kind == 1 && masqP n x) = false) ?_ l.length _ _ ⟨0, rfl, by omega, by omega, V0, by simp⟩
  rintro m xs w' ⟨i, rfl, hi, hm, V, hne⟩
  have h' := h.bel V.bel
  simp only [s36B0, go_sem, Qb_neqP (P := Try.prog) (t := 38) (e := 71) (by kernel_rfl), Option.isSome_some, h'.ptr (Bel.refl _), h'.view.len und33]
  refine .cond (fun hlt => ?_) (fun hlt => ?_)
  · have hlt : (i : Int) < l.length := by simpa using hlt
    have V' := V.later (Bel.refl _).drew
    have h2 := h.bel V'.bel
    generalize w'.drew = w2 at V' h2
    obtain ⟨x, g, o, hx, _, hix, hc⟩ := getR h2.view (n := i) (by omega) hlt
    simp only [Int.toNat_natCast] at hx
    have hxm := List.mem_of_getElem? hx
    simp only [h2.ptr (Bel.refl _), hix, Rule.f0 hc, go_sem]
    cases he : (x.kind == 1) with
    | false =>
      simp only [go_sem, eq_self, and_self]
      exact .ret (.inl ⟨rfl, l.length - (i + 1), by omega, i + 1, by rw [wrap_i64 (by omega) (by omega)]; rfl, by omega, rfl, V', take_none hx (by simp [he]) hne⟩)
    | true =>
      obtain ⟨b0, b1⟩ := right_bits (h.right x hxm) (by simpa using he)
      simp only [go_sem, h2.ptr (Bel.refl _), hix, Rule.f3 hc]
      refine (k28 hn b0 b1).bind ?_
      rintro _ rfl
      simp only [go_sem, h2.ptr (Bel.refl _), hix, Rule.f2 hc, eq_self, and_self]
      refine .cond (fun ht => ?_) (fun hf => ?_)
      · have hz := V'.at_ 0 _ rfl
        simp only [Nat.add_zero] at hz
        simp only [Rule.all hc, store26 hz rfl, go_sem]
        refine .ret (.inr ⟨by simp, ?_⟩)
        simp only [s36R0, go_sem, Rule.all (CellsAt.of (setRow_heap _ _ _ _ _ _ hz))]
        refine .ret ⟨?_, (V'.row (j := 0) rfl rfl _).bel⟩
        unfold firstM
        rw [find_first hx (by simp [he, masqP, ht]) hne]; rfl
      · refine .ret (.inl ⟨rfl, l.length - (i + 1), by omega, i + 1, by rw [wrap_i64 (by omega) (by omega)]; rfl, by omega, rfl, V', take_none hx (by simp only [he, masqP, hf]; rfl) hne⟩)
  · have hlt : ¬ (i : Int) < l.length := by simpa using hlt
    have : i = l.length := by omega
    subst this
    simp only [List.take_length] at hne
    have hz := V.at_ 0 _ rfl
    simp only [Nat.add_zero] at hz
    refine .ret (.inr ⟨by simp, ?_⟩)
    simp only [s36R0, build26n, store26 hz rfl, go_sem, Rule.all (CellsAt.of (setRow_heap _ _ _ _ _ _ hz))]
    refine .ret ⟨?_, (V.row (j := 0) rfl rfl _).bel⟩
    unfold firstM
    rw [List.find?_eq_none.2 fun x hx => by rw [hne x hx]; simp]; rfl

theorem k37 {w : World} {a : Nat} {sl : Value} {l : List Rule} {pr d t : Int} (h : Obj 71 w a sl l) : Brings (Xcall Try.prog (Value.func (Fn.func 37) #[] #[]) #[.pointer (some ⟨a, 0, none⟩), .int .u8 pr, .int .u32 d, .int .u16 t] w) (Told w (dnatM pr d t l)) := by
  refine e37 ?_
  unfold s37 dnatM
  have hm := h.most
  have V0 := (Locals.nil w).add rfl (.cells Rule.zero.cs.toArray 26)
  simp only [go_sem, alloc26]
  generalize w.alloc (.cells Rule.zero.cs.toArray 26) = w1 at V0
  refine Brings.loop (fun m xs w' => ∃ i : Nat, xs = [.pointer (some ⟨a, 0, none⟩), .int .u8 pr, .int .u32 d, .int .u16 t, .pointer (some ⟨w.heap.size, 0, none⟩), .bool false, .int .i64 i] ∧ i ≤ l.length ∧ m = l.length - i ∧ Locals w [.cells Rule.zero.cs.toArray 26] w' ∧ ∀ x ∈ l.take i, (x.kind == 2 && dnatP pr d t x) = false) ?_ l.length _ _ ⟨0, rfl, by omega, by omega, V0, by simp⟩
  rintro m xs w' ⟨i, rfl, hi, hm, V, hne⟩
  have h' := h.bel V.bel
  simp only [s37B0, go_sem, Qb_neqP (P := Try.prog) (t := 38) (e := 71) (by kernel_rfl), Option.isSome_some, h'.ptr (Bel.refl _), h'.view.len und33]
  refine .cond (fun hlt => ?_) (fun hlt => ?_)
  · have hlt : (i : Int) < l.length := by simpa using hlt
    obtain ⟨x, g, o, hx, _, hix, hc⟩ := getR h'.view (n := i) (by omega) hlt
    simp only [Int.toNat_natCast] at hx
    have B := local_bel w' (.cells Rule.zero.cs.toArray 26) x.cs.toArray
    have A := local_at w' x.cs Rule.zero.cs 26
    have V' := V.later B
    simp only [hix, Rule.all hc, alloc26, put26, go_sem]
    generalize (w'.alloc (.cells Rule.zero.cs.toArray 26)).setRow w'.heap.size x.cs.toArray = w2 at A B V'
    have hP : (x.kind == 2 && dnatP pr d t x) = (x.kind == 2 && (x.proto == pr && (x.to_ == d && x.port == t))) := by unfold dnatP; simp only [Bool.and_assoc]
    have key : ∀ b, (x.kind == 2 && (x.proto == pr && (x.to_ == d && x.port == t))) = b → (b = true → Brings ((Qload Try.prog 26 (.pointer (some ⟨w'.heap.size, 0, none⟩)) w2).bind fun v811 => (Xstore Try.prog 26 (.pointer (some ⟨w.heap.size, 0, none⟩)) v811 w2).bind fun r812 => some (Exit.ret, [Value.pointer (some ⟨a, 0, none⟩), .int .u8 pr, .int .u32 d, .int .u16 t, .pointer (some ⟨w.heap.size, 0, none⟩), .bool true, .int .i64 i], r812.2)) (fun r => r.1 ≠ .normal ∧ Brings (s37R0 r.1 r.2.1 r.2.2) (Told w (firstM (fun x => x.kind == 2 && dnatP pr d t x) l)))) := by
      intro b hb ht
      subst ht
      have hz := V'.at_ 0 _ rfl
      simp only [Nat.add_zero] at hz
      simp only [Rule.all A, store26 hz rfl, go_sem]
      refine .ret ⟨by simp, ?_⟩
      simp only [s37R0, go_sem, Rule.all (CellsAt.of (setRow_heap _ _ _ _ _ _ hz))]
      refine .ret ⟨?_, (V'.row (j := 0) rfl rfl _).bel⟩
      unfold firstM
      rw [find_first hx (by rw [hP, hb]) hne]; rfl
    have no : (x.kind == 2 && (x.proto == pr && (x.to_ == d && x.port == t))) = false → ∃ m', m' < m ∧ ∃ i', ([Value.pointer (some ⟨a, 0, none⟩), .int .u8 pr, .int .u32 d, .int .u16 t, .pointer (some ⟨w.heap.size, 0, none⟩), .bool false, .int .i64 (IntKind.i64.wrap ((i : Int) + 1))] : List Value) = [.pointer (some ⟨a, 0, none⟩), .int .u8 pr, .int .u32 d, .int .u16 t, .pointer (some ⟨w.heap.size, 0, none⟩), .bool false, .int .i64 ((i' : Nat) : Int)] ∧ i' ≤ l.length ∧ m' = l.length - i' ∧ Locals w [.cells Rule.zero.cs.toArray 26] w2 ∧ ∀ x ∈ l.take i', (x.kind == 2 && dnatP pr d t x) = false := fun hf =>
      ⟨l.length - (i + 1), by omega, i + 1, by rw [wrap_i64 (by omega) (by omega)]; rfl, by omega, rfl, V', take_none hx (by rw [hP, hf]) hne⟩
    simp only [Rule.b0 A, go_sem]
    cases h0 : x.kind == 2 <;> simp only [go_sem, Rule.b1 A]
    · exact .ret (.inl ⟨rfl, no (by rw [h0]; rfl)⟩)
    cases h1 : x.proto == pr <;> simp only [go_sem, Rule.b4 A]
    · exact .ret (.inl ⟨rfl, no (by rw [h0, h1]; rfl)⟩)
    cases h2 : x.to_ == d <;> simp only [go_sem, Rule.b5 A]
    · exact .ret (.inl ⟨rfl, no (by rw [h0, h1, h2]; rfl)⟩)
    cases h3 : x.port == t <;> simp only [go_sem]
    · exact .ret (.inl ⟨rfl, no (by rw [h0, h1, h2, h3]; rfl)⟩)
    · exact (key _ rfl (by rw [h0, h1, h2, h3]; rfl)).mono fun r h => .inr h
  · have hlt : ¬ (i : Int) < l.length := by simpa using hlt
    have : i = l.length := by omega
    subst this
    simp only [List.take_length] at hne
    have hz := V.at_ 0 _ rfl
    simp only [Nat.add_zero] at hz
    refine .ret (.inr ⟨by simp, ?_⟩)
    simp only [s37R0, build26n, store26 hz rfl, go_sem, Rule.all (CellsAt.of (setRow_heap _ _ _ _ _ _ hz))]
    refine .ret ⟨?_, (V.row (j := 0) rfl rfl _).bel⟩
    unfold firstM
    rw [List.find?_eq_none.2 fun x hx => by rw [hne x hx]; simp]; rfl

end Go.Proofs.Ytiioaklogbjhhaa
