/- The reference's six, address, open. -/
import Derived.Test.YtphokckbcmiddaaDoorMFt39
namespace Go.Proofs.YtphokckbcmiddaaDoor
open Go Go.Ev Go.RowKit
open Go.Proofs

theorem ior_cat {x y n : Nat} (hy : y < 2 ^ n) (h : x * 2 ^ n + y < 4294967296) : ior .u32 ((x * 2 ^ n : Nat) : Int) (y : Int) = ((x * 2 ^ n + y : Nat) : Int) := by
  rw [ior_u (k := .u32) rfl (show x * 2 ^ n < 4294967296 by omega) (show y < 4294967296 by omega)]
  congr 1
  rw [Nat.mul_comm, ← Nat.two_pow_add_eq_or_of_lt hy]
theorem shl32 {a n : Nat} (hn : n < 32) (h : a * 2 ^ n < 4294967296) : Qbin Tryd.prog .shl 24 (.int .u32 (a : Int)) (.int .u64 (n : Int)) = some (.int .u32 ((a * 2 ^ n : Nat) : Int)) := by
  rw [Qb_shl (by omega), Int.toNat_natCast, show min n IntKind.u32.bits = n by simp [IntKind.bits]; omega]
  have : (a : Int) * 2 ^ n = ((a * 2 ^ n : Nat) : Int) := by simp
  rw [this, wu32 (by omega) (by omega)]
theorem conv324 {a : Nat} (h : a < 256) : Qconv Tryd.prog 3 24 (.int .i64 (a : Int)) = some (.int .u32 (a : Int)) := by
  rw [Qconv_int (k := .u32) (by kernel_rfl), wu32 (by omega) (by omega)]

set_option maxRecDepth 100000 in
theorem k47 {w : World} {v : Value} {xs : List Int} (hv : View (nc .i64) 1 w v xs) (h4 : 4 ≤ xs.length) (hb : Ftp.byt xs) : Brings (Xcall Tryd.prog (Value.func (Fn.func 47) #[] #[]) #[v] w) (fun r => r = (.int .u32 (Ftp.addrS xs), w.drew)) := by
  refine e47 ?_
  unfold s47
  have hv' : View (nc .i64) 1 w.drew v xs := hv.bel (Bel.refl w).drew
  generalize w.drew = wd at *
  have get : ∀ j, j < 4 → ∃ (a : Nat) (q : Addr), (a : Int) = xs.getD j 0 ∧ a < 256 ∧ QindexAddr Tryd.prog 99 v (.int .i64 (j : Int)) wd = some (.pointer (some q)) ∧ Qload Tryd.prog 3 (.pointer (some q)) wd = some (.int .i64 (a : Int)) := by
    intro j hj
    obtain ⟨x, q, hx, hq, hld⟩ := t99.get hv' (j := j) (by omega)
    have hxb := hb x (List.mem_of_getElem? hx)
    refine ⟨x.toNat, q, ?_, by omega, hq wd, ?_⟩
    · rw [List.getD_eq_getElem?_getD, hx]
      simp
      omega
    · rw [Int.toNat_of_nonneg hxb.1]
      exact hld
  obtain ⟨a, q0, ea, ha, x0, l0⟩ := get 0 (by decide)
  obtain ⟨b, q1, eb, hb1, x1, l1⟩ := get 1 (by decide)
  obtain ⟨c, q2, ec, hc, x2, l2⟩ := get 2 (by decide)
  obtain ⟨d, q3, ed, hd, x3, l3⟩ := get 3 (by decide)
  have s0 := shl32 (a := a) (n := 24) (by decide) (by omega)
  have s1 := shl32 (a := b) (n := 16) (by decide) (by omega)
  have s2 := shl32 (a := c) (n := 8) (by decide) (by omega)
  have o1 := ior_cat (x := a) (y := b * 2 ^ 16) (n := 24) (by omega) (by omega)
  have o2 := ior_cat (x := a * 256 + b) (y := c * 2 ^ 8) (n := 16) (by omega) (by omega)
  have o3 := ior_cat (x := a * 65536 + b * 256 + c) (y := d) (n := 8) (by omega) (by omega)
  rw [show a * 2 ^ 24 + b * 2 ^ 16 = (a * 256 + b) * 2 ^ 16 by omega] at o1
  rw [show (a * 256 + b) * 2 ^ 16 + c * 2 ^ 8 = (a * 65536 + b * 256 + c) * 2 ^ 8 by omega] at o2
  rw [show (.int .i64 0 : Value) = .int .i64 ((0 : Nat) : Int) from rfl, x0, Option.bind_some, l0, Option.bind_some, conv324 ha, Option.bind_some, show (.int .u64 24 : Value) = .int .u64 ((24 : Nat) : Int) from rfl, s0, Option.bind_some,
    show (.int .i64 1 : Value) = .int .i64 ((1 : Nat) : Int) from rfl, x1, Option.bind_some, l1, Option.bind_some, conv324 hb1, Option.bind_some, show (.int .u64 16 : Value) = .int .u64 ((16 : Nat) : Int) from rfl, s1, Option.bind_some, Qb_or, o1, Option.bind_some,
    show (.int .i64 2 : Value) = .int .i64 ((2 : Nat) : Int) from rfl, x2, Option.bind_some, l2, Option.bind_some, conv324 hc, Option.bind_some, show (.int .u64 8 : Value) = .int .u64 ((8 : Nat) : Int) from rfl, s2, Option.bind_some, Qb_or, o2, Option.bind_some,
    show (.int .i64 3 : Value) = .int .i64 ((3 : Nat) : Int) from rfl, x3, Option.bind_some, l3, Option.bind_some, conv324 hd, Option.bind_some, Qb_or, o3, Option.bind_some, chkK_T]
  refine .ret ?_
  unfold Ftp.addrS
  rw [← ea, ← eb, ← ec, ← ed]
  have e3 : (((a * 65536 + b * 256 + c) * 2 ^ 8 + d : Nat) : Int) = (a : Int) * 16777216 + (b : Int) * 65536 + (c : Int) * 256 + (d : Int) := by omega
  rw [e3]

/-- An address. -/
theorem k30 {w : World} {s : Value} {b : List Int} (hs : Vw w s (b ++ [13, 10])) (hl : okB (b ++ [13, 10])) (hb8 : b.length ≤ 900) {p : Nat} (hp : p ≤ b.length) :
    Brings (Xcall Tryd.prog (Value.func (Fn.func 30) #[] #[]) #[s, .int .i64 (p : Int)] w) (fun r => Bel w r.2 ∧ (match Ftp.accS 46 4 (b.drop p) with
      | some (xs, r1) => r.1 = .tuple #[.int .u32 (Ftp.addrS xs), .int .i64 ((b.length - r1.length : Nat) : Int), .bool true]
      | none => r.1 = .tuple #[.int .u32 0, .int .i64 (p : Int), .bool false])) := by
  refine e30 ?_
  unfold s30
  refine (k46 hs hl hb8 (n := 4) (sep := 46) hp (by decide) (.inr rfl)).bind ?_
  rintro ⟨_, w1⟩ ⟨v, q, rfl, b1, h⟩
  cases ha : Ftp.accS 46 4 (b.drop p) with
  | none =>
    simp only [go_sem, Option.isSome, Bool.not_false]
    exact .ret ⟨b1, rfl⟩
  | some x =>
    obtain ⟨xs, r1⟩ := x
    obtain ⟨rfl, hv⟩ := h xs r1 ha
    obtain ⟨hlen, hby, _⟩ := (Ftp.accS_iff (by decide)).1 ha
    simp only [go_sem, Option.isSome, Bool.not_true]
    refine (k47 hv (by omega) hby).bind ?_
    rintro _ rfl
    exact .ret ⟨b1.trans (Bel.refl w1).drew, rfl⟩

/-- What was found, or nothing: the reference's. -/
def ofR (f : Ftp.Fd) : Rfd := ⟨f.kind, f.start, f.stop, f.addr, f.port⟩
def resR (f : Rfd) (b : Bool) : Value := .tuple #[f.v, .bool b]
theorem bld31n (w : World) : Qbuild Tryd.prog 31 #[] w = some Rfd.zero.v := by kernel_rfl
theorem bld31 (k s e a p : Int) (w : World) : Qbuild Tryd.prog 31 #[(0, .int .i64 k), (1, .int .i64 s), (2, .int .i64 e), (3, .int .u32 a), (4, .int .u16 p)] w = some (Rfd.v ⟨k, s, e, a, p⟩) := by kernel_rfl

theorem k29 {w : World} (f : Rfd) (ok : Bool) : Brings (Xcall Tryd.prog (Value.func (Fn.func 29) #[] #[]) #[f.v, .bool ok] w) (fun r => Bel w r.2 ∧ r.1 = resR (if ok then f else Rfd.zero) ok) := by
  refine e29 ?_
  unfold s29
  rw [Rfd.box, Option.bind_some]
  have b1 : Bel w (w.alloc (.cells f.cs.toArray 31)) := (Bel.refl w).alloc _
  have hf := f.new w
  revert b1 hf
  generalize w.alloc (.cells f.cs.toArray 31) = w1
  intro b1 hf
  dsimp only
  rw [alloc31, Option.bind_some]
  have b2 := b1.trans (local_bel w1 (.cells Rfd.zero.cs.toArray 31) Rfd.zero.cs.toArray)
  have b3 := b1.trans (local_bel w1 (.cells Rfd.zero.cs.toArray 31) f.cs.toArray)
  cases ok with
  | false =>
    simp only [go_sem, Bool.not_false, bld31n]
    rw [put31, Option.bind_some]
    simp only
    rw [Rfd.all (local_at w1 _ _ 31)]
    exact .ret ⟨b2, rfl⟩
  | true =>
    simp only [go_sem, Bool.not_true]
    rw [Rfd.all (hf.bel ((Bel.refl w1).alloc _)), Option.bind_some, put31, Option.bind_some]
    simp only
    rw [Rfd.all (local_at w1 _ _ 31)]
    exact .ret ⟨b3, rfl⟩


set_option maxRecDepth 100000 in
/-- Six numbers. -/
theorem k28 {w : World} {s : Value} {b : List Int} (hs : Vw w s (b ++ [13, 10])) (hl : okB (b ++ [13, 10])) (hb8 : b.length ≤ 900) {p : Nat} {k : Int} (hp : p ≤ b.length) :
    Brings (Xcall Tryd.prog (Value.func (Fn.func 28) #[] #[]) #[s, .int .i64 (p : Int), .int .i64 k] w) (fun r => Bel w r.2 ∧ r.1 = (match Ftp.sixS k b (b.drop p) with
      | some x => resR (ofR x.1) true
      | none => resR Rfd.zero false)) := by
  refine e28 ?_
  unfold s28
  rw [alloc31, Option.bind_some]
  have b0 : Bel w (w.alloc (.cells Rfd.zero.cs.toArray 31)) := (Bel.refl w).alloc _
  have h0 : (w.alloc (.cells Rfd.zero.cs.toArray 31)).heap[w.heap.size]? = some (.cells Rfd.zero.cs.toArray 31 (0, 0)) := (MapKept.heap_alloc w _).1
  have hlt : w.heap.size < (w.alloc (.cells Rfd.zero.cs.toArray 31)).heap.size := by simp
  revert b0 h0 hlt
  generalize w.alloc (.cells Rfd.zero.cs.toArray 31) = w0
  intro b0 h0 hlt
  refine (k46 (hs.bel b0) hl hb8 (n := 6) (sep := 44) hp (by decide) (.inl rfl)).bind ?_
  rintro ⟨_, w1⟩ ⟨v, q, rfl, b1, h⟩
  simp only at b1 h
  have b01 := b0.trans b1
  have h1 : w1.heap[w.heap.size]? = some (.cells Rfd.zero.cs.toArray 31 (0, 0)) := b1.at_ h0
  have put : ∀ (w2 : World) (f : Rfd), Bel w1 w2 → Xstore Tryd.prog 31 (.pointer (some ⟨w.heap.size, 0, none⟩)) f.v w2 = some (undef, w2.setRow w.heap.size f.cs.toArray) ∧ Qload Tryd.prog 31 (.pointer (some ⟨w.heap.size, 0, none⟩)) (w2.setRow w.heap.size f.cs.toArray) = some f.v ∧ Bel w (w2.setRow w.heap.size f.cs.toArray) := by
    intro w2 f b2
    have h2 := b2.at_ h1
    refine ⟨store31 h2 rfl, Rfd.all (CellsAt.of (setRow_heap _ _ _ _ _ _ h2)), ?_⟩
    exact ((Chg.of_bel (b01.trans b2) _).trans (setRow_chg _ _) fun _ _ e => e).bel fun k hk e => by omega
  have bad : Brings ((Qbuild Tryd.prog 31 #[] w1).bind fun v54 => (Xstore Tryd.prog 31 (.pointer (some ⟨w.heap.size, 0, none⟩)) v54 w1).bind fun r55 => ((((Qload Tryd.prog 31 (.pointer (some ⟨w.heap.size, 0, none⟩)) r55.2).bind fun v => ((((some [])).map fun vs => (.bool false) :: vs)).map fun vs => v :: vs)).map oneOf).map fun v => (v, r55.2))
      (fun r => Bel w r.2 ∧ r.1 = resR Rfd.zero false) := by
    obtain ⟨e1, e2, e3⟩ := put w1 Rfd.zero (Bel.refl _)
    rw [bld31n, Option.bind_some, e1, Option.bind_some]
    simp only
    rw [e2]
    exact .ret ⟨e3, rfl⟩
  cases ha : Ftp.accS 44 6 (b.drop p) with
  | none =>
    simp only [go_sem, Option.isSome, Bool.not_false]
    have e6 : Ftp.sixS k b (b.drop p) = none := by unfold Ftp.sixS; rw [ha]; rfl
    rw [e6]
    exact bad
  | some x =>
    obtain ⟨xs, r1⟩ := x
    obtain ⟨rfl, hv⟩ := h xs r1 ha
    obtain ⟨hlen, hby, _⟩ := (Ftp.accS_iff (by decide)).1 ha
    obtain ⟨y4, q4, hy4, x4, l4⟩ := t99.get hv (j := 4) (by omega)
    obtain ⟨y5, q5, hy5, x5, l5⟩ := t99.get hv (j := 5) (by omega)
    have hb4 := hby y4 (List.mem_of_getElem? hy4)
    have hb5 := hby y5 (List.mem_of_getElem? hy5)
    have hport : Ftp.portS xs = y4 * 256 + y5 := by
      unfold Ftp.portS
      rw [List.getD_eq_getElem?_getD, List.getD_eq_getElem?_getD, hy4, hy5]
      rfl
    have x4' : ∀ w2, QindexAddr Tryd.prog 99 v (.int .i64 4) w2 = some (.pointer (some q4)) := x4
    have x5' : ∀ w2, QindexAddr Tryd.prog 99 v (.int .i64 5) w2 = some (.pointer (some q5)) := x5
    -- the good end
    have good : Ftp.portS xs ≠ 0 → Brings ((Xcall Tryd.prog (Value.func (Fn.func 47) #[] #[]) #[v] w1.drew).bind fun r56 =>
        (QindexAddr Tryd.prog 99 v (.int .i64 4) r56.2).bind fun v57 =>
        (Qload Tryd.prog 3 v57 r56.2).bind fun v58 =>
        (Qbin Tryd.prog .mul 3 v58 (.int .i64 256)).bind fun v59 =>
        (QindexAddr Tryd.prog 99 v (.int .i64 5) r56.2).bind fun v60 =>
        (Qload Tryd.prog 3 v60 r56.2).bind fun v61 =>
        (Qbin Tryd.prog .add 3 v59 v61).bind fun v62 =>
        (Qconv Tryd.prog 3 25 v62).bind fun v63 =>
        (Qbuild Tryd.prog 31 #[(0, .int .i64 k), (1, .int .i64 (p : Int)), (2, .int .i64 ((b.length - r1.length : Nat) : Int)), (3, r56.1), (4, v63)] r56.2).bind fun v64 =>
        (Xstore Tryd.prog 31 (.pointer (some ⟨w.heap.size, 0, none⟩)) v64 r56.2).bind fun r65 =>
        chkK ((QindexAddr Tryd.prog 99 v (.int .i64 4) w1.drew = some v57 ∧ QindexAddr Tryd.prog 99 v (.int .i64 4) r56.2 = some v57) ∧ ((Qload Tryd.prog 3 v57 w1.drew = some v58 ∧ Qload Tryd.prog 3 v57 r56.2 = some v58) ∧ ((QindexAddr Tryd.prog 99 v (.int .i64 5) w1.drew = some v60 ∧ QindexAddr Tryd.prog 99 v (.int .i64 5) r56.2 = some v60) ∧ ((Qload Tryd.prog 3 v60 w1.drew = some v61 ∧ Qload Tryd.prog 3 v60 r56.2 = some v61) ∧ True)))) (
          ((((Qload Tryd.prog 31 (.pointer (some ⟨w.heap.size, 0, none⟩)) r65.2).bind fun v => ((((some [])).map fun vs => (.bool true) :: vs)).map fun vs => v :: vs)).map oneOf).map fun v => (v, r65.2)))
        (fun r => Bel w r.2 ∧ r.1 = (match Ftp.sixS k b (b.drop p) with
          | some x => resR (ofR x.1) true
          | none => resR Rfd.zero false)) := by
      intro hne
      have e6 : Ftp.sixS k b (b.drop p) = some (⟨k, (p : Int), ((b.length - r1.length : Nat) : Int), Ftp.addrS xs, Ftp.portS xs⟩, r1) := by
        unfold Ftp.sixS
        rw [ha, Option.bind_some, if_neg hne, List.length_drop]
        have := (acc_suf (by decide) ha).length_le
        rw [List.length_drop] at this
        dsimp only
        rw [show ((b.length : Int) - ((b.length - p : Nat) : Int)) = (p : Int) by omega, show ((b.length : Int) - (r1.length : Int)) = ((b.length - r1.length : Nat) : Int) by omega]
      rw [e6]
      have bd1 : Bel w1 w1.drew := (Bel.refl w1).drew
      generalize w1.drew = wd at *
      refine (k47 (hv.bel bd1) (by omega) hby).bind ?_
      rintro _ rfl
      have bd2 : Bel wd wd.drew := (Bel.refl wd).drew
      simp only
      generalize wd.drew = wd2 at *
      have m1 := l4
      have ld4 : ∀ w2, Bel w1 w2 → Qload Tryd.prog 3 (.pointer (some q4)) w2 = some (.int .i64 y4) := by
        intro w2 b2
        obtain ⟨y, q, hy, x, l⟩ := t99.get (hv.bel b2) (j := 4) (by omega)
        have e := (x w2).symm.trans (x4 w2)
        injection e with e; injection e with e; injection e with e
        subst e
        rw [hy4] at hy; injection hy with hy; subst hy
        exact l
      have ld5 : ∀ w2, Bel w1 w2 → Qload Tryd.prog 3 (.pointer (some q5)) w2 = some (.int .i64 y5) := by
        intro w2 b2
        obtain ⟨y, q, hy, x, l⟩ := t99.get (hv.bel b2) (j := 5) (by omega)
        have e := (x w2).symm.trans (x5 w2)
        injection e with e; injection e with e; injection e with e
        subst e
        rw [hy5] at hy; injection hy with hy; subst hy
        exact l
      obtain ⟨e1, e2, e3⟩ := put wd2 ⟨k, (p : Int), ((b.length - r1.length : Nat) : Int), Ftp.addrS xs, Ftp.portS xs⟩ (bd1.trans bd2)
      simp only [x4', x5', ld4 _ (bd1.trans bd2), ld5 _ (bd1.trans bd2), ld4 _ bd1, ld5 _ bd1, go_sem]
      have w4 : IntKind.i64.wrap (y4 * 256) = y4 * 256 := wr (by omega) (by omega)
      rw [w4, wr (by omega) (by omega), conv325 (by omega), Option.bind_some, bld31, Option.bind_some, ← hport, e1, Option.bind_some]
      simp only [and_self, chkK_T]
      rw [e2]
      exact .ret ⟨e3, rfl⟩
    have e60 : Ftp.portS xs = 0 → Ftp.sixS k b (b.drop p) = none := by
      intro h
      unfold Ftp.sixS
      rw [ha, Option.bind_some, if_pos h]
    simp only [go_sem, Option.isSome, Bool.not_true, x4' w1, l4]
    by_cases c4 : y4 = 0
    · rw [show (y4 == 0) = true by simpa using c4]
      simp only [go_sem, x5' w1, l5]
      by_cases c5 : y5 = 0
      · rw [show (y5 == 0) = true by simpa using c5]
        simp only [go_sem]
        rw [e60 (by omega)]
        exact bad
      · rw [show (y5 == 0) = false by simpa using c5]
        simp only [go_sem]
        exact good (by omega)
    · rw [show (y4 == 0) = false by simpa using c4]
      simp only [go_sem]
      exact good (by omega)

end Go.Proofs.YtphokckbcmiddaaDoor
