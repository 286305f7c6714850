/- The reader: a place; six numbers. -/
import Derived.Test.YtphokckbcmiddaaDoorMFt13
import Derived.Lib.BytesEntry
import Derived.Lib.IndexLaws
import Derived.Lib.AppendZeros
/- The reader: a place; six numbers. -/
namespace Go.Proofs.YtphokckbcmiddaaDoor
open Go Go.Ev Go.RowKit
open Go.Proofs

theorem x65 {w : World} {s : Value} {l : List Int} (hs : Vw w s l) (c : Int) : Xcall Tryd.prog (Value.func (Fn.func 65) #[] #[]) #[s, .int .u8 c] w = some (.int .i64 (Lib.indexByte (Lib.bytesOf l) c.toNat.toUInt8), w) := by
  rw [Xcall_ext Tryd.func65 (by kernel_rfl) (by kernel_rfl) (by kernel_rfl) (e := Extern.BytealgIndexByte.indexByte) (by kernel_rfl)]
  obtain ⟨x, cap, rfl, h1, h2, h3, h4⟩ := hs
  cases l with
  | nil => cases x <;> rfl
  | cons y l =>
    obtain ⟨g, o, rfl, _⟩ := h4 0 y rfl
    rw [Lib.run_indexByteSlice (P := Tryd.prog) w g o (y :: l).length cap (y :: l) rfl (fun i hi => by
      obtain ⟨g', o', e, hc⟩ := h4 i (y :: l)[i] (List.getElem?_eq_getElem hi)
      injection e with e
      injection e with e1 e2 _
      subst e1 e2
      have := hc 0 _ rfl
      rw [Nat.mul_one, Nat.add_zero] at this
      rw [this, List.getD_eq_getElem?_getD, List.getElem?_eq_getElem hi]
      rfl) c]

theorem ib_of {l : List Int} (hl : okB l) : (Lib.indexByte (Lib.bytesOf l) (40 : Int).toNat.toUInt8 = -1 ∧ (40 : Int) ∉ l) ∨ (∃ o : Nat, Lib.indexByte (Lib.bytesOf l) (40 : Int).toNat.toUInt8 = o ∧ l[o]? = some 40 ∧ (40 : Int) ∉ l.take o) := by
  have hget : ∀ (k : Nat) (x : Int), l[k]? = some x → ((Lib.bytesOf l)[k]? = some (40 : Int).toNat.toUInt8 ↔ x = 40) := by
    intro k x hx
    unfold Lib.bytesOf
    rw [List.getElem?_map, hx]
    have := hl x (List.mem_of_getElem? hx)
    constructor
    · intro h
      exact byte_eq this (by decide) (Option.some.inj h)
    · rintro rfl; rfl
  have hge := Lib.indexByte_ge (Lib.bytesOf l) (40 : Int).toNat.toUInt8
  by_cases h : Lib.indexByte (Lib.bytesOf l) (40 : Int).toNat.toUInt8 = -1
  · left
    refine ⟨h, fun hm => ?_⟩
    obtain ⟨k, hk⟩ := List.mem_iff_getElem?.1 hm
    exact Lib.indexByte_none h k ((hget k 40 hk).2 rfl)
  · right
    obtain ⟨o, ho⟩ := Int.eq_ofNat_of_zero_le (show 0 ≤ Lib.indexByte (Lib.bytesOf l) (40 : Int).toNat.toUInt8 by omega)
    obtain ⟨h1, h2⟩ := Lib.indexByte_some ho
    have hol : o < l.length := by
      have := (List.getElem?_eq_some_iff.1 h1).1
      rwa [Lib.bytesOf_length] at this
    refine ⟨o, ho, ?_, fun hm => ?_⟩
    · have hx := List.getElem?_eq_getElem hol
      rw [(hget o _ hx).1 h1] at hx
      exact hx
    · obtain ⟨k, hk⟩ := List.mem_iff_getElem?.1 hm
      rw [List.getElem?_take] at hk
      split at hk
      · exact h2 k ‹_› ((hget k 40 hk).2 rfl)
      · cases hk

theorem k25 {w : World} {g : Nat} {sl : Value} {b : List Int} {st : Option (List Int)} {pos : Nat} (h : RdA w g sl b st pos) :
    Brings (Xcall Tryd.prog (Value.func (Fn.func 25) #[] #[]) #[.pointer (some ⟨g, 0, none⟩)] w) (fun r => Stp w g sl b (st.bind Ftp.openS) r.2) := by
  refine e25 ?_
  unfold s25
  generalize hwd : w.drew = wd
  have bd : Bel w wd := by rw [← hwd]; exact (Bel.refl w).drew
  have h1 := h.bel bd
  have hle := h.le
  have hsh := h.short
  obtain ⟨v', e, hv, _⟩ := vlo h1.view (lo := pos) hle wd
  have hok := h.ok.drop pos
  have x45 : Xcall Tryd.prog (Value.func (Fn.func 45) #[] #[]) #[v', .int .u8 40] wd = some (.int .i64 (Lib.indexByte (Lib.bytesOf (b.drop pos)) (40 : Int).toNat.toUInt8), wd) := by
    obtain ⟨r, hr, hq⟩ := e45 (x0 := v') (x1 := .int .u8 40) (w := wd) (Q := fun r => r = (.int .i64 (Lib.indexByte (Lib.bytesOf (b.drop pos)) (40 : Int).toNat.toUInt8), wd)) (by
      unfold s45
      simp only [x65 hv, go_sem]
      exact .ret rfl)
    rw [hr, hq]
  simp only [go_sem, h1.ld0, h1.ld1, e, x45]
  have hall : Chg (fun k => k = g) w wd := Chg.of_bel bd _
  rcases ib_of hok with ⟨hi, hn⟩ | ⟨o, hi, ho, hn⟩
  · rw [hi]
    simp only [show decide ((-1 : Int) < 0) = true from rfl, go_sem, rst2 h1.at_]
    have hat := setRow_heap wd g _ #[sl, .int .i64 (pos : Int), .bool true] 59 _ h1.at_
    have c4 := hall.trans (setRow_chg g #[sl, .int .i64 ((pos : Nat) : Int), .bool true]) fun _ _ e => e
    refine .ret ?_
    have hnone : st.bind Ftp.openS = none := by
      cases hst : st with
      | none => rfl
      | some r =>
        rw [h.rest r hst, Option.bind_some]
        exact if_neg hn
    rw [hnone]
    exact ⟨h.put c4 hat h.le (fun r e => (by cases e)), c4⟩
  · rw [hi]
    have hol := (List.getElem?_eq_some_iff.1 ho).1
    rw [List.length_drop] at hol
    rw [decide_eq_false (by omega)]
    simp only [go_sem, h1.ld1]
    rw [wr (by omega) (by omega), show (pos : Int) + (o : Int) = ((pos + o : Nat) : Int) by omega, rst1 h1.at_]
    have hat := setRow_heap wd g _ #[sl, .int .i64 ((pos + o : Nat) : Int), .bool st.isNone] 59 _ h1.at_
    have c4 := hall.trans (setRow_chg g #[sl, .int .i64 ((pos + o : Nat) : Int), .bool st.isNone]) fun _ _ e => e
    refine .ret ?_
    have hsome : ∀ r, st = some r → st.bind Ftp.openS = some (b.drop (pos + o)) := by
      rintro r hst
      rw [hst, h.rest r hst, Option.bind_some]
      have : (b.drop pos) = (b.drop pos).take o ++ (b.drop pos).drop o := (List.take_append_drop ..).symm
      refine Ftp.openS_iff.2 ⟨(b.drop pos).take o, (b.drop pos).drop (o + 1), ?_, hn, ?_⟩
      · rw [← List.drop_drop]; exact this
      · rw [← List.drop_drop]
        have hlt : o < (b.drop pos).length := by rw [List.length_drop]; omega
        rw [List.drop_eq_getElem_cons hlt, (List.getElem?_eq_some_iff.1 ho).2]
    have hisn : (st.bind Ftp.openS).isNone = st.isNone := by
      cases hst : st with
      | none => rfl
      | some r => rw [← hst, hsome r hst, hst]; rfl
    rw [← hisn] at hat c4
    rw [← hisn]
    refine ⟨h.put c4 hat (by omega) (fun r e => ?_), c4⟩
    cases hst : st with
    | none => rw [hst] at e; cases e
    | some r0 =>
      rw [hsome r0 hst] at e
      exact (Option.some.inj e).symm

/-! ## A found name in memory -/

theorem inf24 : ∃ i, Tryd.prog.info? 24 = some i ∧ i.size = 1 := ⟨(Tryd.prog.info? 24).get (by kernel_rfl), by kernel_rfl, by kernel_rfl⟩
theorem inf25 : ∃ i, Tryd.prog.info? 25 = some i ∧ i.size = 1 := ⟨(Tryd.prog.info? 25).get (by kernel_rfl), by kernel_rfl, by kernel_rfl⟩
theorem fst2 {w : World} {g : Nat} {f : Fnd} (h : w.heap[g]? = some (.cells f.cs.toArray 27 (0, 0))) (c : Int) : Xstore Tryd.prog 3 (.pointer (some ⟨g, 2, none⟩)) (.int .i64 c) w = some (undef, w.setRow g (Fnd.cs ⟨f.kind, f.start, c, f.addr, f.port⟩).toArray) := by
  obtain ⟨i, hi, hs⟩ := inf3
  rw [Xstore_row (v := .int .i64 c) hi (by rw [hs]; rfl) h (by rw [hs]; exact Nat.le_of_ble_eq_true rfl) (by intro u hu; simp [Value.cells] at hu; subst hu; rfl), hs]
  rfl
theorem fst3 {w : World} {g : Nat} {f : Fnd} (h : w.heap[g]? = some (.cells f.cs.toArray 27 (0, 0))) (c : Int) : Xstore Tryd.prog 24 (.pointer (some ⟨g, 3, none⟩)) (.int .u32 c) w = some (undef, w.setRow g (Fnd.cs ⟨f.kind, f.start, f.end_, c, f.port⟩).toArray) := by
  obtain ⟨i, hi, hs⟩ := inf24
  rw [Xstore_row (v := .int .u32 c) hi (by rw [hs]; rfl) h (by rw [hs]; exact Nat.le_of_ble_eq_true rfl) (by intro u hu; simp [Value.cells] at hu; subst hu; rfl), hs]
  rfl
theorem fst4 {w : World} {g : Nat} {f : Fnd} (h : w.heap[g]? = some (.cells f.cs.toArray 27 (0, 0))) (c : Int) : Xstore Tryd.prog 25 (.pointer (some ⟨g, 4, none⟩)) (.int .u16 c) w = some (undef, w.setRow g (Fnd.cs ⟨f.kind, f.start, f.end_, f.addr, c⟩).toArray) := by
  obtain ⟨i, hi, hs⟩ := inf25
  rw [Xstore_row (v := .int .u16 c) hi (by rw [hs]; rfl) h (by rw [hs]; exact Nat.le_of_ble_eq_true rfl) (by intro u hu; simp [Value.cells] at hu; subst hu; rfl), hs]
  rfl
theorem bld27 (k s : Int) (w : World) : Qbuild Tryd.prog 27 #[(0, .int .i64 k), (1, .int .i64 s)] w = some (Fnd.v ⟨k, s, 0, 0, 0⟩) := by kernel_rfl
theorem bld27n (w : World) : Qbuild Tryd.prog 27 #[] w = some Fnd.zero.v := by kernel_rfl
theorem conv6324 (n : Int) : Qconv Tryd.prog 63 24 (.int .u64 n) = some (.int .u32 (IntKind.u32.wrap n)) := Qconv_int (k := .u32) (by kernel_rfl)
theorem conv6325 (n : Int) : Qconv Tryd.prog 63 25 (.int .u64 n) = some (.int .u16 (IntKind.u16.wrap n)) := Qconv_int (k := .u16) (by kernel_rfl)
theorem wrap_u32' (n : Int) : IntKind.u32.wrap n = n % 4294967296 := by
  simp only [IntKind.wrap, IntKind.bits, IntKind.signed]
  simp
theorem wrap_u16' (n : Int) : IntKind.u16.wrap n = n % 65536 := by
  simp only [IntKind.wrap, IntKind.bits, IntKind.signed]
  simp

def ofFd (f : Ftp.Fd) : Fnd := ⟨f.kind, f.start, f.stop, f.addr, f.port⟩

theorem six_val {l : List Int} (hb : Ftp.byt l) (hl : l.length = 6) : valB l / 65536 % 4294967296 = Ftp.addrS l ∧ valB l % 65536 = Ftp.portS l := by
  match l, hl with
  | [a, b, c, d, e, f], _ =>
    have ha := hb a (by simp)
    have hb' := hb b (by simp)
    have hc := hb c (by simp)
    have hd := hb d (by simp)
    have he := hb e (by simp)
    have hf := hb f (by simp)
    simp only [valB, List.foldl_cons, List.foldl_nil, Ftp.addrS, Ftp.portS, List.getD_cons_zero, List.getD_cons_succ]
    omega
theorem four_val {l : List Int} (hb : Ftp.byt l) (hl : l.length = 4) : valB l % 4294967296 = Ftp.addrS l := by
  match l, hl with
  | [a, b, c, d], _ =>
    have ha := hb a (by simp)
    have hb' := hb b (by simp)
    have hc := hb c (by simp)
    have hd := hb d (by simp)
    simp only [valB, List.foldl_cons, List.foldl_nil, Ftp.addrS, List.getD_cons_zero, List.getD_cons_succ]
    omega

theorem k22 {w : World} {g : Nat} {sl : Value} {b : List Int} {st : Option (List Int)} {k : Int} (h : RdP w g sl b st) (hT : Tab w) (hg8 : 8 ≤ g) :
    Brings (Xcall Tryd.prog (Value.func (Fn.func 22) #[] #[]) #[.pointer (some ⟨g, 0, none⟩), .int .i64 k] w)
      (fun r => (∃ f : Fnd, r.1 = f.v ∧ ∀ x, st.bind (Ftp.sixS k b) = some x → f = ofFd x.1) ∧ Stp w g sl b ((st.bind (Ftp.sixS k b)).map (·.2)) r.2) := by
  refine e22 ?_
  unfold s22
  obtain ⟨pos, h⟩ := h
  have hgw : g < w.heap.size := (Array.getElem?_eq_some_iff.1 h.at_).1
  rw [alloc27]
  have b1 : Bel w (w.alloc (.cells Fnd.zero.cs.toArray 27)) := (Bel.refl w).alloc _
  have hg1 : (w.alloc (.cells Fnd.zero.cs.toArray 27)).heap[w.heap.size]? = some (.cells Fnd.zero.cs.toArray 27 (0, 0)) := (MapKept.heap_alloc w _).1
  have s1 : (w.alloc (.cells Fnd.zero.cs.toArray 27)).heap.size = w.heap.size + 1 := by simp
  generalize w.alloc (.cells Fnd.zero.cs.toArray 27) = w1 at b1 hg1 s1
  have h1 := h.bel b1
  simp only [go_sem, h1.ld1, bld27]
  rw [alloc27]
  simp only [go_sem, put27]
  have b2 : Bel w1 ((w1.alloc (.cells Fnd.zero.cs.toArray 27)).setRow w1.heap.size (Fnd.cs ⟨k, (pos : Int), 0, 0, 0⟩).toArray) := local_bel _ _ _
  have hg2 : ((w1.alloc (.cells Fnd.zero.cs.toArray 27)).setRow w1.heap.size (Fnd.cs ⟨k, (pos : Int), 0, 0, 0⟩).toArray).heap[w1.heap.size]? = some (.cells (Fnd.cs ⟨k, (pos : Int), 0, 0, 0⟩).toArray 27 (0, 0)) := setRow_heap _ _ _ _ 27 _ (MapKept.heap_alloc w1 _).1
  generalize (w1.alloc (.cells Fnd.zero.cs.toArray 27)).setRow w1.heap.size (Fnd.cs ⟨k, (pos : Int), 0, 0, 0⟩).toArray = w2 at b2 hg2
  have hg12 := b2.at_ hg1
  rw [s1] at hg2
  rw [s1]
  have h2 := h1.bel b2
  have e44 : ({ data := #[44] } : ByteArray) = strOfNums [44] := by decide +kernel
  rw [e44]
  have bw2 := b1.trans b2
  refine (k23 (many := 6) (sep := 44) ⟨pos, h2⟩ (hT.bel bw2) hg8 (by decide) (by decide) (by decide)).bind ?_
  rintro ⟨_, w3⟩ ⟨⟨v, he, hv0, hv1, hval⟩, ⟨p3, h3⟩, hc3⟩
  simp only at he h3 hc3
  subst he
  have hg13 := hc3.at_ hg12 (by omega)
  have hg23 := hc3.at_ hg2 (by omega)
  have c3 : Chg (fun k => k = g) w w3 := bw2.thenChg hc3
  simp only [go_sem, h3.ld1, conv6324, conv6325, Int.reduceLE]
  rw [show (2 : Int) ^ min (Int.toNat 16) 64 = 65536 by decide, Int.fdiv_eq_ediv_of_nonneg _ (by decide)]
  simp only [fst2 hg23, go_sem]
  have hg24 := setRow_heap w3 (w.heap.size + 1) _ (Fnd.cs ⟨k, (pos : Int), (p3 : Int), 0, 0⟩).toArray 27 _ hg23
  have c4 := c3.trans ((setRow_chg (w := w3) (w.heap.size + 1) (Fnd.cs ⟨k, (pos : Int), (p3 : Int), 0, 0⟩).toArray)) (T := fun k => k = w.heap.size + 1) fun k hk e => by omega
  have d4 := setRow_chg (w := w3) (w.heap.size + 1) (Fnd.cs ⟨k, (pos : Int), (p3 : Int), 0, 0⟩).toArray
  generalize w3.setRow (w.heap.size + 1) (Fnd.cs ⟨k, (pos : Int), (p3 : Int), 0, 0⟩).toArray = w4 at hg24 c4 d4
  simp only [fst3 hg24, go_sem]
  have hg25 := setRow_heap w4 (w.heap.size + 1) _ (Fnd.cs ⟨k, (pos : Int), (p3 : Int), IntKind.u32.wrap (v / 65536), 0⟩).toArray 27 _ hg24
  have c5 := c4.trans ((setRow_chg (w := w4) (w.heap.size + 1) (Fnd.cs ⟨k, (pos : Int), (p3 : Int), IntKind.u32.wrap (v / 65536), 0⟩).toArray)) (T := fun k => k = w.heap.size + 1) fun k hk e => by omega
  have d5 := d4.trans (setRow_chg (w := w4) (w.heap.size + 1) (Fnd.cs ⟨k, (pos : Int), (p3 : Int), IntKind.u32.wrap (v / 65536), 0⟩).toArray) fun _ _ e => e
  generalize w4.setRow (w.heap.size + 1) (Fnd.cs ⟨k, (pos : Int), (p3 : Int), IntKind.u32.wrap (v / 65536), 0⟩).toArray = w5 at hg25 c5 d5
  simp only [fst4 hg25, go_sem]
  have hg26 := setRow_heap w5 (w.heap.size + 1) _ (Fnd.cs ⟨k, (pos : Int), (p3 : Int), IntKind.u32.wrap (v / 65536), IntKind.u16.wrap v⟩).toArray 27 _ hg25
  have c6 := c5.trans ((setRow_chg (w := w5) (w.heap.size + 1) (Fnd.cs ⟨k, (pos : Int), (p3 : Int), IntKind.u32.wrap (v / 65536), IntKind.u16.wrap v⟩).toArray)) (T := fun k => k = w.heap.size + 1) fun k hk e => by omega
  have d6 := d5.trans (setRow_chg (w := w5) (w.heap.size + 1) (Fnd.cs ⟨k, (pos : Int), (p3 : Int), IntKind.u32.wrap (v / 65536), IntKind.u16.wrap v⟩).toArray) fun _ _ e => e
  generalize w5.setRow (w.heap.size + 1) (Fnd.cs ⟨k, (pos : Int), (p3 : Int), IntKind.u32.wrap (v / 65536), IntKind.u16.wrap v⟩).toArray = w6 at hg26 c6 d6
  have hne : g ≠ w.heap.size + 1 := by omega
  have h6 : RdA w6 g sl b ((st.bind (Ftp.accS 44 6)).map (·.2)) p3 := ⟨d6.at_ h3.at_ hne, h3.le, h3.rest, h.view.chg c6 (fun q hq e => h.apart (by rw [hq, e])), h.apart, h.ok, h.short⟩
  have hg16 := d6.at_ hg13 (by omega)
  generalize hF : Fnd.mk k (pos : Int) (p3 : Int) (IntKind.u32.wrap (v / 65536)) (IntKind.u16.wrap v) = F at hg26
  have hFp : Qload Tryd.prog 25 (.pointer (some ⟨w.heap.size + 1, 4, none⟩)) w6 = some (.int .u16 (IntKind.u16.wrap v)) := by
    have := Fnd.b4 (CellsAt.of hg26)
    rw [← hF] at this
    exact this
  have hnn : ∀ {c : Bool}, c = (st.bind (Ftp.sixS k b)).isNone → ((st.bind (Ftp.sixS k b)).map (·.2)).isNone = c := by
    rintro c rfl
    cases st.bind (Ftp.sixS k b) <;> rfl
  -- the reader's mark, and the end
  have fin : ∀ (c : Bool), c = (st.bind (Ftp.sixS k b)).isNone → (∀ x, st.bind (Ftp.sixS k b) = some x → F = ofFd x.1 ∧ x.2 = b.drop p3) →
      Brings ((Xstore Tryd.prog 4 (.pointer (some ⟨g, 2, none⟩)) (.bool c) w6).bind fun r976 => (Qload Tryd.prog 27 (.pointer (some ⟨w.heap.size + 1, 0, none⟩)) r976.2).bind fun v977 => (Xstore Tryd.prog 27 (.pointer (some ⟨w.heap.size, 0, none⟩)) v977 r976.2).bind fun r978 =>
        ((((Qload Tryd.prog 27 (.pointer (some ⟨w.heap.size, 0, none⟩)) r978.2).bind fun v => ((some [])).map fun vs => v :: vs)).map oneOf).map fun v => (v, r978.2))
        (fun r => (∃ f : Fnd, r.1 = f.v ∧ ∀ x, st.bind (Ftp.sixS k b) = some x → f = ofFd x.1) ∧ Stp w g sl b ((st.bind (Ftp.sixS k b)).map (·.2)) r.2) := by
    intro c hc hx
    have hat7 := setRow_heap w6 g _ #[sl, .int .i64 (p3 : Int), .bool c] 59 _ h6.at_
    have c7 := c6.trans (setRow_chg (w := w6) g #[sl, .int .i64 ((p3 : Nat) : Int), .bool c]) fun _ _ e => e
    have d7 := setRow_chg (w := w6) g #[sl, .int .i64 ((p3 : Nat) : Int), .bool c]
    simp only [rst2 h6.at_, go_sem]
    generalize w6.setRow g #[sl, .int .i64 ((p3 : Nat) : Int), .bool c] = w7 at hat7 c7 d7
    have hg27 := d7.at_ hg26 (fun e => hne e.symm)
    have hg17 := d7.at_ hg16 (by omega)
    simp only [Fnd.all (CellsAt.of hg27), go_sem, store27 (x := F) hg17 rfl]
    have hg18 := setRow_heap w7 w.heap.size _ F.cs.toArray 27 _ hg17
    have c8 := c7.trans (setRow_chg (w := w7) w.heap.size F.cs.toArray) fun k hk e => by omega
    have d8 := setRow_chg (w := w7) w.heap.size F.cs.toArray
    simp only [Fnd.all (CellsAt.of hg18), go_sem]
    refine .ret ⟨⟨F, rfl, fun x h => (hx x h).1⟩, h.put c8 (by rw [hnn hc]; exact d8.at_ hat7 (by omega)) h6.le (fun r hr => ?_), c8⟩
    obtain ⟨x, hx2, rfl⟩ := Option.map_eq_some_iff.1 hr
    exact (hx x hx2).2
  cases hacc : st.bind (Ftp.accS 44 6) with
  | none =>
    have hl := h6.ld2
    rw [hacc] at hl
    have hnone : st.bind (Ftp.sixS k b) = none := by
      cases st with
      | none => rfl
      | some r =>
        rw [Option.bind_some] at hacc ⊢
        unfold Ftp.sixS
        rw [hacc]; rfl
    simp only [hl, Option.map_none, Option.isNone_none, go_sem]
    exact fin true (by rw [hnone]; rfl) (fun x hx => by rw [hnone] at hx; cases hx)
  | some x =>
    have hl := h6.ld2
    rw [hacc] at hl
    simp only [hl, Option.map_some, Option.isNone_some, go_sem, hFp]
    obtain ⟨l, r'⟩ := x
    cases hst : st with
    | none => rw [hst] at hacc; cases hacc
    | some r =>
      rw [hst, Option.bind_some] at hacc
      obtain ⟨a1, a2, a3, a4⟩ := (Ftp.accS_iff (by decide)).1 hacc
      have hv := hval (l, r') (by rw [hst]; exact hacc)
      simp only at hv
      have hsv := six_val a2 a1
      have hrr : r' = b.drop p3 := h6.rest r' (by rw [hst, Option.bind_some, hacc]; rfl)
      have hr0 : r = b.drop pos := h.rest r hst
      rw [wrap_u16'] at *
      rw [hv, hsv.2] at hFp ⊢
      rw [hst] at fin
      by_cases hp0 : Ftp.portS l = 0
      · rw [hp0, show ((0 : Int) == 0) = true from rfl]
        have hnone : (some r).bind (Ftp.sixS k b) = none := by
          rw [Option.bind_some]
          unfold Ftp.sixS
          rw [hacc, Option.bind_some, if_pos hp0]
        exact fin true (by rw [hnone]; rfl) (fun x hx => by rw [hnone] at hx; cases hx)
      · rw [show (Ftp.portS l == 0) = false by simpa using hp0]
        have hle := h.le
        have hle3 := h3.le
        have hsome : (some r).bind (Ftp.sixS k b) = some (⟨k, b.length - r.length, b.length - r'.length, Ftp.addrS l, Ftp.portS l⟩, r') := by
          rw [Option.bind_some]
          unfold Ftp.sixS
          rw [hacc, Option.bind_some, if_neg hp0]
        refine fin false (by rw [hsome]; rfl) (fun x hx => ?_)
        rw [hsome] at hx
        obtain rfl := Option.some.inj hx
        refine ⟨?_, hrr⟩
        rw [← hF, wrap_u32', hv, hsv.1, hsv.2]
        simp only [ofFd, Fnd.mk.injEq, true_and, and_true]
        rw [hr0, hrr, List.length_drop, List.length_drop]
        omega

end Go.Proofs.YtphokckbcmiddaaDoor

/- Find: its parts. -/
namespace Go.Proofs.YtphokckbcmiddaaDoor
open Go Go.Ev Go.RowKit
open Go.Proofs

theorem bld57 (x : Option Addr) (n c : Nat) (w : World) : Qbuild Tryd.prog 57 #[(0, .slice x n c)] w = some (.agg #[.slice x n c, .int .i64 0]) := by kernel_rfl
theorem bld59 (x : Option Addr) (n c : Nat) (w : World) : Qbuild Tryd.prog 59 #[(0, .agg #[.slice x n c, .int .i64 0])] w = some (.agg #[.slice x n c, .int .i64 0, .bool false]) := by kernel_rfl
theorem zero22 (w : World) : (zeroValue 22).run Tryd.prog w = .ok (.slice none 0 0) w := by kernel_rfl
theorem alloc22 (w : World) : Xalloc Tryd.prog 22 w = some (.pointer (some ⟨w.heap.size, 0, none⟩), w.alloc (.cells #[.slice none 0 0] 22)) := Xalloc_eq (zero22 w)
theorem put22 {w : World} {g : Nat} {x v : Value} (h : w.heap[g]? = some (.cells #[x] 22 (0, 0))) (hv : ∃ a n c, v = .slice a n c) : Xstore Tryd.prog 22 (.pointer (some ⟨g, 0, none⟩)) v w = some (undef, w.setRow g #[v]) := by
  obtain ⟨i, hi, hs⟩ := inf22
  obtain ⟨a, n, c, rfl⟩ := hv
  exact Xstore_var (v := .slice a n c) hi (by rw [hs]; rfl) h (by rw [hs]; rfl) (by intro u hu; simp [Value.cells] at hu; subst hu; rfl)

/-- A new reader. -/
theorem k20 {w : World} {V : Nat} {sl : Value} {b : List Int} (hV : w.heap[V]? = some (.cells #[sl] 22 (0, 0))) (hv : Vw w sl b) (hok : okB b) (hs : b.length ≤ 128) (hlow : ∀ k, sl.ownBlock = some k → k < w.heap.size) :
    Brings (Xcall Tryd.prog (Value.func (Fn.func 20) #[] #[.pointer (some ⟨V, 0, none⟩)]) #[] w) (fun r => r.1 = .pointer (some ⟨w.heap.size, 0, none⟩) ∧ RdA r.2 w.heap.size sl b (some b) 0 ∧ Bel w r.2) := by
  refine e20 ?_
  unfold s20
  obtain ⟨x, c, rfl, _⟩ := vcap hv
  have hld : Qload Tryd.prog 22 (.pointer (some ⟨V, 0, none⟩)) w = some (.slice x b.length c) := Qload_cell one22 (cell_at hV rfl)
  simp only [hld, go_sem, bld57, bld59]
  have b1 : Bel w (w.alloc (.cells #[.slice x b.length c, .int .i64 0, .bool false] 59)) := (Bel.refl w).alloc _
  refine .ret ⟨rfl, ⟨(MapKept.heap_alloc w _).1, Nat.zero_le _, fun r hr => by rw [← Option.some.inj hr, List.drop_zero], hv.bel b1, ?_, hok, hs⟩, b1⟩
  intro h
  have := hlow _ h
  simp at this

/-- The variables of a call of Find. -/
structure FS (w0 w : World) (F V : Nat) (sl : Value) (b : List Int) (f : Fnd) : Prop where
  bel : Bel w0 w
  atF : w.heap[F]? = some (.cells f.cs.toArray 27 (0, 0))
  atV : w.heap[V]? = some (.cells #[sl] 22 (0, 0))
  lowF : w0.heap.size ≤ F
  lowV : w0.heap.size ≤ V
  ne : F ≠ V
  view : Vw w0 sl b
  ok : okB b
  short : b.length ≤ 128
  old : ∀ k, sl.ownBlock = some k → k < w0.heap.size
  tab : Tab w0

section fs
variable {w0 w w' : World} {F V R : Nat} {sl : Value} {b : List Int} {f : Fnd} {st : Option (List Int)} {pos : Nat}
theorem FS.tabw (h : FS w0 w F V sl b f) : Tab w := h.tab.bel h.bel
theorem FS.ltF (h : FS w0 w F V sl b f) : F < w.heap.size := (Array.getElem?_eq_some_iff.1 h.atF).1
theorem FS.ltV (h : FS w0 w F V sl b f) : V < w.heap.size := (Array.getElem?_eq_some_iff.1 h.atV).1
theorem FS.step (h : FS w0 w F V sl b f) (hc : Chg (fun k => k = R) w w') (hR : w0.heap.size ≤ R) (h1 : R ≠ F) (h2 : R ≠ V) : FS w0 w' F V sl b f :=
  ⟨(h.bel.thenChg hc).bel (fun k hk e => by omega), hc.at_ h.atF (fun e => h1 e.symm), hc.at_ h.atV (fun e => h2 e.symm), h.lowF, h.lowV, h.ne, h.view, h.ok, h.short, h.old, h.tab⟩
theorem FS.belw (h : FS w0 w F V sl b f) (hb : Bel w w') : FS w0 w' F V sl b f :=
  ⟨h.bel.trans hb, hb.at_ h.atF, hb.at_ h.atV, h.lowF, h.lowV, h.ne, h.view, h.ok, h.short, h.old, h.tab⟩
/-- The result gets another value. -/
theorem FS.put (h : FS w0 w F V sl b f) {f' : Fnd} : Xstore Tryd.prog 27 (.pointer (some ⟨F, 0, none⟩)) f'.v w = some (undef, w.setRow F f'.cs.toArray) ∧ FS w0 (w.setRow F f'.cs.toArray) F V sl b f' := by
  refine ⟨store27 (x := f') h.atF rfl, ?_⟩
  have hc := setRow_chg (w := w) F f'.cs.toArray
  have hl := h.lowF
  exact ⟨(h.bel.thenChg hc).bel (fun k hk e => by omega), setRow_heap w F _ _ 27 _ h.atF, hc.at_ h.atV (fun e => h.ne e.symm), h.lowF, h.lowV, h.ne, h.view, h.ok, h.short, h.old, h.tab⟩
theorem FS.set (h : FS w0 w F V sl b f) (f' : Fnd) : FS w0 (w.setRow F f'.cs.toArray) F V sl b f' := (h.put (f' := f')).2
theorem RdA.putF (h : RdA w R sl b st pos) (hs : FS w0 w F V sl b f) (hR : R ≠ F) (c : Array Value) : RdA (w.setRow F c) R sl b st pos := by
  have hl := hs.lowF
  exact h.chg (setRow_chg F c) hR (fun k hk e => by have := hs.old k hk; omega)
theorem FS.rd (h : FS w0 w F V sl b f) : Brings (Xcall Tryd.prog (Value.func (Fn.func 20) #[] #[.pointer (some ⟨V, 0, none⟩)]) #[] w) (fun r => ∃ R, r.1 = .pointer (some ⟨R, 0, none⟩) ∧ RdA r.2 R sl b (some b) 0 ∧ FS w0 r.2 F V sl b f ∧ w0.heap.size ≤ R ∧ R ≠ F ∧ R ≠ V) := by
  refine (k20 h.atV (h.view.bel h.bel) h.ok h.short (fun k hk => Nat.lt_of_lt_of_le (h.old k hk) h.bel.size)).mono ?_
  rintro r ⟨h1, h2, h3⟩
  have := h.ltF
  have := h.ltV
  exact ⟨w.heap.size, h1, h2, h.belw h3, h.bel.size, by omega, by omega⟩

def resV (o : Option Fnd) : Value := match o with | some f => .tuple #[f.v, .bool true] | none => .tuple #[Fnd.zero.v, .bool false]

/-- The end. -/
theorem done62 (h : FS w0 w F V sl b f) (hR : RdA w R sl b st pos) : Brings (s10U1x62 (.pointer (some ⟨F, 0, none⟩)) (.pointer (some ⟨R, 0, none⟩)) w) (fun r => r.1 = resV (if st.isNone then none else some f) ∧ Bel w0 r.2) := by
  unfold s10U1x62
  simp only [go_sem, hR.ld2]
  cases st with
  | none =>
    obtain ⟨e, h2⟩ := h.put (f' := Fnd.zero)
    simp only [Option.isNone_none, go_sem, bld27n, e, Fnd.all (CellsAt.of h2.atF)]
    exact .ret ⟨rfl, h2.bel⟩
  | some x =>
    obtain ⟨e, h2⟩ := h.put (f' := f)
    simp only [Option.isNone_some, go_sem, Fnd.all (CellsAt.of h.atF), e, Fnd.all (CellsAt.of h2.atF)]
    exact .ret ⟨rfl, h2.bel⟩
theorem done63 (h : FS w0 w F V sl b f) (hR : RdA w R sl b st pos) : Brings (s10U1x63 (.pointer (some ⟨F, 0, none⟩)) (.pointer (some ⟨R, 0, none⟩)) w) (fun r => r.1 = resV (if st.isNone then none else some f) ∧ Bel w0 r.2) := by
  unfold s10U1x63
  simp only [go_sem, hR.ld2]
  cases st with
  | none =>
    obtain ⟨e, h2⟩ := h.put (f' := Fnd.zero)
    simp only [Option.isNone_none, go_sem, bld27n, e, Fnd.all (CellsAt.of h2.atF)]
    exact .ret ⟨rfl, h2.bel⟩
  | some x =>
    obtain ⟨e, h2⟩ := h.put (f' := f)
    simp only [Option.isNone_some, go_sem, Fnd.all (CellsAt.of h.atF), e, Fnd.all (CellsAt.of h2.atF)]
    exact .ret ⟨rfl, h2.bel⟩

/-- A step of the reader in a call of Find. -/
theorem FS.eat (h : FS w0 w F V sl b f) (hR : RdA w R sl b st pos) (h0 : w0.heap.size ≤ R) (h1 : R ≠ F) (h2 : R ≠ V) (s : List Int) (hs : okB s) (hs7 : ∀ c ∈ s, c < 128) (hsl : s.length ≤ 100) :
    Brings (Xcall Tryd.prog (Value.func (Fn.func 21) #[] #[]) #[.pointer (some ⟨R, 0, none⟩), .string (strOfNums s)] w) (fun r => r.1 = .bool (st.bind (Ftp.eatS s)).isSome ∧ (∃ p, RdA r.2 R sl b (st.bind (Ftp.eatS s)) p) ∧ FS w0 r.2 F V sl b f) := by
  refine (k21 hR h.tabw (by have := h.tab.size; omega) hs hs7 hsl).mono ?_
  rintro r ⟨e, hp, hc⟩
  exact ⟨e, hp, h.step hc h0 h1 h2⟩
end fs

end Go.Proofs.YtphokckbcmiddaaDoor

/- Find: of a client. -/
namespace Go.Proofs.YtphokckbcmiddaaDoor
open Go Go.Ev Go.RowKit
open Go.Proofs

theorem conv325 {n : Int} (h : 0 ≤ n ∧ n ≤ 65535) : Qconv Tryd.prog 3 25 (.int .i64 n) = some (.int .u16 n) := by
  rw [Qconv_int (k := .u16) (by kernel_rfl), wrap_u16']
  congr 2
  omega
theorem numV_bd1 (o : Option (List Int)) : 0 ≤ numV (o.bind (numL 1 65535)) ∧ numV (o.bind (numL 1 65535)) ≤ 65535 := by
  cases o with
  | none => exact ⟨Int.le_refl 0, by decide⟩
  | some r =>
    simp only [Option.bind_some]
    cases h : numL 1 65535 r with
    | none => exact ⟨Int.le_refl 0, by decide⟩
    | some y =>
      unfold numL at h
      obtain ⟨z, hz, h⟩ := Option.bind_eq_some_iff.1 h
      split at h
      · cases h
      · obtain rfl := Option.some.inj h
        have := Ftp.numS_iff.1 hz
        exact ⟨this.1, this.2.1⟩
theorem numL_1 (r : List Int) : numL 1 65535 r = (Ftp.numS 65535 r).bind fun y => if y.1 = 0 then none else some y := by
  unfold numL
  cases h : Ftp.numS 65535 r with
  | none => rfl
  | some y =>
    obtain ⟨n, r'⟩ := y
    have := Ftp.numS_iff.1 h
    simp only [Option.bind_some]
    by_cases c : n = 0
    · subst c; rfl
    · rw [if_neg (by omega), if_neg c]

def endS (r : List Int) : Option (List Int) := if r = [] then some r else none

theorem drop_nil {b : List Int} {p : Nat} (h : p ≤ b.length) : b.drop p = [] ↔ p = b.length := by
  constructor
  · intro e
    have := congrArg List.length e
    rw [List.length_drop, List.length_nil] at this
    omega
  · rintro rfl; simp

theorem ofFd_port {b r : List Int} {x : Ftp.Fd × List Int} (h : Ftp.sixS 1 b r = some x) : Ftp.portL b r = if x.2 = [] then some x.1 else none := by
  unfold Ftp.portL
  rw [h]; rfl

/-- The reader's mark: bad, or not at the line's end. -/
theorem mark_end {w0 w : World} {F V R : Nat} {sl : Value} {b : List Int} {f : Fnd} {st : Option (List Int)} {p : Nat} {β : Type} {Q : β → Prop} {K : World → Option β}
    (hs : FS w0 w F V sl b f) (hR : RdA w R sl b st p) (h0 : w0.heap.size ≤ R) (h1 : R ≠ F) (h2 : R ≠ V)
    (hK : ∀ w' p', RdA w' R sl b (st.bind endS) p' → FS w0 w' F V sl b f → Brings (K w') Q) :
    Brings ((Qload Tryd.prog 4 (.pointer (some ⟨R, 2, none⟩)) w.drew).bind fun v17 =>
        (guardQ v17 false (Qnil (gv (isB v17 false) (.pointer (some ⟨R, 0, none⟩))))).bind fun v18 =>
        (guardQ v17 false (QfieldAddr Tryd.prog 59 v18 0)).bind fun v19 =>
        (guardQ v17 false (QfieldAddr Tryd.prog 57 v19 1)).bind fun v20 =>
        (guardQ v17 false (Qload Tryd.prog 3 v20 w.drew)).bind fun v21 =>
        (guardQ v17 false (Qload Tryd.prog 22 (.pointer (some ⟨V, 0, none⟩)) w.drew)).bind fun v22 =>
        (guardQ v17 false (Qlen Tryd.prog #[22] 3 #[v22] w.drew)).bind fun v23 =>
        (guardQ v17 false (Qbin Tryd.prog Go.BinOp.neq 3 v21 v23)).bind fun v24 =>
        (Qpick v17 (Go.Value.bool true) v24).bind fun v25 =>
        (Xstore Tryd.prog 4 (.pointer (some ⟨R, 2, none⟩)) v25 w.drew).bind fun r28 => K r28.2) Q := by
  generalize hwd : w.drew = wd
  have bd : Bel w wd := by rw [← hwd]; exact (Bel.refl w).drew
  have hR1 := hR.bel bd
  have hs1 := hs.belw bd
  have hld : Qload Tryd.prog 22 (.pointer (some ⟨V, 0, none⟩)) wd = some sl := Qload_cell one22 (cell_at hs1.atV rfl)
  have fin : ∀ c : Bool, c = (st.bind endS).isNone → Brings (K (wd.setRow R #[sl, .int .i64 (p : Int), .bool c])) Q := by
    rintro c hc
    have hat := setRow_heap wd R _ #[sl, .int .i64 (p : Int), .bool c] 59 _ hR1.at_
    have hch := setRow_chg (w := wd) R #[sl, .int .i64 (p : Int), .bool c]
    refine hK _ p ⟨by rw [← hc]; exact hat, hR.le, fun r hr => ?_, hR1.view.chg hch (fun q hq e => hR.apart (by rw [hq, e])), hR.apart, hR.ok, hR.short⟩ (hs1.step hch h0 h1 h2)
    obtain ⟨r0, e0, e1⟩ := Option.bind_eq_some_iff.1 hr
    unfold endS at e1
    split at e1
    · obtain rfl := Option.some.inj e1
      exact hR.rest _ e0
    · cases e1
  simp only [hR1.ld2]
  cases hst : st with
  | none =>
    have hat := hR1.at_
    rw [hst] at hat
    simp only [Option.isNone_none, go_sem, rst2 hat]
    exact fin true (by rw [hst]; rfl)
  | some r =>
    have hat := hR1.at_
    rw [hst] at hat
    have hr := hR.rest r hst
    simp only [Option.isNone_some, go_sem, hR1.ld1, hld, vlen hR1.view, rst2 hat]
    refine fin _ ?_
    rw [hst, Option.bind_some]
    unfold endS
    have hd := drop_nil hR.le
    rw [← hr] at hd
    by_cases c : r = []
    · rw [if_pos c, hd.1 c]; simp
    · rw [if_neg c]
      have : p ≠ b.length := fun e => c (hd.2 e)
      simp
      omega

theorem fin_port {b r : List Int} {f : Fnd} (hf : ∀ x, (some r).bind (Ftp.sixS 1 b) = some x → f = ofFd x.1) :
    (if ((((some r).bind (Ftp.sixS 1 b)).map (·.2)).bind endS).isNone then none else some f) = (Ftp.portL b r).map ofFd := by
  rw [Option.bind_some] at hf ⊢
  cases h : Ftp.sixS 1 b r with
  | none =>
    unfold Ftp.portL
    rw [h]; rfl
  | some x =>
    rw [ofFd_port h, hf x h]
    by_cases c : x.2 = [] <;> simp [endS, c]


theorem str_PORT : ({ data := #[80, 79, 82, 84, 32] } : ByteArray) = strOfNums Ftp.sPORT := by decide +kernel
theorem str_EPRT : ({ data := #[69, 80, 82, 84, 32] } : ByteArray) = strOfNums Ftp.sEPRT := by decide +kernel
theorem str_227 : ({ data := #[50, 50, 55, 32] } : ByteArray) = strOfNums Ftp.s227 := by decide +kernel
theorem str_229 : ({ data := #[50, 50, 57, 32] } : ByteArray) = strOfNums Ftp.s229 := by decide +kernel
theorem str_bar1 : ({ data := #[124, 49, 124] } : ByteArray) = strOfNums [124, 49, 124] := by decide +kernel
theorem str_bar : ({ data := #[124] } : ByteArray) = strOfNums [124] := by decide +kernel
theorem str_dot : ({ data := #[46] } : ByteArray) = strOfNums [46] := by decide +kernel
theorem str_op : ({ data := #[40] } : ByteArray) = strOfNums [40] := by decide +kernel
theorem str_cl : ({ data := #[41] } : ByteArray) = strOfNums [41] := by decide +kernel
theorem str_ob : ({ data := #[40, 124, 124, 124] } : ByteArray) = strOfNums [40, 124, 124, 124] := by decide +kernel
theorem str_bc : ({ data := #[124, 41] } : ByteArray) = strOfNums [124, 41] := by decide +kernel

/-- What Find hands back, of a line that is one. -/
def FinR (w0 : World) (b : List Int) (back : Bool) (r : Value × World) : Prop := r.1 = resV ((Ftp.findB b back).map ofFd) ∧ Bel w0 r.2

/-- EPRT, all in one. -/
theorem eprt_all {b : List Int} {v n : Int} {s2 s4 s5 : Option (List Int)} {p1 p5 : Nat} {f : Fnd}
    (h1 : ∀ r, Ftp.eatS Ftp.sEPRT b = some r → r = b.drop p1) (hp1 : p1 ≤ b.length)
    (hs2 : s2 = (Ftp.eatS Ftp.sEPRT b).bind (Ftp.eatS [124, 49, 124])) (hv : ∀ x, s2.bind (Ftp.accS 46 4) = some x → v = valB x.1)
    (hs4 : s4 = ((s2.bind (Ftp.accS 46 4)).map (·.2)).bind (Ftp.eatS [124])) (hn : n = numV (s4.bind (numL 1 65535)))
    (hs5 : s5 = ((s4.bind (numL 1 65535)).map (·.2)).bind (Ftp.eatS [124])) (h5 : ∀ r, s5 = some r → r = b.drop p5) (hp5 : p5 ≤ b.length)
    (hf : f = ⟨2, p1, p5, IntKind.u32.wrap v, n⟩) : (if (s5.bind endS).isNone then none else some f) = (Ftp.eprtL b).map ofFd := by
  unfold Ftp.eprtL
  cases e1 : Ftp.eatS Ftp.sEPRT b with
  | none => subst hs5 hs4 hs2; simp [e1]
  | some r =>
    have hr := h1 r e1
    cases e2 : Ftp.eatS [124, 49, 124] r with
    | none => subst hs5 hs4 hs2; simp [e1, e2]
    | some r1 =>
      have hs2' : s2 = some r1 := by rw [hs2, e1, Option.bind_some, e2]
      cases e3 : Ftp.accS 46 4 r1 with
      | none => subst hs5 hs4; simp [hs2', e2, e3]
      | some x =>
        have hvx := hv x (by rw [hs2', Option.bind_some, e3])
        obtain ⟨a1, a2, a3, a4⟩ := (Ftp.accS_iff (by decide)).1 e3
        have hfv := four_val a2 a1
        cases e4 : Ftp.eatS [124] x.2 with
        | none => subst hs5 hs4; simp [hs2', e2, e3, e4]
        | some r3 =>
          have hs4' : s4 = some r3 := by rw [hs4, hs2', Option.bind_some, e3, Option.map_some, Option.bind_some, e4]
          cases e5 : Ftp.numS 65535 r3 with
          | none => subst hs5; simp [hs4', numL_1, e2, e3, e4, e5]
          | some y =>
            by_cases c0 : y.1 = 0
            · subst hs5; simp [hs4', numL_1, e2, e3, e4, e5, c0]
            · have hn5 : s4.bind (numL 1 65535) = some y := by rw [hs4', Option.bind_some, numL_1, e5, Option.bind_some, if_neg c0]
              cases e6 : Ftp.eatS [124] y.2 with
              | none => subst hs5; simp [hn5, e2, e3, e4, e5, e6, c0]
              | some r5 =>
                have hs5' : s5 = some r5 := by rw [hs5, hn5, Option.map_some, Option.bind_some, e6]
                have hr5 := h5 r5 hs5'
                by_cases c5 : r5 = []
                · have hp : p5 = b.length := (drop_nil hp5).1 (by rw [← hr5]; exact c5)
                  have hp1' : p1 = 5 := by
                    obtain ⟨q, hq1, hq2⟩ := Ftp.eatS_iff.1 e1
                    have l1 := congrArg List.length hq1
                    have l2 := congrArg List.length hr
                    have l3 := Ftp.map_len hq2
                    rw [List.length_append] at l1
                    rw [List.length_drop] at l2
                    have : Ftp.sEPRT.length = 5 := rfl
                    omega
                  rw [hs5']
                  simp only [Option.bind_some, endS, if_pos c5, Option.isNone_some, Bool.false_eq_true, if_false, e2, e3, e4, e5, e6, c0]
                  simp only [Option.map_some, Option.some.injEq]
                  rw [hf, hp1', hp, wrap_u32', hvx, hfv, hn, hn5]
                  rfl
                · rw [hs5']
                  simp [endS, c5, e2, e3, e4, e5, e6, c0]

end Go.Proofs.YtphokckbcmiddaaDoor

/- Find: of a server; whole. -/
namespace Go.Proofs.YtphokckbcmiddaaDoor
open Go Go.Ev Go.RowKit
open Go.Proofs

theorem pasv_all {b r : List Int} {s2 s4 : Option (List Int)} {f : Fnd} (hs2 : s2 = (Ftp.openS r).bind (Ftp.eatS [40])) (hf : ∀ x, s2.bind (Ftp.sixS 3 b) = some x → f = ofFd x.1)
    (hs4 : s4 = ((s2.bind (Ftp.sixS 3 b)).map (·.2)).bind (Ftp.eatS [41])) : (if s4.isNone then none else some f) = (Ftp.pasvL b r).map ofFd := by
  unfold Ftp.pasvL
  cases e1 : Ftp.openS r with
  | none => subst hs4 hs2; simp [e1]
  | some r1 =>
    cases e2 : Ftp.eatS [40] r1 with
    | none => subst hs4 hs2; simp [e1, e2]
    | some r2 =>
      have hs2' : s2 = some r2 := by rw [hs2, e1, Option.bind_some, e2]
      cases e3 : Ftp.sixS 3 b r2 with
      | none => subst hs4; simp [hs2', e2, e3]
      | some x =>
        have hfx := hf x (by rw [hs2', Option.bind_some, e3])
        cases e4 : Ftp.eatS [41] x.2 with
        | none => subst hs4; simp [hs2', e2, e3, e4]
        | some r4 => subst hs4; simp [hs2', e2, e3, e4, hfx]

theorem epsv_all {b : List Int} {n : Int} {s2 s5 : Option (List Int)} {p2 p4 : Nat} {f : Fnd}
    (hs2 : s2 = (((Ftp.eatS Ftp.s229 b).bind Ftp.openS).bind (Ftp.eatS [40, 124, 124, 124]))) (h2 : ∀ r, s2 = some r → r = b.drop p2) (hp2 : p2 ≤ b.length)
    (hn : n = numV (s2.bind (numL 1 65535))) (h4 : ∀ r, (s2.bind (numL 1 65535)).map (·.2) = some r → r = b.drop p4) (hp4 : p4 ≤ b.length)
    (hs5 : s5 = ((s2.bind (numL 1 65535)).map (·.2)).bind (Ftp.eatS [124, 41])) (hf : f = ⟨4, p2, p4, 0, n⟩) : (if s5.isNone then none else some f) = (Ftp.epsvL b).map ofFd := by
  unfold Ftp.epsvL
  cases e1 : Ftp.eatS Ftp.s229 b with
  | none => subst hs5 hs2; simp [e1]
  | some r =>
    cases e1' : Ftp.openS r with
    | none => subst hs5 hs2; simp [e1, e1']
    | some r1 =>
      cases e2 : Ftp.eatS [40, 124, 124, 124] r1 with
      | none => subst hs5 hs2; simp [e1, e1', e2]
      | some r2 =>
        have hs2' : s2 = some r2 := by rw [hs2, e1, Option.bind_some, e1', Option.bind_some, e2]
        have hr2 := h2 r2 hs2'
        cases e5 : Ftp.numS 65535 r2 with
        | none => subst hs5; simp [hs2', numL_1, e1', e2, e5]
        | some y =>
          by_cases c0 : y.1 = 0
          · subst hs5; simp [hs2', numL_1, e1', e2, e5, c0]
          · have hn5 : s2.bind (numL 1 65535) = some y := by rw [hs2', Option.bind_some, numL_1, e5, Option.bind_some, if_neg c0]
            have hy2 := h4 y.2 (by rw [hn5]; rfl)
            cases e6 : Ftp.eatS [124, 41] y.2 with
            | none => subst hs5; simp [hn5, e1', e2, e5, e6, c0]
            | some r5 =>
              have hs5' : s5 = some r5 := by rw [hs5, hn5, Option.map_some, Option.bind_some, e6]
              rw [hs5']
              simp only [Option.bind_some, Option.isNone_some, Bool.false_eq_true, if_false, e1', e2, e5, e6, c0]
              simp only [Option.map_some, Option.some.injEq]
              rw [hf, hn, hn5]
              simp only [ofFd, Fnd.mk.injEq, true_and, numV, and_true]
              rw [hr2, hy2, List.length_drop, List.length_drop]
              omega

theorem okB_of {l : List Int} (h : (l.all fun c => decide (0 ≤ c) && decide (c ≤ 255)) = true) : okB l := fun c hc => by
  have := List.all_eq_true.1 h c hc
  simp only [Bool.and_eq_true, decide_eq_true_eq] at this
  exact this

section fs
variable {w0 w : World} {F V R : Nat} {sl : Value} {b : List Int} {f : Fnd} {st : Option (List Int)} {pos : Nat}

/-- A number of the reader in a call of Find. -/
theorem FS.num (h : FS w0 w F V sl b f) (hR : RdA w R sl b st pos) (h0 : w0.heap.size ≤ R) (h1 : R ≠ F) (h2 : R ≠ V) :
    Brings (Xcall Tryd.prog (Value.func (Fn.func 24) #[] #[]) #[.pointer (some ⟨R, 0, none⟩), .int .i64 1, .int .i64 65535] w) (fun r => r.1 = .int .i64 (numV (st.bind (numL 1 65535))) ∧ (∃ p, RdA r.2 R sl b ((st.bind (numL 1 65535)).map (·.2)) p) ∧ FS w0 r.2 F V sl b f) := by
  refine (k24 hR h.tabw (by decide)).mono ?_
  rintro r ⟨e, hp, hc⟩
  exact ⟨e, hp, h.step hc h0 h1 h2⟩

set_option maxRecDepth 100000 in
theorem epsv_tail (h : FS w0 w F V sl b f) {st0 : Option (List Int)} (hR : RdA w R sl b st0 pos) (h0 : w0.heap.size ≤ R) (h1 : R ≠ F) (h2 : R ≠ V) (hst : st0 = (Ftp.eatS Ftp.s229 b).bind Ftp.openS) :
    Brings (s10M1 (.pointer (some ⟨F, 0, none⟩)) (.pointer (some ⟨R, 0, none⟩)) w) (fun r => r.1 = resV ((Ftp.epsvL b).map ofFd) ∧ Bel w0 r.2) := by
  unfold s10M1
  rw [str_ob, str_bc]
  refine (h.eat hR h0 h1 h2 [40, 124, 124, 124] (okB_of rfl) (by decide) (by decide)).bind ?_
  rintro ⟨_, w1⟩ ⟨_, ⟨p2, hR2⟩, hs2⟩
  simp only at hR2 hs2
  simp only [go_sem, hR2.ld1, bld27]
  obtain ⟨e3, hs3⟩ := hs2.put (f' := ⟨4, (p2 : Int), 0, 0, 0⟩)
  have hR3 := hR2.putF hs2 h1 (Fnd.cs ⟨4, (p2 : Int), 0, 0, 0⟩).toArray
  simp only [e3, go_sem]
  refine (hs3.num hR3 h0 h1 h2).bind ?_
  rintro ⟨_, w4⟩ ⟨he, ⟨p4, hR4⟩, hs4⟩
  simp only at he hR4 hs4
  subst he
  simp only [go_sem, conv325 (numV_bd1 _), fst4 hs4.atF]
  have hs5 := hs4.set ⟨4, (p2 : Int), 0, 0, numV ((st0.bind (Ftp.eatS [40, 124, 124, 124])).bind (numL 1 65535))⟩
  have hR5 := hR4.putF hs4 h1 (Fnd.cs ⟨4, (p2 : Int), 0, 0, numV ((st0.bind (Ftp.eatS [40, 124, 124, 124])).bind (numL 1 65535))⟩).toArray
  simp only [go_sem, hR5.ld1, fst2 hs5.atF]
  have hs6 := hs5.set ⟨4, (p2 : Int), (p4 : Int), 0, numV ((st0.bind (Ftp.eatS [40, 124, 124, 124])).bind (numL 1 65535))⟩
  have hR6 := hR5.putF hs5 h1 (Fnd.cs ⟨4, (p2 : Int), (p4 : Int), 0, numV ((st0.bind (Ftp.eatS [40, 124, 124, 124])).bind (numL 1 65535))⟩).toArray
  refine (hs6.eat hR6 h0 h1 h2 [124, 41] (okB_of rfl) (by decide) (by decide)).bind ?_
  rintro ⟨_, w7⟩ ⟨_, ⟨p7, hR7⟩, hs7⟩
  simp only at hR7 hs7
  have hend := epsv_all (b := b) (s2 := st0.bind (Ftp.eatS [40, 124, 124, 124])) (p2 := p2) (p4 := p4) (by rw [hst]) hR2.rest hR2.le rfl hR4.rest hR4.le rfl rfl
  have hd := done62 hs7 hR7
  rw [hend] at hd
  unfold s10U1x62 at hd
  exact hd
end fs

theorem find_shortB {b : List Int} (back : Bool) (h : b.length ≤ 8) : Ftp.findB b back = none := by
  cases hf : Ftp.findB b back with
  | none => rfl
  | some f =>
    exfalso
    have dl : ∀ n : Nat, 1 ≤ (Ftp.digs n).length := fun n => List.length_pos_iff.2 (Ftp.digs_ne n)
    have six : ∀ k a p : Int, k = 1 ∨ k = 3 → 11 ≤ (Ftp.textS k a p).length := by
      intro k a p hk
      rw [Ftp.textS_six hk]
      simp only [Ftp.fourS, List.cons_append, List.nil_append, Ftp.joinD, List.length_append, List.length_cons]
      have := dl (a / 16777216).toNat
      have := dl (a / 65536 % 256).toNat
      have := dl (a / 256 % 256).toNat
      have := dl (a % 256).toNat
      have := dl (p / 256).toNat
      have := dl (p % 256).toNat
      omega
    unfold Ftp.findB at hf
    cases back with
    | false =>
      simp only [Bool.false_eq_true, if_false] at hf
      split at hf
      · rename_i r hr
        obtain ⟨q, rfl, hq⟩ := Ftp.eatS_iff.1 hr
        obtain ⟨a, p, _, _, _, _, _, rfl⟩ := (Ftp.portL_iff ⟨q, rfl, Ftp.map_len hq⟩).1 hf
        have := six 1 a p (.inl rfl)
        rw [List.length_append] at h
        omega
      · obtain ⟨q, a, p, hq, _, _, _, _, _, rfl⟩ := Ftp.eprtL_iff.1 hf
        have := Ftp.map_len hq
        rw [List.length_append, this, Ftp.textS_2] at h
        simp only [List.length_append, List.length_cons, List.length_nil] at h
        have := dl p.toNat
        omega
    | true =>
      simp only [if_true] at hf
      split at hf
      · rename_i r hr
        rw [Ftp.eatP_iff (by decide)] at hr
        subst hr
        obtain ⟨x, y, a, p, _, _, _, _, _, _, rfl⟩ := (Ftp.pasvL_iff ⟨Ftp.s227, rfl, rfl⟩).1 hf
        have := six 3 a p (.inr rfl)
        simp only [List.length_append, List.length_cons, List.length_nil] at h
        omega
      · obtain ⟨x, y, p, _, _, _, _, rfl⟩ := Ftp.epsvL_iff.1 hf
        simp only [List.length_append, List.length_cons, List.length_nil] at h
        omega
theorem find_short {l : List Int} (back : Bool) (h : l.length ≤ 10) : Ftp.findS l back = none := by
  unfold Ftp.findS
  cases hl : Ftp.lineS l with
  | none => rfl
  | some b =>
    obtain ⟨rfl, _, _⟩ := Ftp.lineS_iff.1 hl
    rw [Option.bind_some]
    exact find_shortB back (by simp at h; exact h)

end Go.Proofs.YtphokckbcmiddaaDoor

/- Find: whole. -/
namespace Go.Proofs.YtphokckbcmiddaaDoor
open Go Go.Ev Go.RowKit
open Go.Proofs

theorem view_old {w : World} {s : Value} {l : List Int} (hs : Vw w s l) (h : l ≠ []) : ∀ k, s.ownBlock = some k → k < w.heap.size := by
  intro q hq
  obtain ⟨x, cap, rfl, _, _, _, hel⟩ := hs
  cases l with
  | nil => exact absurd rfl h
  | cons y l =>
    obtain ⟨g', o', e1, e2⟩ := hel 0 y rfl
    subst e1
    obtain rfl := Option.some.inj hq
    exact World.block_lt_of_cell? _ _ (e2 0 _ rfl)

theorem view_back {w w' : World} {v : Value} {b : List Int} (h : Vw w' v b) (hb : Bel w w') (ho : ∀ k, v.ownBlock = some k → k < w.heap.size) : Vw w v b := by
  obtain ⟨x, cap, rfl, h1, h2, h3, h4⟩ := h
  refine ⟨x, cap, rfl, h1, h2, h3, fun k y hk => ?_⟩
  obtain ⟨g, o, rfl, hc⟩ := h4 k y hk
  refine ⟨g, o, rfl, fun j u hj => ?_⟩
  have := hc j u hj
  rw [← this]
  exact (World.cell?_of_block (hb.block g (ho g rfl))).symm

section fs
variable {w0 w : World} {F V R : Nat} {sl : Value} {b : List Int} {f : Fnd}

/-- Of a server. -/
theorem server_all (h : FS w0 w F V sl b f) (hR : RdA w R sl b (some b) 0) (h0 : w0.heap.size ≤ R) (h1 : R ≠ F) (h2 : R ≠ V) :
    Brings (s10U0x63 (.pointer (some ⟨F, 0, none⟩)) (.func (.func 20) #[] #[.pointer (some ⟨V, 0, none⟩)]) (.pointer (some ⟨R, 0, none⟩)) w) (FinR w0 b true) := by
  unfold s10U0x63
  have h8 : 8 ≤ R := by have := h.tab.size; omega
  rw [str_227, str_229, str_op, str_cl]
  refine (h.eat hR h0 h1 h2 Ftp.s227 (okB_of rfl) (by decide) (by decide)).bind ?_
  rintro ⟨_, w1⟩ ⟨he, ⟨p1, hR1⟩, hs1⟩
  simp only at he hR1 hs1
  subst he
  rw [Option.bind_some] at hR1 ⊢
  cases e1 : Ftp.eatS Ftp.s227 b with
  | some r =>
    rw [e1] at hR1
    simp only [Option.isSome_some, go_sem]
    refine (k25 hR1).bind ?_
    rintro ⟨_, w2⟩ ⟨⟨p2, hR2⟩, hc2⟩
    simp only at hR2 hc2
    have hs2 := hs1.step hc2 h0 h1 h2
    refine (hs2.eat hR2 h0 h1 h2 [40] (okB_of rfl) (by decide) (by decide)).bind ?_
    rintro ⟨_, w3⟩ ⟨_, ⟨p3, hR3⟩, hs3⟩
    simp only at hR3 hs3
    refine (k22 (k := 3) ⟨p3, hR3⟩ hs3.tabw h8).bind ?_
    rintro ⟨_, w4⟩ ⟨⟨f4, he4, hf4⟩, ⟨p4, hR4⟩, hc4⟩
    simp only at he4 hR4 hc4
    subst he4
    have hs4 := hs3.step hc4 h0 h1 h2
    obtain ⟨e5, hs5⟩ := hs4.put (f' := f4)
    have hR5 := hR4.putF hs4 h1 f4.cs.toArray
    simp only [e5, go_sem]
    refine (hs5.eat hR5 h0 h1 h2 [41] (okB_of rfl) (by decide) (by decide)).bind ?_
    rintro ⟨_, w6⟩ ⟨_, ⟨p6, hR6⟩, hs6⟩
    simp only at hR6 hs6
    have hd := done62 hs6 hR6
    rw [pasv_all (b := b) (r := r) (s2 := ((some r).bind Ftp.openS).bind (Ftp.eatS [40])) rfl hf4 rfl] at hd
    refine hd.mono ?_
    rintro x ⟨e, hb⟩
    refine ⟨?_, hb⟩
    rw [e]
    unfold Ftp.findB
    simp only [if_true, e1]
  | none =>
    simp only [Option.isSome_none, go_sem]
    refine hs1.rd.bind ?_
    rintro ⟨_, w2⟩ ⟨R2, he2, hR2, hs2, g0, g1, g2⟩
    simp only at he2 hR2 hs2
    subst he2
    refine (hs2.eat hR2 g0 g1 g2 Ftp.s229 (okB_of rfl) (by decide) (by decide)).bind ?_
    rintro ⟨_, w3⟩ ⟨_, ⟨p3, hR3⟩, hs3⟩
    simp only at hR3 hs3
    rw [Option.bind_some] at hR3
    have hfin : ∀ x : Value × World, x.1 = resV ((Ftp.epsvL b).map ofFd) ∧ Bel w0 x.2 → FinR w0 b true x := by
      rintro x ⟨e, hb⟩
      refine ⟨?_, hb⟩
      rw [e]
      unfold Ftp.findB
      simp only [if_true, e1]
    simp only [go_sem, hR3.ld2]
    cases e3 : Ftp.eatS Ftp.s229 b with
    | none =>
      rw [e3] at hR3
      simp only [Option.isNone_none, Bool.not_true, go_sem]
      exact (epsv_tail hs3 hR3 g0 g1 g2 (by rw [e3]; rfl)).mono hfin
    | some r3 =>
      rw [e3] at hR3
      simp only [Option.isNone_some, Bool.not_false, go_sem]
      refine (k25 hR3).bind ?_
      rintro ⟨_, w4⟩ ⟨⟨p4, hR4⟩, hc4⟩
      simp only at hR4 hc4
      exact (epsv_tail (hs3.step hc4 g0 g1 g2) hR4 g0 g1 g2 (by rw [e3])).mono hfin
end fs

set_option maxRecDepth 100000 in
theorem k10 {w : World} {s : Value} {l : List Int} {back : Bool} (hs : Vw w s l) (hl : okB l) (hT : Tab w) : Brings (Xcall Tryd.prog (Value.func (Fn.func 10) #[] #[]) #[s, .bool back] w) (fun r => r.1 = resV ((Ftp.findS l back).map ofFd) ∧ Bel w r.2) := by
  refine e10 ?_
  unfold s10
  rw [alloc27]
  have b1 : Bel w (w.alloc (.cells Fnd.zero.cs.toArray 27)) := (Bel.refl w).alloc _
  have hg1 : (w.alloc (.cells Fnd.zero.cs.toArray 27)).heap[w.heap.size]? = some (.cells Fnd.zero.cs.toArray 27 (0, 0)) := (MapKept.heap_alloc w _).1
  generalize w.alloc (.cells Fnd.zero.cs.toArray 27) = w1 at b1 hg1
  simp only [go_sem]
  unfold s10M0
  refine (k19 (hs.bel b1) hl (hT.bel b1)).bind ?_
  rintro ⟨_, w2⟩ ⟨b2, v', ok, he, hsl, hlong, hok⟩
  simp only at he b2 hok
  subst he
  have hg2 := b2.at_ hg1
  have hlt2 : w.heap.size < w2.heap.size := (Array.getElem?_eq_some_iff.1 hg2).1
  rw [alloc22]
  simp only [go_sem]
  have b3 : Bel w2 (w2.alloc (.cells #[.slice none 0 0] 22)) := (Bel.refl w2).alloc _
  have hg3 := b3.at_ hg2
  have hv3 : (w2.alloc (.cells #[.slice none 0 0] 22)).heap[w2.heap.size]? = some (.cells #[.slice none 0 0] 22 (0, 0)) := (MapKept.heap_alloc w2 _).1
  generalize w2.alloc (.cells #[.slice none 0 0] 22) = w3 at b3 hg3 hv3
  have bw3 := (b1.trans b2).trans b3
  simp only [put22 hv3 hsl, go_sem]
  have hv4 := setRow_heap w3 w2.heap.size _ #[v'] 22 _ hv3
  have c4 := setRow_chg (w := w3) w2.heap.size #[v']
  have hg4 := c4.at_ hg3 (by omega)
  have hsz2 := (b1.trans b2).size
  have bw4 : Bel w (w3.setRow w2.heap.size #[v']) := (bw3.thenChg c4).bel fun k hk e => by omega
  have b24 : Bel w2 (w3.setRow w2.heap.size #[v']) := (b3.thenChg c4).bel fun k hk e => by omega
  generalize w3.setRow w2.heap.size #[v'] = w4 at hv4 hg4 bw4 b24
  cases ok with
  | false =>
    simp only [Bool.not_false, go_sem, bld27n, store27 (x := Fnd.zero) hg4 rfl]
    have hg5 := setRow_heap w4 w.heap.size _ Fnd.zero.cs.toArray 27 _ hg4
    simp only [Fnd.all (CellsAt.of hg5), go_sem]
    have hnone : Ftp.findS l back = none := by
      by_cases h10 : 10 < l.length
      · unfold Ftp.findS
        cases hls : Ftp.lineS l with
        | none => rfl
        | some b => have := hlong h10; rw [hls] at this; cases this
      · exact find_short back (by omega)
    rw [hnone]
    exact .ret ⟨rfl, (bw4.thenChg (setRow_chg _ _)).bel fun k hk e => by omega⟩
  | true =>
    simp only [Bool.not_true, go_sem]
    obtain ⟨hl2, hl128, hcr, hv, hown⟩ := hok rfl
    have hne : l ≠ [] := by intro e; subst e; simp at hl2
    generalize hb : l.take (l.length - 2) = b at hv
    have hbl : b.length = l.length - 2 := by rw [← hb, List.length_take]; omega
    have hres : Ftp.findS l back = Ftp.findB b back := by
      by_cases h10 : 10 < l.length
      · unfold Ftp.findS
        cases hls : Ftp.lineS l with
        | none => have := hlong h10; rw [hls] at this; cases this
        | some b' =>
          obtain ⟨e, _, _⟩ := Ftp.lineS_iff.1 hls
          have : b' = b := by rw [← hb, e]; simp
          rw [this]; rfl
      · rw [find_short back (by omega), find_shortB back (by omega)]
    have hold := view_old hs hne
    have hvold : ∀ k, v'.ownBlock = some k → k < w.heap.size := fun k hk => hold k (hown k hk)
    have hFS : FS w w4 w.heap.size w2.heap.size v' b Fnd.zero := ⟨bw4, hg4, hv4, Nat.le_refl _, hsz2, by omega, view_back hv (b1.trans b2) hvold, by rw [← hb]; exact hl.take _, by omega, hvold, hT⟩
    refine hFS.rd.bind ?_
    rintro ⟨_, w5⟩ ⟨R, he, hR, hs5, g0, g1, g2⟩
    simp only at he hR hs5
    subst he
    rw [hres]
    cases back with
    | true =>
      simp only [go_sem]
      exact server_all hs5 hR g0 g1 g2
    | false =>
      simp only [go_sem]
      have h8 : 8 ≤ R := by have := hT.size; omega
      rw [str_PORT]
      refine (hs5.eat hR g0 g1 g2 Ftp.sPORT (okB_of rfl) (by decide) (by decide)).bind ?_
      rintro ⟨_, w6⟩ ⟨he, ⟨p6, hR6⟩, hs6⟩
      simp only at he hR6 hs6
      subst he
      rw [Option.bind_some] at hR6 ⊢
      cases e1 : Ftp.eatS Ftp.sPORT b with
      | some r =>
        rw [e1] at hR6
        simp only [Option.isSome_some, go_sem]
        refine (k22 (k := 1) ⟨p6, hR6⟩ hs6.tabw h8).bind ?_
        rintro ⟨_, w7⟩ ⟨⟨f7, he7, hf7⟩, ⟨p7, hR7⟩, hc7⟩
        simp only at he7 hR7 hc7
        subst he7
        have hs7 := hs6.step hc7 g0 g1 g2
        obtain ⟨e8, hs8⟩ := hs7.put (f' := f7)
        have hR8 := hR7.putF hs7 g1 f7.cs.toArray
        generalize w7.setRow w.heap.size f7.cs.toArray = w8 at e8 hs8 hR8
        simp only [e8, go_sem]
        refine mark_end hs8 hR8 g0 g1 g2 (K := fun w' => s10U1x63 (.pointer (some ⟨w.heap.size, 0, none⟩)) (.pointer (some ⟨R, 0, none⟩)) w') fun w9 p9 hR9 hs9 => ?_
        have hd := done63 hs9 hR9
        rw [fin_port hf7] at hd
        refine hd.mono ?_
        rintro x ⟨e, hb⟩
        refine ⟨?_, hb⟩
        rw [e]
        unfold Ftp.findB
        simp only [Bool.false_eq_true, if_false, e1]
      | none =>
        simp only [Option.isSome_none, go_sem]
        rw [str_EPRT, str_bar1, str_bar, str_dot]
        refine hs6.rd.bind ?_
        rintro ⟨_, w7⟩ ⟨R2, he2, hR7, hs7, q0, q1, q2⟩
        simp only at he2 hR7 hs7
        subst he2
        have q8 : 8 ≤ R2 := by have := hT.size; omega
        refine (hs7.eat hR7 q0 q1 q2 Ftp.sEPRT (okB_of rfl) (by decide) (by decide)).bind ?_
        rintro ⟨_, w8⟩ ⟨_, ⟨p8, hR8⟩, hs8⟩
        simp only at hR8 hs8
        rw [Option.bind_some] at hR8
        simp only [go_sem, hR8.ld1, bld27]
        obtain ⟨e9, hs9⟩ := hs8.put (f' := ⟨2, (p8 : Int), 0, 0, 0⟩)
        have hR9 := hR8.putF hs8 q1 (Fnd.cs ⟨2, (p8 : Int), 0, 0, 0⟩).toArray
        simp only [e9, go_sem]
        refine (hs9.eat hR9 q0 q1 q2 [124, 49, 124] (okB_of rfl) (by decide) (by decide)).bind ?_
        rintro ⟨_, w10⟩ ⟨_, ⟨p10, hR10⟩, hs10⟩
        simp only at hR10 hs10
        refine (k23 (many := 4) (sep := 46) ⟨p10, hR10⟩ hs10.tabw q8 (by decide) (by decide) (by decide)).bind ?_
        rintro ⟨_, w11⟩ ⟨⟨v, he11, hv0, hv1, hval⟩, ⟨p11, hR11⟩, hc11⟩
        simp only at he11 hR11 hc11
        subst he11
        have hs11 := hs10.step hc11 q0 q1 q2
        simp only [go_sem, conv6324, fst3 hs11.atF]
        have hs12 := hs11.set ⟨2, (p8 : Int), 0, IntKind.u32.wrap v, 0⟩
        have hR12 := hR11.putF hs11 q1 (Fnd.cs ⟨2, (p8 : Int), 0, IntKind.u32.wrap v, 0⟩).toArray
        refine (hs12.eat hR12 q0 q1 q2 [124] (okB_of rfl) (by decide) (by decide)).bind ?_
        rintro ⟨_, w13⟩ ⟨_, ⟨p13, hR13⟩, hs13⟩
        simp only at hR13 hs13
        refine (hs13.num hR13 q0 q1 q2).bind ?_
        rintro ⟨_, w14⟩ ⟨he14, ⟨p14, hR14⟩, hs14⟩
        simp only at he14 hR14 hs14
        subst he14
        simp only [go_sem, conv325 (numV_bd1 _), fst4 hs14.atF]
        generalize hn : numV _ = n at *
        have hs15 := hs14.set ⟨2, (p8 : Int), 0, IntKind.u32.wrap v, n⟩
        have hR15 := hR14.putF hs14 q1 (Fnd.cs ⟨2, (p8 : Int), 0, IntKind.u32.wrap v, n⟩).toArray
        refine (hs15.eat hR15 q0 q1 q2 [124] (okB_of rfl) (by decide) (by decide)).bind ?_
        rintro ⟨_, w16⟩ ⟨_, ⟨p16, hR16⟩, hs16⟩
        simp only at hR16 hs16
        have e17 := fst2 hs16.atF (p16 : Int)
        have hs17 := hs16.set ⟨2, (p8 : Int), (p16 : Int), IntKind.u32.wrap v, n⟩
        have hR17 := hR16.putF hs16 q1 (Fnd.cs ⟨2, (p8 : Int), (p16 : Int), IntKind.u32.wrap v, n⟩).toArray
        generalize w16.setRow w.heap.size (Fnd.cs ⟨2, (p8 : Int), (p16 : Int), IntKind.u32.wrap v, n⟩).toArray = w17 at e17 hs17 hR17
        simp only [go_sem, hR16.ld1, e17]
        refine mark_end hs17 hR17 q0 q1 q2 (K := fun w' => s10U1x63 (.pointer (some ⟨w.heap.size, 0, none⟩)) (.pointer (some ⟨R2, 0, none⟩)) w') fun w18 p18 hR18 hs18 => ?_
        have hd := done63 hs18 hR18
        rw [eprt_all (b := b) (v := v) (n := n) (s2 := (Ftp.eatS Ftp.sEPRT b).bind (Ftp.eatS [124, 49, 124])) (p1 := p8) (p5 := p16) hR8.rest hR8.le rfl hval rfl hn.symm rfl hR16.rest hR16.le rfl] at hd
        refine hd.mono ?_
        rintro x ⟨e, hb⟩
        refine ⟨?_, hb⟩
        rw [e]
        unfold Ftp.findB
        simp only [Bool.false_eq_true, if_false, e1]

end Go.Proofs.YtphokckbcmiddaaDoor

/- Replace. -/
namespace Go.Proofs.YtphokckbcmiddaaDoor
open Go Go.Ev Go.RowKit
open Go.Proofs

theorem lit0_22 (w : World) : XbuildSlice Tryd.prog 22 0 #[] w = some (.slice (some ⟨w.heap.size, 0, none⟩) 0 0, w.alloc (.cells #[] 5)) := t22.lit0 w
theorem empty_own (w : World) (b0 : Nat) (hb : b0 ≤ w.heap.size) : Ob b0 (w.alloc (.cells #[] 5)) (.slice (some ⟨w.heap.size, 0, none⟩) 0 0) [] :=
  ⟨rfl, .inr ⟨w.heap.size, 0, #[], rfl, hb, (MapKept.heap_alloc w _).1, Nat.le_refl _, Nat.zero_le _, rfl, rfl⟩⟩

/-- A row that was laid since. -/
def New (w : World) (l : List Int) (r : Value × World) : Prop := Bel w r.2 ∧ Ob w.heap.size r.2 r.1 l
theorem New.view {w : World} {l : List Int} {r : Value × World} (h : New w l r) : Vw r.2 r.1 l := Ob.view h.2

/-- append([]byte{}, s...) -/
theorem copyB {w : World} {s : Value} {l : List Int} (hs : Vw w s l) (hl : l.length ≤ 140737488355328) :
    ∃ v' w', Xbi Tryd.prog .append #[22, 22] 22 #[.slice (some ⟨w.heap.size, 0, none⟩) 0 0, s] (w.alloc (.cells #[] 5)) = some (v', w') ∧ New w l (v', w') := by
  have b1 : Bel w (w.alloc (.cells #[] 5)) := (Bel.refl w).alloc _
  have ho := empty_own w w.heap.size (Nat.le_refl _)
  obtain ⟨v', w', e, o, g⟩ := ho.appV (by have := b1.size; omega) (hs.bel b1) (by simpa using hl)
  refine ⟨v', w', e, (b1.thenChg (Chg.of_grown g)).bel fun k hk e2 => ?_, by simpa using o⟩
  have := Option.some.inj e2
  simp at this
  omega

theorem k35 {w : World} {s : Value} {l : List Int} (hs : Vw w s l) (hl : l.length ≤ 140737488355328) : Brings (Xcall Tryd.prog (Value.func (Fn.func 35) #[] #[]) #[s] w) (New w l) := by
  refine e35 ?_
  unfold s35
  obtain ⟨x, cap, rfl, hc1, hc2, hnil, hel⟩ := hs
  have hs : Vw w (.slice x l.length cap) l := ⟨x, cap, rfl, hc1, hc2, hnil, hel⟩
  rw [Qb_eqlL (P := Tryd.prog) und22]
  cases x with
  | none =>
    simp only [Option.isNone_none, go_sem]
    have : l = [] := List.length_eq_zero_iff.1 (by have := hnil rfl; omega)
    subst this
    exact .ret ⟨Bel.refl _, Ob.nil _ _⟩
  | some a =>
    simp only [Option.isNone_some, go_sem, lit0_22]
    obtain ⟨v', w', e, hn⟩ := copyB hs hl
    simp only [e, go_sem]
    exact .ret hn

theorem cutnil (w : World) : Qslice Tryd.prog 22 (.slice none 0 0) none (some (.int .i64 0)) none w = some (.slice none 0 0) := by kernel_rfl

theorem k50 {w : World} {n : Nat} (hn : n ≤ 140737488355328) : Brings (Xcall Tryd.prog (Value.func (Fn.func 50) #[] #[]) #[.slice none 0 0, .int .i64 (n : Int)] w) (New w []) := by
  refine e50 ?_
  unfold s50
  simp only [go_sem]
  rw [decide_eq_false (by omega)]
  have hlen0 : ∀ w', Qlen Tryd.prog #[22] 3 #[.slice none 0 0] w' = some (.int .i64 ((0 : Nat) : Int)) := fun w' => Qlen_slice (P := Tryd.prog) und22
  simp only [go_sem, s50M0, qcap, hlen0]
  have e0 : IntKind.i64.wrap (((0 : Nat) : Int) - ((0 : Nat) : Int)) = 0 := by decide
  rw [e0, Int.sub_zero, wr (by omega) (by omega)]
  by_cases h0 : (0 : Int) < (n : Int)
  · rw [decide_eq_true h0]
    obtain ⟨i, hi, hz, h1, h2⟩ := inf5z
    have hap : Xbi Tryd.prog .append #[22, 3] 22 #[.slice none 0 0, .int .i64 (n : Int)] w = some (.slice (some ⟨w.heap.size, 0, none⟩) n (grownCap w n 0 5), w.drew.alloc (.cells (Builtin.zeroCells (Value.int .u8 0).cells n ++ Builtin.zeroCells (Value.int .u8 0).cells (grownCap w n 0 5 - n)) 5)) :=
      Xbi_append (Lib.run_append_nil_zeros (P := Tryd.prog) w 22 3 22 5 i (.int .u8 0) .i64 .i64 und22 (by kernel_rfl) hi hz n (by omega) (by omega) (by omega) (by rw [h2]; omega))
    have hb : Bel w (w.drew.alloc (.cells (Builtin.zeroCells (Value.int .u8 0).cells n ++ Builtin.zeroCells (Value.int .u8 0).cells (grownCap w n 0 5 - n)) 5)) := (Bel.refl w).drew.alloc _
    have hat : (w.drew.alloc (.cells (Builtin.zeroCells (Value.int .u8 0).cells n ++ Builtin.zeroCells (Value.int .u8 0).cells (grownCap w n 0 5 - n)) 5)).heap[w.heap.size]? = some (.cells (Builtin.zeroCells (Value.int .u8 0).cells n ++ Builtin.zeroCells (Value.int .u8 0).cells (grownCap w n 0 5 - n)) 5 (0, 0)) := (MapKept.heap_alloc w.drew _).1
    generalize w.drew.alloc (.cells (Builtin.zeroCells (Value.int .u8 0).cells n ++ Builtin.zeroCells (Value.int .u8 0).cells (grownCap w n 0 5 - n)) 5) = W at hap hb hat
    simp only [go_sem, qcap]
    rw [show (((0 : Nat) : Int)) = 0 from rfl, cutnil]
    simp only [go_sem, hap, hlen0]
    rw [cut0]
    simp only [go_sem]
    have hge := grownCap_ge w n 0 5
    have hmx := grownCap_le_maxLen w n 0 5 (by simp [maxLen]; omega)
    refine .ret ⟨hb, rfl, .inr ⟨w.heap.size, _, _, rfl, Nat.le_refl _, hat, Nat.zero_le _, hmx, ?_, rfl⟩⟩
    rw [Array.size_append, size_zeroCells, size_zeroCells]
    show n * 1 + (grownCap w n 0 5 - n) * 1 = grownCap w n 0 5 * 1
    omega
  · rw [decide_eq_false h0]
    simp only [go_sem]
    exact .ret ⟨Bel.refl _, Ob.nil _ _⟩

theorem und104 : Tryd.prog.underlying 104 = some (.slice 22) := by kernel_rfl
theorem lit104 (a b c : Value) (ha : ∃ x n m, a = .slice x n m) (hb : ∃ x n m, b = .slice x n m) (hc : ∃ x n m, c = .slice x n m) (w : World) :
    XbuildSlice Tryd.prog 104 3 #[(0, a), (1, b), (2, c)] w = some (.slice (some ⟨w.heap.size, 0, none⟩) 3 3, w.alloc (.cells #[a, b, c] 22)) := by
  obtain ⟨_, _, _, rfl⟩ := ha
  obtain ⟨_, _, _, rfl⟩ := hb
  obtain ⟨_, _, _, rfl⟩ := hc
  kernel_rfl

/-- Three rows, one behind the other. -/
theorem k36 {w : World} {q : Nat} {a b c : Value} {l m n : List Int} (hq : w.heap[q]? = some (.cells #[a, b, c] 22 (0, 0))) (ha : Vw w a l) (hb : Vw w b m) (hc : Vw w c n) (hl : l.length + m.length + n.length ≤ 140737488355328) :
    Brings (Xcall Tryd.prog (Value.func (Fn.func 36) #[] #[]) #[.slice (some ⟨q, 0, none⟩) 3 3] w) (New w (l ++ m ++ n)) := by
  refine e36 ?_
  unfold s36
  have hlen : ∀ w', Qlen Tryd.prog #[104] 3 #[.slice (some ⟨q, 0, none⟩) 3 3] w' = some (.int .i64 ((3 : Nat) : Int)) := fun w' => Qlen_slice (P := Tryd.prog) und104
  obtain ⟨i22, hi22, hs22⟩ := inf22
  have hix : ∀ (j : Nat) (w' : World), j < 3 → QindexAddr Tryd.prog 104 (.slice (some ⟨q, 0, none⟩) 3 3) (.int .i64 (j : Int)) w' = some (.pointer (some ⟨q, j, none⟩)) := by
    intro j w' hj
    rw [QindexAddr_slice und104 hi22 (by omega) (by omega), hs22, Int.toNat_natCast, Nat.mul_one, add_0]
  have hld : ∀ (w' : World) (j : Nat) (v : Value), w'.heap[q]? = some (.cells #[a, b, c] 22 (0, 0)) → #[a, b, c][j]? = some v → Qload Tryd.prog 22 (.pointer (some ⟨q, j, none⟩)) w' = some v := fun w' j v h hv => Qload_cell one22 (cell_at h hv)
  simp only [hlen, go_sem]
  -- the parts
  have part : ∀ j, j < 3 → ∃ v p, #[a, b, c][j]? = some v ∧ [l, m, n][j]? = some p ∧ Vw w v p := by
    intro j hj
    have : j = 0 ∨ j = 1 ∨ j = 2 := by omega
    rcases this with rfl | rfl | rfl
    · exact ⟨a, l, rfl, rfl, ha⟩
    · exact ⟨b, m, rfl, rfl, hb⟩
    · exact ⟨c, n, rfl, rfl, hc⟩
  have sum : ∀ j, j ≤ 3 → (([l, m, n].take j).flatten).length ≤ l.length + m.length + n.length := by
    intro j hj
    have : j = 0 ∨ j = 1 ∨ j = 2 ∨ j = 3 := by omega
    rcases this with rfl | rfl | rfl | rfl <;> simp <;> omega
  have next : ∀ j p, [l, m, n][j]? = some p → ([l, m, n].take (j + 1)).flatten = ([l, m, n].take j).flatten ++ p := by
    intro j p hp
    rw [List.take_add_one, hp]; simp
  refine Brings.loop (fun k xs w' => ∃ j : Nat, j ≤ 3 ∧ k = 3 - j ∧ xs = [.slice (some ⟨q, 0, none⟩) 3 3, .int .i64 ((([l, m, n].take j).flatten).length : Int), .slice (some ⟨q, 0, none⟩) 3 3, .int .i64 ((3 : Nat) : Int), .int .i64 (j : Int)] ∧ w' = w) ?_ 3 _ _ ⟨0, by decide, rfl, rfl, rfl⟩
  rintro k xs w' ⟨j, hj, rfl, rfl, rfl⟩
  simp only [s36B0, go_sem]
  by_cases hlt : j < 3
  · rw [decide_eq_true (by omega)]
    obtain ⟨v, p, hv, hp, hvw⟩ := part j hlt
    have hs1 := sum (j + 1) (by omega)
    have hn1 := next j p hp
    rw [hn1, List.length_append] at hs1
    simp only [go_sem, hix j w' hlt, hld w' j v hq hv, vlen hvw]
    rw [wr (by omega) (by omega), decide_eq_false (by omega)]
    simp only [go_sem]
    rw [wr (by omega) (by omega)]
    refine .ret (.inl ⟨rfl, 3 - (j + 1), by omega, j + 1, by omega, rfl, ?_, rfl⟩)
    rw [hn1, List.length_append]
    simp
  · rw [decide_eq_false (by omega)]
    have : j = 3 := by omega
    subst this
    simp only [go_sem]
    refine .ret (.inr ⟨by simp, ?_⟩)
    simp only [s36R0]
    have hs3 := sum 3 (by decide)
    refine (k50 (by omega)).bind ?_
    rintro ⟨v0, w1⟩ ⟨b1, o1⟩
    simp only at b1 o1
    simp only [hlen, go_sem]
    refine Brings.loop (fun k xs w2 => ∃ (j : Nat) (v : Value), j ≤ 3 ∧ k = 3 - j ∧ xs = [v, .slice (some ⟨q, 0, none⟩) 3 3, .int .i64 ((3 : Nat) : Int), .int .i64 (j : Int)] ∧ Bel w' w2 ∧ Ob w'.heap.size w2 v ([l, m, n].take j).flatten) ?_ 3 _ _ ⟨0, v0, by decide, rfl, rfl, b1, o1⟩
    rintro k xs w2 ⟨j, v2, hj, rfl, rfl, b2, o2⟩
    simp only [s36B1, go_sem]
    by_cases hlt : j < 3
    · rw [decide_eq_true (by omega)]
      obtain ⟨v, p, hv, hp, hvw⟩ := part j hlt
      have hs1 := sum (j + 1) (by omega)
      have hn1 := next j p hp
      rw [hn1, List.length_append] at hs1
      obtain ⟨v3, w3, e3, o3, g3⟩ := o2.appV b2.size (hvw.bel b2) (by omega)
      simp only [go_sem, hix j w2 hlt, hld w2 j v (b2.at_ hq) hv, e3]
      rw [wr (by omega) (by omega)]
      refine .ret (.inl ⟨rfl, 3 - (j + 1), by omega, j + 1, v3, by omega, rfl, by simp, (b2.thenChg (Chg.of_grown g3)).bel fun k hk e => ?_, by rw [hn1]; exact o3⟩)
      have := (o2.base e.symm).1
      omega
    · rw [decide_eq_false (by omega)]
      have : j = 3 := by omega
      subst this
      simp only [go_sem]
      refine .ret (.inr ⟨by simp, ?_⟩)
      simp only [s36R1]
      exact .ret ⟨b2, by simpa using o2⟩

theorem k14 {w : World} {s t : Value} {l m : List Int} {f : Fnd} (hs : Vw w s l) (ht : Vw w t m) (hl : l.length + l.length + m.length ≤ 140737488355328) (hf : -9223372036854775808 ≤ f.start ∧ f.start ≤ 9223372036854775807 ∧ -9223372036854775808 ≤ f.end_ ∧ f.end_ ≤ 9223372036854775807) :
    Brings (Xcall Tryd.prog (Value.func (Fn.func 14) #[] #[]) #[s, f.v, t] w) (New w (Ftp.replS l f.start f.end_ m)) := by
  refine e14 ?_
  unfold s14
  have b1 : Bel w (w.alloc (.cells f.cs.toArray 27)) := (Bel.refl w).alloc _
  have hnew := f.new w
  have hs1 := hs.bel b1
  have ht1 := ht.bel b1
  simp only [Fnd.box, go_sem]
  generalize hw1 : w.alloc (.cells f.cs.toArray 27) = w1 at b1 hnew hs1 ht1
  simp only [Fnd.b1 hnew, Fnd.b2 hnew, go_sem]
  have bad : (f.start < 0 ∨ f.end_ < f.start ∨ (l.length : Int) < f.end_) → Brings ((Xcall Tryd.prog (Value.func (Fn.func 35) #[] #[]) #[s] w1).bind fun r1224 => some (r1224.1, r1224.2)) (New w (Ftp.replS l f.start f.end_ m)) := by
    intro h
    refine (k35 hs1 (by omega)).bind ?_
    rintro ⟨v, w2⟩ ⟨b2, o2⟩
    refine .ret ⟨b1.trans b2, ?_⟩
    unfold Ftp.replS
    rw [if_pos h]
    obtain ⟨h1, h2⟩ := o2
    refine ⟨h1, h2.imp (fun h => h) ?_⟩
    rintro ⟨g, cap, cur, e, hg, h3⟩
    exact ⟨g, cap, cur, e, Nat.le_trans b1.size hg, h3⟩
  by_cases c1 : f.start < 0
  · rw [decide_eq_true c1]
    simp only [go_sem]
    exact bad (.inl c1)
  rw [decide_eq_false c1]
  simp only [go_sem, Fnd.b1 hnew, Fnd.b2 hnew]
  by_cases c2 : f.end_ < f.start
  · rw [decide_eq_true c2]
    simp only [go_sem]
    exact bad (.inr (.inl c2))
  rw [decide_eq_false c2]
  simp only [go_sem, Fnd.b2 hnew, vlen hs1]
  by_cases c3 : (l.length : Int) < f.end_
  · rw [decide_eq_true c3]
    simp only [go_sem]
    exact bad (.inr (.inr c3))
  rw [decide_eq_false c3]
  generalize hwd : w1.drew = wd
  have bd : Bel w1 wd := by rw [← hwd]; exact (Bel.refl w1).drew
  have hnew' := hnew.bel bd
  obtain ⟨sN, hsN⟩ := Int.eq_ofNat_of_zero_le (show 0 ≤ f.start by omega)
  obtain ⟨eN, heN⟩ := Int.eq_ofNat_of_zero_le (show 0 ≤ f.end_ by omega)
  have hs2 := hs1.bel bd
  have ht2 := ht1.bel bd
  obtain ⟨va, ea, hva, _⟩ := vhi hs2 (hi := sN) (by omega) wd
  obtain ⟨vc, ec, hvc, _⟩ := vlo hs2 (lo := eN) (by omega) wd
  have sl : ∀ {w : World} {v : Value} {l : List Int}, Vw w v l → ∃ x n m, v = .slice x n m := fun h => by
    obtain ⟨a, c, e, _⟩ := vcap h
    exact ⟨a, _, c, e⟩
  simp only [go_sem, Fnd.b1 hnew', Fnd.b2 hnew', hsN, heN, ea, ec, lit104 va t vc (sl hva) (sl ht2) (sl hvc)]
  have b3 : Bel wd (wd.alloc (.cells #[va, t, vc] 22)) := (Bel.refl wd).alloc _
  have hq : (wd.alloc (.cells #[va, t, vc] 22)).heap[wd.heap.size]? = some (.cells #[va, t, vc] 22 (0, 0)) := (MapKept.heap_alloc wd _).1
  refine (k36 hq (hva.bel b3) (ht2.bel b3) (hvc.bel b3) (by rw [List.length_take, List.length_drop]; omega)).bind ?_
  rintro ⟨v, w4⟩ ⟨b4, o4⟩
  simp only at b4 o4
  simp only [go_sem]
  have hsz := ((b1.trans bd).trans b3).size
  refine .ret ⟨((b1.trans bd).trans b3).trans b4, ?_⟩
  unfold Ftp.replS
  rw [if_neg (by omega)]
  simp only [hsN, heN, Int.toNat_natCast] at *
  obtain ⟨h1, h2⟩ := o4
  refine ⟨h1, h2.imp (fun h => h) ?_⟩
  rintro ⟨g, cap, cur, e, hg, h3⟩
  exact ⟨g, cap, cur, e, Nat.le_trans hsz hg, h3⟩

end Go.Proofs.YtphokckbcmiddaaDoor
