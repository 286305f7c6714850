/- Bytes in memory; the library's tables. -/
import Derived.Test.YtphokckbcmiddaaDoorMFb
import Derived.Test.YtphokckbcmiddaaDoorMFtS
import Derived.Lib.Bytes
import Derived.Laws.RangeAny
import Derived.Laws.Runes
import GoSem.PinnedTables
import Derived.Lib.IndexEntry
import Derived.Laws.Externs
import Derived.Laws.StandIn
import Derived.Lib.SlBytesConst
/- Bytes in memory; the library's tables. -/
namespace Go.Proofs.YtphokckbcmiddaaDoor
open Go Go.Ev
open Go.Proofs

theorem t22 : NumTy Tryd.prog 22 5 .u8 := ⟨by kernel_rfl, by kernel_rfl, ⟨(Tryd.prog.info? 5).get (by kernel_rfl), by kernel_rfl, by kernel_rfl, by kernel_rfl, by decide +kernel⟩, by kernel_rfl, fun _ _ => by kernel_rfl, fun _ => by kernel_rfl⟩
theorem one21 : one Tryd.prog 21 = true := by kernel_rfl
theorem und5 : Tryd.prog.underlying 5 = some (.int .u8) := by kernel_rfl
theorem und9 : Tryd.prog.underlying 9 = some .string := by kernel_rfl
theorem und22 : Tryd.prog.underlying 22 = some (.slice 5) := by kernel_rfl
theorem inf5 : ∃ i, Tryd.prog.info? 5 = some i ∧ i.size = 1 := ⟨(Tryd.prog.info? 5).get (by kernel_rfl), by kernel_rfl, by kernel_rfl⟩

/-- Bytes that a slice shows. -/
abbrev Vw (w : World) (s : Value) (l : List Int) : Prop := View (nc .u8) 1 w s l
abbrev Ow (w : World) (s : Value) (l : List Int) : Prop := OwnN 5 .u8 w s l

theorem vlen {w w2 : World} {s : Value} {l : List Int} (h : Vw w s l) {ty : TypeId} : Qlen Tryd.prog #[22] ty #[s] w2 = some (.int .i64 l.length) := t22.len h w2
theorem vget {w : World} {s : Value} {l : List Int} (h : Vw w s l) {j : Nat} (hj : j < l.length) : ∃ x a, l[j]? = some x ∧ (∀ w2, QindexAddr Tryd.prog 22 s (.int .i64 (j : Int)) w2 = some (.pointer (some a))) ∧ Qload Tryd.prog 5 (.pointer (some a)) w = some (.int .u8 x) := t22.get h hj
theorem vcut {w : World} {s : Value} {l : List Int} (h : Vw w s l) {lo hi : Nat} (h1 : lo ≤ hi) (h2 : hi ≤ l.length) (w' : World) :
    ∃ v', Qslice Tryd.prog 22 s (some (.int .i64 (lo : Int))) (some (.int .i64 (hi : Int))) none w' = some v' ∧ Vw w v' ((l.take hi).drop lo) ∧ (∀ k, v'.ownBlock = some k → s.ownBlock = some k) := by
  obtain ⟨i, hi', hs⟩ := inf5
  simpa using h.cut und22 hi' hs (lo := (lo : Int)) (hi' := (hi : Int)) (by omega) (by omega) (by omega) w'

theorem elem22 : Tryd.prog.elem 22 = 5 := by kernel_rfl
theorem und22' : Tryd.prog.underlying 22 = some (.slice (Tryd.prog.elem 22)) := by rw [elem22]; exact und22
theorem qslice_hi {x : Value} {h : Int} {w : World} (hx : ∃ a n c, x = .slice a n c ∧ 0 ≤ h ∧ h ≤ (c : Nat)) : Qslice Tryd.prog 22 x none (some (.int .i64 h)) none w = Qslice Tryd.prog 22 x (some (.int .i64 0)) (some (.int .i64 h)) none w := by
  obtain ⟨a, n, c, rfl, h0, h1⟩ := hx
  unfold Qslice qv
  rw [run_sliceAt_slice _ _ _ _ _ _ und22', run_slice_h _ _ _ _ _ und22' _ _ h0 h1, run_sliceAt_slice _ _ _ _ _ _ und22', run_slice_lh _ _ _ _ _ und22' _ _ _ _ (by omega) h0 h1, Int.toNat_zero]
theorem qslice_lo {x : Value} {l : Int} {w : World} {n : Nat} (hx : ∃ a c, x = .slice a n c ∧ 0 ≤ l ∧ l ≤ n ∧ n ≤ c) : Qslice Tryd.prog 22 x (some (.int .i64 l)) none none w = Qslice Tryd.prog 22 x (some (.int .i64 l)) (some (.int .i64 (n : Int))) none w := by
  obtain ⟨a, c, rfl, h0, h1, h2⟩ := hx
  unfold Qslice qv
  rw [run_sliceAt_slice _ _ _ _ _ _ und22', run_slice_l _ _ _ _ _ und22' _ _ h0 h1, run_sliceAt_slice _ _ _ _ _ _ und22', run_slice_lh _ _ _ _ _ und22' _ _ _ _ h0 h1 (by omega), Int.toNat_natCast]
theorem vhi {w : World} {s : Value} {l : List Int} (h : Vw w s l) {hi : Nat} (h2 : hi ≤ l.length) (w' : World) :
    ∃ v', Qslice Tryd.prog 22 s none (some (.int .i64 (hi : Int))) none w' = some v' ∧ Vw w v' (l.take hi) ∧ (∀ k, v'.ownBlock = some k → s.ownBlock = some k) := by
  obtain ⟨v', e, hv, ho⟩ := vcut h (lo := 0) (Nat.zero_le hi) h2 w'
  obtain ⟨a, c, rfl, hc, _⟩ := h
  rw [qslice_hi ⟨_, _, _, rfl, by omega, by omega⟩]
  exact ⟨v', e, by simpa using hv, ho⟩
theorem vlo {w : World} {s : Value} {l : List Int} (h : Vw w s l) {lo : Nat} (h2 : lo ≤ l.length) (w' : World) :
    ∃ v', Qslice Tryd.prog 22 s (some (.int .i64 (lo : Int))) none none w' = some v' ∧ Vw w v' (l.drop lo) ∧ (∀ k, v'.ownBlock = some k → s.ownBlock = some k) := by
  obtain ⟨v', e, hv, ho⟩ := vcut h (hi := l.length) h2 (Nat.le_refl _) w'
  obtain ⟨a, c, rfl, hc, _⟩ := h
  rw [qslice_lo (n := l.length) ⟨_, _, rfl, by omega, by omega, hc⟩]
  exact ⟨v', e, by simpa using hv, ho⟩

/-- Bytes as a text. -/
theorem vstr {w : World} {s : Value} {l : List Int} (h : Vw w s l) : Xconv Tryd.prog 22 9 s w = some (.string (strOfNums l), w) := by
  have := Xconv_bytes (P := Tryd.prog) (src := 22) (dst := 9) (g := fun x => x) und22 und5 und9 (fun x => rfl) h
  simpa using this

end Go.Proofs.YtphokckbcmiddaaDoor

/- Texts of bytes; a suffix that is cut off. -/
namespace Go.Proofs.YtphokckbcmiddaaDoor
open Go Go.Ev
open Go.Proofs

/-- Numbers of a byte each. -/
def okB (l : List Int) : Prop := ∀ c ∈ l, 0 ≤ c ∧ c ≤ 255
theorem okB.app {a b : List Int} (h : okB a) (k : okB b) : okB (a ++ b) := fun c hc => (List.mem_append.1 hc).elim (h c) (k c)
theorem okB.left {a b : List Int} (h : okB (a ++ b)) : okB a := fun c hc => h c (List.mem_append.2 (.inl hc))
theorem okB.right {a b : List Int} (h : okB (a ++ b)) : okB b := fun c hc => h c (List.mem_append.2 (.inr hc))
theorem okB.take {a : List Int} (h : okB a) (n : Nat) : okB (a.take n) := fun c hc => h c (List.mem_of_mem_take hc)
theorem okB.drop {a : List Int} (h : okB a) (n : Nat) : okB (a.drop n) := fun c hc => h c (List.mem_of_mem_drop hc)

theorem byte_eq {a b : Int} (ha : 0 ≤ a ∧ a ≤ 255) (hb : 0 ≤ b ∧ b ≤ 255) (h : UInt8.ofNat a.toNat = UInt8.ofNat b.toNat) : a = b := by
  have := congrArg UInt8.toNat h
  simp only [UInt8.toNat_ofNat'] at this
  omega
theorem bytesOf_inj : ∀ {a b : List Int}, okB a → okB b → Lib.bytesOf a = Lib.bytesOf b → a = b
  | [], [], _, _, _ => rfl
  | [], _ :: _, _, _, h => by simp [Lib.bytesOf] at h
  | _ :: _, [], _, _, h => by simp [Lib.bytesOf] at h
  | x :: a, y :: b, ha, hb, h => by
    simp only [Lib.bytesOf, List.map_cons, List.cons.injEq] at h
    rw [byte_eq (ha x (by simp)) (hb y (by simp)) h.1, bytesOf_inj (fun c hc => ha c (by simp [hc])) (fun c hc => hb c (by simp [hc])) h.2]
theorem str_eq {a b : List Int} (ha : okB a) (hb : okB b) : ((strOfNums a).toList == (strOfNums b).toList) = decide (a = b) := by
  rw [Lib.strOfNums_toList, Lib.strOfNums_toList]
  by_cases h : a = b
  · subst h; simp
  · rw [decide_eq_false h]
    rw [beq_eq_false_iff_ne]
    exact fun e => h (bytesOf_inj ha hb e)

theorem vcap {w : World} {s : Value} {l : List Int} (h : Vw w s l) : ∃ a c, s = .slice a l.length c ∧ l.length ≤ c := by
  obtain ⟨a, c, rfl, hc, _⟩ := h
  exact ⟨a, c, rfl, hc⟩
theorem vsm {w : World} {s : Value} {l : List Int} (h : Vw w s l) : l.length ≤ 9223372036854775807 := by
  have := h.small
  simpa [maxLen] using this
theorem wr {n : Int} (h0 : -9223372036854775808 ≤ n) (h1 : n ≤ 9223372036854775807) : IntKind.i64.wrap n = n := wrap_i64 h0 h1

theorem k68 {w : World} {s t : Value} {l m : List Int} (hs : Vw w s l) (ht : Vw w t m) (hl : okB l) (hm : okB m) : Brings (Xcall Tryd.prog (Value.func (Fn.func 68) #[] #[]) #[s, t] w) (fun r => r = (.bool (decide (l = m)), w)) := by
  refine e68 ?_
  unfold s68
  simp only [vstr hs, vstr ht, str_eq hl hm, go_sem]
  exact .ret rfl

theorem k53 {w : World} {s t : Value} {l m : List Int} (hs : Vw w s l) (ht : Vw w t m) (hl : okB l) (hm : okB m) : Brings (Xcall Tryd.prog (Value.func (Fn.func 53) #[] #[]) #[s, t] w) (fun r => r = (.bool (decide (m.length ≤ l.length ∧ l.drop (l.length - m.length) = m)), w)) := by
  refine e53 ?_
  unfold s53
  have h1 := vsm hs
  have h2 := vsm ht
  simp only [vlen hs, vlen ht, go_sem]
  by_cases h : m.length ≤ l.length
  · have h' : ((m.length : Int) ≤ (l.length : Int)) := by omega
    rw [decide_eq_true h']
    simp only [vlen hs, vlen ht, go_sem]
    rw [wr (by omega) (by omega), show (l.length : Int) - (m.length : Int) = ((l.length - m.length : Nat) : Int) by omega]
    obtain ⟨v', e, hv, _⟩ := vlo hs (lo := l.length - m.length) (by omega) w
    rw [e]
    simp only [go_sem]
    refine (k68 hv ht (hl.drop _) hm).bind ?_
    rintro _ rfl
    simp only [go_sem]
    refine .ret ?_
    simp [h]
  · have h' : ¬ ((m.length : Int) ≤ (l.length : Int)) := by omega
    rw [decide_eq_false h']
    simp only [go_sem]
    refine .ret ?_
    simp [h]

theorem k40 {w : World} {s t : Value} {l m : List Int} (hs : Vw w s l) (ht : Vw w t m) (hl : okB l) (hm : okB m) : Brings (Xcall Tryd.prog (Value.func (Fn.func 40) #[] #[]) #[s, t] w)
    (fun r => r.2 = w ∧ ∃ v', r.1 = .tuple #[v', .bool (decide (m.length ≤ l.length ∧ l.drop (l.length - m.length) = m))] ∧ Vw w v' (if m.length ≤ l.length ∧ l.drop (l.length - m.length) = m then l.take (l.length - m.length) else l) ∧ (∀ k, v'.ownBlock = some k → s.ownBlock = some k)) := by
  refine e40 ?_
  unfold s40
  have h1 := vsm hs
  have h2 := vsm ht
  refine (k53 hs ht hl hm).bind ?_
  rintro _ rfl
  simp only [go_sem]
  by_cases h : m.length ≤ l.length ∧ l.drop (l.length - m.length) = m
  · rw [decide_eq_true h, if_pos h]
    simp only [vlen hs, vlen ht, go_sem, Bool.not_true]
    rw [wr (by omega) (by omega), show (l.length : Int) - (m.length : Int) = ((l.length - m.length : Nat) : Int) by omega]
    obtain ⟨v', e, hv, ho⟩ := vhi hs (hi := l.length - m.length) (by omega) w
    rw [e]
    simp only [go_sem]
    exact .ret ⟨rfl, v', rfl, hv, ho⟩
  · rw [decide_eq_false h, if_neg h]
    simp only [go_sem, Bool.not_false]
    exact .ret ⟨rfl, s, rfl, hs, fun k hk => hk⟩

end Go.Proofs.YtphokckbcmiddaaDoor

/- Runes: a text is gone through; what a slice's first rune is. -/
namespace Go.Proofs.YtphokckbcmiddaaDoor
open Go Go.Ev
open Go.Proofs

def firstT (n : Nat) : Nat := Go.Pinned.utf8FirstZ.getD n 0
def accLo (i : Nat) : Int := [128, 160, 128, 144, 128].getD i 0
def accHi (i : Nat) : Int := [191, 191, 159, 191, 143].getD i 0
/-- The library's tables, as far as they are read. -/
structure Tab (w : World) : Prop where
  first : ∀ i : Nat, i < 256 → w.cell? ⟨1, i, none⟩ = some (.int .u8 ((firstT i : Nat) : Int))
  acc : ∀ i : Nat, i < 5 → w.cell? ⟨2, 2 * i, none⟩ = some (.int .u8 (accLo i)) ∧ w.cell? ⟨2, 2 * i + 1, none⟩ = some (.int .u8 (accHi i))
  pow : ∀ i : Nat, i < 20 → w.cell? ⟨5, i, none⟩ = some (.int .u64 ((10 ^ i : Nat) : Int))
  maxl : ∃ m, w.cell? ⟨0, 0, none⟩ = some (.int .i64 m)
  syn : ∃ t a, w.cell? ⟨3, 0, none⟩ = some (.iface t a)
  rng : ∃ t a, w.cell? ⟨4, 0, none⟩ = some (.iface t a)
  size : 8 ≤ w.heap.size

theorem Tab.chg {S : Nat → Prop} {w w' : World} (h : Tab w) (c : Chg S w w') (hs : ∀ k, k < 8 → ¬ S k) : Tab w' := by
  have hz := h.size
  have keep : ∀ (b o : Nat), b < 8 → w'.cell? ⟨b, o, none⟩ = w.cell? ⟨b, o, none⟩ := fun b o hb => World.cell?_of_block (c.block b (by omega) (hs b hb))
  refine ⟨fun i hi => ?_, fun i hi => ?_, fun i hi => ?_, ?_, ?_, ?_, Nat.le_trans hz c.size⟩
  · rw [keep _ _ (by decide)]; exact h.first i hi
  · rw [keep _ _ (by decide), keep _ _ (by decide)]; exact h.acc i hi
  · rw [keep _ _ (by decide)]; exact h.pow i hi
  · rw [keep _ _ (by decide)]; exact h.maxl
  · rw [keep _ _ (by decide)]; exact h.syn
  · rw [keep _ _ (by decide)]; exact h.rng
theorem Tab.bel {w w' : World} (h : Tab w) (b : Bel w w') : Tab w' := h.chg (Chg.of_bel b fun _ => False) fun _ _ f => f

/-! ## A text is gone through -/

theorem Xnext_str {w : World} {r pos : Nat} {s : ByteArray} {ty : TypeId} (h : w.heap[r]? = some (.stringIter s pos)) (hp : pos < s.size) :
    Xnext Tryd.prog (.pointer (some ⟨r, 0, none⟩)) true ty w = some (.tuple #[.bool true, .int .i64 pos, .int .i32 (Utf8.decode s pos).1], setB w r (.stringIter s (pos + (Utf8.decode s pos).2))) := by
  unfold Xnext xv
  have hg : (getObj r).run Tryd.prog w = .ok (.stringIter s pos) w := by simp [getObj, Sem.run, h]
  have hs : ∀ o, (setObj r o).run Tryd.prog w = .ok () (setB w r o) := fun o => by simp [setObj, Sem.run, h, setB]
  simp only [Instr.next, Sem.run_bind, hg, Result.andThen_ok, hp, if_true, hs, Sem.run_pure, goInt]
theorem Xnext_end {w : World} {r pos : Nat} {s : ByteArray} {ty : TypeId} (h : w.heap[r]? = some (.stringIter s pos)) (hp : ¬ pos < s.size) :
    Xnext Tryd.prog (.pointer (some ⟨r, 0, none⟩)) true ty w = some (.tuple #[.bool false], w) := by
  unfold Xnext xv
  have hg : (getObj r).run Tryd.prog w = .ok (.stringIter s pos) w := by simp [getObj, Sem.run, h]
  simp only [Instr.next, Sem.run_bind, hg, Result.andThen_ok, hp, if_false, Sem.run_pure]
theorem Xrange_str {w : World} {s : ByteArray} : Xrange Tryd.prog 9 (.string s) w = some (.pointer (some ⟨w.heap.size, 0, none⟩), w.alloc (.stringIter s 0)) := by
  unfold Xrange xv
  simp only [Instr.range, Sem.run_bind, run_underlying und9, Result.andThen_ok, Sem.run_pure, run_newObj]
  rfl

theorem str_get {l : List Int} {i : Nat} {x : Int} (h : l[i]? = some x) (hx : 0 ≤ x ∧ x ≤ 255) : ∃ hi : i < (strOfNums l).size, (((strOfNums l)[i]'hi).toNat : Int) = x := by
  have hl := (List.getElem?_eq_some_iff.1 h).1
  have hi : i < (strOfNums l).size := by rw [strOfNums_size]; exact hl
  refine ⟨hi, ?_⟩
  have h2 : (strOfNums l).data.toList[i]? = some (UInt8.ofNat x.toNat) := by
    rw [strOfNums_data, List.getElem?_map, h]; rfl
  have h3 : (strOfNums l)[i]'hi = UInt8.ofNat x.toNat := by
    have e : (strOfNums l).data.toList[i]? = some ((strOfNums l)[i]'hi) := by
      have hd : i < (strOfNums l).data.size := hi
      rw [Array.getElem?_toList, Array.getElem?_eq_getElem hd]
      rfl
    rw [e] at h2
    exact Option.some.inj h2
  rw [h3, UInt8.toNat_ofNat']
  omega

theorem decode_low {l : List Int} {i : Nat} {x : Int} (h : l[i]? = some x) (h0 : 0 ≤ x) (h1 : x < 128) : (((Utf8.decode (strOfNums l) i).1 : Nat) : Int) = x ∧ (Utf8.decode (strOfNums l) i).2 = 1 := by
  obtain ⟨hi, e⟩ := str_get h ⟨h0, by omega⟩
  rw [decode_ascii _ i hi (by omega)]
  exact ⟨e, rfl⟩
theorem decode_up {l : List Int} {i : Nat} {x : Int} (h : l[i]? = some x) (h0 : 128 ≤ x) (h1 : x ≤ 255) : 128 ≤ (Utf8.decode (strOfNums l) i).1 ∧ (Utf8.decode (strOfNums l) i).1 ≤ 1114111 ∧ 1 ≤ (Utf8.decode (strOfNums l) i).2 ∧ i + (Utf8.decode (strOfNums l) i).2 ≤ l.length := by
  obtain ⟨hi, e⟩ := str_get h ⟨by omega, h1⟩
  obtain ⟨a, b⟩ := decode_high _ i hi (by omega)
  have hsz : (strOfNums l).size = l.length := strOfNums_size l
  have hb : ∀ k, ((strOfNums l).get! (i + k)).toNat < 256 := fun k => ((strOfNums l).get! (i + k)).toNat_lt
  have b0 := hb 0; have b1 := hb 1; have b2 := hb 2; have b3 := hb 3
  refine ⟨a, ?_, b, ?_⟩
  · clear a b
    simp only [Utf8.decode]
    repeat' split
    all_goals simp_all [Utf8.runeError, Utf8.valid]
    all_goals omega
  · clear a b
    simp only [Utf8.decode]
    repeat' split
    all_goals simp_all [Utf8.runeError]
    all_goals omega

/-! ## Bits of small numbers with sign -/

theorem toNat_ofInt_i {a : Nat} (h : a < 2147483648) : (BitVec.ofInt 32 (a : Int)).toNat = a := by
  rw [BitVec.ofInt_natCast, BitVec.toNat_ofNat, Nat.mod_eq_of_lt (by omega)]
theorem wrap_i32 {n : Int} (h0 : 0 ≤ n) (h1 : n < 2147483648) : IntKind.i32.wrap n = n := by
  simp only [IntKind.wrap, IntKind.bits, IntKind.signed]
  simp
  omega
theorem ior_i {a b : Nat} (ha : a < 2147483648) (hb : b < 2147483648) : ior .i32 (a : Int) (b : Int) = ((a ||| b : Nat) : Int) := by
  unfold ior
  show IntKind.i32.wrap (((BitVec.ofInt 32 (a : Int)) ||| (BitVec.ofInt 32 (b : Int))).toNat : Int) = _
  rw [BitVec.toNat_or, toNat_ofInt_i ha, toNat_ofInt_i hb]
  have : a ||| b < 2 ^ 31 := Nat.or_lt_two_pow (by omega) (by omega)
  exact wrap_i32 (by omega) (by omega)
theorem or_add {a b n : Nat} (hb : b < 2 ^ n) : (a * 2 ^ n) ||| b = a * 2 ^ n + b := by
  rw [← Nat.shiftLeft_eq, Nat.shiftLeft_add_eq_or_of_lt hb]
theorem mask_i {a n : Nat} {k : IntKind} (hk : k.signed = false) (ha : a < 2 ^ k.bits) (hn : 2 ^ n - 1 < 2 ^ k.bits) : iand k (a : Int) ((2 ^ n - 1 : Nat) : Int) = ((a % 2 ^ n : Nat) : Int) := by
  rw [iand_u hk ha hn, Nat.and_two_pow_sub_one_eq_mod]
theorem m63 {a : Int} (h : 0 ≤ a ∧ a ≤ 255) : iand .u8 a 63 = a % 64 := by
  have := mask_i (k := .u8) (a := a.toNat) (n := 6) rfl (show a.toNat < 256 by omega) (by decide)
  rw [show ((a.toNat : Nat) : Int) = a by omega] at this
  rw [show (63 : Int) = ((2 ^ 6 - 1 : Nat) : Int) by decide, this]
  omega
theorem m31 {a : Int} (h : 0 ≤ a ∧ a ≤ 255) : iand .u8 a 31 = a % 32 := by
  have := mask_i (k := .u8) (a := a.toNat) (n := 5) rfl (show a.toNat < 256 by omega) (by decide)
  rw [show ((a.toNat : Nat) : Int) = a by omega] at this
  rw [show (31 : Int) = ((2 ^ 5 - 1 : Nat) : Int) by decide, this]
  omega
theorem m15 {a : Int} (h : 0 ≤ a ∧ a ≤ 255) : iand .u8 a 15 = a % 16 := by
  have := mask_i (k := .u8) (a := a.toNat) (n := 4) rfl (show a.toNat < 256 by omega) (by decide)
  rw [show ((a.toNat : Nat) : Int) = a by omega] at this
  rw [show (15 : Int) = ((2 ^ 4 - 1 : Nat) : Int) by decide, this]
  omega
theorem m7 {a : Int} (h : 0 ≤ a ∧ a ≤ 255) : iand .u8 a 7 = a % 8 := by
  have := mask_i (k := .u8) (a := a.toNat) (n := 3) rfl (show a.toNat < 256 by omega) (by decide)
  rw [show ((a.toNat : Nat) : Int) = a by omega] at this
  rw [show (7 : Int) = ((2 ^ 3 - 1 : Nat) : Int) by decide, this]
  omega
/-- a and b side by side. -/
theorem or_i {a b : Int} (n : Nat) (hn : n ≤ 18) (ha : 0 ≤ a ∧ a * 2 ^ n < 2147483648) (hb : 0 ≤ b ∧ b < 2 ^ n) : ior .i32 (a * 2 ^ n) b = a * 2 ^ n + b := by
  obtain ⟨x, rfl⟩ := Int.eq_ofNat_of_zero_le ha.1
  obtain ⟨y, rfl⟩ := Int.eq_ofNat_of_zero_le hb.1
  have e : ((x : Int) * 2 ^ n) = ((x * 2 ^ n : Nat) : Int) := by simp
  have hy : y < 2 ^ n := by
    have := hb.2
    have h2 : ((2 ^ n : Nat) : Int) = (2 : Int) ^ n := by simp
    rw [← h2] at this
    omega
  have h3 : 2 ^ n ≤ 2 ^ 18 := Nat.pow_le_pow_right (by decide) hn
  have h4 := ha.2
  rw [e] at h4 ⊢
  rw [ior_i (by omega) (by omega), or_add hy]
  simp

end Go.Proofs.YtphokckbcmiddaaDoor

/- A slice's first rune. -/
namespace Go.Proofs.YtphokckbcmiddaaDoor
open Go Go.Ev
open Go.Proofs

theorem und153 : Tryd.prog.underlying 153 = some (.array 256 5) := by kernel_rfl
theorem und156 : Tryd.prog.underlying 156 = some (.array 16 155) := by kernel_rfl

theorem QindexAddr_arr {P : Program} {w : World} {t e : TypeId} {n sz : Nat} {i : TypeInfo} {g o : Nat} {k : IntKind} {j : Nat} (ht : P.underlying t = some (.array n e)) (hi : P.info? e = some i) (hs : i.size = sz) (hj : j < n) :
    QindexAddr P t (.pointer (some ⟨g, o, none⟩)) (.int k (j : Int)) w = some (.pointer (some ⟨g, o + j * sz, none⟩)) := by
  have h : (0 : Int) ≤ (j : Int) ∧ (j : Int) < (n : Int) := by omega
  unfold QindexAddr qv
  simp only [Instr.indexAt, Instr.sureAddr, asIntOf, Sem.run_bind, Sem.run_pure, Result.andThen_ok, run_underlying ht, run_size hi, if_pos h, hs, Int.toNat_natCast]
  unfold Addr.add
  by_cases h : j * sz = 0 <;> simp [h]

def clsB (n : Nat) : Bool :=
  let v := firstT n
  decide (n < 128) || v == 241 || (v == 2 && decide (194 ≤ n) && decide (n ≤ 223)) || (v == 19 && n == 224) || (v == 3 && decide (225 ≤ n) && decide (n ≤ 239) && n != 237) || (v == 35 && n == 237) || (v == 52 && n == 240) || (v == 4 && decide (241 ≤ n) && decide (n ≤ 243)) || (v == 68 && n == 244)
theorem first_all : (List.range 256).all clsB = true := by decide +kernel
theorem first_cls (n : Nat) (h : n < 256) (h1 : 128 ≤ n) : (firstT n = 241 ∨ (firstT n = 2 ∧ 194 ≤ n ∧ n ≤ 223) ∨ (firstT n = 19 ∧ n = 224) ∨ (firstT n = 3 ∧ 225 ≤ n ∧ n ≤ 239 ∧ n ≠ 237) ∨
    (firstT n = 35 ∧ n = 237) ∨ (firstT n = 52 ∧ n = 240) ∨ (firstT n = 4 ∧ 241 ≤ n ∧ n ≤ 243) ∨ (firstT n = 68 ∧ n = 244)) := by
  have := List.all_eq_true.1 first_all n (List.mem_range.2 h)
  unfold clsB at this
  revert this
  generalize firstT n = v
  intro this
  simp only [Bool.or_eq_true, Bool.and_eq_true, decide_eq_true_eq, beq_iff_eq, bne_iff_ne] at this
  rcases this with (((((((h2 | h2) | h2) | h2) | h2) | h2) | h2) | h2) | h2 <;> omega

theorem enc2 {c : Int} (h0 : 128 ≤ c) (h1 : c < 2048) : (Utf8.encode c).size = 2 := by
  have hv : Utf8.valid c = true := by simp [Utf8.valid]; omega
  have a : ¬ c.toNat < 128 := by omega
  have b : c.toNat < 2048 := by omega
  simp only [Utf8.encode, hv, if_true, a, if_false, b]
  rfl
theorem enc3 {c : Int} (h0 : 2048 ≤ c) (h1 : c < 65536) (h2 : c < 55296 ∨ 57344 ≤ c) : (Utf8.encode c).size = 3 := by
  have hv : Utf8.valid c = true := by simp [Utf8.valid]; omega
  have a : ¬ c.toNat < 128 := by omega
  have b : ¬ c.toNat < 2048 := by omega
  have d : c.toNat < 65536 := by omega
  simp only [Utf8.encode, hv, if_true, a, if_false, b, d]
  rfl
theorem enc4 {c : Int} (h0 : 65536 ≤ c) (h1 : c ≤ 1114111) : (Utf8.encode c).size = 4 := by
  have hv : Utf8.valid c = true := by simp [Utf8.valid]; omega
  have a : ¬ c.toNat < 128 := by omega
  have b : ¬ c.toNat < 2048 := by omega
  have d : ¬ c.toNat < 65536 := by omega
  simp only [Utf8.encode, hv, if_true, a, if_false, b, d]
  rfl

/-- A rune that is no error has a text as long as it was read. -/
def DecR (w : World) (n : Nat) (r : Value × World) : Prop :=
  Bel w r.2 ∧ ∃ c k : Int, r.1 = .tuple #[.int .i32 c, .int .i64 k] ∧ 1 ≤ k ∧ k ≤ n ∧ (c = 65533 ∨ (128 ≤ c ∧ ((Utf8.encode c).size : Int) = k))

theorem conv521 {n : Int} (h : 0 ≤ n ∧ n ≤ 255) : Qconv Tryd.prog 5 21 (.int .u8 n) = some (.int .i32 n) := by
  rw [Qconv_int (k := .i32) (by kernel_rfl), wrap_i32 h.1 (by omega)]
theorem conv53 {n : Int} (h : 0 ≤ n ∧ n ≤ 255) : Qconv Tryd.prog 5 3 (.int .u8 n) = some (.int .i64 n) := by
  rw [Qconv_int (k := .i64) (by kernel_rfl), wr (by omega) (by omega)]

theorem err_mask {a : Int} : iandNot .i32 a (-1) = 0 := by
  unfold iandNot
  show IntKind.i32.wrap (((BitVec.ofInt 32 a) &&& ~~~(BitVec.ofInt 32 (-1))).toNat : Int) = 0
  rw [show ~~~(BitVec.ofInt 32 (-1)) = 0#32 by decide, BitVec.and_zero]
  rfl

theorem k93a {w : World} {s : Value} {l : List Int} {n : Nat} (hs : Vw w s l) (hl : okB l) (h0 : l[0]? = some (n : Int)) (hx : 128 ≤ n) (hT : Tab w) {v : Nat} (hv : firstT n = v) (hv4 : v < 240) {sz : Int} (hm : (v : Int) % 8 = sz) {q : Nat} (hq : v / 16 = q) (hq5 : q < 5)
    (h2 : sz = 2 ∨ sz = 3 ∨ sz = 4) (hB : ∀ b1 b2 b3 : Int, accLo q ≤ b1 → b1 ≤ accHi q → 128 ≤ b2 → b2 ≤ 191 → 128 ≤ b3 → b3 ≤ 191 →
      (sz = 2 → 128 ≤ (n : Int) % 32 * 64 + b1 % 64 ∧ (n : Int) % 32 * 64 + b1 % 64 < 2048) ∧
      (sz = 3 → 2048 ≤ (n : Int) % 16 * 4096 + b1 % 64 * 64 + b2 % 64 ∧ (n : Int) % 16 * 4096 + b1 % 64 * 64 + b2 % 64 < 65536 ∧ ((n : Int) % 16 * 4096 + b1 % 64 * 64 + b2 % 64 < 55296 ∨ 57344 ≤ (n : Int) % 16 * 4096 + b1 % 64 * 64 + b2 % 64)) ∧
      (sz = 4 → 65536 ≤ (n : Int) % 8 * 262144 + b1 % 64 * 4096 + b2 % 64 * 64 + b3 % 64 ∧ (n : Int) % 8 * 262144 + b1 % 64 * 4096 + b2 % 64 * 64 + b3 % 64 ≤ 1114111)) : Brings (s93 s w) (DecR w l.length) := by
  unfold s93
  have hlen : 0 < l.length := (List.getElem?_eq_some_iff.1 h0).1
  have hx5 := hl n (List.mem_of_getElem? h0)
  obtain ⟨y, a, hy, hix, hld⟩ := vget hs hlen
  rw [h0] at hy
  obtain rfl := Option.some.inj hy
  obtain ⟨i5, hi5, hs5⟩ := inf5
  obtain ⟨iR, hiR, hsR⟩ := inf155
  have hf := hT.first n (by omega)
  rw [hv] at hf
  have hL : Qload Tryd.prog 5 (.pointer (some ⟨1, n, none⟩)) w = some (.int .u8 ((v : Nat) : Int)) := Qload_cell one5 hf
  have hA : QindexAddr Tryd.prog 153 (.pointer (some ⟨1, 0, none⟩)) (.int .u8 ((n : Nat) : Int)) w = some (.pointer (some ⟨1, n, none⟩)) := by
    rw [QindexAddr_arr und153 hi5 hs5 (by omega)]; simp
  have hA2 : QindexAddr Tryd.prog 156 (.pointer (some ⟨2, 0, none⟩)) (.int .u8 ((q : Nat) : Int)) w = some (.pointer (some ⟨2, q * 2, none⟩)) := by
    rw [QindexAddr_arr und156 hiR hsR (by omega)]; simp
  have hac := hT.acc q hq5
  have hR : CellsAt (Rng.mk (accLo q) (accHi q)).cs w 2 (q * 2) := by
    intro j u hj
    rw [Nat.mul_comm q 2]
    match j, hj with
    | 0, hj => obtain rfl := Option.some.inj hj; exact hac.1
    | 1, hj => obtain rfl := Option.some.inj hj; exact hac.2
    | j + 2, hj => simp [Rng.cs] at hj
  generalize accLo q = lo at hB hR
  generalize accHi q = hi at hB hR
  simp only [vlen hs, go_sem]
  rw [decide_eq_false (by omega)]
  simp only [Int.natCast_zero] at hix
  simp only [go_sem, hix, hld, hA, hL]
  rw [decide_eq_false (by omega)]
  have e16 : Int.fdiv (v : Int) (2 ^ min (4 : Int).toNat 8) = (q : Int) := by
    show Int.fdiv (v : Int) 16 = _
    rw [Int.fdiv_eq_ediv_of_nonneg _ (by decide)]
    omega
  simp only [go_sem, m7 (show 0 ≤ (v : Int) ∧ (v : Int) ≤ 255 by omega), hm, conv53 (show 0 ≤ sz ∧ sz ≤ 255 by omega), show (0 : Int) ≤ 4 by decide, e16, hA2, Rng.all hR, alloc155, put155]
  generalize hw1 : (w.alloc (.cells Rng.zero.cs.toArray 155)).setRow w.heap.size (Rng.mk lo hi).cs.toArray = w1
  have bel1 : Bel w w1 := by rw [← hw1]; exact local_bel _ _ _
  have hR1 : CellsAt (Rng.mk lo hi).cs w1 w.heap.size 0 := by rw [← hw1]; exact local_at _ _ _ _
  have hs1 := hs.bel bel1
  have err : ∀ k : Int, k = 1 → DecR w l.length (.tuple #[.int .i32 65533, .int .i64 k], w1) := fun k hk => ⟨bel1, 65533, k, rfl, by omega, by omega, .inl rfl⟩
  simp only [Rng.b0 hR1, Rng.b1 hR1, go_sem]
  by_cases c0 : (l.length : Int) < sz
  · rw [decide_eq_true c0]
    simp only [go_sem]
    exact .ret (err 1 rfl)
  rw [decide_eq_false c0]
  obtain ⟨b1, a1, hb1, hix1, hld1⟩ := vget hs1 (j := 1) (by omega)
  have hb1' := hl b1 (List.mem_of_getElem? hb1)
  simp only [Int.natCast_one] at hix1
  simp only [hix1, hld1, go_sem]
  by_cases c1 : b1 < lo
  · rw [decide_eq_true c1]
    simp only [go_sem]
    exact .ret (err 1 rfl)
  rw [decide_eq_false c1]
  simp only [Rng.b1 hR1, go_sem]
  by_cases c2 : hi < b1
  · rw [decide_eq_true c2]
    simp only [go_sem]
    exact .ret (err 1 rfl)
  rw [decide_eq_false c2]
  simp only [go_sem]
  have pw6 : (2 : Int) ^ 6 = 64 := by decide
  have pw12 : (2 : Int) ^ 12 = 4096 := by decide
  have pw18 : (2 : Int) ^ 18 = 262144 := by decide
  by_cases c3 : sz ≤ 2
  · obtain rfl : sz = 2 := by omega
    obtain ⟨hB2, _, _⟩ := hB b1 128 128 (by omega) (by omega) (by decide) (by decide) (by decide) (by decide)
    have hB2 := hB2 rfl
    simp only [Int.le_refl, decide_true, go_sem]
    rw [m31 hx5, conv521 (by omega)]
    simp only [go_sem, Int.reduceLE]
    rw [m63 hb1', conv521 (by omega)]
    simp only [go_sem]
    rw [show (2 : Int) ^ min (Int.toNat 6) 32 = 64 by decide, wrap_i32 (by omega) (by omega), ← pw6, or_i 6 (by decide) (by rw [pw6]; omega) (by rw [pw6]; omega), pw6]
    exact .ret ⟨bel1, _, 2, rfl, by decide, by omega, .inr ⟨hB2.1, by rw [enc2 hB2.1 hB2.2]; rfl⟩⟩
  rw [decide_eq_false c3]
  obtain ⟨b2, a2, hb2, hix2, hld2⟩ := vget hs1 (j := 2) (by omega)
  have hb2' := hl b2 (List.mem_of_getElem? hb2)
  rw [show ((2 : Nat) : Int) = 2 from rfl] at hix2
  simp only [hix2, hld2, go_sem]
  by_cases c4 : b2 < 128
  · rw [decide_eq_true c4]
    simp only [go_sem]
    exact .ret (err 1 rfl)
  rw [decide_eq_false c4]
  simp only [go_sem]
  by_cases c5 : 191 < b2
  · rw [decide_eq_true c5]
    simp only [go_sem]
    exact .ret (err 1 rfl)
  rw [decide_eq_false c5]
  simp only [go_sem]
  by_cases c6 : sz ≤ 3
  · obtain rfl : sz = 3 := by omega
    obtain ⟨_, hB3, _⟩ := hB b1 b2 128 (by omega) (by omega) (by omega) (by omega) (by decide) (by decide)
    have hB3 := hB3 rfl
    simp only [Int.le_refl, decide_true, go_sem]
    rw [m15 hx5, conv521 (by omega)]
    simp only [go_sem, Int.reduceLE]
    rw [m63 hb1', conv521 (by omega)]
    simp only [go_sem, Int.reduceLE]
    rw [m63 hb2', conv521 (by omega)]
    simp only [go_sem]
    rw [show (2 : Int) ^ min (Int.toNat 6) 32 = 64 by decide, show (2 : Int) ^ min (Int.toNat 12) 32 = 4096 by decide, wrap_i32 (by omega) (by omega), wrap_i32 (by omega) (by omega), ← pw12, or_i 12 (by decide) (by rw [pw12]; omega) (by rw [pw12]; omega), pw12,
      show (n : Int) % 16 * 4096 + b1 % 64 * 64 = ((n : Int) % 16 * 64 + b1 % 64) * 2 ^ 6 by rw [pw6]; omega, or_i 6 (by decide) (by rw [pw6]; omega) (by rw [pw6]; omega), pw6,
      show ((n : Int) % 16 * 64 + b1 % 64) * 64 + b2 % 64 = (n : Int) % 16 * 4096 + b1 % 64 * 64 + b2 % 64 by omega]
    exact .ret ⟨bel1, _, 3, rfl, by decide, by omega, .inr ⟨by omega, by rw [enc3 hB3.1 hB3.2.1 hB3.2.2]; rfl⟩⟩
  rw [decide_eq_false c6]
  obtain ⟨b3, a3, hb3, hix3, hld3⟩ := vget hs1 (j := 3) (by omega)
  have hb3' := hl b3 (List.mem_of_getElem? hb3)
  rw [show ((3 : Nat) : Int) = 3 from rfl] at hix3
  simp only [hix3, hld3, go_sem]
  by_cases c7 : b3 < 128
  · rw [decide_eq_true c7]
    simp only [go_sem]
    exact .ret (err 1 rfl)
  rw [decide_eq_false c7]
  simp only [go_sem]
  by_cases c8 : 191 < b3
  · rw [decide_eq_true c8]
    simp only [go_sem]
    exact .ret (err 1 rfl)
  rw [decide_eq_false c8]
  simp only [go_sem]
  obtain rfl : sz = 4 := by omega
  obtain ⟨_, _, hB4⟩ := hB b1 b2 b3 (by omega) (by omega) (by omega) (by omega) (by omega) (by omega)
  have hB4 := hB4 rfl
  rw [m7 hx5, conv521 (by omega)]
  simp only [go_sem, Int.reduceLE]
  rw [m63 hb1', conv521 (by omega)]
  simp only [go_sem, Int.reduceLE]
  rw [m63 hb2', conv521 (by omega)]
  simp only [go_sem, Int.reduceLE]
  rw [m63 hb3', conv521 (by omega)]
  simp only [go_sem]
  rw [show (2 : Int) ^ min (Int.toNat 6) 32 = 64 by decide, show (2 : Int) ^ min (Int.toNat 12) 32 = 4096 by decide, show (2 : Int) ^ min (Int.toNat 18) 32 = 262144 by decide, wrap_i32 (by omega) (by omega), wrap_i32 (by omega) (by omega), wrap_i32 (by omega) (by omega),
    ← pw18, or_i 18 (by decide) (by rw [pw18]; omega) (by rw [pw18]; omega), pw18,
    show (n : Int) % 8 * 262144 + b1 % 64 * 4096 = ((n : Int) % 8 * 64 + b1 % 64) * 2 ^ 12 by rw [pw12]; omega, or_i 12 (by decide) (by rw [pw12]; omega) (by rw [pw12]; omega), pw12,
    show ((n : Int) % 8 * 64 + b1 % 64) * 4096 + b2 % 64 * 64 = (((n : Int) % 8 * 64 + b1 % 64) * 64 + b2 % 64) * 2 ^ 6 by rw [pw6]; omega, or_i 6 (by decide) (by rw [pw6]; omega) (by rw [pw6]; omega), pw6,
    show (((n : Int) % 8 * 64 + b1 % 64) * 64 + b2 % 64) * 64 + b3 % 64 = (n : Int) % 8 * 262144 + b1 % 64 * 4096 + b2 % 64 * 64 + b3 % 64 by omega]
  exact .ret ⟨bel1, _, 4, rfl, by decide, by omega, .inr ⟨by omega, by rw [enc4 hB4.1 hB4.2]; rfl⟩⟩

theorem k93 {w : World} {s : Value} {l : List Int} {x0 : Int} (hs : Vw w s l) (hl : okB l) (h0 : l[0]? = some x0) (hx : 128 ≤ x0) (hT : Tab w) : Brings (Xcall Tryd.prog (Value.func (Fn.func 93) #[] #[]) #[s] w) (DecR w l.length) := by
  refine e93 ?_
  have hlen : 0 < l.length := (List.getElem?_eq_some_iff.1 h0).1
  have hx5 := hl x0 (List.mem_of_getElem? h0)
  obtain ⟨n, rfl⟩ := Int.eq_ofNat_of_zero_le hx5.1
  have hcls := first_cls n (by omega) (by omega)
  have l0 : accLo 0 = 128 := rfl
  have l1 : accLo 1 = 160 := rfl
  have l2 : accLo 2 = 128 := rfl
  have l3 : accLo 3 = 144 := rfl
  have l4 : accLo 4 = 128 := rfl
  have u0 : accHi 0 = 191 := rfl
  have u1 : accHi 1 = 191 := rfl
  have u2 : accHi 2 = 159 := rfl
  have u3 : accHi 3 = 191 := rfl
  have u4 : accHi 4 = 143 := rfl
  rcases hcls with hc | ⟨hc, ha, hb⟩ | ⟨hc, ha⟩ | ⟨hc, ha, hb, hd⟩ | ⟨hc, ha⟩ | ⟨hc, ha⟩ | ⟨hc, ha, hb⟩ | ⟨hc, ha⟩
  · unfold s93
    obtain ⟨y, a, hy, hix, hld⟩ := vget hs hlen
    rw [h0] at hy
    obtain rfl := Option.some.inj hy
    obtain ⟨i5, hi5, hs5⟩ := inf5
    have hf := hT.first n (by omega)
    rw [hc] at hf
    have hL : Qload Tryd.prog 5 (.pointer (some ⟨1, n, none⟩)) w = some (.int .u8 241) := Qload_cell one5 hf
    have hA : QindexAddr Tryd.prog 153 (.pointer (some ⟨1, 0, none⟩)) (.int .u8 ((n : Nat) : Int)) w = some (.pointer (some ⟨1, n, none⟩)) := by
      rw [QindexAddr_arr und153 hi5 hs5 (by omega)]; simp
    simp only [vlen hs, go_sem]
    rw [decide_eq_false (by omega)]
    simp only [Int.natCast_zero] at hix
    simp only [go_sem, hix, hld, hA, hL, Int.reduceLE, decide_true]
    rw [conv521 (by decide)]
    simp only [go_sem, hix, hld, Int.reduceLE]
    rw [conv521 hx5]
    simp only [go_sem]
    rw [show (IntKind.i32.wrap (241 * 2 ^ min (Int.toNat 31) 32)).fdiv (2 ^ min (Int.toNat 31) 32) = -1 by decide, err_mask, show ior .i32 0 (iand .i32 65533 (-1)) = 65533 by decide]
    exact .ret ⟨Bel.refl _, 65533, 1, rfl, by decide, by omega, .inl rfl⟩
  · exact k93a hs hl h0 (by omega) hT hc (by decide) (sz := 2) (by decide) (q := 0) (by decide) (by decide) (.inl rfl) fun b1 b2 b3 g1 g2 g3 g4 g5 g6 => ⟨fun _ => (by omega), fun e => (by cases e), fun e => (by cases e)⟩
  · exact k93a hs hl h0 (by omega) hT hc (by decide) (sz := 3) (by decide) (q := 1) (by decide) (by decide) (.inr (.inl rfl)) fun b1 b2 b3 g1 g2 g3 g4 g5 g6 => ⟨fun e => (by cases e), fun _ => (by omega), fun e => (by cases e)⟩
  · exact k93a hs hl h0 (by omega) hT hc (by decide) (sz := 3) (by decide) (q := 0) (by decide) (by decide) (.inr (.inl rfl)) fun b1 b2 b3 g1 g2 g3 g4 g5 g6 => ⟨fun e => (by cases e), fun _ => (by omega), fun e => (by cases e)⟩
  · exact k93a hs hl h0 (by omega) hT hc (by decide) (sz := 3) (by decide) (q := 2) (by decide) (by decide) (.inr (.inl rfl)) fun b1 b2 b3 g1 g2 g3 g4 g5 g6 => ⟨fun e => (by cases e), fun _ => (by omega), fun e => (by cases e)⟩
  · exact k93a hs hl h0 (by omega) hT hc (by decide) (sz := 4) (by decide) (q := 3) (by decide) (by decide) (.inr (.inr rfl)) fun b1 b2 b3 g1 g2 g3 g4 g5 g6 => ⟨fun e => (by cases e), fun e => (by cases e), fun _ => by omega⟩
  · exact k93a hs hl h0 (by omega) hT hc (by decide) (sz := 4) (by decide) (q := 0) (by decide) (by decide) (.inr (.inr rfl)) fun b1 b2 b3 g1 g2 g3 g4 g5 g6 => ⟨fun e => (by cases e), fun e => (by cases e), fun _ => by omega⟩
  · exact k93a hs hl h0 (by omega) hT hc (by decide) (sz := 4) (by decide) (q := 4) (by decide) (by decide) (.inr (.inr rfl)) fun b1 b2 b3 g1 g2 g3 g4 g5 g6 => ⟨fun e => (by cases e), fun e => (by cases e), fun _ => by omega⟩

theorem k74 {w : World} {s : Value} {l : List Int} {x0 : Int} (hs : Vw w s l) (hl : okB l) (h0 : l[0]? = some x0) (hx : 128 ≤ x0) (hT : Tab w) : Brings (Xcall Tryd.prog (Value.func (Fn.func 74) #[] #[]) #[s] w) (DecR w l.length) := by
  refine e74 ?_
  unfold s74
  simp only [vlen hs, go_sem]
  have hlen : 0 < l.length := (List.getElem?_eq_some_iff.1 h0).1
  refine Brings.loop (fun n xs w' => n = 0 ∧ w' = w ∧ xs = [s, .int .i32 0, .int .i64 0, s, .int .i64 l.length, .int .i64 0]) ?_ 0 _ _ ⟨rfl, rfl, rfl⟩
  rintro n xs w' ⟨rfl, rfl, rfl⟩
  simp only [s74B0, go_sem]
  rw [decide_eq_true (by omega)]
  obtain ⟨y, a, hy, hix, hld⟩ := vget hs hlen
  rw [h0] at hy
  obtain rfl := Option.some.inj hy
  simp only [Int.natCast_zero] at hix
  simp only [go_sem, hix, hld]
  rw [decide_eq_false (by omega)]
  simp only [go_sem]
  refine .ret (.inr ⟨by simp, ?_⟩)
  simp only [s74R0]
  refine (k93 hs hl h0 hx hT).bind ?_
  rintro ⟨_, w2⟩ ⟨hb, c, k, h1, h2, h3, h4⟩
  simp only at h1
  subst h1
  simp only [go_sem]
  exact .ret ⟨hb, c, k, rfl, h2, h3, h4⟩

end Go.Proofs.YtphokckbcmiddaaDoor

/- Is one of some bytes among others? -/
namespace Go.Proofs.YtphokckbcmiddaaDoor
open Go Go.Ev
open Go.Proofs

theorem Xcall_ext {P : Program} {k : FuncId} {fn : Func} {e : Array Value → Sem Value} (hf : P.funcs[k]? = some fn) (hn : (fn.name == "runtime.NumGoroutine") = false) (hb : fn.body.isNone = true) (hx : Extern.findNext fn = none) (he : Extern.find fn = some e) (args : Array Value) (w : World) :
    Xcall P (.func (.func k) #[] #[]) args w = match (e args).run P w with | .ok v w' => some (v, w') | _ => none := by
  unfold Xcall
  show next P ((invoke (.fn (.func k) #[]) (#[] ++ args)).run P w) = _
  simp only [invoke, Array.empty_append, Array.append_empty, run_callFunc_extern hf hn hb hx he]
  cases (e args).run P w <;> rfl

theorem x69 (s : ByteArray) (c : Int) (w : World) : Xcall Tryd.prog (Value.func (Fn.func 69) #[] #[]) #[.string s, .int .u8 c] w = some (.int .i64 (firstIdx s c.toNat.toUInt8), w) := by
  rw [Xcall_ext Tryd.func69 (by kernel_rfl) (by kernel_rfl) (by kernel_rfl) (e := Extern.BytealgIndexByte.indexByte) (by kernel_rfl), run_indexByte_string]
theorem x75 {s t : ByteArray} {w : World} {m : Int} (hm : w.cell? ⟨0, 0, none⟩ = some (.int .i64 m)) (h2 : 2 ≤ t.size) (hb : (t.size : Int) ≤ m) (ha : s.size < 4294967281) :
    ∃ k, Xcall Tryd.prog (Value.func (Fn.func 75) #[] #[]) #[.string s, .string t] w = some (.int .i64 k, w) := by
  refine ⟨Lib.index s.data.toList t.data.toList, ?_⟩
  rw [Xcall_ext Tryd.func75 (by kernel_rfl) (by kernel_rfl) (by kernel_rfl) (e := Extern.BytealgIndex.index) (by kernel_rfl), Lib.run_indexString s t w 0 m (by kernel_rfl) hm h2 hb ha]

abbrev crlf : ByteArray := { data := #[13, 10] }

theorem firstIdx_crlf : ∀ c : UInt8, (0 ≤ firstIdx crlf c) = (c = 13 ∨ c = 10) := by
  intro c
  unfold firstIdx
  show (0 ≤ (match (List.range 2).find? (fun i => crlf[i]! == c) with | some i => (i : Int) | none => -1)) = _
  have e : List.range 2 = [0, 1] := rfl
  rw [e, List.find?_cons, List.find?_cons]
  have e0 : crlf[0]! = 13 := rfl
  have e1 : crlf[1]! = 10 := rfl
  rw [e0, e1]
  by_cases h0 : c = 13
  · subst h0; simp
  · by_cases h1 : c = 10
    · subst h1; simp
    · have a : ((13 : UInt8) == c) = false := by simp; exact fun h => h0 h.symm
      have b : ((10 : UInt8) == c) = false := by simp; exact fun h => h1 h.symm
      rw [a, b]; simp [h0, h1]

theorem cr_iff {x : Int} (h : 0 ≤ x ∧ x ≤ 255) : (x.toNat.toUInt8 = 13 ∨ x.toNat.toUInt8 = 10) ↔ (x = 13 ∨ x = 10) := by
  have e : ∀ k : Nat, k < 256 → (x.toNat.toUInt8 = UInt8.ofNat k ↔ x = k) := by
    intro k hk
    constructor
    · intro h2
      have := congrArg UInt8.toNat h2
      simp at this
      omega
    · intro h2
      subst h2
      simp
  have a := e 13 (by decide)
  have b := e 10 (by decide)
  have a' : (x.toNat.toUInt8 = 13) ↔ x = 13 := a
  have b' : (x.toNat.toUInt8 = 10) ↔ x = 10 := b
  rw [a', b']

theorem dec_crlf0 : Utf8.decode crlf 0 = (13, 1) := by decide +kernel
theorem dec_crlf1 : Utf8.decode crlf 1 = (10, 1) := by decide +kernel
theorem crlf_size : crlf.size = 2 := rfl

/-- A loop over the two bytes: it ends, and nothing that was there has turned. -/
theorem two_steps {β : Type} {B : List Value → World → Option (Exit × List Value × World)} {R : Exit → List Value → World → Option β} {Q : β → Prop} {xs : List Value} {w : World}
    (hs : ∀ w', Bel w w' → w.heap.size < w'.heap.size → ∀ pos, pos ≤ 2 → w'.heap[w.heap.size]? = some (.stringIter crlf pos) →
      (pos < 2 → Brings (B xs w') fun r => (r.1 = .normal ∧ r.2.1 = xs ∧ r.2.2 = setB w' w.heap.size (.stringIter crlf (pos + 1))) ∨ (r.1 ≠ .normal ∧ Brings (R r.1 r.2.1 r.2.2) Q)) ∧
      (pos = 2 → Brings (B xs w') fun r => r.1 ≠ .normal ∧ Brings (R r.1 r.2.1 r.2.2) Q)) : Brings (loopR B R xs (w.alloc (.stringIter crlf 0))) Q := by
  refine Brings.loop (fun n ys w' => ys = xs ∧ Bel w w' ∧ w.heap.size < w'.heap.size ∧ n ≤ 2 ∧ w'.heap[w.heap.size]? = some (.stringIter crlf (2 - n))) ?_ 2 _ _ ⟨rfl, (Bel.refl w).alloc _, by simp, Nat.le_refl _, (MapKept.heap_alloc w _).1⟩
  rintro n ys w' ⟨rfl, hb, hlt, hn, hat⟩
  obtain ⟨h1, h2⟩ := hs w' hb hlt (2 - n) (by omega) hat
  by_cases hz : n = 0
  · subst hz
    exact (h2 rfl).mono fun r h => .inr h
  · refine (h1 (by omega)).mono fun r h => ?_
    rcases h with ⟨e1, e2, e3⟩ | h
    · refine .inl ⟨e1, n - 1, by omega, e2, ?_, ?_, by omega, ?_⟩
      · rw [e3]; exact (hb.thenChg (setB_chg w' _ _)).bel fun k hk he => by omega
      · rw [e3, setB_size]; exact hlt
      · rw [e3, setB_same hat]
        congr 2
        omega
    · exact .inr h

/-- A place, or -1. -/
def Some64 (w : World) (r : Value × World) : Prop := Bel w r.2 ∧ ∃ k, r.1 = .int .i64 k

theorem dec2 {pos : Nat} (h : pos < 2) : (Utf8.decode crlf pos).2 = 1 ∧ (((Utf8.decode crlf pos).1 : Nat) : Int) < 128 ∧ (((Utf8.decode crlf pos).1 : Nat) : Int) ≠ 65533 := by
  have : pos = 0 ∨ pos = 1 := by omega
  rcases this with rfl | rfl
  · rw [dec_crlf0]; decide
  · rw [dec_crlf1]; decide

theorem k54one {w : World} {s : Value} {l : List Int} (hs : Vw w s l) (hl : okB l) (h1 : l.length = 1) : Brings (Xcall Tryd.prog (Value.func (Fn.func 54) #[] #[]) #[s, .string crlf] w) (Some64 w) := by
  refine e54 ?_
  unfold s54
  obtain ⟨x, a, hx, hix, hld⟩ := vget hs (j := 0) (by omega)
  have hx5 := hl x (List.mem_of_getElem? hx)
  simp only [Int.natCast_zero] at hix
  have e0 : ((crlf.toList == ({ data := #[] } : ByteArray).toList) = false) := by decide +kernel
  simp only [go_sem, e0, vlen hs, h1]
  simp only [hix, hld, conv521 hx5, go_sem, show (((1 : Nat) : Int) == 1) = true from rfl]
  by_cases c : 128 ≤ x
  · rw [decide_eq_true c]
    simp only [go_sem, Xrange_str]
    refine two_steps fun w' hb hlt pos hp hat => ⟨fun h => ?_, fun h => ?_⟩
    · obtain ⟨d1, d2, d3⟩ := dec2 h
      simp only [s54B0, Xnext_str hat (by rw [crlf_size]; exact h), go_sem, d1]
      rw [show ((((Utf8.decode crlf pos).1 : Nat) : Int) == 65533) = false by simp; omega]
      simp only [go_sem]
      exact .ret (.inl ⟨rfl, rfl, rfl⟩)
    · simp only [s54B0, Xnext_end hat (by rw [crlf_size]; omega), go_sem]
      exact .ret ⟨by simp, .ret ⟨hb, _, rfl⟩⟩
  · rw [decide_eq_false c]
    simp only [go_sem, hix, hld, x69]
    by_cases d : 0 ≤ firstIdx crlf x.toNat.toUInt8
    · rw [decide_eq_true d]
      simp only [go_sem]
      exact .ret ⟨Bel.refl _, _, rfl⟩
    · rw [decide_eq_false d]
      simp only [go_sem]
      exact .ret ⟨Bel.refl _, _, rfl⟩

end Go.Proofs.YtphokckbcmiddaaDoor

/- Is one of some bytes among others: of many, by a table; of few. -/
namespace Go.Proofs.YtphokckbcmiddaaDoor
open Go Go.Ev
open Go.Proofs

def A0 : List Value := List.replicate 256 (.bool false)
def A1 : List Value := A0.set 13 (.bool true)
def A2 : List Value := A1.set 10 (.bool true)
theorem A0_len : A0.length = 256 := List.length_replicate
theorem A1_len : A1.length = 256 := by rw [A1, List.length_set]; exact A0_len
theorem A2_len : A2.length = 256 := by rw [A2, List.length_set]; exact A1_len
theorem A2_get {c : Nat} (h : c < 256) : A2[c]? = some (.bool (c == 13 || c == 10)) := by
  rw [A2, List.getElem?_set]
  by_cases h1 : 10 = c
  · subst h1
    rw [if_pos rfl, if_pos (by rw [A1_len]; decide)]
    rfl
  · rw [if_neg h1, A1, List.getElem?_set]
    by_cases h2 : 13 = c
    · subst h2
      rw [if_pos rfl, if_pos (by rw [A0_len]; decide)]
      rfl
    · rw [if_neg h2, A0, List.getElem?_replicate, if_pos h]
      have a : (c == 13) = false := by simp; omega
      have b : (c == 10) = false := by simp; omega
      rw [a, b]; rfl
theorem A_one : ∀ u ∈ A2, u.oneCell' = true := by
  intro u hu
  rcases List.mem_or_eq_of_mem_set hu with hu | rfl
  · rcases List.mem_or_eq_of_mem_set hu with hu | rfl
    · rw [List.eq_of_mem_replicate hu]; rfl
    · rfl
  · rfl

theorem und129 : Tryd.prog.underlying 129 = some (.array 256 4) := by kernel_rfl
theorem inf129 : ∃ i, Tryd.prog.info? 129 = some i ∧ i.size = 256 := ⟨(Tryd.prog.info? 129).get (by kernel_rfl), by kernel_rfl, by kernel_rfl⟩
theorem inf4 : ∃ i, Tryd.prog.info? 4 = some i ∧ i.size = 1 := ⟨(Tryd.prog.info? 4).get (by kernel_rfl), by kernel_rfl, by kernel_rfl⟩
set_option maxRecDepth 100000 in
theorem zero129 (w : World) : (zeroValue 129).run Tryd.prog w = .ok (.agg A0.toArray) w := by kernel_rfl
theorem alloc129 (w : World) : Xalloc Tryd.prog 129 w = some (.pointer (some ⟨w.heap.size, 0, none⟩), w.alloc (.cells A0.toArray 129)) := Xalloc_eq (zero129 w)
theorem set4 {w : World} {g : Nat} {cs : List Value} {te : TypeId} {c : Nat} (hg : w.heap[g]? = some (.cells cs.toArray te (0, 0))) (hc : c < cs.length) (b : Bool) :
    Xstore Tryd.prog 4 (.pointer (some ⟨g, c, none⟩)) (.bool b) w = some (undef, w.setRow g (cs.set c (.bool b)).toArray) := by
  obtain ⟨i, hi, hs⟩ := inf4
  rw [Xstore_row (v := .bool b) hi (by rw [hs]; rfl) hg (by rw [hs]; simp; omega) (by intro u hu; simp [Value.cells] at hu; subst hu; rfl), hs, List.set_eq_take_append_cons_drop, if_pos hc]
  simp [Value.cells]
theorem store129 {w : World} {g : Nat} {cs : List Value} {te : TypeId} (hg : w.heap[g]? = some (.cells cs.toArray te (0, 0))) (hc : cs.length = 256) (v : List Value) (hv : v.length = 256) (h1 : ∀ u ∈ v, u.oneCell' = true) :
    Xstore Tryd.prog 129 (.pointer (some ⟨g, 0, none⟩)) (.agg v.toArray) w = some (undef, w.setRow g v.toArray) := by
  obtain ⟨i, hi, hs⟩ := inf129
  exact Xstore_var (v := .agg v.toArray) hi (by rw [hs]; simpa [Value.cells] using hv) hg (by rw [hs]; simpa using hc) (by simpa [Value.cells] using h1)
theorem load129 {w : World} {g : Nat} {cs : List Value} (hg : CellsAt cs w g 0) (hc : cs.length = 256) : Qload Tryd.prog 129 (.pointer (some ⟨g, 0, none⟩)) w = some (.agg cs.toArray) := by
  obtain ⟨i, hi, hs⟩ := inf129
  exact Qload_array und129 hi (by rw [hs, hc]) hg
theorem qidx_str {s : List Int} {i : Nat} {x : Int} (h : s[i]? = some x) (hx : 0 ≤ x ∧ x ≤ 255) (w : World) : Qindex Tryd.prog 9 (.string (strOfNums s)) (.int .i64 (i : Int)) w = some (.int .u8 x) := by
  obtain ⟨hi, e⟩ := str_get h hx
  have hlt : i < (strOfNums s).size := hi
  unfold Qindex qv
  simp only [Instr.index, asIntOf, Sem.run_bind, Sem.run_pure, Result.andThen_ok, run_underlying und9]
  have h0 : (0 : Int) ≤ (i : Int) ∧ (i : Int) < ((strOfNums s).size : Int) := by omega
  simp only [Int.toNat_natCast]
  rw [if_pos (by omega), getElem?_pos _ i hi]
  simp only [Sem.run_pure]
  rw [e]

theorem crlf_eq : crlf = strOfNums [13, 10] := by decide +kernel
theorem qlen_str {s : ByteArray} {w : World} : Qlen Tryd.prog #[9] 3 #[.string s] w = some (.int .i64 s.size) := by
  unfold Qlen qv
  simp [Builtin.len_, run_underlying und9, goInt]

/-- The bytes of a set. -/
theorem k72 (w : World) : Brings (Xcall Tryd.prog (Value.func (Fn.func 72) #[] #[]) #[.string crlf] w) (fun r => r.1 = .tuple #[.agg A2.toArray, .bool true] ∧ Bel w r.2) := by
  refine e72 ?_
  unfold s72
  simp only [alloc129, go_sem]
  have hg0 : (w.alloc (.cells A0.toArray 129)).heap[w.heap.size]? = some (.cells A0.toArray 129 (0, 0)) := (MapKept.heap_alloc w _).1
  have b0 : Bel w (w.alloc (.cells A0.toArray 129)) := (Bel.refl w).alloc _
  generalize w.alloc (.cells A0.toArray 129) = w0 at hg0 b0
  obtain ⟨i4, hi4, hs4⟩ := inf4
  refine Brings.loop (fun n xs w' => ∃ (pos : Nat) (A : List Value), pos ≤ 2 ∧ n = 2 - pos ∧ xs = [.string crlf, .pointer (some ⟨w.heap.size, 0, none⟩), .bool false, .int .i64 (pos : Int)] ∧ A = [A0, A1, A2].getD pos A0 ∧ w'.heap[w.heap.size]? = some (.cells A.toArray 129 (0, 0)) ∧ Bel w w') ?_ 2 _ _ ⟨0, A0, by decide, rfl, rfl, rfl, hg0, b0⟩
  rintro n xs w' ⟨pos, A, hp, rfl, rfl, hA, hg, hb⟩
  simp only [s72B0, qlen_str, crlf_size, go_sem]
  have chg : ∀ c : Array Value, Bel w (w'.setRow w.heap.size c) := fun c => (hb.thenChg (setRow_chg _ c)).bel fun k hk e => by omega
  have lenA : A.length = 256 := by
    have : pos = 0 ∨ pos = 1 ∨ pos = 2 := by omega
    rcases this with rfl | rfl | rfl
    · rw [hA]; exact A0_len
    · rw [hA]; exact A1_len
    · rw [hA]; exact A2_len
  by_cases h2 : pos = 2
  · subst h2
    obtain rfl : A = A2 := hA
    simp only [show decide (((2 : Nat) : Int) < ((2 : Nat) : Int)) = false from rfl, go_sem]
    refine .ret (.inr ⟨by simp, ?_⟩)
    simp only [s72R0]
    have hc := CellsAt.of hg
    have hst := store129 hg A2_len A2 A2_len A_one
    have hg2 := setRow_heap w' w.heap.size A2.toArray A2.toArray 129 _ hg
    simp only [load129 hc A2_len, hst, load129 (CellsAt.of hg2) A2_len, go_sem]
    exact .ret ⟨rfl, chg _⟩
  · have hlt : pos < 2 := by omega
    rw [decide_eq_true (by omega)]
    have step : ∀ (x : Int) (k : Nat), [13, 10][pos]? = some x → x = (k : Int) → k < 128 → [A0, A1, A2].getD (pos + 1) A0 = A.set k (.bool true) → Brings (condK (.bool true) ((Qindex Tryd.prog 9 (.string crlf) (.int .i64 (pos : Int)) w').bind fun v125 =>
        (Qbin Tryd.prog .geq 5 v125 (.int .u8 128)).bind fun v126 => condK v126 ((Qload Tryd.prog 129 (.pointer (some ⟨w.heap.size, 0, none⟩)) w').bind fun v127 => (Xstore Tryd.prog 129 (.pointer (some ⟨w.heap.size, 0, none⟩)) v127 w').bind fun r128 => some (Exit.ret, [.string crlf, .pointer (some ⟨w.heap.size, 0, none⟩), .bool false, .int .i64 (pos : Int)], r128.2))
          ((QindexAddr Tryd.prog 129 (.pointer (some ⟨w.heap.size, 0, none⟩)) v125 w').bind fun v129 => (Xstore Tryd.prog 4 v129 (.bool true) w').bind fun r130 => (Qbin Tryd.prog .add 3 (.int .i64 (pos : Int)) (.int .i64 1)).bind fun v131 => some (Exit.normal, [.string crlf, .pointer (some ⟨w.heap.size, 0, none⟩), .bool false, v131], r130.2)))
        (some (Exit.exit 0, [.string crlf, .pointer (some ⟨w.heap.size, 0, none⟩), .bool false, .int .i64 (pos : Int)], w'))) fun r => (r.1 = .normal ∧ ∃ m, m < 2 - pos ∧ ∃ (p' : Nat) (A' : List Value), p' ≤ 2 ∧ m = 2 - p' ∧ r.2.1 = [.string crlf, .pointer (some ⟨w.heap.size, 0, none⟩), .bool false, .int .i64 (p' : Int)] ∧ A' = [A0, A1, A2].getD p' A0 ∧ r.2.2.heap[w.heap.size]? = some (.cells A'.toArray 129 (0, 0)) ∧ Bel w r.2.2) ∨ (r.1 ≠ .normal ∧ Brings (s72R0 r.1 r.2.1 r.2.2) (fun r => r.1 = .tuple #[.agg A2.toArray, .bool true] ∧ Bel w r.2)) := by
      intro x k hx hk hk2 hnext
      subst hk
      rw [crlf_eq, qidx_str hx ⟨by omega, by omega⟩, ← crlf_eq]
      simp only [go_sem]
      rw [decide_eq_false (by omega)]
      have hix : QindexAddr Tryd.prog 129 (.pointer (some ⟨w.heap.size, 0, none⟩)) (.int .u8 (k : Int)) w' = some (.pointer (some ⟨w.heap.size, k, none⟩)) := by
        rw [QindexAddr_arr und129 hi4 hs4 (by omega)]; simp
      simp only [go_sem, hix, set4 hg (show k < A.length by omega) true]
      rw [wr (by omega) (by omega)]
      refine .ret (.inl ⟨rfl, 2 - (pos + 1), by omega, pos + 1, _, by omega, rfl, by simp, hnext.symm, ?_, chg _⟩)
      exact setRow_heap w' w.heap.size A.toArray (A.set k (.bool true)).toArray 129 _ hg
    have h01 : pos = 0 ∨ pos = 1 := by omega
    rcases h01 with rfl | rfl
    · exact step 13 13 rfl rfl (by decide) (by rw [hA]; rfl)
    · exact step 10 10 rfl rfl (by decide) (by rw [hA]; rfl)

theorem k73 {w : World} {g c : Nat} (hg : CellsAt A2 w g 0) (hc : c < 256) : Brings (Xcall Tryd.prog (Value.func (Fn.func 73) #[] #[]) #[.pointer (some ⟨g, 0, none⟩), .int .u8 (c : Int)] w) (fun r => r = (.bool (c == 13 || c == 10), w)) := by
  refine e73 ?_
  unfold s73
  obtain ⟨i4, hi4, hs4⟩ := inf4
  have hix : QindexAddr Tryd.prog 129 (.pointer (some ⟨g, 0, none⟩)) (.int .u8 (c : Int)) w = some (.pointer (some ⟨g, c, none⟩)) := by
    rw [QindexAddr_arr und129 hi4 hs4 hc]; simp
  have hld : Qload Tryd.prog 4 (.pointer (some ⟨g, c, none⟩)) w = some (.bool (c == 13 || c == 10)) := Qload_cell one4 (by simpa using hg c _ (A2_get hc))
  simp only [go_sem, hix, hld]
  exact .ret rfl

/-- Of many: by the table. -/
theorem k54many {w : World} {s : Value} {l : List Int} (hs : Vw w s l) (hl : okB l) (h1 : 8 < l.length) : Brings (Xcall Tryd.prog (Value.func (Fn.func 54) #[] #[]) #[s, .string crlf] w) (fun r => Bel w r.2 ∧ ∃ k, r.1 = .int .i64 k ∧ decide (0 ≤ k) = !Ftp.clean l) := by
  refine e54 ?_
  unfold s54
  have e0 : ((crlf.toList == ({ data := #[] } : ByteArray).toList) = false) := by decide +kernel
  simp only [go_sem, e0, vlen hs, qlen_str, crlf_size]
  rw [show ((l.length : Int) == 1) = false by simp; omega]
  simp only [go_sem, show (((2 : Nat) : Int) == 1) = false from rfl]
  have k71 : Xcall Tryd.prog (Value.func (Fn.func 71) #[] #[]) #[.int .i64 (l.length : Int)] w = some (.bool true, w) := by
    obtain ⟨r, h, hr⟩ := e71 (x0 := .int .i64 (l.length : Int)) (w := w) (Q := fun r => r = (.bool true, w)) (by
      unfold s71
      simp only [go_sem]
      rw [decide_eq_true (by omega)]
      exact .ret rfl)
    rw [h, hr]
  simp only [k71, go_sem]
  refine (k72 w).bind ?_
  rintro ⟨_, w1⟩ ⟨he, b1⟩
  simp only at he b1
  subst he
  have hg0 : (w1.alloc (.cells A0.toArray 129)).heap[w1.heap.size]? = some (.cells A0.toArray 129 (0, 0)) := (MapKept.heap_alloc w1 _).1
  simp only [alloc129, go_sem, store129 hg0 A0_len A2 A2_len A_one]
  have hg := setRow_heap _ w1.heap.size A0.toArray A2.toArray 129 _ hg0
  have b2 : Bel w ((w1.alloc (.cells A0.toArray 129)).setRow w1.heap.size A2.toArray) := b1.trans (local_bel _ _ _)
  generalize (w1.alloc (.cells A0.toArray 129)).setRow w1.heap.size A2.toArray = w2 at hg b2
  have hsm := vsm hs
  refine Brings.loop (fun n xs w' => ∃ i : Nat, i ≤ l.length ∧ n = l.length - i ∧ xs = [.int .i64 0, .pointer (some ⟨w1.heap.size, 0, none⟩), s, .int .i64 (l.length : Int), .int .i64 (i : Int)] ∧ w' = w2 ∧ Ftp.clean (l.take i) = true) ?_ l.length _ _ ⟨0, Nat.zero_le _, rfl, rfl, rfl, rfl⟩
  rintro n xs w' ⟨i, hi, rfl, rfl, rfl, hcl⟩
  simp only [s54B2, go_sem]
  by_cases hlt : i < l.length
  · rw [decide_eq_true (by omega)]
    obtain ⟨x, a, hx, hix, hld⟩ := vget (hs.bel b2) hlt
    have hx5 := hl x (List.mem_of_getElem? hx)
    obtain ⟨c, rfl⟩ := Int.eq_ofNat_of_zero_le hx5.1
    simp only [go_sem, hix, hld]
    refine (k73 (CellsAt.of hg) (by omega)).bind ?_
    rintro _ rfl
    by_cases hc : (c == 13 || c == 10) = true
    · rw [hc]
      simp only [go_sem]
      refine .ret (.inr ⟨by simp, ?_⟩)
      simp only [s54R2]
      refine .ret ⟨b2, _, rfl, ?_⟩
      have : (c : Int) = 13 ∨ (c : Int) = 10 := by
        simp only [Bool.or_eq_true, beq_iff_eq] at hc
        omega
      have hm := List.mem_of_getElem? hx
      rw [Ftp.clean_mem (by rcases this with h | h <;> rw [h] at hm <;> simp [hm])]
      simp
    · rw [Bool.not_eq_true] at hc
      rw [hc]
      simp only [go_sem]
      rw [wr (by omega) (by omega)]
      refine .ret (.inl ⟨rfl, l.length - (i + 1), by omega, i + 1, by omega, rfl, by simp, rfl, ?_⟩)
      rw [List.take_add_one, hx, Ftp.clean_app, hcl]
      simp only [Bool.or_eq_false_iff, beq_eq_false_iff_ne] at hc
      simp [Ftp.clean]
      omega
  · rw [decide_eq_false (by omega)]
    simp only [go_sem]
    refine .ret (.inr ⟨by simp, ?_⟩)
    simp only [s54R2]
    refine .ret ⟨b2, _, rfl, ?_⟩
    rw [List.take_of_length_le (by omega)] at hcl
    rw [hcl]
    rfl

end Go.Proofs.YtphokckbcmiddaaDoor

/- Is one of two bytes among a few others: it ends; line. -/
namespace Go.Proofs.YtphokckbcmiddaaDoor
open Go Go.Ev
open Go.Proofs

theorem conv219 {n : Int} {w : World} : Xconv Tryd.prog 21 9 (.int .i32 n) w = some (.string (Utf8.encode n), w) := by
  unfold Xconv xv
  rw [run_convert_int_string w 21 9 .i32 n (by kernel_rfl) und9]

theorem k54few {w : World} {s : Value} {l : List Int} (hs : Vw w s l) (hl : okB l) (hT : Tab w) (h1 : l.length ≠ 1) (h8 : l.length ≤ 8) : Brings (Xcall Tryd.prog (Value.func (Fn.func 54) #[] #[]) #[s, .string crlf] w) (Some64 w) := by
  refine e54 ?_
  unfold s54
  have e0 : ((crlf.toList == ({ data := #[] } : ByteArray).toList) = false) := by decide +kernel
  simp only [go_sem, e0, vlen hs, qlen_str, crlf_size]
  rw [show ((l.length : Int) == 1) = false by simp; omega]
  simp only [go_sem, show (((2 : Nat) : Int) == 1) = false from rfl]
  have k71 : Xcall Tryd.prog (Value.func (Fn.func 71) #[] #[]) #[.int .i64 (l.length : Int)] w = some (.bool false, w) := by
    obtain ⟨r, h, hr⟩ := e71 (x0 := .int .i64 (l.length : Int)) (w := w) (Q := fun r => r = (.bool false, w)) (by
      unfold s71
      simp only [go_sem]
      rw [decide_eq_false (by omega)]
      exact .ret rfl)
    rw [h, hr]
  simp only [k71, go_sem]
  have hsm := vsm hs
  refine Brings.loop (fun n xs w' => ∃ i : Nat, i ≤ l.length ∧ n = l.length - i ∧ xs = [s, .string crlf, .int .i64 0, .int .i64 (i : Int)] ∧ Bel w w') ?_ l.length _ _ ⟨0, Nat.zero_le _, rfl, rfl, Bel.refl w⟩
  rintro n xs w' ⟨i, hi, rfl, rfl, hb⟩
  have hs' := hs.bel hb
  simp only [s54B4, vlen hs', go_sem]
  by_cases hlt : i < l.length
  rotate_left
  · rw [decide_eq_false (by omega)]
    simp only [go_sem]
    refine .ret (.inr ⟨by simp, ?_⟩)
    simp only [s54R4]
    exact .ret ⟨hb, _, rfl⟩
  rw [decide_eq_true (by omega)]
  obtain ⟨x, a, hx, hix, hld⟩ := vget hs' hlt
  have hx5 := hl x (List.mem_of_getElem? hx)
  simp only [go_sem, hix, hld, conv521 hx5]
  have retI : ∀ w2, Bel w w2 → Brings (some (Exit.ret, [s, .string crlf, .int .i64 (i : Int), .int .i64 (i : Int)], w2)) (fun r => (r.1 = .normal ∧ ∃ m, m < l.length - i ∧ ∃ i' : Nat, i' ≤ l.length ∧ m = l.length - i' ∧ r.2.1 = [s, .string crlf, .int .i64 0, .int .i64 (i' : Int)] ∧ Bel w r.2.2) ∨ (r.1 ≠ .normal ∧ Brings (s54R4 r.1 r.2.1 r.2.2) (Some64 w))) := by
    intro w2 hb2
    refine .ret (.inr ⟨by simp, ?_⟩)
    simp only [s54R4]
    exact .ret ⟨hb2, _, rfl⟩
  have goI : ∀ w2 (k : Int), Bel w w2 → 1 ≤ k → (i : Int) + k ≤ l.length → Brings (some (Exit.normal, [s, .string crlf, .int .i64 0, .int .i64 ((i : Int) + k)], w2)) (fun r => (r.1 = .normal ∧ ∃ m, m < l.length - i ∧ ∃ i' : Nat, i' ≤ l.length ∧ m = l.length - i' ∧ r.2.1 = [s, .string crlf, .int .i64 0, .int .i64 (i' : Int)] ∧ Bel w r.2.2) ∨ (r.1 ≠ .normal ∧ Brings (s54R4 r.1 r.2.1 r.2.2) (Some64 w))) := by
    intro w2 k hb2 h1 h2
    refine .ret (.inl ⟨rfl, l.length - (i + k.toNat), by omega, i + k.toNat, by omega, rfl, ?_, hb2⟩)
    rw [show ((i + k.toNat : Nat) : Int) = (i : Int) + k by omega]
  by_cases c : x < 128
  · rw [decide_eq_true c]
    simp only [go_sem, x69, hix, hld]
    by_cases d : 0 ≤ firstIdx crlf x.toNat.toUInt8
    · rw [decide_eq_true d]
      simp only [go_sem]
      exact retI _ hb
    · rw [decide_eq_false d]
      simp only [go_sem]
      rw [wr (by omega) (by omega)]
      exact goI _ 1 hb (by decide) (by omega)
  rw [decide_eq_false c]
  obtain ⟨v', e, hv, ho⟩ := vlo hs' (lo := i) (by omega) w'
  simp only [go_sem, e]
  have hT' := hT.bel hb
  refine (k74 hv (hl.drop i) (x0 := x) (by rw [List.getElem?_drop, Nat.add_zero]; exact hx) (by omega) hT').bind ?_
  rintro ⟨_, w2⟩ ⟨hb2, rc, k, he, hk1, hk2, hck⟩
  simp only at he hb2
  subst he
  have hk3 : k ≤ l.length - i := by rw [List.length_drop] at hk2; omega
  have hbw := hb.trans hb2
  simp only [go_sem]
  -- the two rounds of the inner loop
  have inner : ∀ w3, Bel w w3 → Brings (s54M6 s (.string crlf) (.int .i64 0) (.int .i64 k) (.int .i64 (i : Int)) (.int .i32 rc) w3) (fun r => (r.1 = .normal ∧ ∃ m, m < l.length - i ∧ ∃ i' : Nat, i' ≤ l.length ∧ m = l.length - i' ∧ r.2.1 = [s, .string crlf, .int .i64 0, .int .i64 (i' : Int)] ∧ Bel w r.2.2) ∨ (r.1 ≠ .normal ∧ Brings (s54R4 r.1 r.2.1 r.2.2) (Some64 w))) := by
    intro w3 hb3
    unfold s54M6
    simp only [Xrange_str, go_sem]
    refine two_steps fun w4 hb4 hlt4 pos hp hat => ⟨fun h => ?_, fun h => ?_⟩
    · have b5 : Bel w (setB w4 w3.heap.size (.stringIter crlf (pos + 1))) := hb3.trans ((hb4.thenChg (setB_chg w4 _ _)).bel fun k hk he => by omega)
      obtain ⟨d1, d2, d3⟩ := dec2 h
      simp only [s54B8, Xnext_str hat (by rw [crlf_size]; exact h), go_sem, d1]
      cases hd : (rc == (((Utf8.decode crlf pos).1 : Nat) : Int)) with
      | true =>
        simp only [go_sem]
        refine .ret (.inr ⟨by simp, ?_⟩)
        simp only [s54R8]
        exact retI _ b5
      | false =>
        simp only [go_sem]
        exact .ret (.inl ⟨rfl, rfl, rfl⟩)
    · simp only [s54B8, Xnext_end hat (by rw [crlf_size]; omega), go_sem]
      refine .ret ⟨by simp, ?_⟩
      simp only [s54R8, go_sem]
      rw [wr (by omega) (by omega)]
      exact goI _ k (hb3.trans hb4) hk1 (by omega)
  rcases hck with rfl | ⟨h128, henc⟩
  · simp only [show ((65533 : Int) != 65533) = false from rfl, go_sem]
    exact inner _ hbw
  by_cases hfd : rc = 65533
  · subst hfd
    simp only [show ((65533 : Int) != 65533) = false from rfl, go_sem]
    exact inner _ hbw
  rw [show (rc != 65533) = true by simpa using hfd]
  simp only [go_sem, qlen_str, crlf_size]
  have h2k : 2 ≤ (Utf8.encode rc).size := by
    by_cases hv2 : Utf8.valid rc = true
    · exact (encode_facts rc hv2 h128).1
    · have : (Utf8.encode rc).size = 3 := by
        unfold Utf8.encode
        simp only [hv2]
        rfl
      omega
  by_cases h2 : k = 2
  · subst h2
    simp only [show (((2 : Nat) : Int) == 2) = true from rfl, go_sem, conv219]
    cases hd : (crlf.toList == (Utf8.encode rc).toList) with
    | true =>
      simp only [go_sem]
      exact retI _ hbw
    | false =>
      simp only [go_sem]
      rw [wr (by omega) (by omega)]
      exact goI _ 2 hbw (by decide) (by omega)
  rw [show (((2 : Nat) : Int) == k) = false by simp; omega]
  simp only [go_sem]
  obtain ⟨m, hm⟩ := (hT.bel hbw).maxl
  simp only [Qload_cell one3 hm, go_sem]
  by_cases hmk : k ≤ m
  · rw [decide_eq_true hmk]
    simp only [go_sem, conv219]
    obtain ⟨j, hj⟩ := x75 (s := crlf) (t := Utf8.encode rc) hm h2k (by omega) (by decide)
    simp only [hj, go_sem]
    by_cases d : 0 ≤ j
    · rw [decide_eq_true d]
      simp only [go_sem]
      exact retI _ hbw
    · rw [decide_eq_false d]
      simp only [go_sem]
      rw [wr (by omega) (by omega)]
      exact goI _ k hbw hk1 (by omega)
  · rw [decide_eq_false hmk]
    simp only [go_sem]
    exact inner _ hbw

/-- Of many it is told; of few it ends. -/
theorem k41 {w : World} {s : Value} {l : List Int} (hs : Vw w s l) (hl : okB l) (hT : Tab w) : Brings (Xcall Tryd.prog (Value.func (Fn.func 41) #[] #[]) #[s, .string crlf] w) (fun r => Bel w r.2 ∧ ∃ b, r.1 = .bool b ∧ (8 < l.length → b = !Ftp.clean l)) := by
  refine e41 ?_
  unfold s41
  by_cases h8 : 8 < l.length
  · refine (k54many hs hl h8).bind ?_
    rintro ⟨_, w1⟩ ⟨hb, k, h1, h2⟩
    simp only at h1 hb
    subst h1
    simp only [go_sem, h2]
    exact .ret ⟨hb, _, rfl, fun _ => rfl⟩
  · have few : Brings (Xcall Tryd.prog (Value.func (Fn.func 54) #[] #[]) #[s, .string crlf] w) (Some64 w) := by
      by_cases h1 : l.length = 1
      · exact k54one hs hl h1
      · exact k54few hs hl hT h1 (by omega)
    refine few.bind ?_
    rintro ⟨_, w1⟩ ⟨hb, k, h1⟩
    simp only at h1 hb
    subst h1
    simp only [go_sem]
    exact .ret ⟨hb, _, rfl, fun h => absurd h h8⟩

theorem lit22 (w : World) : XbuildSlice Tryd.prog 22 2 #[(0, .int .u8 13), (1, .int .u8 10)] w = some (.slice (some ⟨w.heap.size, 0, none⟩) 2 2, w.alloc (.cells #[.int .u8 13, .int .u8 10] 5)) := by kernel_rfl
theorem conv2222 (w : World) : Xconv Tryd.prog 22 22 (.slice (some ⟨w.heap.size, 0, none⟩) 2 2) (w.alloc (.cells #[.int .u8 13, .int .u8 10] 5)) = some (.slice (some ⟨w.heap.size, 0, none⟩) 2 2, w.alloc (.cells #[.int .u8 13, .int .u8 10] 5 (2, 3))) := by
  unfold Xconv xv
  rw [Lib.run_convert_bytes_const w 22 5 _ 2 2 und22 und5]
  rfl

/-- A line: what stands in it; of a short one it is not told whether it is one. -/
def LineR (w : World) (s : Value) (l : List Int) (r : Value × World) : Prop :=
  Bel w r.2 ∧ ∃ v' ok, r.1 = .tuple #[v', .bool ok] ∧ (∃ a n c, v' = .slice a n c) ∧ (10 < l.length → ok = (Ftp.lineS l).isSome) ∧ (ok = true → 2 ≤ l.length ∧ l.length ≤ 128 ∧ l.drop (l.length - 2) = [13, 10] ∧ Vw r.2 v' (l.take (l.length - 2)) ∧ ∀ k, v'.ownBlock = some k → s.ownBlock = some k)

theorem k19 {w : World} {s : Value} {l : List Int} (hs : Vw w s l) (hl : okB l) (hT : Tab w) : Brings (Xcall Tryd.prog (Value.func (Fn.func 19) #[] #[]) #[s] w) (LineR w s l) := by
  refine e19 ?_
  unfold s19
  simp only [lit22, conv2222, go_sem]
  have b1 : Bel w (w.alloc (.cells #[.int .u8 13, .int .u8 10] 5 (2, 3))) := (Bel.refl w).alloc _
  have hv2 : Vw (w.alloc (.cells #[.int .u8 13, .int .u8 10] 5 (2, 3))) (.slice (some ⟨w.heap.size, 0, none⟩) 2 2) [13, 10] := by
    refine ⟨_, 2, rfl, Nat.le_refl _, by simp [maxLen], (fun h => by cases h), fun k y hk => ?_⟩
    have hc := CellsAt.of (w := w.alloc (.cells #[.int .u8 13, .int .u8 10] 5 (2, 3))) (cs := [.int .u8 13, .int .u8 10]) (MapKept.heap_alloc w _).1
    match k, hk with
    | 0, hk =>
      obtain rfl := Option.some.inj hk
      exact ⟨_, 0, rfl, fun j v hj => by
        match j, hj with
        | 0, hj => obtain rfl := Option.some.inj hj; exact hc 0 _ rfl
        | j + 1, hj => simp [nc] at hj⟩
    | 1, hk =>
      obtain rfl := Option.some.inj hk
      exact ⟨_, 0, rfl, fun j v hj => by
        match j, hj with
        | 0, hj => obtain rfl := Option.some.inj hj; exact hc 1 _ rfl
        | j + 1, hj => simp [nc] at hj⟩
    | k + 2, hk => simp at hk
  generalize w.alloc (.cells #[.int .u8 13, .int .u8 10] 5 (2, 3)) = w1 at b1 hv2
  have hs1 := hs.bel b1
  refine (k40 hs1 hv2 hl (by intro c hc; simp at hc; omega)).bind ?_
  rintro ⟨_, w2⟩ ⟨rfl, v', he, hv, ho⟩
  simp only at he hv
  subst he
  simp only [go_sem, List.length_cons, List.length_nil, Nat.zero_add, Nat.reduceAdd] at hv ⊢
  have hsl : ∃ a n c, v' = .slice a n c := by
    obtain ⟨a, c, e, _⟩ := vcap hv
    exact ⟨a, _, c, e⟩
  by_cases h : 2 ≤ l.length ∧ l.drop (l.length - 2) = [13, 10]
  · rw [if_pos h] at hv
    rw [decide_eq_true h]
    simp only [vlen hs1, go_sem]
    by_cases h128 : l.length ≤ 128
    · rw [decide_eq_true (by omega)]
      simp only [go_sem]
      refine (k41 hv (hl.take _) (hT.bel b1)).bind ?_
      rintro ⟨_, w3⟩ ⟨hb3, b, he, hb8⟩
      simp only at he hb3
      subst he
      simp only [go_sem]
      refine .ret ⟨b1.trans hb3, v', !b, rfl, hsl, fun h10 => ?_, fun _ => ⟨h.1, h128, h.2, hv.bel hb3, ho⟩⟩
      rw [hb8 (by rw [List.length_take]; omega)]
      unfold Ftp.lineS
      cases hc : Ftp.clean (l.take (l.length - 2)) with
      | true => rw [if_pos ⟨h.1, h128, h.2, rfl⟩]; rfl
      | false => rw [if_neg (by simp)]; rfl
    · rw [decide_eq_false (by omega)]
      simp only [go_sem]
      refine .ret ⟨b1, v', false, rfl, hsl, fun h10 => ?_, fun hf => by cases hf⟩
      unfold Ftp.lineS
      rw [if_neg (fun hx => h128 hx.2.1)]; rfl
  · rw [if_neg h] at hv
    rw [decide_eq_false h]
    simp only [go_sem]
    refine .ret ⟨b1, v', false, rfl, hsl, fun h10 => ?_, fun hf => by cases hf⟩
    unfold Ftp.lineS
    rw [if_neg (fun hx => h ⟨hx.1, hx.2.2.1⟩)]; rfl

end Go.Proofs.YtphokckbcmiddaaDoor
