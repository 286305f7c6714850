/- Itoa. -/
import Derived.Test.YtphokckbcmiddaaDoorMFt19
import Derived.Test.YtphokckbcmiddaaDoorMFv
/- Itoa. -/
namespace Go.Proofs.YtphokckbcmiddaaDoor
open Go Go.Ev
open Go.Proofs


def SMb : ByteArray := ByteArray.mk ((List.toArray (List.append (List.append [48, 48, 48, 49, 48, 50, 48, 51, 48, 52, 48, 53, 48, 54, 48, 55, 48, 56, 48, 57, 49, 48, 49, 49, 49, 50, 49, 51, 49, 52, 49, 53, 49, 54, 49, 55, 49, 56, 49, 57, 50, 48, 50, 49, 50, 50, 50, 51, 50, 52] [50, 53, 50, 54, 50, 55, 50, 56, 50, 57, 51, 48, 51, 49, 51, 50, 51, 51, 51, 52, 51, 53, 51, 54, 51, 55, 51, 56, 51, 57, 52, 48, 52, 49, 52, 50, 52, 51, 52, 52, 52, 53, 52, 54, 52, 55, 52, 56, 52, 57]) (List.append [53, 48, 53, 49, 53, 50, 53, 51, 53, 52, 53, 53, 53, 54, 53, 55, 53, 56, 53, 57, 54, 48, 54, 49, 54, 50, 54, 51, 54, 52, 54, 53, 54, 54, 54, 55, 54, 56, 54, 57, 55, 48, 55, 49, 55, 50, 55, 51, 55, 52] [55, 53, 55, 54, 55, 55, 55, 56, 55, 57, 56, 48, 56, 49, 56, 50, 56, 51, 56, 52, 56, 53, 56, 54, 56, 55, 56, 56, 56, 57, 57, 48, 57, 49, 57, 50, 57, 51, 57, 52, 57, 53, 57, 54, 57, 55, 57, 56, 57, 57]))))
def L8b : ByteArray := ByteArray.mk ((List.toArray (List.append (List.append [0, 1, 2, 2, 3, 3, 3, 3, 4, 4, 4, 4, 4, 4, 4, 4, 5, 5, 5, 5, 5, 5, 5, 5, 5, 5, 5, 5, 5, 5, 5, 5, 6, 6, 6, 6, 6, 6, 6, 6, 6, 6, 6, 6, 6, 6, 6, 6, 6, 6, 6, 6, 6, 6, 6, 6, 6, 6, 6, 6, 6, 6, 6, 6] [7, 7, 7, 7, 7, 7, 7, 7, 7, 7, 7, 7, 7, 7, 7, 7, 7, 7, 7, 7, 7, 7, 7, 7, 7, 7, 7, 7, 7, 7, 7, 7, 7, 7, 7, 7, 7, 7, 7, 7, 7, 7, 7, 7, 7, 7, 7, 7, 7, 7, 7, 7, 7, 7, 7, 7, 7, 7, 7, 7, 7, 7, 7, 7]) (List.append [8, 8, 8, 8, 8, 8, 8, 8, 8, 8, 8, 8, 8, 8, 8, 8, 8, 8, 8, 8, 8, 8, 8, 8, 8, 8, 8, 8, 8, 8, 8, 8, 8, 8, 8, 8, 8, 8, 8, 8, 8, 8, 8, 8, 8, 8, 8, 8, 8, 8, 8, 8, 8, 8, 8, 8, 8, 8, 8, 8, 8, 8, 8, 8] [8, 8, 8, 8, 8, 8, 8, 8, 8, 8, 8, 8, 8, 8, 8, 8, 8, 8, 8, 8, 8, 8, 8, 8, 8, 8, 8, 8, 8, 8, 8, 8, 8, 8, 8, 8, 8, 8, 8, 8, 8, 8, 8, 8, 8, 8, 8, 8, 8, 8, 8, 8, 8, 8, 8, 8, 8, 8, 8, 8, 8, 8, 8, 8]))))
def DGb : ByteArray := ByteArray.mk (#[48, 49, 50, 51, 52, 53, 54, 55, 56, 57, 97, 98, 99, 100, 101, 102, 103, 104, 105, 106, 107, 108, 109, 110, 111, 112, 113, 114, 115, 116, 117, 118, 119, 120, 121, 122])
theorem idx9 {s : ByteArray} {i : Nat} {x : Nat} {k : IntKind} (h : (s.data.toList[i]?).map UInt8.toNat = some x) (w : World) : Qindex Tryd.prog 9 (.string s) (.int k (i : Int)) w = some (.int .u8 (x : Int)) := by
  obtain ⟨u, h1, rfl⟩ := Option.map_eq_some_iff.1 h
  obtain ⟨hi, e⟩ := List.getElem?_eq_some_iff.1 (show s.data.toList[i]? = some u from h1)
  have hlt : i < s.size := by rw [Array.length_toList] at hi; exact hi
  unfold Qindex qv
  simp only [Instr.index, asIntOf, Sem.run_bind, Sem.run_pure, Result.andThen_ok, run_underlying und9]
  have h0 : (0 : Int) ≤ (i : Int) ∧ (i : Int) < (s.size : Int) := by omega
  simp only [Int.toNat_natCast]
  rw [if_pos (by omega), getElem?_pos _ i hlt]
  have e2 : s[i] = u := by rw [← e]; rfl
  rw [e2]
  rfl
theorem sm_all : (List.range 100).all (fun p => (SMb.data.toList[2*p]?).map UInt8.toNat == some (48 + p / 10) && (SMb.data.toList[2*p+1]?).map UInt8.toNat == some (48 + p % 10)) = true := by decide +kernel
theorem sm_hi {p : Nat} (hp : p < 100) (w : World) : Qindex Tryd.prog 9 (.string SMb) (.int .u32 ((2 * p : Nat) : Int)) w = some (.int .u8 ((48 + p / 10 : Nat) : Int)) := by
  have := List.all_eq_true.1 sm_all p (List.mem_range.2 hp)
  simp only [Bool.and_eq_true, beq_iff_eq] at this
  exact idx9 this.1 w
theorem sm_lo {p : Nat} (hp : p < 100) (w : World) : Qindex Tryd.prog 9 (.string SMb) (.int .u32 ((2 * p + 1 : Nat) : Int)) w = some (.int .u8 ((48 + p % 10 : Nat) : Int)) := by
  have := List.all_eq_true.1 sm_all p (List.mem_range.2 hp)
  simp only [Bool.and_eq_true, beq_iff_eq] at this
  exact idx9 this.2 w

theorem wu32 {n : Int} (h0 : 0 ≤ n) (h1 : n < 4294967296) : IntKind.u32.wrap n = n := by
  have := wrap_u (k := .u32) rfl (x := n.toNat) (by simp [IntKind.bits]; omega)
  rwa [Int.toNat_of_nonneg h0] at this
theorem u32rem (a b : Nat) (hb : 0 < b) : Qbin Tryd.prog .rem 24 (.int .u32 (a : Int)) (.int .u32 (b : Int)) = some (.int .u32 ((a % b : Nat) : Int)) := by
  rw [Qb_remP (by omega), Int.tmod_eq_emod_of_nonneg (by omega), ← Int.natCast_emod]
theorem u32quo {a : Nat} (b : Nat) (ha : a < 4294967296) (hb : 0 < b) : Qbin Tryd.prog .quo 24 (.int .u32 (a : Int)) (.int .u32 (b : Int)) = some (.int .u32 ((a / b : Nat) : Int)) := by
  have := Nat.div_le_self a b
  rw [Qb_quoP (by omega), Int.tdiv_eq_ediv_of_nonneg (by omega), ← Int.natCast_ediv]
  revert this
  generalize a / b = q
  intro this
  rw [wu32 (by omega) (by omega)]
theorem u32mul {a : Nat} (ha : a < 2147483648) : Qbin Tryd.prog .mul 24 (.int .u32 (a : Int)) (.int .u32 2) = some (.int .u32 ((2 * a : Nat) : Int)) := by
  rw [Qb_mul, wu32 (by omega) (by omega)]
  congr 2; omega
theorem u32add {a : Nat} (ha : a < 2147483648) : Qbin Tryd.prog .add 24 (.int .u32 (a : Int)) (.int .u32 1) = some (.int .u32 ((a + 1 : Nat) : Int)) := by
  rw [Qb_add, wu32 (by omega) (by omega)]
  congr 2
theorem u32add48 {a : Nat} (ha : a < 100) : Qbin Tryd.prog .add 24 (.int .u32 48) (.int .u32 (a : Int)) = some (.int .u32 ((48 + a : Nat) : Int)) := by
  rw [Qb_add, wu32 (by omega) (by omega)]
  congr 2
theorem u32to8 {a : Nat} (ha : a < 256) : Qconv Tryd.prog 24 5 (.int .u32 (a : Int)) = some (.int .u8 (a : Int)) := by
  rw [Qconv_int (k := .u8) (by kernel_rfl), wrap_u (k := .u8) rfl (by simp [IntKind.bits]; omega)]
theorem u64to8 {a : Nat} (ha : a < 256) : Qconv Tryd.prog 63 5 (.int .u64 (a : Int)) = some (.int .u8 (a : Int)) := by
  rw [Qconv_int (k := .u8) (by kernel_rfl), wrap_u (k := .u8) rfl (by simp [IntKind.bits]; omega)]
theorem u8to3 {a : Nat} (ha : a < 256) : Qconv Tryd.prog 5 3 (.int .u8 (a : Int)) = some (.int .i64 (a : Int)) := by
  rw [Qconv_int (k := .i64) (by kernel_rfl), wrap_i64 (by omega) (by omega)]
theorem u64shr8 (a : Nat) : Qbin Tryd.prog .shr 63 (.int .u64 (a : Int)) (.int .u64 8) = some (.int .u64 ((a / 256 : Nat) : Int)) := by
  rw [Qb_shr (by decide), show (2 : Int) ^ (min (Int.toNat 8) IntKind.u64.bits) = 256 from by decide, Int.fdiv_eq_ediv_of_nonneg _ (by decide)]
  rfl

/-- How many bits a number has, by the table of bytes. -/
def len8 (a : Nat) : Nat := ((L8b.data.toList[a]?).map UInt8.toNat).getD 0
theorem len8_all : (List.range 256).all (fun a => (L8b.data.toList[a]?).map UInt8.toNat == some (len8 a) && decide (len8 a ≤ 8)) = true := by decide +kernel
theorem len8_get {a : Nat} (ha : a < 256) (w : World) : Qindex Tryd.prog 9 (.string L8b) (.int .u8 (a : Int)) w = some (.int .u8 ((len8 a : Nat) : Int)) ∧ len8 a ≤ 8 := by
  have := List.all_eq_true.1 len8_all a (List.mem_range.2 ha)
  simp only [Bool.and_eq_true, beq_iff_eq, decide_eq_true_eq] at this
  exact ⟨idx9 this.1 w, this.2⟩
def bitsN (n : Nat) : Nat := if 256 ≤ n then 8 + len8 (n / 256) else len8 n
def tenN (n : Nat) : Nat := bitsN n * 78913 / 262144
theorem ten_lo : (List.range 256).all (fun a => decide (a < 100) || (tenN a == 2 && decide (bitsN a ≤ 8))) = true := by decide +kernel
theorem ten_hi : (List.range 256).all (fun q => decide (q < 1) || (let t := (8 + len8 q) * 78913 / 262144; decide (10 ^ (t - 1) ≤ 256 * q) && decide (256 * q + 255 < 10 ^ (t + 1)) && decide (2 ≤ t) && decide (t ≤ 4))) = true := by decide +kernel
def ndN (n : Nat) : Nat := if n < 1000 then 3 else if n < 10000 then 4 else 5
theorem ten_nd {n : Nat} (h1 : 100 ≤ n) (h2 : n < 65536) : tenN n + (if 10 ^ tenN n ≤ n then 1 else 0) = ndN n ∧ tenN n ≤ 4 := by
  by_cases hb : 256 ≤ n
  · have := List.all_eq_true.1 ten_hi (n / 256) (List.mem_range.2 (by omega))
    have hq : ¬ n / 256 < 1 := by omega
    have e : tenN n = (8 + len8 (n / 256)) * 78913 / 262144 := by unfold tenN bitsN; rw [if_pos hb]
    simp only [hq, decide_false, Bool.false_or, ← e, Bool.and_eq_true, decide_eq_true_eq] at this
    revert this
    generalize tenN n = t
    intro ⟨⟨⟨a, b⟩, c⟩, d⟩
    have hm := Nat.div_add_mod n 256
    have hm2 := Nat.mod_lt n (show 0 < 256 by decide)
    obtain rfl | rfl | rfl : t = 2 ∨ t = 3 ∨ t = 4 := by omega
    all_goals
      simp at a b
      unfold ndN
      refine ⟨?_, by decide⟩
      repeat' split
      all_goals omega
  · have := List.all_eq_true.1 ten_lo n (List.mem_range.2 (by omega))
    have hq : ¬ n < 100 := by omega
    simp only [hq, decide_false, Bool.false_or, Bool.and_eq_true, beq_iff_eq, decide_eq_true_eq] at this
    rw [this.1]
    unfold ndN
    refine ⟨?_, by decide⟩
    repeat' split
    all_goals omega
theorem len8_le {a : Nat} (ha : a < 256) : len8 a ≤ 8 := by
  have := List.all_eq_true.1 len8_all a (List.mem_range.2 ha)
  simp only [Bool.and_eq_true, beq_iff_eq, decide_eq_true_eq] at this
  exact this.2
theorem bitsN_le {n : Nat} (h2 : n < 65536) : bitsN n ≤ 16 := by
  unfold bitsN
  split
  · have := len8_le (a := n / 256) (by omega)
    omega
  · have := len8_le (a := n) (by omega)
    omega

theorem k101 {n : Nat} (h2 : n < 65536) (w : World) : Brings (Xcall Tryd.prog (Value.func (Fn.func 101) #[] #[]) #[.int .u64 (n : Int)] w) (fun r => r = (.int .i64 ((bitsN n : Nat) : Int), w)) := by
  refine e101 ?_
  unfold s101 s101M0 s101M1
  simp only [go_sem]
  rw [decide_eq_false (show ¬ (4294967296 : Int) ≤ (n : Int) by omega)]
  simp only [go_sem]
  rw [decide_eq_false (show ¬ (65536 : Int) ≤ (n : Int) by omega)]
  simp only [go_sem]
  by_cases hb : 256 ≤ n
  · rw [decide_eq_true (show (256 : Int) ≤ (n : Int) by omega)]
    obtain ⟨e, hl⟩ := len8_get (a := n / 256) (by omega) w
    simp only [u64shr8, go_sem]
    unfold s101M2
    rw [u64to8 (by omega), Option.bind_some]
    refine (show Brings _ (fun v => v = .int .u8 ((len8 (n / 256) : Nat) : Int)) from ⟨_, e, rfl⟩).bind ?_
    rintro _ rfl
    simp only [Option.bind_some, u8to3 (show len8 (n / 256) < 256 by omega)]
    simp only [go_sem]
    rw [show IntKind.i64.wrap (0 + 8) = 8 from by decide, wrap_i64 (by omega) (by omega)]
    refine .ret ?_
    unfold bitsN
    rw [if_pos hb]
    rfl
  · rw [decide_eq_false (show ¬ (256 : Int) ≤ (n : Int) by omega)]
    obtain ⟨e, hl⟩ := len8_get (a := n) (by omega) w
    simp only [go_sem]
    unfold s101M2
    rw [u64to8 (by omega), Option.bind_some]
    refine (show Brings _ (fun v => v = .int .u8 ((len8 n : Nat) : Int)) from ⟨_, e, rfl⟩).bind ?_
    rintro _ rfl
    simp only [Option.bind_some, u8to3 (show len8 n < 256 by omega)]
    simp only [go_sem]
    rw [wrap_i64 (by omega) (by omega)]
    refine .ret ?_
    unfold bitsN
    rw [if_neg hb]
    simp

theorem und167 : Tryd.prog.underlying 167 = some (.array 20 63) := by kernel_rfl
theorem inf63 : ∃ i, Tryd.prog.info? 63 = some i ∧ i.size = 1 := ⟨(Tryd.prog.info? 63).get (by kernel_rfl), by kernel_rfl, by kernel_rfl⟩
theorem one63 : one Tryd.prog 63 = true := by kernel_rfl
theorem k86 {n : Nat} {w : World} (hT : Tab w) (h1 : 100 ≤ n) (h2 : n < 65536) : Brings (Xcall Tryd.prog (Value.func (Fn.func 86) #[] #[]) #[.int .u64 (n : Int)] w) (fun r => r = (.int .i64 ((ndN n : Nat) : Int), w)) := by
  refine e86 ?_
  unfold s86
  refine (k101 h2 w).bind ?_
  rintro _ rfl
  obtain ⟨ht, h4⟩ := ten_nd h1 h2
  have hl := bitsN_le h2
  refine (show Brings _ (fun r => r = (.int .i64 ((tenN n : Nat) : Int), w)) from e100 ?_).bind ?_
  · unfold s100
    simp only [go_sem]
    rw [wrap_i64 (by omega) (by omega), Qb_shr (by decide), show (2 : Int) ^ (min (Int.toNat 18) IntKind.i64.bits) = 262144 from by decide, Int.fdiv_eq_ediv_of_nonneg _ (by decide)]
    exact .ret rfl
  rintro _ rfl
  obtain ⟨i, hi, hs⟩ := inf63
  rw [QindexAddr_array und167 hi hs (by omega)]
  simp only [Option.bind_some, Nat.zero_add]
  rw [Qload_cell one63 (hT.pow _ (by omega))]
  simp only [go_sem]
  refine (show Brings _ (fun r => r = (.int .i64 (((if 10 ^ tenN n ≤ n then 1 else 0) : Nat) : Int), w)) from e102 ?_).bind ?_
  · unfold s102
    by_cases hc : 10 ^ tenN n ≤ n
    · rw [decide_eq_true (by exact_mod_cast hc), if_pos hc]
      simp only [go_sem]
      exact .ret rfl
    · rw [decide_eq_false (by exact_mod_cast hc), if_neg hc]
      simp only [go_sem]
      exact .ret rfl
  rintro _ rfl
  simp only [go_sem]
  refine .ret ?_
  rw [wrap_i64 (by split <;> omega) (by split <;> omega), ← ht]
  rfl

end Go.Proofs.YtphokckbcmiddaaDoor

/- Itoa, its whole. -/
namespace Go.Proofs.YtphokckbcmiddaaDoor
open Go Go.Ev Go.RowKit
open Go.Proofs

theorem digs3 {n : Nat} (h1 : 100 ≤ n) (h2 : n < 1000) : Ftp.digs n = [((48 + n / 100 : Nat) : Int), ((48 + n / 10 % 10 : Nat) : Int), ((48 + n % 10 : Nat) : Int)] := by
  rw [Ftp.digs_ge (by omega), Ftp.digs_ge (by omega), Ftp.digs_lt (by omega)]
  simp [Nat.div_div_eq_div_mul]
theorem digs4 {n : Nat} (h1 : 1000 ≤ n) (h2 : n < 10000) : Ftp.digs n = [((48 + n / 1000 : Nat) : Int), ((48 + n / 100 % 10 : Nat) : Int), ((48 + n / 10 % 10 : Nat) : Int), ((48 + n % 10 : Nat) : Int)] := by
  rw [Ftp.digs_ge (by omega), Ftp.digs_ge (by omega), Ftp.digs_ge (by omega), Ftp.digs_lt (by omega)]
  simp [Nat.div_div_eq_div_mul]
theorem digs5 {n : Nat} (h1 : 10000 ≤ n) (h2 : n < 100000) : Ftp.digs n = [((48 + n / 10000 : Nat) : Int), ((48 + n / 1000 % 10 : Nat) : Int), ((48 + n / 100 % 10 : Nat) : Int), ((48 + n / 10 % 10 : Nat) : Int), ((48 + n % 10 : Nat) : Int)] := by
  rw [Ftp.digs_ge (by omega), Ftp.digs_ge (by omega), Ftp.digs_ge (by omega), Ftp.digs_ge (by omega), Ftp.digs_lt (by omega)]
  simp [Nat.div_div_eq_div_mul]

def Blk (w : World) (g : Nat) (cs : List Value) : Prop := w.heap[g]? = some (.cells cs.toArray 143 (0, 0)) ∧ cs.length = 24

theorem st5 {w : World} {g c : Nat} {cs : List Value} (h : Blk w g cs) (hc : c < 24) (x : Int) :
    Xstore Tryd.prog 5 (.pointer (some ⟨g, c, none⟩)) (.int .u8 x) w = some (undef, w.setRow g (cs.set c (.int .u8 x)).toArray) ∧ Blk (w.setRow g (cs.set c (.int .u8 x)).toArray) g (cs.set c (.int .u8 x)) := by
  obtain ⟨hg, hl⟩ := h
  obtain ⟨i, hi, hs⟩ := inf5
  refine ⟨?_, setRow_heap _ _ _ _ _ _ hg, by simpa using hl⟩
  rw [Xstore_row (v := .int .u8 x) hi (by rw [hs]; rfl) hg (by rw [hs]; simp; omega) (by intro u hu; simp [Value.cells] at hu; subst hu; rfl), hs, List.set_eq_take_append_cons_drop, if_pos (by omega)]
  simp [Value.cells]
theorem adr5 {g nd i : Nat} (hi : i < nd) (w : World) : QindexAddr Tryd.prog 22 (.slice (some ⟨g, 1, none⟩) nd 23) (.int .i64 (i : Int)) w = some (.pointer (some ⟨g, 1 + i, none⟩)) := by
  obtain ⟨j, hj, hs⟩ := inf5
  rw [QindexAddr_slice und22 hj (by omega) (by omega), hs]
  unfold Addr.add
  by_cases h : i = 0 <;> simp [h]

theorem pairK {w : World} {g nd hi lo p : Nat} {cs : List Value} (hg : Blk w g cs) (hp : p < 100) (hhi : hi < nd) (hlo : lo < nd) (hnd : nd ≤ 23) {va vb ia ib : Value} (hva : va = .int .u32 ((2 * p + 1 : Nat) : Int)) (hvb : vb = .int .u32 ((2 * p : Nat) : Int))
    (hia : ia = .int .i64 (hi : Int)) (hib : ib = .int .i64 (lo : Int)) {K : Value × World → Option (Value × World)} {Q : Value × World → Prop}
    (hK : ∀ w', Blk w' g ((cs.set (1 + hi) (.int .u8 ((48 + p % 10 : Nat) : Int))).set (1 + lo) (.int .u8 ((48 + p / 10 : Nat) : Int))) → Chg (fun k => k = g) w w' → Brings (K (undef, w')) Q) :
    Brings ((Qindex Tryd.prog 9 (.string SMb) va w.drew).bind fun v1 => (Qindex Tryd.prog 9 (.string SMb) vb w.drew).bind fun v2 => (QindexAddr Tryd.prog 22 (.slice (some ⟨g, 1, none⟩) nd 23) ia w.drew).bind fun v3 => (Xstore Tryd.prog 5 v3 v1 w.drew).bind fun r4 =>
      (QindexAddr Tryd.prog 22 (.slice (some ⟨g, 1, none⟩) nd 23) ib r4.2).bind fun v5 => (Xstore Tryd.prog 5 v5 v2 r4.2).bind fun r6 => chkK ((Qindex Tryd.prog 9 (.string SMb) vb w.drew = some v2 ∧ Qindex Tryd.prog 9 (.string SMb) vb r4.2 = some v2) ∧ True) (K r6)) Q := by
  subst hva hvb hia hib
  have hg2 : Blk w.drew g cs := hg
  obtain ⟨e1, b1⟩ := st5 hg2 (c := 1 + hi) (by omega) ((48 + p % 10 : Nat) : Int)
  obtain ⟨e2, b2⟩ := st5 b1 (c := 1 + lo) (by omega) ((48 + p / 10 : Nat) : Int)
  rw [sm_lo hp, Option.bind_some, sm_hi hp, Option.bind_some, adr5 hhi, Option.bind_some, e1, Option.bind_some, adr5 hlo, Option.bind_some, e2, Option.bind_some, sm_hi hp]
  simp only [and_self, chkK_T]
  exact hK _ b2 (((Chg.of_bel (Bel.refl w).drew _).trans (setRow_chg _ _) fun _ _ e => e).trans (setRow_chg _ _) fun _ _ e => e)

theorem k87one {w : World} {g nd n : Nat} {cs : List Value} (hg : Blk w g cs) (hn : n < 10) (h1 : 1 ≤ nd) (hnd : nd ≤ 23) {Q : Value × World → Prop}
    (hK : ∀ w', Blk w' g (cs.set 1 (.int .u8 ((48 + n : Nat) : Int))) → Chg (fun k => k = g) w w' → Q (.tuple #[], w')) : Brings (s87M2 (.slice (some ⟨g, 1, none⟩) nd 23) (.int .i64 1) (.int .u32 (n : Int)) w) Q := by
  unfold s87M2
  obtain ⟨e1, b1⟩ := st5 hg (c := 1) (by omega) ((48 + n : Nat) : Int)
  rw [show Qbin Tryd.prog .gtr 3 (.int .i64 1) (.int .i64 0) = some (.bool true) by kernel_rfl, Option.bind_some, condK_t, u32add48 (by omega), Option.bind_some, u32to8 (by omega), Option.bind_some, show (0 : Int) = ((0 : Nat) : Int) from rfl, adr5 (by omega), Option.bind_some, Nat.add_zero, e1]
  exact .ret (hK _ b1 (setRow_chg _ _))

theorem cell_blk {w : World} {g : Nat} {cs : List Value} (hg : Blk w g cs) {k : Nat} {v : Value} (h : cs[1 + k]? = some v) : CellsAt [v] w g (1 + k * 1) := by
  intro j u hj
  match j, hj with
  | 0, hj => simp at hj; subst hj; have := (CellsAt.of hg.1) (1 + k) v h; simpa using this
theorem blk_view {w : World} {g : Nat} {cs : List Value} {l : List Int} (hg : Blk w g cs) (hl : l.length ≤ 23) (h : ∀ k y, l[k]? = some y → cs[1 + k]? = some (.int .u8 y)) : Vw w (.slice (some ⟨g, 1, none⟩) l.length 23) l :=
  ⟨_, _, rfl, hl, by decide, fun e => (by cases e), fun k y hk => ⟨g, 1, rfl, cell_blk hg (h k y hk)⟩⟩

def F87 (w : World) (g : Nat) (nd n : Nat) (r : Value × World) : Prop := Vw r.2 (.slice (some ⟨g, 1, none⟩) nd 23) (Ftp.digs n) ∧ Chg (fun k => k = g) w r.2 ∧ ∃ cs, Blk r.2 g cs
theorem loopStop {β : Type} {B : List Value → World → Option (Exit × List Value × World)} {R : Exit → List Value → World → Option β} {xs xs' : List Value} {w w' : World} {e : Exit} {Q : β → Prop} (h : B xs w = some (e, xs', w')) (he : e ≠ .normal)
    (h2 : Brings (R e xs' w') Q) : Brings (loopR B R xs w) Q := by
  obtain ⟨y, hy, q⟩ := h2
  exact ⟨y, loopR_stop h he hy, q⟩

theorem m1zero {x v : Value} {w : World} : s87M1 x (.int .i64 0) v w = some (.tuple #[], w) := by
  unfold s87M1
  rw [show Qbin Tryd.prog .geq 3 (.int .i64 0) (.int .i64 2) = some (.bool false) by kernel_rfl, Option.bind_some, condK_f]
  unfold s87M2
  rw [show Qbin Tryd.prog .gtr 3 (.int .i64 0) (.int .i64 0) = some (.bool false) by kernel_rfl, Option.bind_some, condK_f]
theorem m1one {w : World} {g nd n : Nat} {cs : List Value} (hg : Blk w g cs) (hn : n < 10) (h1 : 1 ≤ nd) (hnd : nd ≤ 23) {Q : Value × World → Prop}
    (hK : ∀ w', Blk w' g (cs.set 1 (.int .u8 ((48 + n : Nat) : Int))) → Chg (fun k => k = g) w w' → Q (.tuple #[], w')) : Brings (s87M1 (.slice (some ⟨g, 1, none⟩) nd 23) (.int .i64 1) (.int .u32 (n : Int)) w) Q := by
  unfold s87M1
  rw [show Qbin Tryd.prog .geq 3 (.int .i64 1) (.int .i64 2) = some (.bool false) by kernel_rfl, Option.bind_some, condK_f]
  exact k87one hg hn h1 hnd hK
set_option maxRecDepth 100000 in
theorem m1three {w : World} {g n : Nat} {cs : List Value} (hg : Blk w g cs) (hn : n < 1000) {Q : Value × World → Prop}
    (hK : ∀ w', Blk w' g (((cs.set 3 (.int .u8 ((48 + n % 100 % 10 : Nat) : Int))).set 2 (.int .u8 ((48 + n % 100 / 10 : Nat) : Int))).set 1 (.int .u8 ((48 + n / 100 : Nat) : Int))) → Chg (fun k => k = g) w w' → Q (.tuple #[], w')) :
    Brings (s87M1 (.slice (some ⟨g, 1, none⟩) 3 23) (.int .i64 3) (.int .u32 (n : Int)) w) Q := by
  unfold s87M1
  rw [show Qbin Tryd.prog .geq 3 (.int .i64 3) (.int .i64 2) = some (.bool true) by kernel_rfl, Option.bind_some, condK_t,
    show (.int .u32 100 : Value) = .int .u32 ((100 : Nat) : Int) from rfl, u32rem _ _ (by decide), Option.bind_some, u32mul (by omega), Option.bind_some, u32quo 100 (by omega) (by decide), Option.bind_some,
    show Qbin Tryd.prog .sub 3 (.int .i64 3) (.int .i64 1) = some (.int .i64 2) by kernel_rfl, Option.bind_some, show Qbin Tryd.prog .sub 3 (.int .i64 3) (.int .i64 2) = some (.int .i64 1) by kernel_rfl, Option.bind_some, u32add (by omega), Option.bind_some]
  refine pairK hg (p := n % 100) (hi := 2) (lo := 1) (by omega) (by decide) (by decide) (by decide) rfl rfl rfl rfl ?_
  intro w1 hg1 hc1
  try rw [show Qbin Tryd.prog .sub 3 (.int .i64 3) (.int .i64 2) = some (.int .i64 1) by kernel_rfl, Option.bind_some]
  exact k87one (nd := 3) hg1 (by omega) (by decide) (by decide) fun w2 hg2 hc2 => hK w2 hg2 (hc1.trans hc2 fun _ _ e => e)

set_option maxRecDepth 100000 in
theorem r87four {w : World} {g nd n : Nat} {cs : List Value} (hg : Blk w g cs) (hn : n < 100000) (hnd : nd = 4 ∨ nd = 5) {Q : Value × World → Prop}
    (hK : ∀ w', Blk w' g ((((cs.set (1 + (nd - 1)) (.int .u8 ((48 + n % 10000 % 100 % 10 : Nat) : Int))).set (1 + (nd - 2)) (.int .u8 ((48 + n % 10000 % 100 / 10 : Nat) : Int))).set (1 + (nd - 3)) (.int .u8 ((48 + n % 10000 / 100 % 10 : Nat) : Int))).set (1 + (nd - 4)) (.int .u8 ((48 + n % 10000 / 100 / 10 : Nat) : Int))) →
      Chg (fun k => k = g) w w' → Brings (s87M1 (.slice (some ⟨g, 1, none⟩) nd 23) (.int .i64 ((nd - 4 : Nat) : Int)) (.int .u32 ((n / 10000 : Nat) : Int)) w') Q) :
    Brings (s87R0 (.exit 0) [.slice (some ⟨g, 1, none⟩) nd 23, .int .u64 (n : Int), .int .i64 ((nd : Nat) : Int)] w) Q := by
  have e1 : Qbin Tryd.prog .geq 3 (.int .i64 (nd : Int)) (.int .i64 4) = some (.bool true) := by rcases hnd with rfl | rfl <;> kernel_rfl
  have e2 : Qbin Tryd.prog .sub 3 (.int .i64 (nd : Int)) (.int .i64 1) = some (.int .i64 ((nd - 1 : Nat) : Int)) := by rcases hnd with rfl | rfl <;> kernel_rfl
  have e3 : Qbin Tryd.prog .sub 3 (.int .i64 (nd : Int)) (.int .i64 2) = some (.int .i64 ((nd - 2 : Nat) : Int)) := by rcases hnd with rfl | rfl <;> kernel_rfl
  have e4 : Qbin Tryd.prog .sub 3 (.int .i64 (nd : Int)) (.int .i64 3) = some (.int .i64 ((nd - 3 : Nat) : Int)) := by rcases hnd with rfl | rfl <;> kernel_rfl
  have e5 : Qbin Tryd.prog .sub 3 (.int .i64 (nd : Int)) (.int .i64 4) = some (.int .i64 ((nd - 4 : Nat) : Int)) := by rcases hnd with rfl | rfl <;> kernel_rfl
  unfold s87R0
  refine (show Brings (Qconv Tryd.prog 63 24 (.int .u64 (n : Int))) (fun r => r = .int .u32 (n : Int)) from ⟨_, by rw [conv6324, wu32 (by omega) (by omega)], rfl⟩).bind ?_
  rintro _ rfl
  rw [e1, Option.bind_some, condK_t, show (.int .u32 10000 : Value) = .int .u32 ((10000 : Nat) : Int) from rfl, u32rem _ _ (by decide), Option.bind_some, u32quo 10000 (by omega) (by decide), Option.bind_some,
    show (.int .u32 100 : Value) = .int .u32 ((100 : Nat) : Int) from rfl, u32quo 100 (by omega) (by decide), Option.bind_some, u32mul (by omega), Option.bind_some, u32rem _ _ (by decide), Option.bind_some, u32mul (by omega), Option.bind_some, e2, Option.bind_some, e3, Option.bind_some, u32add (by omega), Option.bind_some]
  refine pairK hg (p := n % 10000 % 100) (hi := nd - 1) (lo := nd - 2) (by omega) (by omega) (by omega) (by omega) rfl rfl rfl rfl ?_
  intro w1 hg1 hc1
  simp only [e4, e5, Option.bind_some]
  rw [u32add (by omega), Option.bind_some]
  refine pairK hg1 (p := n % 10000 / 100) (hi := nd - 3) (lo := nd - 4) (by omega) (by omega) (by omega) (by omega) rfl rfl rfl rfl ?_
  intro w2 hg2 hc2
  try rw [e5, Option.bind_some]
  exact hK w2 hg2 (hc1.trans hc2 fun _ _ e => e)

theorem b0stop {x y z : Value} {w : World} (h : Qbin Tryd.prog .geq 3 z (.int .i64 8) = some (.bool false)) : s87B0 [x, y, z] w = some (.exit 0, [x, y, z], w) := by
  unfold s87B0
  refine (congrArg (fun o => Option.bind o _) h).trans ?_
  rfl
theorem k87 {w : World} {g n : Nat} {cs : List Value} (hg : Blk w g cs) (h1 : 100 ≤ n) (h2 : n < 100000) : Brings (Xcall Tryd.prog (Value.func (Fn.func 87) #[] #[]) #[.slice (some ⟨g, 1, none⟩) (ndN n) 23, .int .u64 (n : Int)] w) (F87 w g (ndN n) n) := by
  refine e87 ?_
  unfold s87
  rw [Qlen_slice und22, Option.bind_some]
  have hnd : ndN n = 3 ∨ ndN n = 4 ∨ ndN n = 5 := by
    unfold ndN
    by_cases a : n < 1000
    · exact .inl (if_pos a)
    · by_cases b : n < 10000
      · exact .inr (.inl (by rw [if_neg a, if_pos b]))
      · exact .inr (.inr (by rw [if_neg a, if_neg b]))
  refine loopStop (e := .exit 0) (xs' := [.slice (some ⟨g, 1, none⟩) (ndN n) 23, .int .u64 (n : Int), .int .i64 ((ndN n : Nat) : Int)]) (w' := w) ?_ (fun e => (by cases e)) ?_
  · exact b0stop (by rcases hnd with e | e | e <;> rw [e] <;> kernel_rfl)
  by_cases c3 : n < 1000
  · have e : ndN n = 3 := if_pos c3
    rw [e]
    unfold s87R0
    refine (show Brings (Qconv Tryd.prog 63 24 (.int .u64 (n : Int))) (fun r => r = .int .u32 (n : Int)) from ⟨_, by rw [conv6324, wu32 (by omega) (by omega)], rfl⟩).bind ?_
    rintro _ rfl
    rw [show Qbin Tryd.prog .geq 3 (.int .i64 ((3 : Nat) : Int)) (.int .i64 4) = some (.bool false) by kernel_rfl, Option.bind_some, condK_f]
    refine m1three hg c3 fun w' hg' hc' => ⟨?_, hc', _, hg'⟩
    rw [digs3 h1 c3]
    refine blk_view (l := [_, _, _]) hg' (by simp) fun k y hk => ?_
    have hl := hg.2
    match k, hk with
    | 0, hk => simp at hk; subst hk; simp [hl]
    | 1, hk => simp at hk; subst hk; simp [hl] <;> omega
    | 2, hk => simp at hk; subst hk; simp [hl]
  by_cases c4 : n < 10000
  · have e : ndN n = 4 := by unfold ndN; rw [if_neg c3, if_pos c4]
    rw [e]
    refine r87four hg h2 (.inl rfl) fun w' hg' hc' => ?_
    rw [show ((4 - 4 : Nat) : Int) = 0 from rfl, m1zero]
    refine .ret ⟨?_, hc', _, hg'⟩
    rw [digs4 (by omega) c4]
    refine blk_view (l := [_, _, _, _]) hg' (by simp) fun k y hk => ?_
    have hl := hg.2
    match k, hk with
    | 0, hk => simp at hk; subst hk; simp [hl] <;> omega
    | 1, hk => simp at hk; subst hk; simp [hl] <;> omega
    | 2, hk => simp at hk; subst hk; simp [hl] <;> omega
    | 3, hk => simp at hk; subst hk; simp [hl] <;> omega
  · have e : ndN n = 5 := by unfold ndN; rw [if_neg c3, if_neg c4]
    rw [e]
    refine r87four hg h2 (.inr rfl) fun w' hg' hc' => ?_
    rw [show ((5 - 4 : Nat) : Int) = 1 from rfl]
    refine m1one hg' (by omega) (by decide) (by decide) fun w2 hg2 hc2 => ⟨?_, hc'.trans hc2 fun _ _ e => e, _, hg2⟩
    rw [digs5 (by omega) h2]
    refine blk_view (l := [_, _, _, _, _]) hg2 (by simp) fun k y hk => ?_
    have hl := hg.2
    match k, hk with
    | 0, hk => simp at hk; subst hk; simp [hl]
    | 1, hk => simp at hk; subst hk; simp [hl] <;> omega
    | 2, hk => simp at hk; subst hk; simp [hl] <;> omega
    | 3, hk => simp at hk; subst hk; simp [hl] <;> omega
    | 4, hk => simp at hk; subst hk; simp [hl] <;> omega


theorem und143 : Tryd.prog.underlying 143 = some (.array 24 5) := by kernel_rfl
def Z24 : List Value := List.replicate 24 (.int .u8 0)
theorem zero143 (w : World) : (zeroValue 143).run Tryd.prog w = .ok (.agg Z24.toArray) w := by kernel_rfl
theorem alloc143 (w : World) : Xalloc Tryd.prog 143 w = some (.pointer (some ⟨w.heap.size, 0, none⟩), w.alloc (.cells Z24.toArray 143)) := Xalloc_eq (zero143 w)
theorem cut143 {g nd : Nat} (hn : nd ≤ 5) (w : World) : Qslice Tryd.prog 143 (.pointer (some ⟨g, 0, none⟩)) (some (.int .i64 1)) (some (.int .i64 ((nd + 1 : Nat) : Int))) none w = some (.slice (some ⟨g, 1, none⟩) nd 23) := by
  have : nd = 0 ∨ nd = 1 ∨ nd = 2 ∨ nd = 3 ∨ nd = 4 ∨ nd = 5 := by omega
  rcases this with rfl | rfl | rfl | rfl | rfl | rfl <;> (show _ = _; kernel_rfl)

theorem str_sub {s : ByteArray} {i j : Nat} (h1 : i ≤ j) (h2 : j ≤ s.size) (w : World) : Qslice Tryd.prog 9 (.string s) (some (.int .i64 (i : Int))) (some (.int .i64 (j : Int))) none w = some (.string (s.extract i j)) := by
  unfold Qslice qv
  rw [run_sliceAt_string _ _ _ _ _ _ und9, run_slice_string _ _ _ _ _ _ _ und9 (by omega) (by omega) (by omega)]
  simp

theorem dg_all : (List.range 10).all (fun p => (DGb.data.toList.drop p).take 1 == [UInt8.ofNat (48 + p)]) = true := by decide +kernel
theorem sm2_all : (List.range 100).all (fun p => (SMb.data.toList.drop (2 * p)).take 2 == [UInt8.ofNat (48 + p / 10), UInt8.ofNat (48 + p % 10)]) = true := by decide +kernel
theorem dg_sz : DGb.size = 36 := by decide +kernel
theorem sm_sz : SMb.size = 200 := by decide +kernel

theorem dg_ext {n : Nat} (c : n < 10) : DGb.extract n (n + 1) = strOfNums (Ftp.digs n) := by
  rw [Ftp.digs_lt c]
  apply strOf_eq
  rw [Lib.extract_data, strOfNums_data]
  have := List.all_eq_true.1 dg_all n (List.mem_range.2 c)
  rw [show n + 1 - n = 1 by omega, eq_of_beq this]
  rfl
theorem sm_ext {n : Nat} (c : ¬ n < 10) (h2 : n < 100) : SMb.extract (2 * n) (2 * n + 2) = strOfNums (Ftp.digs n) := by
  rw [Ftp.digs_ge c, Ftp.digs_lt (by omega)]
  apply strOf_eq
  rw [Lib.extract_data, strOfNums_data]
  have := List.all_eq_true.1 sm2_all n (List.mem_range.2 h2)
  rw [show 2 * n + 2 - 2 * n = 2 by omega, eq_of_beq this]
  rfl
theorem k85 {n : Nat} (h2 : n < 100) (w : World) : Brings (Xcall Tryd.prog (Value.func (Fn.func 85) #[] #[]) #[.int .i64 (n : Int)] w) (fun r => r = (.string (strOfNums (Ftp.digs n)), w)) := by
  refine e85 ?_
  unfold s85
  by_cases c : n < 10
  · rw [show Qbin Tryd.prog .lss 3 (.int .i64 (n : Int)) (.int .i64 10) = some (.bool true) by rw [Qb_lss, decide_eq_true (by omega)], Option.bind_some, condK_t, Qb_add, wrap_i64 (by omega) (by omega), Option.bind_some]
    refine (show Brings _ (fun v => v = .string (DGb.extract n (n + 1))) from ⟨_, str_sub (s := DGb) (i := n) (j := n + 1) (by omega) (by rw [dg_sz]; omega) w, rfl⟩).bind ?_
    rintro _ rfl
    rw [dg_ext c]
    exact .ret rfl
  · have e2 : (n : Int) * 2 = ((2 * n : Nat) : Int) := by omega
    rw [show Qbin Tryd.prog .lss 3 (.int .i64 (n : Int)) (.int .i64 10) = some (.bool false) by rw [Qb_lss, decide_eq_false (by omega)], Option.bind_some, condK_f, Qb_mul, e2, wrap_i64 (by omega) (by omega), Option.bind_some, Option.bind_some, Qb_add, wrap_i64 (by omega) (by omega), Option.bind_some]
    refine (show Brings _ (fun v => v = .string (SMb.extract (2 * n) (2 * n + 2))) from ⟨_, str_sub (s := SMb) (i := 2 * n) (j := 2 * n + 2) (by omega) (by rw [sm_sz]; omega) w, rfl⟩).bind ?_
    rintro _ rfl
    rw [sm_ext c h2]
    exact .ret rfl

def NumR (n : Nat) (w : World) (r : Value × World) : Prop := r.1 = .string (strOfNums (Ftp.digs n)) ∧ Bel w r.2
theorem ndN_le (n : Nat) : ndN n ≤ 5 := by
  unfold ndN
  split
  · decide
  · split <;> decide
theorem conv263 {n : Nat} (h : n < 65536) : Qconv Tryd.prog 2 63 (.int .i64 (n : Int)) = some (.int .u64 (n : Int)) := by
  rw [Qconv_int (k := .u64) (by kernel_rfl), wrap_u64 (by omega) (by omega)]
theorem k66 {n : Nat} {w : World} (hT : Tab w) (h2 : n < 65536) : Brings (Xcall Tryd.prog (Value.func (Fn.func 66) #[] #[]) #[.int .i64 (n : Int), .int .i64 10] w) (NumR n w) := by
  refine e66 ?_
  unfold s66
  rw [show Qbin Tryd.prog .eql 3 (.int .i64 10) (.int .i64 10) = some (.bool true) by kernel_rfl, Option.bind_some, condK_t, Qb_leq, decide_eq_true (by omega), Option.bind_some]
  by_cases c : n < 100
  · simp only [go_sem]
    rw [decide_eq_true (by omega)]
    simp only [go_sem]
    refine (k85 c w).bind ?_
    rintro _ rfl
    exact .ret ⟨rfl, Bel.refl w⟩
  · simp only [go_sem]
    rw [decide_eq_false (by omega)]
    simp only [go_sem]
    rw [alloc143, Option.bind_some, conv263 h2, Option.bind_some, decide_eq_false (by omega)]
    simp only [go_sem]
    unfold s66M0
    have b1 : Bel w (w.alloc (.cells Z24.toArray 143)) := (Bel.refl w).alloc _
    have hT1 := hT.bel b1
    have hg : Blk (w.alloc (.cells Z24.toArray 143)) w.heap.size Z24 := ⟨(MapKept.heap_alloc w _).1, rfl⟩
    have hlt : w.heap.size < (w.alloc (.cells Z24.toArray 143)).heap.size := by simp
    revert b1 hT1 hg hlt
    generalize w.alloc (.cells Z24.toArray 143) = w1
    intro b1 hT1 hg hlt
    refine (k86 hT1 (by omega) h2).bind ?_
    rintro _ rfl
    have hnd := ndN_le n
    have e : Qbin Tryd.prog .add 3 (.int .i64 1) (.int .i64 ((ndN n : Nat) : Int)) = some (.int .i64 ((ndN n + 1 : Nat) : Int)) := by
      rw [Qb_add, wrap_i64 (by omega) (by omega)]
      congr 2
      omega
    rw [e, Option.bind_some, cut143 hnd, Option.bind_some]
    refine (k87 hg (by omega) (by omega)).bind ?_
    rintro ⟨_, w2⟩ ⟨hv, hc, _⟩
    rw [Qb_lss, decide_eq_false (by omega)]
    simp only [go_sem]
    rw [cut143 hnd, Option.bind_some, vstr hv, Option.bind_some]
    exact .ret ⟨rfl, ((Chg.of_bel b1 _).trans hc fun _ _ e => e).bel fun k hk e => by omega⟩
theorem k33 {n : Nat} {w : World} (hT : Tab w) (h2 : n < 65536) : Brings (Xcall Tryd.prog (Value.func (Fn.func 33) #[] #[]) #[.int .i64 (n : Int)] w) (NumR n w) := by
  refine e33 ?_
  unfold s33
  refine (show Brings _ (NumR n w) from e48 ?_).bind ?_
  · unfold s48
    refine (k66 hT h2).bind ?_
    rintro ⟨_, w'⟩ ⟨rfl, b⟩
    exact .ret ⟨rfl, b⟩
  rintro ⟨_, w'⟩ ⟨rfl, b⟩
  exact .ret ⟨rfl, b⟩

end Go.Proofs.YtphokckbcmiddaaDoor

/- Join, dotted. -/
namespace Go.Proofs.YtphokckbcmiddaaDoor
open Go Go.Ev Go.RowKit
open Go.Proofs

def sc (l : List Int) : List Value := [.string (strOfNums l)]
abbrev Vs (w : World) (v : Value) (ls : List (List Int)) : Prop := View sc 1 w v ls
theorem und46 : Tryd.prog.underlying 46 = some (.slice 9) := by kernel_rfl
theorem inf9 : ∃ i, Tryd.prog.info? 9 = some i ∧ i.zero = some (.string { data := #[] }) ∧ i.size = 1 ∧ i.bytes = 16 := ⟨(Tryd.prog.info? 9).get (by kernel_rfl), by kernel_rfl, by kernel_rfl, by kernel_rfl, by kernel_rfl⟩
theorem one9 : one Tryd.prog 9 = true := by kernel_rfl
theorem slen {w w2 : World} {v : Value} {ls : List (List Int)} (h : Vs w v ls) {ty : TypeId} : Qlen Tryd.prog #[46] ty #[v] w2 = some (.int .i64 ls.length) := h.len und46 w2
theorem sget {w : World} {v : Value} {ls : List (List Int)} (h : Vs w v ls) {j : Nat} (hj : j < ls.length) : ∃ a, (∀ w2, QindexAddr Tryd.prog 46 v (.int .i64 (j : Int)) w2 = some (.pointer (some a))) ∧ Qload Tryd.prog 9 (.pointer (some a)) w = some (.string (strOfNums ls[j])) := by
  obtain ⟨i, hi, _, hs, _⟩ := inf9
  obtain ⟨y, g, o, e, _, hq, hc⟩ := h.get und46 hi hs (n := (j : Int)) (by omega) (by omega)
  rw [Int.toNat_natCast, List.getElem?_eq_getElem hj] at e
  injection e with e
  refine ⟨⟨g, o, none⟩, hq, ?_⟩
  rw [e]
  exact Qload_cell one9 (hc 0 _ rfl)

def jn (sep : Int) : List (List Int) → List Int
  | [] => []
  | x :: ls => x ++ ls.flatMap (fun y => sep :: y)

theorem flat_le {ls : List (List Int)} (h : ∀ x ∈ ls, x.length ≤ 3) : ls.flatten.length ≤ 3 * ls.length := by
  induction ls with
  | nil => simp
  | cons x ls ih =>
    have := ih fun y hy => h y (by simp [hy])
    have := h x (by simp)
    simp only [List.flatten_cons, List.length_append, List.length_cons]
    omega
theorem fm_le {sep : Int} {ls : List (List Int)} (h : ∀ x ∈ ls, x.length ≤ 3) : (ls.flatMap (fun y => sep :: y)).length ≤ 4 * ls.length := by
  induction ls with
  | nil => simp
  | cons x ls ih =>
    have := ih fun y hy => h y (by simp [hy])
    have := h x (by simp)
    simp only [List.flatMap_cons, List.length_append, List.length_cons]
    omega

theorem take_flat (L : List (List Int)) {j : Nat} (h : j < L.length) : (L.take (j + 1)).flatten = (L.take j).flatten ++ L[j] := by
  rw [List.take_add_one, List.getElem?_eq_getElem h, List.flatten_append]
  show _ ++ [L[j]].flatten = _
  rw [List.flatten_singleton]
theorem take_fm (sep : Int) (L : List (List Int)) {j : Nat} (h : j < L.length) : (L.take (j + 1)).flatMap (fun y => sep :: y) = (L.take j).flatMap (fun y => sep :: y) ++ sep :: L[j] := by
  rw [List.take_add_one, List.getElem?_eq_getElem h, List.flatMap_append]
  show _ ++ [L[j]].flatMap _ = _
  rw [List.flatMap_singleton]
theorem k49 {w : World} {v : Value} {x : List Int} {ls : List (List Int)} {sep : Int} (hv : Vs w v (x :: ls)) (h3 : ls.length = 3) (hok : ∀ y ∈ x :: ls, okB y ∧ y.length ≤ 3) (hx : x ≠ []) (hsep : 0 ≤ sep ∧ sep ≤ 255) :
    Brings (Xcall Tryd.prog (Value.func (Fn.func 49) #[] #[]) #[v, .string (strOfNums [sep])] w) (fun r => r.1 = .string (strOfNums (jn sep (x :: ls))) ∧ Bel w r.2) := by
  refine e49 ?_
  unfold s49 s49M1 s49M0
  have hlen : (x :: ls).length = 4 := by simp [h3]
  simp only [slen hv, hlen, qlen_str, strOfNums_size, List.length_singleton, Option.bind_some]
  rw [show Qbin Tryd.prog .eql 3 (.int .i64 ((4 : Nat) : Int)) (.int .i64 0) = some (.bool false) by kernel_rfl, Option.bind_some, condK_f, show Qbin Tryd.prog .eql 3 (.int .i64 ((4 : Nat) : Int)) (.int .i64 1) = some (.bool false) by kernel_rfl, Option.bind_some, condK_f,
    show Qbin Tryd.prog .gtr 3 (.int .i64 ((1 : Nat) : Int)) (.int .i64 0) = some (.bool true) by kernel_rfl, Option.bind_some, condK_t]
  simp only [show Qbin Tryd.prog .sub 3 (.int .i64 ((4 : Nat) : Int)) (.int .i64 1) = some (.int .i64 3) by kernel_rfl, show Qbin Tryd.prog .quo 3 (.int .i64 9223372036854775807) (.int .i64 3) = some (.int .i64 3074457345618258602) by kernel_rfl,
    show Qbin Tryd.prog .geq 3 (.int .i64 ((1 : Nat) : Int)) (.int .i64 3074457345618258602) = some (.bool false) by kernel_rfl, show Qbin Tryd.prog .mul 3 (.int .i64 ((1 : Nat) : Int)) (.int .i64 3) = some (.int .i64 3) by kernel_rfl,
    show Qbin Tryd.prog .add 3 (.int .i64 0) (.int .i64 3) = some (.int .i64 3) by kernel_rfl, Option.bind_some, condK_f]
  have hok3 : ∀ y ∈ x :: ls, y.length ≤ 3 := fun y hy => (hok y hy).2
  refine Brings.loop (fun k xs w' => ∃ j : Nat, j ≤ 4 ∧ k = 4 - j ∧ xs = [v, .string (strOfNums [sep]), .int .i64 ((3 + ((x :: ls).take j).flatten.length : Nat) : Int), v, .int .i64 ((4 : Nat) : Int), .int .i64 (j : Int)] ∧ w' = w) ?_ 4 _ _ ⟨0, by decide, rfl, rfl, rfl⟩
  rintro k _ w' ⟨j, hj, rfl, rfl, hw⟩
  obtain rfl := hw.symm
  have hfl : ((x :: ls).take j).flatten.length ≤ 12 := by
    have := flat_le (ls := (x :: ls).take j) fun y hy => hok3 y (List.mem_of_mem_take hy)
    have : ((x :: ls).take j).length ≤ 4 := by rw [List.length_take]; omega
    omega
  simp only [s49B2, go_sem]
  by_cases hj4 : j < 4
  · rw [decide_eq_true (by omega)]
    obtain ⟨a, e1, e2⟩ := sget hv (j := j) (by omega)
    have hlj : ((x :: ls)[j]'(by omega)).length ≤ 3 := hok3 _ (List.getElem_mem _)
    have hn1 : ((x :: ls).take (j + 1)).flatten = ((x :: ls).take j).flatten ++ (x :: ls)[j]'(by omega) := take_flat _ _
    simp only [go_sem, e1, e2, qlen_str, strOfNums_size]
    rw [wr (by omega) (by omega), decide_eq_false (by omega)]
    simp only [go_sem]
    rw [wr (by omega) (by omega), wr (by omega) (by omega)]
    refine .ret (.inl ⟨rfl, 4 - (j + 1), by omega, j + 1, by omega, rfl, ?_, rfl⟩)
    rw [hn1, List.length_append]
    simp
    omega
  rw [decide_eq_false (by omega)]
  obtain rfl : j = 4 := by omega
  simp only [go_sem]
  refine .ret (.inr ⟨by simp, ?_⟩)
  simp only [s49R2]
  rw [Xalloc_eq (zero114 _), Option.bind_some]
  simp only [Value.cells]
  have b1 := (Bel.refl w).alloc (.cells #[.pointer none, .slice none 0 0] 114)
  have h1 := (MapKept.heap_alloc w (.cells #[.pointer none, .slice none 0 0] 114)).1
  have hsz : (w.alloc (.cells #[.pointer none, .slice none 0 0] 114)).heap.size = w.heap.size + 1 := by simp
  revert b1 h1 hsz
  generalize w.alloc (.cells #[.pointer none, .slice none 0 0] 114) = w1
  intro b1 h1 hsz
  let bd : Bd w.heap.size w1 w.heap.size [] := ⟨none, .slice none 0 0, h1, .inl rfl, Ob.nil _ _, by simp [Value.ownBlock], Nat.le_refl _⟩
  refine (k57 bd rfl (by omega) (by omega)).bind ?_
  rintro ⟨_, w2⟩ hr2
  have c2 := hr2.base
  obtain ⟨⟨bd2⟩, _⟩ := hr2
  have b2 : Bel w w2 := ((Chg.of_bel b1 _).trans c2 fun _ _ e => e).bel fun k hk e => by omega
  obtain ⟨a0, q0, l0⟩ := sget (hv.bel b2) (j := 0) (by omega)
  rw [show (.int .i64 0 : Value) = .int .i64 ((0 : Nat) : Int) from rfl, q0, Option.bind_some, l0, Option.bind_some]
  have hxo := hok x (by simp)
  refine (k58 bd2 (m := x) hxo.1 (by simp; omega)).bind ?_
  rintro ⟨_, w3⟩ hr3
  have c3 := hr3.base
  obtain ⟨⟨bd3⟩, _⟩ := hr3
  have b3 : Bel w w3 := ((Chg.of_bel b2 _).trans c3 fun _ _ e => e).bel fun k hk e => by omega
  obtain ⟨i, hi, _, hs, _⟩ := inf9
  obtain ⟨v4, e4, hv4, _⟩ := hv.cutLo und46 hi hs (n := 1) (by decide) (by rw [hlen]; decide) w3
  have hv4' : Vs w v4 ls := hv4
  simp only [go_sem, e4, slen hv4']
  refine Brings.loop (fun k xs w' => ∃ j : Nat, j ≤ 3 ∧ k = 3 - j ∧ xs = [.string (strOfNums [sep]), .pointer (some ⟨w.heap.size, 0, none⟩), v4, .int .i64 ((ls.length : Nat) : Int), .int .i64 (j : Int)] ∧ Bel w w' ∧ Nonempty (Bd w.heap.size w' w.heap.size (x ++ (ls.take j).flatMap (fun y => sep :: y)))) ?_ 3 _ _ ⟨0, by decide, rfl, rfl, b3, by simpa using ⟨bd3⟩⟩
  rintro k _ w5 ⟨j, hj, rfl, rfl, b5, ⟨bd5⟩⟩
  have hok' : ∀ y ∈ ls, y.length ≤ 3 := fun y hy => hok3 y (by simp [hy])
  have hfm : ((ls.take j).flatMap (fun y => sep :: y)).length ≤ 12 := by
    have := fm_le (sep := sep) (ls := ls.take j) fun y hy => hok' y (List.mem_of_mem_take hy)
    have : (ls.take j).length ≤ 3 := by rw [List.length_take]; omega
    omega
  simp only [s49B3, go_sem]
  by_cases hj3 : j < 3
  · rw [decide_eq_true (by omega)]
    obtain ⟨a, q5, l5⟩ := sget (hv4'.bel b5) (j := j) (by omega)
    have hyo := hok (ls[j]'(by omega)) (by simp)
    simp only [go_sem, q5, l5]
    refine (k58 bd5 (m := [sep]) (by intro c hc; simp at hc; omega) (by rw [List.length_append, List.length_singleton]; omega)).bind ?_
    rintro ⟨_, w6⟩ hr6
    have c6 := hr6.base
    obtain ⟨⟨bd6⟩, _⟩ := hr6
    have b6 : Bel w w6 := ((Chg.of_bel b5 _).trans c6 fun _ _ e => e).bel fun k hk e => by omega
    refine (k58 bd6 (m := ls[j]'(by omega)) hyo.1 (by rw [List.length_append, List.length_append, List.length_singleton]; omega)).bind ?_
    rintro ⟨_, w7⟩ hr7
    have c7 := hr7.base
    obtain ⟨⟨bd7⟩, _⟩ := hr7
    have b7 : Bel w w7 := ((Chg.of_bel b6 _).trans c7 fun _ _ e => e).bel fun k hk e => by omega
    rw [wr (by omega) (by omega)]
    refine .ret (.inl ⟨rfl, 3 - (j + 1), by omega, j + 1, by omega, rfl, rfl, b7, ⟨?_⟩⟩)
    · rw [take_fm sep ls (by omega)]
      have h : x ++ List.flatMap (fun y => sep :: y) (List.take j ls) ++ [sep] ++ ls[j] = x ++ (List.flatMap (fun y => sep :: y) (List.take j ls) ++ sep :: ls[j]) := by simp
      rw [← h]
      exact bd7
  · rw [decide_eq_false (by omega)]
    obtain rfl : j = 3 := by omega
    simp only [go_sem]
    refine .ret (.inr ⟨by simp, ?_⟩)
    simp only [s49R3]
    have htk : ls.take 3 = ls := List.take_of_length_le (by omega)
    rw [htk] at bd5
    have hok5 : okB (jn sep (x :: ls)) := by
      intro c hc
      simp only [jn, List.mem_append, List.mem_flatMap, List.mem_cons] at hc
      rcases hc with hc | ⟨y, hy, rfl | hc⟩
      · exact hxo.1 c hc
      · exact hsep
      · exact (hok y (by simp [hy])).1 c hc
    refine (k62 bd5 hok5 (by simp [hx])).bind ?_
    rintro ⟨_, w6⟩ ⟨rfl, c6⟩
    refine .ret ⟨rfl, ((Chg.of_bel b5 _).trans c6 fun _ _ e => e).bel fun k hk e => ?_⟩
    have := (bd5.own.base e).1
    omega

end Go.Proofs.YtphokckbcmiddaaDoor

/- Text. -/
namespace Go.Proofs.YtphokckbcmiddaaDoor
open Go Go.Ev Go.RowKit
open Go.Proofs

theorem str_app (l m : List Int) : strOfNums l ++ strOfNums m = strOfNums (l ++ m) := by
  apply strOf_eq
  rw [ByteArray.data_append, Array.toList_append, strOfNums_data, strOfNums_data, strOfNums_data, List.map_append]
theorem sadd {l m : List Int} (h : l.length + m.length ≤ 1000) : Qbin Tryd.prog .add 9 (.string (strOfNums l)) (.string (strOfNums m)) = some (.string (strOfNums (l ++ m))) := by
  rw [← str_app]
  have hm : IntKind.i64.max = 9223372036854775807 := by decide
  simp only [Qbin, strBin, strOfNums_size, hm]
  rw [if_neg (by omega)]
theorem lit46 (s : ByteArray) (w : World) : XbuildSlice Tryd.prog 46 1 #[(0, .string s)] w = some (.slice (some ⟨w.heap.size, 0, none⟩) 1 1, w.alloc (.cells #[.string s] 9)) := by kernel_rfl

def Rs (w0 w : World) (v : Value) (ls : List (List Int)) : Prop := w.ownsRow 0 9 1 v ls.length (ls.flatMap sc) ∧ ∀ k, v.ownBlock = some k → w0.heap.size ≤ k
theorem Rs.view {w0 w : World} {v : Value} {ls : List (List Int)} (h : Rs w0 w v ls) : Vs w v ls := View.of_owns h.1 fun _ _ => rfl
theorem Rs.bel {w0 w w' : World} {v : Value} {ls : List (List Int)} (h : Rs w0 w v ls) (b : Bel w w') : Rs w0 w' v ls := ⟨(Chg.of_bel b fun _ => False).owns h.1 fun _ _ f => f, h.2⟩
theorem Rs.nil (w0 w : World) : Rs w0 w (.slice none 0 0) [] := ⟨World.ownsRow_nil w 0 9 1, fun k hk => by simp [Value.ownBlock] at hk⟩
theorem Rs.push {w0 w : World} {v : Value} {ls : List (List Int)} (h : Rs w0 w v ls) (hl : ls.length ≤ 100) (hz : w0.heap.size ≤ w.heap.size) (x : List Int) :
    ∃ v' w', Xbi Tryd.prog .append #[46, 46] 46 #[v, .slice (some ⟨w.heap.size, 0, none⟩) 1 1] (w.alloc (.cells #[.string (strOfNums x)] 9)) = some (v', w') ∧ Rs w0 w' v' (ls ++ [x]) ∧ Chg (fun k => v.ownBlock = some k) w w' := by
  obtain ⟨i, hi, hz1, h1, h2⟩ := inf9
  have b1 : Bel w (w.alloc (.cells #[.string (strOfNums x)] 9)) := (Bel.refl w).alloc _
  have hv : Vs (w.alloc (.cells #[.string (strOfNums x)] 9)) (.slice (some ⟨w.heap.size, 0, none⟩) 1 1) [x] :=
    ⟨some ⟨w.heap.size, 0, none⟩, 1, rfl, Nat.le_refl _, by simp [maxLen], fun h => (by cases h), fun j y hj => by
      match j, hj with
      | 0, hj =>
        injection hj with hj
        subst hj
        exact ⟨w.heap.size, 0, rfl, CellsAt.of (MapKept.heap_alloc w _).1⟩
      | j + 1, hj => simp at hj⟩
  have ho := (h.bel b1).1
  obtain ⟨v', w', e, o, g, k⟩ := Xappend (P := Tryd.prog) (f := sc) (ty := 46) und46 hi hz1 h1 h2 rfl (by decide) ho hv (fun _ _ => rfl) (fun y _ u hu => by simp [sc] at hu; subst hu; rfl) (by simp; omega) (by simp [maxLen]; omega)
  refine ⟨v', w', e, ⟨o, fun q hq => ?_⟩, b1.thenChg ((Chg.of_grown g).mono fun _ _ e => e.symm)⟩
  rcases k q hq with hq | hq
  · exact h.2 q hq
  · have := b1.size
    omega

theorem wu8 {n : Int} (h : 0 ≤ n) : IntKind.u8.wrap n = n % 256 := by
  simp [IntKind.wrap, IntKind.signed, IntKind.bits]
theorem shr24 {a : Int} (h0 : 0 ≤ a) (h1 : a < 4294967296) {j : Nat} (h : j < 4) : ∃ (q : Int) (n : Nat), (Ftp.fourS a)[j]? = some (n : Int) ∧ n < 256 ∧ Qbin Tryd.prog .shr 24 (.int .u32 a) (.int .i64 (24 - 8 * (j : Int))) = some (.int .u32 q) ∧
    Qconv Tryd.prog 24 5 (.int .u32 q) = some (.int .u8 (n : Int)) ∧ Qconv Tryd.prog 5 3 (.int .u8 (n : Int)) = some (.int .i64 (n : Int)) := by
  have key : ∀ (x q : Int), (Ftp.fourS a)[j]? = some x → 0 ≤ q → x = q % 256 → Qbin Tryd.prog .shr 24 (.int .u32 a) (.int .i64 (24 - 8 * (j : Int))) = some (.int .u32 q) → ∃ (q : Int) (n : Nat), (Ftp.fourS a)[j]? = some (n : Int) ∧ n < 256 ∧ Qbin Tryd.prog .shr 24 (.int .u32 a) (.int .i64 (24 - 8 * (j : Int))) = some (.int .u32 q) ∧
    Qconv Tryd.prog 24 5 (.int .u32 q) = some (.int .u8 (n : Int)) ∧ Qconv Tryd.prog 5 3 (.int .u8 (n : Int)) = some (.int .i64 (n : Int)) := by
    intro x q hx hq hxq hs
    refine ⟨q, x.toNat, by rw [hx]; congr 1; omega, by omega, hs, ?_, u8to3 (by omega)⟩
    rw [Qconv_int (k := .u8) (by kernel_rfl), wu8 hq]
    congr 2
    omega
  have : j = 0 ∨ j = 1 ∨ j = 2 ∨ j = 3 := by omega
  rcases this with rfl | rfl | rfl | rfl
  · refine key (a / 16777216) (a / 16777216) rfl (by omega) (by omega) ?_
    rw [Qb_shr (by decide), show (2 : Int) ^ (min (Int.toNat (24 - 8 * ((0 : Nat) : Int))) IntKind.u32.bits) = 16777216 from by decide, Int.fdiv_eq_ediv_of_nonneg _ (by decide)]
  · refine key (a / 65536 % 256) (a / 65536) rfl (by omega) (by omega) ?_
    rw [Qb_shr (by decide), show (2 : Int) ^ (min (Int.toNat (24 - 8 * ((1 : Nat) : Int))) IntKind.u32.bits) = 65536 from by decide, Int.fdiv_eq_ediv_of_nonneg _ (by decide)]
  · refine key (a / 256 % 256) (a / 256) rfl (by omega) (by omega) ?_
    rw [Qb_shr (by decide), show (2 : Int) ^ (min (Int.toNat (24 - 8 * ((2 : Nat) : Int))) IntKind.u32.bits) = 256 from by decide, Int.fdiv_eq_ediv_of_nonneg _ (by decide)]
  · refine key (a % 256) a rfl (by omega) (by omega) ?_
    rw [Qb_shr (by decide), show (2 : Int) ^ (min (Int.toNat (24 - 8 * ((3 : Nat) : Int))) IntKind.u32.bits) = 1 from by decide, Int.fdiv_eq_ediv_of_nonneg _ (by decide), Int.ediv_one]

def dgL (l : List Int) : List (List Int) := l.map fun n => Ftp.digs n.toNat
theorem jn_joinD (sep x : Int) : ∀ (l : List Int), Ftp.joinD sep (x :: l) = jn sep (dgL (x :: l))
  | [] => by simp [Ftp.joinD, dgL, jn]
  | y :: l => by
    have := jn_joinD sep y l
    rw [Ftp.joinD, this]
    simp [dgL, jn]
theorem digs_ne (n : Nat) : Ftp.digs n ≠ [] := by
  rw [Ftp.digs]
  split <;> simp
theorem digs_ok {n : Nat} : okB (Ftp.digs n) := dig_ok (Ftp.digs_dig n)

theorem k34 {w : World} (hT : Tab w) {a sep : Int} (h0 : 0 ≤ a) (h1 : a < 4294967296) (hsep : 0 ≤ sep ∧ sep ≤ 255) : Brings (Xcall Tryd.prog (Value.func (Fn.func 34) #[] #[]) #[.int .u32 a, .string (strOfNums [sep])] w)
    (fun r => r.1 = .string (strOfNums (Ftp.joinD sep (Ftp.fourS a))) ∧ Bel w r.2) := by
  refine e34 ?_
  unfold s34
  have hby : ∀ x ∈ Ftp.fourS a, 0 ≤ x ∧ x < 256 := by
    intro x hx
    simp only [Ftp.fourS, List.mem_cons, List.not_mem_nil, or_false] at hx
    omega
  have hlen : (Ftp.fourS a).length = 4 := rfl
  refine Brings.loop (fun k xs w' => ∃ (j : Nat) (v : Value), j ≤ 4 ∧ k = 4 - j ∧ xs = [.int .u32 a, .string (strOfNums [sep]), v, .int .i64 (24 - 8 * (j : Int))] ∧ Bel w w' ∧ Rs w w' v (dgL ((Ftp.fourS a).take j))) ?_ 4 _ _ ⟨0, _, by decide, rfl, rfl, Bel.refl w, Rs.nil _ _⟩
  rintro k _ w' ⟨j, v, hj, rfl, rfl, b, hr⟩
  simp only [s34B0, go_sem]
  by_cases hj4 : j < 4
  · rw [decide_eq_true (by omega)]
    obtain ⟨q, n, hx, hn, e1, e2, e3⟩ := shr24 h0 h1 hj4
    simp only [condK_t, e1, e2, e3, Option.bind_some]
    refine (k33 (hT.bel b) (show n < 65536 by omega)).bind ?_
    rintro ⟨_, w2⟩ ⟨rfl, b2⟩
    simp only [lit46, Option.bind_some]
    have hsz := (b.trans b2).size
    obtain ⟨v', w3, e, hr3, c3⟩ := (hr.bel b2).push (by simp [dgL]; omega) hsz (Ftp.digs n)
    simp only [e, Option.bind_some]
    rw [wr (by omega) (by omega)]
    refine .ret (.inl ⟨rfl, 4 - (j + 1), by omega, j + 1, v', by omega, rfl, ?_, ((Chg.of_bel (b.trans b2) _).trans c3 fun _ _ e => e).bel fun k hk e => ?_, ?_⟩)
    · have : (24 : Int) - 8 * (j : Int) - 8 = 24 - 8 * ((j + 1 : Nat) : Int) := by omega
      rw [this]
    · have := hr.2 k e
      omega
    · rw [List.take_add_one, hx]
      simpa [dgL] using hr3
  · rw [decide_eq_false (by omega)]
    obtain rfl : j = 4 := by omega
    simp only [go_sem]
    refine .ret (.inr ⟨by simp, ?_⟩)
    simp only [s34R0]
    have hv := hr.view
    rw [show (Ftp.fourS a).take 4 = Ftp.fourS a from rfl] at hv
    have hd : dgL (Ftp.fourS a) = Ftp.digs (a / 16777216).toNat :: dgL [a / 65536 % 256, a / 256 % 256, a % 256] := rfl
    rw [hd] at hv
    refine (k49 (sep := sep) hv rfl ?_ (digs_ne _) hsep).bind ?_
    · intro y hy
      rw [← hd] at hy
      obtain ⟨x, hx, rfl⟩ := List.mem_map.1 hy
      exact ⟨digs_ok, Ftp.digs_len 2 _ (by have := hby x hx; omega)⟩
    rintro ⟨_, w2⟩ ⟨rfl, b2⟩
    refine .ret ⟨?_, b.trans b2⟩
    rw [Ftp.fourS, jn_joinD]
    rfl


/-- What Text brings: nothing, or new bytes. -/
def TxtR (w : World) (l : List Int) (r : Value × World) : Prop := Bel w r.2 ∧ Vw r.2 r.1 l ∧ (∀ k, r.1.ownBlock = some k → w.heap.size ≤ k)
theorem text_end {w w0 : World} (b : Bel w0 w) {l m : List Int} (hl : okB l) (hs : l.length ≤ 1000) (e : l = m) : Brings ((Xconv Tryd.prog 9 22 (.string (strOfNums l)) w).bind fun r => some (r.1, r.2)) (TxtR w0 m) := by
  subst e
  obtain ⟨v, w', e, b2, hv, hk⟩ := x922 hl (by omega) w
  rw [e]
  refine .ret ⟨b.trans b2, hv, fun k h => ?_⟩
  rw [hk] at h
  injection h with h
  have := b.size
  omega
theorem eq23 (a b : Int) : Qbin Tryd.prog .eql 23 (.int .i64 a) (.int .i64 b) = some (.bool (a == b)) := by simp only [go_sem]
theorem conv253 {n : Int} (h : 0 ≤ n ∧ n ≤ 65535) : Qconv Tryd.prog 25 3 (.int .u16 n) = some (.int .i64 n) := by
  rw [Qconv_int (k := .i64) (by kernel_rfl), wr (by omega) (by omega)]
theorem jd_len {sep : Int} {l : List Int} (h : ∀ x ∈ l, 0 ≤ x ∧ x < 256) : (Ftp.joinD sep l).length ≤ 4 * l.length := Ftp.joinD_len fun x hx => by have := h x hx; omega
theorem jd_ok {sep : Int} (hs : 0 ≤ sep ∧ sep ≤ 255) : ∀ (l : List Int), okB (Ftp.joinD sep l)
  | [] => fun c hc => by simp [Ftp.joinD] at hc
  | [n] => digs_ok
  | n :: m :: l => by
    intro c hc
    simp only [Ftp.joinD, List.mem_append, List.mem_cons] at hc
    rcases hc with hc | rfl | hc
    · exact digs_ok c hc
    · exact hs
    · exact jd_ok hs (m :: l) c hc
theorem okB_app {l m : List Int} (h1 : okB l) (h2 : okB m) : okB (l ++ m) := fun c hc => (List.mem_append.1 hc).elim (h1 c) (h2 c)

theorem k13 {w : World} (hT : Tab w) {k a p : Int} (h0 : 0 ≤ a) (h1 : a < 4294967296) (p0 : 0 ≤ p) (p1 : p ≤ 65535) : Brings (Xcall Tryd.prog (Value.func (Fn.func 13) #[] #[]) #[.int .i64 k, .int .u32 a, .int .u16 p] w) (TxtR w (Ftp.textS k a p)) := by
  refine e13 ?_
  unfold s13
  have ep : ∀ {q : Int}, 0 ≤ q → q = ((q.toNat : Nat) : Int) := fun h => (Int.toNat_of_nonneg h).symm
  rw [conv253 ⟨p0, p1⟩, Option.bind_some]
  have hk := k33 hT (n := p.toNat) (by omega)
  rw [← ep p0] at hk
  refine hk.bind ?_
  rintro ⟨_, w1⟩ ⟨rfl, b1⟩
  have hT1 := hT.bel b1
  have hby : ∀ x ∈ Ftp.fourS a, 0 ≤ x ∧ x < 256 := by
    intro x hx
    simp only [Ftp.fourS, List.mem_cons, List.not_mem_nil, or_false] at hx
    omega
  have hfl := fun sep => jd_len (sep := sep) hby
  have hpl := Ftp.digs_len 4 p.toNat (by omega)
  simp only [Ftp.fourS, List.length_cons, List.length_nil] at hfl
  have h8 : Qbin Tryd.prog .shr 25 (.int .u16 p) (.int .u64 8) = some (.int .u16 (p / 256)) := by
    rw [Qb_shr (by decide), show (2 : Int) ^ (min (Int.toNat 8) IntKind.u16.bits) = 256 from by decide, Int.fdiv_eq_ediv_of_nonneg _ (by decide)]
  have h255 : Qbin Tryd.prog .and 25 (.int .u16 p) (.int .u16 255) = some (.int .u16 (p % 256)) := by
    rw [Qb_and]
    have := mask_i (k := .u16) (a := p.toNat) (n := 8) rfl (by simp [IntKind.bits]; omega) (by decide)
    rw [← ep p0] at this
    rw [show (255 : Int) = ((2 ^ 8 - 1 : Nat) : Int) from rfl, this]
    congr 2
    omega
  have main : (k = 1 ∨ k = 3) → Brings (s13M0 (.int .u32 a) (.int .u16 p) (.string (strOfNums (Ftp.digs p.toNat))) (.int .i64 k) (.bool true) w1) (TxtR w (Ftp.textS k a p)) := by
    intro hk13
    unfold s13M0
    rw [condK_t]
    refine (k34 hT1 h0 h1 (sep := 44) (by omega)).bind ?_
    rintro ⟨_, w2⟩ ⟨rfl, b2⟩
    have hp8 := Ftp.digs_len 2 (p / 256).toNat (by omega)
    have hp9 := Ftp.digs_len 2 (p % 256).toNat (by omega)
    have hj := hfl 44
    have e44 : ({ data := #[44] } : ByteArray) = strOfNums [44] := by decide +kernel
    rw [e44, sadd (by simp [Ftp.fourS]; omega), Option.bind_some, h8, Option.bind_some, conv253 (by omega), Option.bind_some]
    have hk2 := k33 (hT1.bel b2) (n := (p / 256).toNat) (by omega)
    rw [← ep (by omega)] at hk2
    refine hk2.bind ?_
    rintro ⟨_, w3⟩ ⟨rfl, b3⟩
    rw [sadd (by simp [Ftp.fourS]; omega), Option.bind_some, sadd (by simp [Ftp.fourS]; omega), Option.bind_some, h255, Option.bind_some, conv253 (by omega), Option.bind_some]
    have hk3 := k33 ((hT1.bel b2).bel b3) (n := (p % 256).toNat) (by omega)
    rw [← ep (by omega)] at hk3
    refine hk3.bind ?_
    rintro ⟨_, w4⟩ ⟨rfl, b4⟩
    rw [sadd (by simp [Ftp.fourS]; omega), Option.bind_some]
    refine text_end (((b1.trans b2).trans b3).trans b4) ?_ (by simp [Ftp.fourS]; omega) ?_
    · exact okB_app (okB_app (okB_app (okB_app (jd_ok (by decide) _) (okB_of rfl)) digs_ok) (okB_of rfl)) digs_ok
    · unfold Ftp.textS
      rw [if_pos hk13]
      simp [Ftp.fourS, Ftp.joinD]
  have rest : k ≠ 1 → k ≠ 3 → Brings (s13M0 (.int .u32 a) (.int .u16 p) (.string (strOfNums (Ftp.digs p.toNat))) (.int .i64 k) (.bool false) w1) (TxtR w (Ftp.textS k a p)) := by
    intro n1 n3
    unfold s13M0
    rw [condK_f, eq23, Option.bind_some]
    by_cases c2 : k = 2
    · subst c2
      rw [show ((2 : Int) == 2) = true from rfl, condK_t]
      refine (k34 hT1 h0 h1 (sep := 46) (by omega)).bind ?_
      rintro ⟨_, w2⟩ ⟨rfl, b2⟩
      have hj := hfl 46
      have e46 : ({ data := #[124, 49, 124] } : ByteArray) = strOfNums [124, 49, 124] := by decide +kernel
      have e47 : ({ data := #[124] } : ByteArray) = strOfNums [124] := by decide +kernel
      rw [e46, e47, sadd (by simp [Ftp.fourS]; omega), Option.bind_some, sadd (by simp [Ftp.fourS]; omega), Option.bind_some, sadd (by simp [Ftp.fourS]; omega), Option.bind_some, sadd (by simp [Ftp.fourS]; omega), Option.bind_some]
      refine text_end (b1.trans b2) ?_ (by simp [Ftp.fourS]; omega) ?_
      · exact okB_app (okB_app (okB_app (okB_app (okB_of rfl) (jd_ok (by decide) _)) (okB_of rfl)) digs_ok) (okB_of rfl)
      · unfold Ftp.textS
        rw [if_neg (by omega), if_pos rfl]
    · rw [show (k == 2) = false by simpa using c2, condK_f, eq23, Option.bind_some]
      by_cases c4 : k = 4
      · subst c4
        rw [show ((4 : Int) == 4) = true from rfl, condK_t]
        exact text_end b1 digs_ok (by omega) (by unfold Ftp.textS; rw [if_neg (by omega), if_neg (by omega), if_pos rfl])
      · rw [show (k == 4) = false by simpa using c4, condK_f]
        refine .ret ⟨b1, ?_, fun k hk => by simp [Value.ownBlock] at hk⟩
        unfold Ftp.textS
        rw [if_neg (by omega), if_neg c2, if_neg c4]
        exact View.nil
  rw [eq23, Option.bind_some]
  by_cases c1 : k = 1
  · subst c1
    rw [show ((1 : Int) == 1) = true from rfl, condK_t]
    exact main (.inl rfl)
  · rw [show (k == 1) = false by simpa using c1, condK_f, eq23, Option.bind_some]
    by_cases c3 : k = 3
    · subst c3
      exact main (.inr rfl)
    · rw [show (k == 3) = false by simpa using c3]
      exact rest c1 c3

end Go.Proofs.YtphokckbcmiddaaDoor
