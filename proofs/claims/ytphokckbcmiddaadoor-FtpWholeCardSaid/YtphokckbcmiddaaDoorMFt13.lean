/- strconv.Atoi of digits, as long as they are few. -/
import Derived.Test.YtphokckbcmiddaaDoorMFt8
import Derived.Lib.ConvBytes
import Derived.Test.YtphokckbcmiddaaDoorMFu
import Derived.Lib.BufferWrite
import Derived.Lib.SlBytesRow
/- strconv.Atoi of digits, as long as they are few. -/
namespace Go.Proofs.YtphokckbcmiddaaDoor
open Go Go.Ev Go.RowKit
open Go.Proofs

theorem nums_get {l : List Int} (hl : okB l) {j : Nat} (hj : j < l.length) : (((strOfNums l).data.toList.getD j 0).toNat : Int) = l[j] := by
  have hx := hl l[j] (List.getElem_mem hj)
  rw [strOfNums_data, List.getD_eq_getElem?_getD, List.getElem?_map, List.getElem?_eq_getElem hj]
  simp
  omega
theorem x922 {l : List Int} (hl : okB l) (hs : l.length ≤ 140737488355328) (w : World) : ∃ v w', Xconv Tryd.prog 9 22 (.string (strOfNums l)) w = some (v, w') ∧ Bel w w' ∧ Vw w' v l ∧ v.ownBlock = some w.heap.size := by
  refine ⟨.slice (some ⟨w.heap.size, 0, none⟩) (strOfNums l).size (grownCap w (strOfNums l).size 0 5), Lib.bytesWorld w 5 (strOfNums l), ?_, ?_, ?_, rfl⟩
  · unfold Xconv xv
    rw [Lib.run_convert_string_bytes w 9 22 5 _ und9 und22 und5]
  · refine ⟨rfl, rfl, rfl, by rw [Lib.bytesWorld_size]; omega, fun k hk => Lib.bytesWorld_at_old w 5 _ k hk⟩
  · rw [strOfNums_size]
    refine ⟨_, _, rfl, grownCap_ge w l.length 0 5, grownCap_le_maxLen w l.length 0 5 (by simp [maxLen]; omega), (fun h => by cases h), fun k y hk => ⟨_, 0, rfl, fun j v hj => ?_⟩⟩
    match j, hj with
    | 0, hj =>
      obtain rfl := Option.some.inj hj
      have hkl := (List.getElem?_eq_some_iff.1 hk).1
      have := Lib.bytesWorld_cell w 5 (strOfNums l) k (by rw [strOfNums_size]; exact hkl)
      rw [nums_get hl hkl] at this
      have e : l[k] = y := (List.getElem?_eq_some_iff.1 hk).2
      rw [e] at this
      simpa using this
    | j + 1, hj => simp [nc] at hj

theorem qn_n : QbinN Tryd.prog .neq 95 .nilIface = some (.bool false) := by kernel_rfl
theorem qn_i (t : TypeId) (v : Value) : QbinN Tryd.prog .neq 95 (.iface t v) = some (.bool true) := by kernel_rfl
theorem eq137 (a b : Int) : Qbin Tryd.prog .eql 95 (.iface 137 (.int .i64 a)) (.iface 137 (.int .i64 b)) = some (.bool (a == b)) := by kernel_rfl
theorem neq137 (a b : Int) : Qbin Tryd.prog .neq 95 (.iface 137 (.int .i64 a)) (.iface 137 (.int .i64 b)) = some (.bool (!(a == b))) := by kernel_rfl
theorem if137 (a : Int) : Qiface Tryd.prog 137 (.int .i64 a) = some (.iface 137 (.int .i64 a)) := by kernel_rfl
theorem if140 (a : Option Addr) : Qiface Tryd.prog 140 (.pointer a) = some (.iface 140 (.pointer a)) := by kernel_rfl

/-- What a call of Atoi hands back for digits. -/
def AtoR (w : World) (ds : List Int) (r : Value × World) : Prop :=
  Bel w r.2 ∧ ∃ v err, r.1 = .tuple #[.int .i64 v, err] ∧ ((err = .nilIface ∧ v = Ftp.val ds ∧ ds ≠ []) ∨ (∃ k, err = .iface 137 (.int .i64 k) ∧ (k = 1 ∨ k = 2) ∧ (ds.length = 0 ∨ 19 ≤ ds.length)))

theorem val_app1 (l : List Int) (x : Int) : Ftp.val (l ++ [x]) = Ftp.val l * 10 + (x - 48) := by
  rw [Ftp.val, Ftp.valA_app]; rfl
theorem val_bd : ∀ (n : Nat) {l : List Int}, l.length ≤ n → (∀ c ∈ l, Ftp.dig c = true) → Ftp.val l < 10 ^ n ∧ 0 ≤ Ftp.val l := by
  intro n l hn hd
  refine ⟨?_, Ftp.val_nonneg hd⟩
  induction n generalizing l with
  | zero =>
    have : l = [] := List.length_eq_zero_iff.1 (by omega)
    subst this; decide
  | succ n ih =>
    by_cases hne : l = []
    · subst hne
      have : (0 : Int) < 10 ^ (n + 1) := Int.pow_pos (by decide)
      simpa [Ftp.val, Ftp.valA] using this
    · obtain ⟨m, c, rfl⟩ : ∃ m c, l = m ++ [c] := ⟨l.dropLast, l.getLast hne, (List.dropLast_concat_getLast hne).symm⟩
      have hc := Ftp.dig_iff.1 (hd c (by simp))
      have := ih (l := m) (by simp at hn; omega) (fun x hx => hd x (by simp [hx]))
      rw [val_app1, Int.pow_succ]
      omega
theorem dig_ok {l : List Int} (hd : ∀ c ∈ l, Ftp.dig c = true) : okB l := fun c hc => by have := Ftp.dig_iff.1 (hd c hc); omega

theorem k63few {w : World} {ds : List Int} (hd : ∀ c ∈ ds, Ftp.dig c = true) (h1 : 1 ≤ ds.length) (h18 : ds.length ≤ 18) : Brings (Xcall Tryd.prog (Value.func (Fn.func 63) #[] #[]) #[.string (strOfNums ds)] w) (AtoR w ds) := by
  refine e63 ?_
  unfold s63
  have hl := dig_ok hd
  simp only [qlen_str, strOfNums_size, go_sem, s63M0]
  rw [decide_eq_true (show (0 : Int) < ds.length by omega)]
  simp only [go_sem]
  rw [decide_eq_true (show (ds.length : Int) < 19 by omega)]
  simp only [go_sem, s63M2]
  obtain ⟨x, hx⟩ : ∃ b, ds[0]? = some b := ⟨_, List.getElem?_eq_getElem (show 0 < ds.length by omega)⟩
  have hxd := Ftp.dig_iff.1 (hd x (List.mem_of_getElem? hx))
  have hix := fun w => qidx_str hx (hl x (List.mem_of_getElem? hx)) w
  simp only [Int.natCast_zero] at hix
  simp only [hix, go_sem, show (x == 45) = false by simp; omega, show (x == 43) = false by simp; omega, s63M4, s63M3]
  obtain ⟨v, w1, e1, b1, hv, _⟩ := x922 hl (by omega) w
  simp only [e1, go_sem, vlen hv, s63M6]
  refine Brings.loop (fun n xs w' => ∃ i : Nat, xs = [.int .i64 0, .nilIface, .string (strOfNums ds), .int .i64 (Ftp.val (ds.take i)), v, .int .i64 (ds.length : Int), .int .i64 (i : Int)] ∧ i ≤ ds.length ∧ n = ds.length - i ∧ w' = w1) ?_ ds.length _ _ ⟨0, rfl, Nat.zero_le _, rfl, rfl⟩
  rintro n xs w' ⟨i, rfl, hi, rfl, rfl⟩
  simp only [s63B10, go_sem, s63M12]
  by_cases hlt : i < ds.length
  · rw [decide_eq_true (by omega)]
    obtain ⟨y, a, hy, hiy, hld⟩ := vget hv hlt
    have hyd := Ftp.dig_iff.1 (hd y (List.mem_of_getElem? hy))
    have hb := val_bd 17 (l := ds.take i) (by rw [List.length_take]; omega) (fun c hc => hd c (List.mem_of_mem_take hc))
    have e8 : IntKind.u8.wrap (y - 48) = y - 48 := by
      simp only [IntKind.wrap, IntKind.bits, IntKind.signed]
      simp
      omega
    simp only [go_sem, s63M13, hiy, hld, s63M16, e8, s63M17]
    rw [decide_eq_false (by omega)]
    simp only [go_sem, s63M19, s63M18, conv53 (show 0 ≤ y - 48 ∧ y - 48 ≤ 255 by omega), s63M15, s63M14]
    have e10 : (10 : Int) ^ 17 = 100000000000000000 := by decide
    rw [e10] at hb
    rw [wr (n := Ftp.val (ds.take i) * 10) (by omega) (by omega), wr (by omega) (by omega), wr (by omega) (by omega)]
    refine .ret (.inl ⟨rfl, ds.length - (i + 1), by omega, i + 1, ?_, by omega, rfl, rfl⟩)
    rw [List.take_add_one, hy]
    show _ = [_, _, _, Value.int .i64 (Ftp.val (ds.take i ++ [y])), _, _, _]
    rw [val_app1]
    rfl
  · rw [decide_eq_false (by omega)]
    simp only [go_sem]
    refine .ret (.inr ⟨by simp, ?_⟩)
    simp only [s63R10, s63M5, hix, go_sem, show (x == 45) = false by simp; omega, s63M8]
    rw [List.take_of_length_le (by omega)]
    exact .ret ⟨b1, _, _, rfl, .inl ⟨rfl, rfl, by intro e; subst e; simp at h1⟩⟩

end Go.Proofs.YtphokckbcmiddaaDoor

/- strconv.Atoi of digits. -/
namespace Go.Proofs.YtphokckbcmiddaaDoor
open Go Go.Ev Go.RowKit
open Go.Proofs

theorem wrap_u64 {n : Int} (h0 : 0 ≤ n) (h1 : n < 18446744073709551616) : IntKind.u64.wrap n = n := by
  simp only [IntKind.wrap, IntKind.bits, IntKind.signed]
  simp
  omega
theorem conv563 {n : Int} (h : 0 ≤ n ∧ n ≤ 255) : Qconv Tryd.prog 5 63 (.int .u8 n) = some (.int .u64 n) := by
  rw [Qconv_int (k := .u64) (by kernel_rfl), wrap_u64 h.1 (by omega)]
theorem conv35 : Qconv Tryd.prog 3 5 (.int .i64 10) = some (.int .u8 10) := by kernel_rfl
theorem conv363 : Qconv Tryd.prog 3 63 (.int .i64 10) = some (.int .u64 10) := by kernel_rfl
theorem conv377 {n : Int} (h : 0 ≤ n ∧ n ≤ 255) : Qconv Tryd.prog 3 77 (.int .i64 n) = some (.int .u64 n) := by
  rw [Qconv_int (k := .u64) (by kernel_rfl), wrap_u64 h.1 (by omega)]
theorem conv632 {n : Int} (h0 : 0 ≤ n) (h1 : n < 9223372036854775808) : Qconv Tryd.prog 63 2 (.int .u64 n) = some (.int .i64 n) := by
  rw [Qconv_int (k := .i64) (by kernel_rfl), wr (by omega) (by omega)]

theorem str_ne {l : List Int} (hl : okB l) (h : l ≠ []) : ((strOfNums l).toList == ({ data := #[] } : ByteArray).toList) = false := by
  have e : ({ data := #[] } : ByteArray) = strOfNums [] := rfl
  rw [e, str_eq hl (by intro c hc; simp at hc)]
  simp [h]

/-- What ParseUint hands back for digits: their number, or that it is too great. -/
def PuR (w : World) (ds : List Int) (r : Value × World) : Prop :=
  Bel w r.2 ∧ ∃ v err, r.1 = .tuple #[.int .u64 v, err] ∧ 0 ≤ v ∧ v < 18446744073709551616 ∧ ((err = .nilIface ∧ v = Ftp.val ds) ∨ (err = .iface 137 (.int .i64 1) ∧ v = 18446744073709551615))

theorem k97 {w : World} {ds : List Int} (hd : ∀ c ∈ ds, Ftp.dig c = true) (h1 : 1 ≤ ds.length) (hs : ds.length ≤ 1000000) : Brings (Xcall Tryd.prog (Value.func (Fn.func 97) #[] #[]) #[.string (strOfNums ds), .int .i64 10, .int .i64 0] w) (PuR w ds) := by
  refine e97 ?_
  unfold s97
  have hl := dig_ok hd
  have hne : ds ≠ [] := by intro e; subst e; simp at h1
  obtain ⟨v, w1, e1, b1, hv, _⟩ := x922 hl (by omega) w
  simp only [str_ne hl hne, go_sem, Int.reduceLE, decide_true, s97M0, s97M1, s97M2, show ((10 : Int) == 0) = false from rfl, show ((0 : Int) == 0) = true from rfl, show ((10 : Int) == 10) = true from rfl, conv377 (show (0 : Int) ≤ 64 ∧ (64 : Int) ≤ 255 by decide), e1, vlen hv]
  have emax : IntKind.u64.wrap (IntKind.u64.wrap (1 * 2 ^ min (Int.toNat 64) 64) - 1) = 18446744073709551615 := by decide
  rw [emax]
  refine Brings.loop (fun n xs w' => ∃ i : Nat, xs = [.int .i64 10, .int .u64 0, .nilIface, .bool false, .string (strOfNums ds), .int .u64 1844674407370955162, .int .u64 18446744073709551615, .bool false, .int .u64 (Ftp.val (ds.take i)), v, .int .i64 (ds.length : Int), .int .i64 (i : Int)] ∧ i ≤ ds.length ∧ n = ds.length - i ∧ w' = w1 ∧ Ftp.val (ds.take i) < 18446744073709551616) ?_ ds.length _ _ ⟨0, rfl, Nat.zero_le _, rfl, rfl, (show (0 : Int) < 18446744073709551616 by decide)⟩
  rintro n xs w' ⟨i, rfl, hi, rfl, rfl, hlt64⟩
  have hnn : 0 ≤ Ftp.val (ds.take i) := Ftp.val_nonneg fun c hc => hd c (List.mem_of_mem_take hc)
  simp only [s97B3, go_sem]
  by_cases hlt : i < ds.length
  · rw [decide_eq_true (by omega)]
    obtain ⟨y, a, hy, hiy, hld⟩ := vget hv hlt
    have hyd := Ftp.dig_iff.1 (hd y (List.mem_of_getElem? hy))
    have e8 : IntKind.u8.wrap (y - 48) = y - 48 := by
      simp only [IntKind.wrap, IntKind.bits, IntKind.signed]
      simp
      omega
    simp only [go_sem, hiy, hld, show (y == 95) = false by simp; omega]
    rw [decide_eq_true hyd.1]
    simp only [go_sem]
    rw [decide_eq_true hyd.2]
    simp only [go_sem, e8, s97M4, conv35]
    rw [decide_eq_false (by omega)]
    simp only [go_sem]
    have hnext : Ftp.val (ds.take (i + 1)) = Ftp.val (ds.take i) * 10 + (y - 48) := by
      rw [List.take_add_one, hy]
      exact val_app1 _ _
    have big : ∀ u : Int, Brings (some (Exit.ret, [Value.int .i64 10, .int .u64 18446744073709551615, .iface 137 (.int .i64 1), .bool false, .string (strOfNums ds), .int .u64 1844674407370955162, .int .u64 18446744073709551615, .bool false, .int .u64 u, v, .int .i64 (ds.length : Int), .int .i64 (i : Int)], w')) fun r => (r.1 = .normal ∧ ∃ m, m < ds.length - i ∧ ∃ i : Nat, r.2.1 = [.int .i64 10, .int .u64 0, .nilIface, .bool false, .string (strOfNums ds), .int .u64 1844674407370955162, .int .u64 18446744073709551615, .bool false, .int .u64 (Ftp.val (ds.take i)), v, .int .i64 (ds.length : Int), .int .i64 (i : Int)] ∧ i ≤ ds.length ∧ m = ds.length - i ∧ r.2.2 = w' ∧ Ftp.val (ds.take i) < 18446744073709551616) ∨ (r.1 ≠ .normal ∧ Brings (s97R3 r.1 r.2.1 r.2.2) (PuR w ds)) := by
      intro u
      refine .ret (.inr ⟨by simp, ?_⟩)
      simp only [s97R3]
      exact .ret ⟨b1, _, _, rfl, by decide, by decide, .inr ⟨rfl, rfl⟩⟩
    by_cases c1 : (1844674407370955162 : Int) ≤ Ftp.val (ds.take i)
    · rw [decide_eq_true c1]
      simp only [go_sem, if137]
      exact big _
    rw [decide_eq_false c1]
    simp only [go_sem, conv363, conv563 (show 0 ≤ y - 48 ∧ y - 48 ≤ 255 by omega)]
    rw [wrap_u64 (n := Ftp.val (ds.take i) * 10) (by omega) (by omega)]
    by_cases c2 : Ftp.val (ds.take i) * 10 + (y - 48) < 18446744073709551616
    · rw [wrap_u64 (by omega) c2, decide_eq_false (by omega)]
      simp only [go_sem]
      rw [decide_eq_false (by omega)]
      simp only [go_sem]
      rw [wr (by omega) (by omega)]
      refine .ret (.inl ⟨rfl, ds.length - (i + 1), by omega, i + 1, ?_, by omega, rfl, rfl, by rw [hnext]; exact c2⟩)
      rw [hnext]
      rfl
    · have ew : IntKind.u64.wrap (Ftp.val (ds.take i) * 10 + (y - 48)) = Ftp.val (ds.take i) * 10 + (y - 48) - 18446744073709551616 := by
        simp only [IntKind.wrap, IntKind.bits, IntKind.signed]
        simp
        omega
      rw [ew, decide_eq_true (by omega)]
      simp only [go_sem, if137]
      exact big _
  · rw [decide_eq_false (by omega)]
    simp only [go_sem]
    refine .ret (.inr ⟨by simp, ?_⟩)
    simp only [s97R3, go_sem]
    rw [List.take_of_length_le (by omega)] at *
    exact .ret ⟨b1, _, _, rfl, hnn, hlt64, .inl ⟨rfl, rfl⟩⟩

theorem k80 {w : World} {ds : List Int} (hd : ∀ c ∈ ds, Ftp.dig c = true) (h : ds.length = 0 ∨ 19 ≤ ds.length) (hs : ds.length ≤ 1000000) : Brings (Xcall Tryd.prog (Value.func (Fn.func 80) #[] #[]) #[.string (strOfNums ds), .int .i64 10, .int .i64 0] w) (AtoR w ds) := by
  refine e80 ?_
  unfold s80
  have hl := dig_ok hd
  rcases h with h0 | h19
  · have : ds = [] := List.length_eq_zero_iff.1 h0
    subst this
    have e : ((strOfNums []).toList == ({ data := #[] } : ByteArray).toList) = true := by decide +kernel
    simp only [go_sem, e, s80M1, if137]
    exact .ret ⟨Bel.refl _, _, _, rfl, .inr ⟨2, rfl, .inr rfl, .inl rfl⟩⟩
  have hne : ds ≠ [] := by intro e; subst e; simp at h19
  obtain ⟨x, hx⟩ : ∃ b, ds[0]? = some b := ⟨_, List.getElem?_eq_getElem (show 0 < ds.length by omega)⟩
  have hxd := Ftp.dig_iff.1 (hd x (List.mem_of_getElem? hx))
  have hix := fun w => qidx_str hx (hl x (List.mem_of_getElem? hx)) w
  simp only [Int.natCast_zero] at hix
  simp only [str_ne hl hne, go_sem, s80M1, s80M0, hix, s80M3, show (x == 45) = false by simp; omega, show (x == 43) = false by simp; omega, s80M6, s80M5, s80M2]
  refine (k97 hd (by omega) hs).bind ?_
  rintro ⟨_, w1⟩ ⟨b1, v, err, he, hv0, hv1, hv⟩
  simp only at he b1
  subst he
  have ecut : IntKind.u64.wrap (1 * 2 ^ min (Int.toNat 63) 64) = 9223372036854775808 := by decide
  have fin : Brings (s80M7 (.int .i64 0) (.bool false) (.int .u64 v) w1) (fun r => Bel w r.2 ∧ ∃ u e', r.1 = .tuple #[.int .i64 u, e'] ∧ ((e' = .nilIface ∧ u = v ∧ v < 9223372036854775808) ∨ e' = .iface 137 (.int .i64 1))) := by
    simp only [s80M7, go_sem, show ((0 : Int) == 0) = true from rfl, s80M10, s80M9]
    rw [show IntKind.i64.wrap (64 - 1) = 63 by decide, conv377 (by decide)]
    simp only [go_sem, Int.reduceLE, s80M11, Bool.not_false]
    rw [ecut]
    by_cases c : (9223372036854775808 : Int) ≤ v
    · rw [decide_eq_true c]
      simp only [go_sem, s80M13]
      rw [wrap_u64 (by decide) (by decide), conv632 (by decide) (by decide)]
      simp only [go_sem, if137]
      exact .ret ⟨b1, _, _, rfl, .inr rfl⟩
    · rw [decide_eq_false c]
      simp only [go_sem, s80M13, s80M12, s80M15, s80M14, conv632 hv0 (by omega), s80M16]
      exact .ret ⟨b1, _, _, rfl, .inl ⟨rfl, rfl, by omega⟩⟩
  rcases hv with ⟨rfl, rfl⟩ | ⟨rfl, rfl⟩
  · simp only [go_sem, s80M4, qn_n, s80M8]
    refine fin.mono ?_
    rintro r ⟨hb, u, e', h1, h2⟩
    refine ⟨hb, u, e', h1, ?_⟩
    rcases h2 with ⟨h2, h3, _⟩ | h2
    · exact .inl ⟨h2, h3, hne⟩
    · exact .inr ⟨1, h2, .inl rfl, .inr h19⟩
  · simp only [go_sem, s80M4, qn_i, if137, neq137, show (!((1 : Int) == 1)) = false from rfl, s80M8]
    refine fin.mono ?_
    rintro r ⟨hb, u, e', h1, h2⟩
    refine ⟨hb, u, e', h1, ?_⟩
    rcases h2 with ⟨h2, h3, h4⟩ | h2
    · exact absurd h4 (by decide)
    · exact .inr ⟨1, h2, .inl rfl, .inr h19⟩

theorem k63 {w : World} {ds : List Int} (hd : ∀ c ∈ ds, Ftp.dig c = true) (hs : ds.length ≤ 1000000) : Brings (Xcall Tryd.prog (Value.func (Fn.func 63) #[] #[]) #[.string (strOfNums ds)] w) (AtoR w ds) := by
  by_cases h : 1 ≤ ds.length ∧ ds.length ≤ 18
  · exact k63few hd h.1 h.2
  · refine e63 ?_
    unfold s63
    simp only [qlen_str, strOfNums_size, go_sem, s63M0]
    have hM1 : Brings (s63M1 (.string (strOfNums ds)) w) (AtoR w ds) := by
      unfold s63M1
      refine (k80 hd (by omega) hs).bind ?_
      rintro ⟨_, w1⟩ ⟨b1, v, err, he, hv⟩
      simp only at he b1
      subst he
      simp only [go_sem]
      exact .ret ⟨b1, _, _, rfl, hv⟩
    by_cases h0 : (0 : Int) < ds.length
    · rw [decide_eq_true h0]
      simp only [go_sem]
      rw [decide_eq_false (show ¬ (ds.length : Int) < 19 by omega)]
      simp only [go_sem, s63M2]
      exact hM1
    · rw [decide_eq_false h0]
      simp only [go_sem, s63M2]
      exact hM1

end Go.Proofs.YtphokckbcmiddaaDoor

/- strconv.Atoi of digits: with its errors. -/
namespace Go.Proofs.YtphokckbcmiddaaDoor
open Go Go.Ev Go.RowKit
open Go.Proofs

theorem xus {w : World} {q : Nat} {cur : Array Value} {z : Nat × Nat} {l : List Int} (hl : okB l) (h0 : l ≠ []) (hqa : w.heap[q]? = some (.cells cur 5 z)) (hn : l.length ≤ cur.size) (hs : l.length ≤ 9223372036854775807) (hc : ∀ j y, l[j]? = some y → w.cell? ⟨q, j, none⟩ = some (.int .u8 y)) :
    Xbi Tryd.prog .unsafeString #[136, 3] 9 #[.pointer (some ⟨q, 0, none⟩), .int .i64 (l.length : Int)] w = some (.string (strOfNums l), w.freeze ⟨q, 0, none⟩ l.length) := by
  have hlb : (Lib.bytesOf l).length = l.length := Lib.bytesOf_length l
  have hpos := List.length_pos_iff.2 h0
  have := Lib.run_unsafeString_row (P := Tryd.prog) w 136 3 9 5 und136 cof5 q cur.size (by simp [World.shape?, hqa]) (Lib.bytesOf l) (by intro e0; rw [e0] at hlb; simp at hlb; omega) (by rw [hlb]; exact hn) (by rw [hlb]; exact hs) (fun j x hj => by
    unfold Lib.bytesOf at hj
    rw [List.getElem?_map] at hj
    cases hlj : l[j]? with
    | none => rw [hlj] at hj; cases hj
    | some y =>
      rw [hlj] at hj
      have hx : UInt8.ofNat y.toNat = x := Option.some.inj hj
      have hy := hl y (List.mem_of_getElem? hlj)
      rw [add_0, hc j y hlj, ← hx]
      congr 2
      simp
      omega)
  rw [hlb] at this
  unfold Xbi
  simp only [builtin, Sem.run_bind, this, Result.andThen_ok]
  rfl
theorem freeze_chg (w : World) (q n : Nat) : Chg (fun k => k = q) w (w.freeze ⟨q, 0, none⟩ n) := by
  unfold World.freeze
  split
  · exact Chg.refl _ _
  · refine ⟨rfl, rfl, rfl, by simp, fun k hk hn => ?_⟩
    simp only [Array.getElem?_modify]
    rw [if_neg (by intro e2; subst e2; exact hn rfl)]

theorem byteCells_nums {l : List Int} (h : okB l) : Lib.byteCells (strOfNums l).data.toList = l.map (Value.int .u8) := by
  unfold Lib.byteCells
  rw [strOfNums_data, List.map_map]
  refine List.map_congr_left fun x hx => ?_
  have := h x hx
  simp
  omega

theorem k98 {w : World} {l : List Int} (hl : okB l) (hs : l.length ≤ 1000000) : Brings (Xcall Tryd.prog (Value.func (Fn.func 98) #[] #[]) #[.string (strOfNums l)] w) (fun r => (∃ s, r.1 = .string s) ∧ Bel w r.2) := by
  refine e98 ?_
  unfold s98
  simp only [qlen_str, strOfNums_size, go_sem]
  by_cases h0 : l = []
  · subst h0
    simp only [List.length_nil, show (((0 : Nat) : Int) == 0) = true from rfl, go_sem]
    exact .ret ⟨⟨_, rfl⟩, Bel.refl _⟩
  have hpos := List.length_pos_iff.2 h0
  rw [show ((l.length : Int) == 0) = false by simp; omega]
  simp only [go_sem]
  obtain ⟨i, hi, hz, h1, h2⟩ := inf5z
  obtain ⟨w1, e1, ho, b1⟩ := Xmade (P := Tryd.prog) (w := w) (kl := .i64) (kc := .i64) (f := nc .u8) (d := (0 : Int)) und22 hi hz h1 rfl rfl rfl (n := l.length) (by rw [h2]; omega) (by simp [maxLen]; omega)
  obtain ⟨_, ⟨e, _⟩ | ⟨g, cap, cur, e, _, hg, hc1, hc2, hsz, htk⟩⟩ := ho
  · injection e with e _ _
    exact absurd e (by simp)
  injection e with e _ ecap
  obtain rfl : w.heap.size = g := by
    have := Option.some.inj e
    injection this
  have hcap : cur.size = l.length := by rw [hsz, ← ecap, Nat.mul_one]
  simp only [e1, go_sem]
  have hcp : Xbi Tryd.prog .copy #[22, 9] 3 #[.slice (some ⟨w.heap.size, 0, none⟩) l.length l.length, .string (strOfNums l)] w1 = some (.int .i64 l.length, w1.setRow w.heap.size (l.map (Value.int .u8)).toArray) := by
    have := Lib.run_copy_row_string (P := Tryd.prog) w1 22 9 3 5 w.heap.size 0 l.length l.length (strOfNums l) cur 5 und22 (by rw [hi]; simp [h1]) hg (by rw [strOfNums_size]; exact Nat.le_refl _) (by rw [strOfNums_size]; omega)
    unfold Xbi
    simp only [builtin, Sem.run_bind, this, Result.andThen_ok]
    rw [byteCells_nums hl, strOfNums_size, List.drop_of_length_le (by rw [Array.length_toList]; omega)]
    simp [goInt]
    rfl
  have hg2 := setRow_heap w1 w.heap.size cur (l.map (Value.int .u8)).toArray 5 _ hg
  have c2 : Bel w (w1.setRow w.heap.size (l.map (Value.int .u8)).toArray) := (b1.thenChg (setRow_chg _ _)).bel fun k hk e => by omega
  obtain ⟨i5, hi5, hs5⟩ := inf5
  have hix : QindexAddr Tryd.prog 22 (.slice (some ⟨w.heap.size, 0, none⟩) l.length l.length) (.int .i64 0) (w1.setRow w.heap.size (l.map (Value.int .u8)).toArray) = some (.pointer (some ⟨w.heap.size, 0, none⟩)) := by
    rw [QindexAddr_slice und22 hi5 (Int.le_refl 0) (by omega), Int.toNat_zero, Nat.zero_mul]
    rfl
  have hq := Qlen_slice (P := Tryd.prog) (t := 22) (ty := 3) (a := some ⟨w.heap.size, 0, none⟩) (len := l.length) (cap := l.length) (w := w1.setRow w.heap.size (l.map (Value.int .u8)).toArray) und22
  simp only [hcp, go_sem, hix, hq]
  rw [xus hl h0 hg2 (by simp) (by omega) (fun j y hj => cell_at hg2 (by simp [hj]))]
  refine .ret ⟨⟨_, rfl⟩, (c2.thenChg (freeze_chg _ _ _)).bel fun k hk e => by omega⟩

theorem one95 : one Tryd.prog 95 = true := by kernel_rfl
theorem bld164 (a b : ByteArray) (t : TypeId) (v : Value) (w : World) : Qbuild Tryd.prog 164 #[(0, .string a), (1, .string b), (2, .iface t v)] w = some (.agg #[.string a, .string b, .iface t v]) := by kernel_rfl

/-- An error. -/
def ErrR (w : World) (r : Value × World) : Prop := (∃ a, r.1 = .pointer (some a)) ∧ Bel w r.2

theorem k81 {w : World} {f l : List Int} (hl : okB l) (hs : l.length ≤ 1000000) (hT : Tab w) : Brings (Xcall Tryd.prog (Value.func (Fn.func 81) #[] #[]) #[.string (strOfNums f), .string (strOfNums l)] w) (ErrR w) := by
  refine e81 ?_
  unfold s81
  generalize hwd : w.drew = wd
  have bd : Bel w wd := by rw [← hwd]; exact (Bel.refl w).drew
  refine (k98 hl hs).bind ?_
  rintro ⟨_, w1⟩ ⟨⟨s, he⟩, b1⟩
  simp only at he b1
  subst he
  obtain ⟨t, a, ha⟩ := (hT.bel bd).syn
  have e1 : Qload Tryd.prog 95 (.pointer (some ⟨3, 0, none⟩)) wd = some (.iface t a) := Qload_cell one95 ha
  have e2 : Qload Tryd.prog 95 (.pointer (some ⟨3, 0, none⟩)) w1 = some (.iface t a) := Qload_cell one95 (b1.cell_some ha)
  simp only [e1, e2, go_sem, bld164, Xbox_eq, eq_self, and_self]
  exact .ret ⟨⟨_, rfl⟩, (bd.trans b1).alloc _⟩
theorem k82 {w : World} {f l : List Int} (hl : okB l) (hs : l.length ≤ 1000000) (hT : Tab w) : Brings (Xcall Tryd.prog (Value.func (Fn.func 82) #[] #[]) #[.string (strOfNums f), .string (strOfNums l)] w) (ErrR w) := by
  refine e82 ?_
  unfold s82
  generalize hwd : w.drew = wd
  have bd : Bel w wd := by rw [← hwd]; exact (Bel.refl w).drew
  refine (k98 hl hs).bind ?_
  rintro ⟨_, w1⟩ ⟨⟨s, he⟩, b1⟩
  simp only at he b1
  subst he
  obtain ⟨t, a, ha⟩ := (hT.bel bd).rng
  have e1 : Qload Tryd.prog 95 (.pointer (some ⟨4, 0, none⟩)) wd = some (.iface t a) := Qload_cell one95 ha
  have e2 : Qload Tryd.prog 95 (.pointer (some ⟨4, 0, none⟩)) w1 = some (.iface t a) := Qload_cell one95 (b1.cell_some ha)
  simp only [e1, e2, go_sem, bld164, Xbox_eq, eq_self, and_self]
  exact .ret ⟨⟨_, rfl⟩, (bd.trans b1).alloc _⟩

theorem k64 {w : World} {f l : List Int} {x y k : Int} (hl : okB l) (hs : l.length ≤ 1000000) (hT : Tab w) (hk : k = 1 ∨ k = 2) : Brings (Xcall Tryd.prog (Value.func (Fn.func 64) #[] #[]) #[.string (strOfNums f), .string (strOfNums l), .int .i64 x, .int .i64 y, .iface 137 (.int .i64 k)] w) (fun r => (∃ a, r.1 = .iface 140 (.pointer a)) ∧ Bel w r.2) := by
  refine e64 ?_
  unfold s64
  simp only [if137, eq137, go_sem]
  rcases hk with rfl | rfl
  · simp only [show ((1 : Int) == 2) = false from rfl, show ((1 : Int) == 1) = true from rfl, go_sem]
    refine (k82 hl hs hT).bind ?_
    rintro ⟨_, w1⟩ ⟨⟨a, he⟩, b1⟩
    simp only at he b1
    subst he
    simp only [if140, go_sem]
    exact .ret ⟨⟨_, rfl⟩, b1⟩
  · simp only [show ((2 : Int) == 2) = true from rfl, go_sem]
    refine (k81 hl hs hT).bind ?_
    rintro ⟨_, w1⟩ ⟨⟨a, he⟩, b1⟩
    simp only at he b1
    subst he
    simp only [if140, go_sem]
    exact .ret ⟨⟨_, rfl⟩, b1⟩

/-- strconv.Atoi of digits. -/
def AtoP (w : World) (ds : List Int) (r : Value × World) : Prop :=
  Bel w r.2 ∧ ∃ v err, r.1 = .tuple #[.int .i64 v, err] ∧ ((err = .nilIface ∧ v = Ftp.val ds ∧ ds ≠ []) ∨ ((∃ t p, err = .iface t p) ∧ (ds.length = 0 ∨ 19 ≤ ds.length)))

theorem k44 {w : World} {ds : List Int} (hd : ∀ c ∈ ds, Ftp.dig c = true) (hs : ds.length ≤ 1000000) (hT : Tab w) : Brings (Xcall Tryd.prog (Value.func (Fn.func 44) #[] #[]) #[.string (strOfNums ds)] w) (AtoP w ds) := by
  refine e44 ?_
  unfold s44
  refine (k63 hd hs).bind ?_
  rintro ⟨_, w1⟩ ⟨b1, v, err, he, hv⟩
  simp only at he b1
  subst he
  simp only [go_sem]
  rcases hv with ⟨rfl, h2, h3⟩ | ⟨k, rfl, hk, h3⟩
  · simp only [qn_n, go_sem]
    exact .ret ⟨b1, _, _, rfl, .inl ⟨rfl, h2, h3⟩⟩
  · simp only [qn_i, go_sem]
    have ea : ({ data := #[65, 116, 111, 105] } : ByteArray) = strOfNums [65, 116, 111, 105] := by decide +kernel
    rw [ea]
    refine (k64 (dig_ok hd) hs (hT.bel b1) hk).bind ?_
    rintro ⟨_, w2⟩ ⟨⟨a, he⟩, b2⟩
    simp only at he b2
    subst he
    simp only [go_sem]
    exact .ret ⟨b1.trans b2, _, _, rfl, .inr ⟨⟨_, _, rfl⟩, h3⟩⟩

end Go.Proofs.YtphokckbcmiddaaDoor

/- The reader: bytes eaten, numbers read. -/
namespace Go.Proofs.YtphokckbcmiddaaDoor
open Go Go.Ev Go.RowKit
open Go.Proofs

/-- A reader: its block, the line's bytes, and what is left of them (none: it is bad). -/
structure RdA (w : World) (g : Nat) (sl : Value) (b : List Int) (st : Option (List Int)) (pos : Nat) : Prop where
  at_ : w.heap[g]? = some (.cells #[sl, .int .i64 (pos : Int), .bool st.isNone] 59 (0, 0))
  le : pos ≤ b.length
  rest : ∀ r, st = some r → r = b.drop pos
  view : Vw w sl b
  apart : sl.ownBlock ≠ some g
  ok : okB b
  short : b.length ≤ 128
abbrev RdP (w : World) (g : Nat) (sl : Value) (b : List Int) (st : Option (List Int)) : Prop := ∃ pos, RdA w g sl b st pos

section rd
variable {w : World} {g : Nat} {sl : Value} {b : List Int} {st : Option (List Int)} {pos : Nat}
theorem RdA.ld0 (h : RdA w g sl b st pos) : Qload Tryd.prog 22 (.pointer (some ⟨g, 0, none⟩)) w = some sl := Qload_cell one22 (cell_at h.at_ rfl)
theorem RdA.ld1 (h : RdA w g sl b st pos) : Qload Tryd.prog 3 (.pointer (some ⟨g, 1, none⟩)) w = some (.int .i64 (pos : Int)) := Qload_cell one3 (cell_at h.at_ rfl)
theorem RdA.ld2 (h : RdA w g sl b st pos) : Qload Tryd.prog 4 (.pointer (some ⟨g, 2, none⟩)) w = some (.bool st.isNone) := Qload_cell one4 (cell_at h.at_ rfl)
theorem RdA.chg {S : Nat → Prop} {w' : World} (h : RdA w g sl b st pos) (hc : Chg S w w') (hg : ¬ S g) (hs : ∀ k, sl.ownBlock = some k → ¬ S k) : RdA w' g sl b st pos :=
  ⟨hc.at_ h.at_ hg, h.le, h.rest, h.view.chg hc hs, h.apart, h.ok, h.short⟩
theorem RdA.bel {w' : World} (h : RdA w g sl b st pos) (hb : Bel w w') : RdA w' g sl b st pos := h.chg (Chg.of_bel hb fun _ => False) (fun f => f) fun _ _ f => f
theorem inf3 : ∃ i, Tryd.prog.info? 3 = some i ∧ i.size = 1 := ⟨(Tryd.prog.info? 3).get (by kernel_rfl), by kernel_rfl, by kernel_rfl⟩
theorem rst2 {x y z : Value} (h : w.heap[g]? = some (.cells #[x, y, z] 59 (0, 0))) (c : Bool) : Xstore Tryd.prog 4 (.pointer (some ⟨g, 2, none⟩)) (.bool c) w = some (undef, w.setRow g #[x, y, .bool c]) := by
  obtain ⟨i, hi, hs⟩ := inf4
  rw [Xstore_row (v := .bool c) hi (by rw [hs]; rfl) h (by rw [hs]; exact Nat.le_of_ble_eq_true rfl) (by intro u hu; simp [Value.cells] at hu; subst hu; rfl), hs]
  rfl
theorem rst1 {x y z : Value} (h : w.heap[g]? = some (.cells #[x, y, z] 59 (0, 0))) (c : Int) : Xstore Tryd.prog 3 (.pointer (some ⟨g, 1, none⟩)) (.int .i64 c) w = some (undef, w.setRow g #[x, .int .i64 c, z]) := by
  obtain ⟨i, hi, hs⟩ := inf3
  rw [Xstore_row (v := .int .i64 c) hi (by rw [hs]; rfl) h (by rw [hs]; exact Nat.le_of_ble_eq_true rfl) (by intro u hu; simp [Value.cells] at hu; subst hu; rfl), hs]
  rfl
/-- The reader's block gets another content. -/
theorem RdA.put (h : RdA w g sl b st pos) {w' : World} {p : Nat} {st' : Option (List Int)} (hc : Chg (fun k => k = g) w w') (hat : w'.heap[g]? = some (.cells #[sl, .int .i64 (p : Int), .bool st'.isNone] 59 (0, 0))) (hp : p ≤ b.length) (hr : ∀ r, st' = some r → r = b.drop p) : RdP w' g sl b st' :=
  ⟨p, hat, hp, hr, h.view.chg hc (fun k hk e => h.apart (by rw [hk, e])), h.apart, h.ok, h.short⟩
end rd

theorem xmin {a c : Int} {w : World} : Xbi Tryd.prog .min #[3, 3] 3 #[.int .i64 a, .int .i64 c] w = some (.int .i64 (min a c), w) := by
  have h : (Builtin.min_ #[3, 3] 3 #[.int .i64 a, .int .i64 c]).run Tryd.prog w = .ok (.int .i64 (min a c)) w := by
    have e : (if c < a then c else a) = min a c := by split <;> omega
    simp [Builtin.min_, Builtin.min2, e]
  unfold Xbi
  simp only [builtin, Sem.run_bind, h, Result.andThen_ok]
  rfl

/-- A step of a reader. -/
def Stp (w : World) (g : Nat) (sl : Value) (b : List Int) (st' : Option (List Int)) (w' : World) : Prop := RdP w' g sl b st' ∧ Chg (fun k => k = g) w w'

theorem mapR_eq {l m s : List Int} (hm : okB m) (h : MapR l m) (hs : ∀ c ∈ s, c < 128) : (m = s) ↔ (l.map Ftp.up = s) := by
  rcases h with ⟨h1, h2⟩ | ⟨h1, h2⟩
  · constructor
    · intro e
      subst e
      obtain ⟨c, hc, h128⟩ := h2
      have := hs c hc
      omega
    · intro e
      obtain ⟨c, hc, h128⟩ := h1
      have : Ftp.up c ∈ l.map Ftp.up := List.mem_map_of_mem hc
      rw [e] at this
      have := hs _ this
      rw [up_hi h128] at this
      omega
  · rw [h2]

theorem k21 {w : World} {g : Nat} {sl : Value} {b s : List Int} {st : Option (List Int)} {pos : Nat} (h : RdA w g sl b st pos) (hT : Tab w) (hg8 : 8 ≤ g) (hs : okB s) (hs7 : ∀ c ∈ s, c < 128) (hsl : s.length ≤ 100) :
    Brings (Xcall Tryd.prog (Value.func (Fn.func 21) #[] #[]) #[.pointer (some ⟨g, 0, none⟩), .string (strOfNums s)] w) (fun r => r.1 = .bool (st.bind (Ftp.eatS s)).isSome ∧ Stp w g sl b (st.bind (Ftp.eatS s)) r.2) := by
  refine e21 ?_
  unfold s21
  generalize hwd : w.drew = wd
  have bd : Bel w wd := by rw [← hwd]; exact (Bel.refl w).drew
  have h1 := h.bel bd
  have hle := h.le
  have hsh := h.short
  simp only [go_sem, h1.ld0, h1.ld1, qlen_str, strOfNums_size, vlen h1.view]
  rw [wr (by omega) (by omega)]
  simp only [xmin, go_sem]
  obtain ⟨en, hen⟩ : ∃ en : Nat, min (((pos : Nat) : Int) + (s.length : Int)) (b.length : Int) = (en : Int) ∧ pos ≤ en ∧ en ≤ b.length ∧ en = min (pos + s.length) b.length := ⟨min (pos + s.length) b.length, by omega, by omega, by omega, rfl⟩
  obtain ⟨hen1, hen2, hen3, hen4⟩ := hen
  rw [hen1]
  generalize hwe : wd.drew = we
  have be : Bel wd we := by rw [← hwe]; exact (Bel.refl wd).drew
  have h2 := h1.bel be
  obtain ⟨v', e, hv, _⟩ := vcut h2.view (lo := pos) (hi := en) hen2 hen3 we
  have e : Qslice Tryd.prog 22 sl (some (.int .i64 ((pos : Nat) : Int))) (some (.int .i64 (en : Int))) none we = some v' := e
  simp only [go_sem, h2.ld0, h2.ld1, e, vstr hv]
  have hcut : okB ((b.take en).drop pos) := (h.ok.take _).drop _
  refine (k42 hcut (by rw [List.length_drop, List.length_take]; omega) ((hT.bel bd).bel be)).bind ?_
  rintro ⟨_, w3⟩ ⟨b3, m, he, hm, hmr⟩
  simp only at he b3
  subst he
  have h3 := h2.bel b3
  have hat3 := h3.at_
  have hat4 := fun c : Bool => setRow_heap w3 g _ #[sl, .int .i64 (pos : Int), .bool c] 59 _ hat3
  have hall : Chg (fun k => k = g) w w3 := Chg.of_bel ((bd.trans be).trans b3) _
  have fin : ∀ w4 : World, Chg (fun k => k = g) w w4 → ∀ (c : Bool) , Qload Tryd.prog 4 (.pointer (some ⟨g, 2, none⟩)) w4 = some (.bool c) → c = (st.bind (Ftp.eatS s)).isNone → RdP w4 g sl b (st.bind (Ftp.eatS s)) →
      Brings (s21M0 (.pointer (some ⟨g, 0, none⟩)) w4) (fun r => r.1 = .bool (st.bind (Ftp.eatS s)).isSome ∧ Stp w g sl b (st.bind (Ftp.eatS s)) r.2) := by
    intro w4 hc c hl hcc hp
    unfold s21M0
    simp only [go_sem, hl]
    refine .ret ⟨?_, hp, hc⟩
    rw [hcc]
    cases st.bind (Ftp.eatS s) <;> rfl
  cases hst : st with
  | none =>
    have hld2 := h3.ld2
    rw [hst] at hld2
    have hat3 := h3.at_
    simp only [go_sem, hld2, Option.isNone_none, rst2 hat3]
    have c4 := hall.trans (setRow_chg g #[sl, .int .i64 ((pos : Nat) : Int), .bool true]) fun _ _ e => e
    have hld4 : Qload Tryd.prog 4 (.pointer (some ⟨g, 2, none⟩)) (w3.setRow g #[sl, .int .i64 ((pos : Nat) : Int), .bool true]) = some (.bool true) := Qload_cell one4 (cell_at (hat4 true) rfl)
    simp only [hld4, go_sem, Bool.not_true]
    have := fin _ c4 true hld4 (by rw [hst]; rfl) (by rw [hst]; exact h.put c4 (hat4 true) h.le fun r e => by cases e)
    rw [hst] at this
    exact this
  | some r =>
    have hrest := h.rest r hst
    have hld2 := h3.ld2
    rw [hst] at hld2
    have hat3 := h3.at_
    simp only [go_sem, hld2, Option.isNone_some, str_eq hm hs]
    have hrl : r.length = b.length - pos := by rw [hrest, List.length_drop]
    have hslice : (b.take en).drop pos = r.take s.length := by
      rw [List.drop_take, ← hrest]
      by_cases c : pos + s.length ≤ b.length
      · rw [show en - pos = s.length by omega]
      · rw [List.take_of_length_le (by omega), List.take_of_length_le (by omega)]
    rw [hslice] at hmr
    have hmt : (m = s) ↔ (r.take s.length).map Ftp.up = s := mapR_eq hm hmr hs7
    rw [hst] at fin
    by_cases c : (r.take s.length).map Ftp.up = s
    · have heat : Ftp.eatS s r = some (r.drop s.length) := if_pos c
      have hen : en = pos + s.length := by
        have := congrArg List.length c
        rw [List.length_map, List.length_take] at this
        omega
      rw [decide_eq_true (hmt.2 c)]
      simp only [go_sem, Bool.not_true, rst2 hat3]
      have hld4 : Qload Tryd.prog 4 (.pointer (some ⟨g, 2, none⟩)) (w3.setRow g #[sl, .int .i64 ((pos : Nat) : Int), .bool false]) = some (.bool false) := Qload_cell one4 (cell_at (hat4 false) rfl)
      have hat5 := setRow_heap _ g _ #[sl, .int .i64 (en : Int), .bool false] 59 _ (hat4 false)
      simp only [hld4, go_sem, Bool.not_false, rst1 (hat4 false)]
      have c5 := (hall.trans (setRow_chg g #[sl, .int .i64 ((pos : Nat) : Int), .bool false]) fun _ _ e => e).trans (setRow_chg g #[sl, .int .i64 (en : Int), .bool false]) fun _ _ e => e
      have hres : (some r).bind (Ftp.eatS s) = some (r.drop s.length) := heat
      rw [hres] at fin
      rw [heat]
      refine fin _ c5 false (Qload_cell one4 (cell_at hat5 rfl)) rfl (h.put c5 hat5 hen3 fun q e => ?_)
      obtain rfl := Option.some.inj e
      rw [hrest, List.drop_drop, hen]
    · have heat : Ftp.eatS s r = none := if_neg c
      rw [decide_eq_false (fun e => c (hmt.1 e))]
      simp only [go_sem, Bool.not_false, rst2 hat3]
      have hld4 : Qload Tryd.prog 4 (.pointer (some ⟨g, 2, none⟩)) (w3.setRow g #[sl, .int .i64 ((pos : Nat) : Int), .bool true]) = some (.bool true) := Qload_cell one4 (cell_at (hat4 true) rfl)
      simp only [hld4, go_sem, Bool.not_true]
      have c4 := hall.trans (setRow_chg g #[sl, .int .i64 ((pos : Nat) : Int), .bool true]) fun _ _ e => e
      have hres : (some r).bind (Ftp.eatS s) = none := heat
      rw [hres] at fin
      rw [heat]
      exact fin _ c4 true hld4 rfl (h.put c4 (hat4 true) h.le fun q e => by cases e)

/-- A number between two. -/
def numL (least most : Int) (r : List Int) : Option (Int × List Int) := (Ftp.numS most r).bind fun y => if y.1 < least then none else some y

end Go.Proofs.YtphokckbcmiddaaDoor

/- The reader: a number; numbers; a place. -/
namespace Go.Proofs.YtphokckbcmiddaaDoor
open Go Go.Ev Go.RowKit
open Go.Proofs

theorem take_dig {r : List Int} {i : Nat} (h1 : ∀ c ∈ r.take i, Ftp.dig c = true) (h2 : ∀ c, r[i]? = some c → Ftp.dig c = false) (hi : i ≤ r.length) : r.takeWhile Ftp.dig = r.take i ∧ r.dropWhile Ftp.dig = r.drop i := by
  have := Ftp.takeWhile_app (p := Ftp.dig) (l := r.take i) (m := r.drop i) h1 (fun c hc => by
    rw [List.head?_drop] at hc
    exact h2 c hc)
  rw [List.take_append_drop] at this
  exact this

theorem val_big {ds : List Int} (hd : ∀ c ∈ ds, Ftp.dig c = true) (h19 : 19 ≤ ds.length) (hz : ds.head? ≠ some 48) : 65535 < Ftp.val ds := by
  rcases Int.lt_or_le 65535 (Ftp.val ds) with h | h
  · exact h
  · exfalso
    have hne : ds ≠ [] := by intro e; subst e; simp at h19
    have hc := Ftp.canon _ rfl hne hd (fun _ => hz)
    have h0 := Ftp.val_nonneg hd
    have := Ftp.digs_len 4 (Ftp.val ds).toNat (by omega)
    rw [← hc] at this
    omega

/-- What a reader's number hands back. -/
def numV (o : Option (Int × List Int)) : Int := match o with | some y => y.1 | none => 0

theorem k24 {w : World} {g : Nat} {sl : Value} {b : List Int} {st : Option (List Int)} {pos : Nat} {least most : Int} (h : RdA w g sl b st pos) (hT : Tab w) (hm : most ≤ 65535) :
    Brings (Xcall Tryd.prog (Value.func (Fn.func 24) #[] #[]) #[.pointer (some ⟨g, 0, none⟩), .int .i64 least, .int .i64 most] w) (fun r => r.1 = .int .i64 (numV (st.bind (numL least most))) ∧ Stp w g sl b ((st.bind (numL least most)).map (·.2)) r.2) := by
  refine e24 ?_
  unfold s24
  generalize hwd : w.drew = wd
  have bd : Bel w wd := by rw [← hwd]; exact (Bel.refl w).drew
  have h1 := h.bel bd
  have hle := h.le
  have hsh := h.short
  obtain ⟨v', e, hv, _⟩ := vlo h1.view (lo := pos) hle wd
  have hrl : (b.drop pos).length = b.length - pos := List.length_drop ..
  have hok := h.ok.drop pos
  generalize hrr : b.drop pos = rest at hv hrl hok
  simp only [go_sem, h1.ld0, h1.ld1, e]
  refine Brings.loop (fun n xs w' => ∃ i : Nat, xs = [.pointer (some ⟨g, 0, none⟩), .int .i64 least, .int .i64 most, v', .int .i64 (i : Int)] ∧ i ≤ rest.length ∧ n = rest.length - i ∧ w' = wd ∧ ∀ c ∈ rest.take i, Ftp.dig c = true) ?_ rest.length _ _ ⟨0, rfl, Nat.zero_le _, rfl, rfl, fun c hc => by simp at hc⟩
  rintro n xs w' ⟨i, rfl, hi, rfl, rfl, hdg⟩
  simp only [s24B0, go_sem, vlen hv]
  -- the end of the digits
  have stop : (∀ c, rest[i]? = some c → Ftp.dig c = false) → Brings (s24R0 (.exit 0) [.pointer (some ⟨g, 0, none⟩), .int .i64 least, .int .i64 most, v', .int .i64 (i : Int)] w') (fun r => r.1 = .int .i64 (numV (st.bind (numL least most))) ∧ Stp w g sl b ((st.bind (numL least most)).map (·.2)) r.2) := by
    intro hstop
    simp only [s24R0]
    obtain ⟨tw, dw⟩ := take_dig hdg hstop hi
    obtain ⟨v2, e2, hv2, _⟩ := vhi hv hi w'
    simp only [e2, go_sem, vstr hv2]
    refine (k44 hdg (by rw [List.length_take]; omega) (hT.bel bd)).bind ?_
    rintro ⟨_, w3⟩ ⟨b3, v, err, he, hv3⟩
    simp only at he b3
    subst he
    have h3 := h1.bel b3
    have hat4 := fun c : Bool => setRow_heap w3 g _ #[sl, .int .i64 (pos : Int), .bool c] 59 _ h3.at_
    have hall : Chg (fun k => k = g) w w3 := Chg.of_bel (bd.trans b3) _
    have c4 := fun c : Bool => hall.trans (setRow_chg g #[sl, .int .i64 ((pos : Nat) : Int), .bool c]) fun _ _ e => e
    have ld4 := fun c : Bool => (Qload_cell one4 (cell_at (hat4 c) rfl) : Qload Tryd.prog 4 (.pointer (some ⟨g, 2, none⟩)) (w3.setRow g #[sl, .int .i64 ((pos : Nat) : Int), .bool c]) = some (.bool c))
    have ld3 := fun c : Bool => (Qload_cell one3 (cell_at (hat4 c) rfl) : Qload Tryd.prog 3 (.pointer (some ⟨g, 1, none⟩)) (w3.setRow g #[sl, .int .i64 ((pos : Nat) : Int), .bool c]) = some (.int .i64 (pos : Int)))
    have isbad : ∀ o : Option (Int × List Int), o = none → Stp w g sl b (o.map (·.2)) (w3.setRow g #[sl, .int .i64 ((pos : Nat) : Int), .bool true]) := by
      rintro o rfl
      exact ⟨h.put (c4 true) (hat4 true) h.le (fun r e => (by cases e)), c4 true⟩
    cases hst : st with
    | none =>
      have hld2 := h3.ld2
      rw [hst] at hld2
      have hat3 := h3.at_
      simp only [go_sem, hld2, Option.isNone_none, rst2 hat3, ld4]
      exact .ret ⟨rfl, isbad _ rfl⟩
    | some r =>
      have hrest := h.rest r hst
      rw [hrr] at hrest
      subst hrest
      have hld2 := h3.ld2
      rw [hst] at hld2
      have hat3 := h3.at_
      simp only [go_sem, hld2, Option.isNone_some]
      rcases hv3 with ⟨rfl, rfl, hne⟩ | ⟨⟨t, p, rfl⟩, hlen⟩
      · simp only [qn_n, go_sem]
        have hv3 := hv.bel b3
        by_cases c1 : Ftp.val (r.take i) < least
        · rw [decide_eq_true c1]
          simp only [go_sem, rst2 hat3, ld4]
          have hnone : numL least most r = none := by
            unfold numL Ftp.numS
            rw [tw, dw]
            split
            · rfl
            · simp only [Option.bind_some, if_pos c1]
          rw [hnone]
          exact .ret ⟨rfl, isbad _ rfl⟩
        rw [decide_eq_false c1]
        simp only [go_sem]
        by_cases c2 : most < Ftp.val (r.take i)
        · rw [decide_eq_true c2]
          simp only [go_sem, rst2 hat3, ld4]
          have hnone : numL least most r = none := by
            unfold numL Ftp.numS
            rw [tw, dw, if_pos (.inr (.inl c2))]
            rfl
          rw [hnone]
          exact .ret ⟨rfl, isbad _ rfl⟩
        rw [decide_eq_false c2]
        simp only [go_sem]
        have hi0 : 0 < i := by
          rcases Nat.eq_zero_or_pos i with e0 | e0
          · subst e0; simp at hne
          · exact e0
        have htl : (r.take i).length = i := by rw [List.length_take]; omega
        -- all that fits
        have good : ¬ (1 < i ∧ r.head? = some 48) → Brings (condK (.bool false) (some (Value.int .i64 0, w3.setRow g #[sl, .int .i64 ((pos : Nat) : Int), .bool false])) ((Qload Tryd.prog 3 (.pointer (some ⟨g, 1, none⟩)) (w3.setRow g #[sl, .int .i64 ((pos : Nat) : Int), .bool false])).bind fun v => (Qbin Tryd.prog .add 3 v (.int .i64 (i : Int))).bind fun v2 =>
            (Xstore Tryd.prog 3 (.pointer (some ⟨g, 1, none⟩)) v2 (w3.setRow g #[sl, .int .i64 ((pos : Nat) : Int), .bool false])).bind fun r2 => some (Value.int .i64 (Ftp.val (r.take i)), r2.2))) (fun x => x.1 = .int .i64 (numV (numL least most r)) ∧ Stp w g sl b ((numL least most r).map (·.2)) x.2) := by
          intro hz
          have hsome : numL least most r = some (Ftp.val (r.take i), r.drop i) := by
            unfold numL Ftp.numS
            rw [tw, dw, if_neg]
            · simp only [Option.bind_some, if_neg c1]
            · rintro (h | h | ⟨h, h'⟩)
              · exact hne h
              · exact c2 h
              · rw [htl] at h; exact hz ⟨h, h'⟩
          rw [hsome]
          simp only [go_sem, ld3]
          rw [wr (by omega) (by omega), show (pos : Int) + (i : Int) = ((pos + i : Nat) : Int) by omega, rst1 (hat4 false)]
          have hat5 := setRow_heap _ g _ #[sl, .int .i64 ((pos + i : Nat) : Int), .bool false] 59 _ (hat4 false)
          have c5 := (c4 false).trans (setRow_chg g #[sl, .int .i64 ((pos + i : Nat) : Int), .bool false]) fun _ _ e => e
          refine .ret ⟨rfl, h.put c5 hat5 (by omega) (fun q e => ?_), c5⟩
          obtain rfl := Option.some.inj e
          rw [← hrr, List.drop_drop]
        by_cases c3 : 1 < i
        · obtain ⟨x, a, hx, hix, hldx⟩ := vget hv3 (j := 0) (by omega)
          simp only [Int.natCast_zero] at hix
          rw [decide_eq_true (by omega)]
          simp only [go_sem, hix, hldx]
          have hhead : r.head? = some x := by rw [← hx]; exact List.head?_eq_getElem?
          by_cases c4' : x = 48
          · rw [show (x == 48) = true by simpa using c4']
            simp only [go_sem, rst2 hat3, ld4]
            have hnone : numL least most r = none := by
              unfold numL Ftp.numS
              rw [tw, dw, if_pos (.inr (.inr ⟨by rw [htl]; exact c3, by rw [hhead, c4']⟩))]
              rfl
            rw [hnone]
            exact .ret ⟨rfl, isbad _ rfl⟩
          · rw [show (x == 48) = false by simpa using c4']
            simp only [go_sem, rst2 hat3, ld4]
            have := good (by rintro ⟨_, hh⟩; rw [hhead] at hh; exact c4' (Option.some.inj hh))
            simpa only [go_sem] using this
        · rw [decide_eq_false (by omega)]
          simp only [go_sem, rst2 hat3, ld4]
          have := good (fun hh => c3 hh.1)
          simpa only [go_sem] using this
      · simp only [qn_i, go_sem, rst2 hat3, ld4]
        have hnone : numL least most r = none := by
          unfold numL Ftp.numS
          rw [tw, dw]
          rw [if_pos]
          · rfl
          · rcases hlen with h0 | h19
            · exact .inl (List.length_eq_zero_iff.1 h0)
            · right
              by_cases hz : (r.take i).head? = some 48
              · refine .inr ⟨by omega, ?_⟩
                rw [List.length_take] at h19
                rw [List.head?_take] at hz
                split at hz
                · cases hz
                · exact hz
              · exact .inl (by have := val_big hdg h19 hz; omega)
        rw [hnone]
        exact .ret ⟨rfl, isbad _ rfl⟩
  by_cases hlt : i < rest.length
  · rw [decide_eq_true (by omega)]
    obtain ⟨y, a, hy, hiy, hld⟩ := vget hv hlt
    simp only [go_sem, hiy, hld]
    have retS : Ftp.dig y = false → Brings (some (Exit.exit 0, [Value.pointer (some ⟨g, 0, none⟩), .int .i64 least, .int .i64 most, v', .int .i64 (i : Int)], w')) fun r => (r.1 = .normal ∧ ∃ m, m < rest.length - i ∧ ∃ i : Nat, r.2.1 = [.pointer (some ⟨g, 0, none⟩), .int .i64 least, .int .i64 most, v', .int .i64 (i : Int)] ∧ i ≤ rest.length ∧ m = rest.length - i ∧ r.2.2 = w' ∧ ∀ c ∈ rest.take i, Ftp.dig c = true) ∨ (r.1 ≠ .normal ∧ Brings (s24R0 r.1 r.2.1 r.2.2) (fun r => r.1 = .int .i64 (numV (st.bind (numL least most))) ∧ Stp w g sl b ((st.bind (numL least most)).map (·.2)) r.2)) := by
      intro hd
      exact .ret (.inr ⟨by simp, stop fun c hc => by rw [hy] at hc; obtain rfl := Option.some.inj hc; exact hd⟩)
    by_cases c1 : 48 ≤ y
    · rw [decide_eq_true c1]
      simp only [go_sem, hiy, hld]
      by_cases c2 : y ≤ 57
      · rw [decide_eq_true c2]
        simp only [go_sem]
        rw [wr (by omega) (by omega)]
        refine .ret (.inl ⟨rfl, rest.length - (i + 1), by omega, i + 1, rfl, by omega, rfl, rfl, fun c hc => ?_⟩)
        rw [List.take_add_one, hy] at hc
        rcases List.mem_append.1 hc with hc | hc
        · exact hdg c hc
        · simp at hc; subst hc; exact Ftp.dig_iff.2 ⟨c1, c2⟩
      · rw [decide_eq_false c2]
        simp only [go_sem]
        exact retS (by simp [Ftp.dig, c2])
    · rw [decide_eq_false c1]
      simp only [go_sem]
      exact retS (by simp [Ftp.dig, c1])
  · rw [decide_eq_false (by omega)]
    simp only [go_sem]
    exact .ret (.inr ⟨by simp, stop fun c hc => by rw [List.getElem?_eq_none (by omega)] at hc; cases hc⟩)

end Go.Proofs.YtphokckbcmiddaaDoor

/- The reader: numbers of a byte each; a place. -/
namespace Go.Proofs.YtphokckbcmiddaaDoor
open Go Go.Ev Go.RowKit
open Go.Proofs

theorem numL_0 (most : Int) (r : List Int) : numL 0 most r = Ftp.numS most r := by
  unfold numL
  cases h : Ftp.numS most r with
  | none => rfl
  | some y =>
    obtain ⟨n, r'⟩ := y
    have := (Ftp.numS_iff.1 h).1
    simp only [Option.bind_some]
    rw [if_neg (by omega)]

def valB (l : List Int) : Int := l.foldl (fun a c => a * 256 + c) 0
theorem valB_app (l : List Int) (n : Int) : valB (l ++ [n]) = valB l * 256 + n := by simp [valB, List.foldl_append]
theorem valB_bd : ∀ (l : List Int), Ftp.byt l → l.length ≤ 7 → 0 ≤ valB l ∧ valB l < 256 ^ l.length := by
  intro l
  generalize hk : l.length = k
  induction k generalizing l with
  | zero =>
    intro _ _
    have : l = [] := List.length_eq_zero_iff.1 hk
    subst this; decide
  | succ k ih =>
    intro hb h7
    have hne : l ≠ [] := by intro e; subst e; simp at hk
    obtain ⟨m, c, rfl⟩ : ∃ m c, l = m ++ [c] := ⟨l.dropLast, l.getLast hne, (List.dropLast_concat_getLast hne).symm⟩
    have hc := hb c (by simp)
    have := ih m (by simpa using hk) (fun x hx => hb x (by simp [hx])) (by omega)
    rw [valB_app, Int.pow_succ]
    omega

theorem conv363' {n : Int} (h : 0 ≤ n ∧ n ≤ 65535) : Qconv Tryd.prog 3 63 (.int .i64 n) = some (.int .u64 n) := by
  rw [Qconv_int (k := .u64) (by kernel_rfl), wrap_u64 h.1 (by omega)]
theorem wrap_u64r (n : Int) : 0 ≤ IntKind.u64.wrap n ∧ IntKind.u64.wrap n < 18446744073709551616 := by
  simp only [IntKind.wrap, IntKind.bits, IntKind.signed]
  simp
  omega
theorem ior_64 {a b : Int} (ha : 0 ≤ a ∧ a * 256 < 18446744073709551616) (hb : 0 ≤ b ∧ b < 256) : ior .u64 (a * 256) b = a * 256 + b := by
  obtain ⟨x, rfl⟩ := Int.eq_ofNat_of_zero_le ha.1
  obtain ⟨y, rfl⟩ := Int.eq_ofNat_of_zero_le hb.1
  rw [show ((x : Int) * 256) = ((x * 256 : Nat) : Int) by simp, ior_u rfl (show x * 256 < 18446744073709551616 by omega) (show y < 18446744073709551616 by omega)]
  have := or_add (a := x) (b := y) (n := 8) (by omega)
  rw [show (2 : Nat) ^ 8 = 256 from rfl] at this
  rw [this]
  simp

theorem numV_bd {most : Int} (hm : 0 ≤ most) (o : Option (List Int)) : 0 ≤ numV (o.bind (numL 0 most)) ∧ numV (o.bind (numL 0 most)) ≤ most := by
  cases o with
  | none => exact ⟨Int.le_refl 0, hm⟩
  | some r =>
    simp only [Option.bind_some, numL_0]
    cases h : Ftp.numS most r with
    | none => exact ⟨Int.le_refl 0, hm⟩
    | some y =>
      obtain ⟨n, r'⟩ := y
      have := Ftp.numS_iff.1 h
      exact ⟨this.1, this.2.1⟩

theorem k23 {w : World} {g : Nat} {sl : Value} {b : List Int} {st : Option (List Int)} {sep : Int} {many : Nat} (h : RdP w g sl b st) (hT : Tab w) (hg8 : 8 ≤ g) (hs0 : 0 ≤ sep) (hs : sep < 48) (h7 : many ≤ 6) :
    Brings (Xcall Tryd.prog (Value.func (Fn.func 23) #[] #[]) #[.pointer (some ⟨g, 0, none⟩), .int .i64 (many : Int), .string (strOfNums [sep])] w)
      (fun r => (∃ v, r.1 = .int .u64 v ∧ 0 ≤ v ∧ v < 18446744073709551616 ∧ ∀ x, st.bind (Ftp.accS sep many) = some x → v = valB x.1) ∧ Stp w g sl b ((st.bind (Ftp.accS sep many)).map (·.2)) r.2) := by
  refine e23 ?_
  unfold s23
  refine Brings.loop (fun n xs w' => ∃ (i : Nat) (v : Int), xs = [.pointer (some ⟨g, 0, none⟩), .string (strOfNums [sep]), .int .u64 v, .int .i64 (many : Int), .int .i64 (i : Int)] ∧ i ≤ many ∧ n = many - i ∧ 0 ≤ v ∧ v < 18446744073709551616 ∧ (∀ x, st.bind (Ftp.accS sep i) = some x → v = valB x.1) ∧ Stp w g sl b ((st.bind (Ftp.accS sep i)).map (·.2)) w') ?_ many _ _
    ⟨0, 0, rfl, Nat.zero_le _, rfl, Int.le_refl 0, (by decide), (fun x hx => by
      cases st with
      | none => cases hx
      | some r => obtain rfl := Option.some.inj hx; rfl), (by
      have : (st.bind (Ftp.accS sep 0)).map (·.2) = st := by cases st <;> rfl
      rw [this]
      exact ⟨h, Chg.refl _ _⟩)⟩
  rintro n xs w' ⟨i, v, rfl, hi, rfl, hv0, hv1, hval, ⟨pos, hp⟩, hc⟩
  have hT' : Tab w' := hT.chg hc fun k hk e => by omega
  simp only [s23B0, go_sem]
  by_cases hlt : i < many
  rotate_left
  · rw [decide_eq_false (by omega)]
    simp only [go_sem]
    refine .ret (.inr ⟨by simp, ?_⟩)
    simp only [s23R0]
    have e : i = many := by omega
    subst e
    exact .ret ⟨⟨v, rfl, hv0, hv1, hval⟩, ⟨pos, hp⟩, hc⟩
  rw [decide_eq_true (by omega)]
  simp only [go_sem]
  -- the number, and what is made of it
  have num : ∀ (st1 : Option (List Int)) (w1 : World), st1 = (st.bind (Ftp.accS sep i)).bind (fun x => if 0 < i then Ftp.eatS [sep] x.2 else some x.2) → RdP w1 g sl b st1 → Chg (fun k => k = g) w w1 →
      Brings (s23M1 (.pointer (some ⟨g, 0, none⟩)) (.string (strOfNums [sep])) (.int .u64 v) (.int .i64 (many : Int)) (.int .i64 (i : Int)) w1) fun r => (r.1 = .normal ∧ ∃ m, m < many - i ∧ ∃ (i : Nat) (v : Int), r.2.1 = [.pointer (some ⟨g, 0, none⟩), .string (strOfNums [sep]), .int .u64 v, .int .i64 (many : Int), .int .i64 (i : Int)] ∧ i ≤ many ∧ m = many - i ∧ 0 ≤ v ∧ v < 18446744073709551616 ∧ (∀ x, st.bind (Ftp.accS sep i) = some x → v = valB x.1) ∧ Stp w g sl b ((st.bind (Ftp.accS sep i)).map (·.2)) r.2.2) ∨
        (r.1 ≠ .normal ∧ Brings (s23R0 r.1 r.2.1 r.2.2) (fun r => (∃ v, r.1 = .int .u64 v ∧ 0 ≤ v ∧ v < 18446744073709551616 ∧ ∀ x, st.bind (Ftp.accS sep many) = some x → v = valB x.1) ∧ Stp w g sl b ((st.bind (Ftp.accS sep many)).map (·.2)) r.2)) := by
    rintro st1 w1 hst1 ⟨p1, h1⟩ hc1
    have hT1 : Tab w1 := hT.chg hc1 fun k hk e => by omega
    unfold s23M1
    simp only [go_sem, Int.reduceLE]
    refine (k24 (least := 0) (most := 255) h1 hT1 (by decide)).bind ?_
    rintro ⟨_, w2⟩ ⟨he, hp2, hc2⟩
    simp only at he hp2 hc2
    subst he
    have hnb := numV_bd (most := 255) (by decide) st1
    simp only [go_sem, conv363' (show 0 ≤ numV (st1.bind (numL 0 255)) ∧ numV (st1.bind (numL 0 255)) ≤ 65535 by omega)]
    rw [wr (by omega) (by omega)]
    have hacc : st.bind (Ftp.accS sep (i + 1)) = (st.bind (Ftp.accS sep i)).bind fun x => ((if 0 < i then Ftp.eatS [sep] x.2 else some x.2).bind fun r1 => (Ftp.numS 255 r1).bind fun y => some (x.1 ++ [y.1], y.2)) := by
      cases st <;> rfl
    have hrest : (st.bind (Ftp.accS sep (i + 1))).map (·.2) = (st1.bind (numL 0 255)).map (·.2) := by
      rw [hacc, hst1]
      cases st.bind (Ftp.accS sep i) with
      | none => rfl
      | some x =>
        simp only [Option.bind_some]
        cases (if 0 < i then Ftp.eatS [sep] x.2 else some x.2) with
        | none => rfl
        | some r1 =>
          simp only [Option.bind_some, numL_0]
          cases Ftp.numS 255 r1 <;> rfl
    refine .ret (.inl ⟨rfl, many - (i + 1), by omega, i + 1, _, rfl, by omega, rfl, (wrap_u64r _).1, (wrap_u64r _).2, fun x hx => ?_, by rw [hrest]; exact hp2, hc1.trans hc2 fun _ _ e => e⟩)
    rw [hacc] at hx
    obtain ⟨x0, h0, hx⟩ := Option.bind_eq_some_iff.1 hx
    obtain ⟨r1, hr1, hx⟩ := Option.bind_eq_some_iff.1 hx
    obtain ⟨y, hy, hx⟩ := Option.bind_eq_some_iff.1 hx
    obtain rfl := Option.some.inj hx
    have hv := hval x0 h0
    have hst1' : st1 = some r1 := by rw [hst1, h0]; exact hr1
    have hnum : numV (st1.bind (numL 0 255)) = y.1 := by
      rw [hst1', Option.bind_some, numL_0, hy]; rfl
    obtain ⟨l0, rr0⟩ := x0
    have hl0 : Ftp.accS sep i = Ftp.accS sep i := rfl
    cases hst : st with
    | none => rw [hst] at h0; cases h0
    | some r0 =>
      rw [hst] at h0
      have hfacts := (Ftp.accS_iff hs).1 h0
      have hb := valB_bd l0 hfacts.2.1 (by omega)
      have hle : (256 : Int) ^ l0.length ≤ 256 ^ 5 := by
        have : l0.length ≤ 5 := by omega
        have h2 := Nat.pow_le_pow_right (n := 256) (by decide) this
        have e1 : ((256 ^ l0.length : Nat) : Int) = (256 : Int) ^ l0.length := by simp
        rw [← e1]
        exact Int.ofNat_le.2 h2
      have e5 : (256 : Int) ^ 5 = 1099511627776 := by decide
      rw [e5] at hle
      simp only at hv
      rw [hnum] at hnb ⊢
      rw [valB_app, hv]
      rw [show (2 : Int) ^ min (Int.toNat 8) 64 = 256 by decide, wrap_u64 (by omega) (by omega), ior_64 ⟨hb.1, by omega⟩ (by omega)]
  by_cases c0 : 0 < i
  · rw [decide_eq_true (by omega)]
    simp only [go_sem]
    refine (k21 hp hT' hg8 (s := [sep]) (by intro c hc; simp at hc; omega) (by intro c hc; simp at hc; omega) (by simp)).bind ?_
    rintro ⟨_, w2⟩ ⟨_, hp2, hc2⟩
    refine num _ w2 ?_ hp2 (hc.trans hc2 fun _ _ e => e)
    cases st.bind (Ftp.accS sep i) with
    | none => rfl
    | some x => simp only [Option.map_some, Option.bind_some, if_pos c0]
  · rw [decide_eq_false (by omega)]
    simp only [go_sem]
    refine num _ w' ?_ ⟨pos, hp⟩ hc
    cases st.bind (Ftp.accS sep i) with
    | none => rfl
    | some x => simp only [Option.map_some, Option.bind_some, if_neg c0]

end Go.Proofs.YtphokckbcmiddaaDoor
