/- The law of lines. -/
import Derived.Test.YtphokckbcmiddaaDoorMFtU15
namespace Go.Proofs.YtphokckbcmiddaaDoor
open Go Go.Ev Go.RowKit
open Go.Proofs

theorem neq24 (a b : Int) : Qbin Tryd.prog .neq 24 (.int .u32 a) (.int .u32 b) = some (.bool (a != b)) := by simp only [go_sem]
theorem eW0 : ({ data := #[] } : ByteArray) = strOfNums [] := rfl
theorem repl_okA {l m : List Int} {a b : Int} (hl : okB l) (hm : okB m) : okB (Ftp.replS l a b m) := by
  unfold Ftp.replS
  split
  · exact hl
  · exact okB_app (okB_app (fun c hc => hl c (List.mem_of_mem_take hc)) hm) (fun c hc => hl c (List.mem_of_mem_drop hc))
theorem repl_lenA {l m : List Int} {a b : Int} : (Ftp.replS l a b m).length ≤ l.length + m.length + l.length := by
  unfold Ftp.replS
  split
  · omega
  · rw [List.length_append, List.length_append, List.length_take, List.length_drop]
    omega
theorem text_pos {k a p : Int} (hk : k = 1 ∨ k = 2) : 1 ≤ (Ftp.textS k a p).length := by
  unfold Ftp.textS
  rcases hk with rfl | rfl
  · rw [if_pos (.inl rfl)]
    simp [Ftp.fourS, Ftp.joinD]
    omega
  · rw [if_neg (by decide), if_pos rfl]
    simp

theorem findKg {β : Type} {w : World} {s : Value} {l : List Int} {back : Bool} (hs : Vw w s l) (hl : okB l) (hT : Tab w) {K : Value → Value × World → Value × World → Option β} {Q : β → Prop}
    (h : ∀ g w3 w', Bel w w' → CellsAt (ff (Ftp.findS l back)).cs w' g 0 → w.heap.size ≤ g → g < w'.heap.size → Brings (K (.bool (Ftp.findS l back).isSome) (.pointer (some ⟨g, 0, none⟩), w3) (undef, w')) Q) :
    Brings ((Xcall Tryd.prog (Value.func (Fn.func 10) #[] #[]) #[s, .bool back] w).bind fun r1 => (Qext r1.1 0).bind fun v2 => (Qext r1.1 1).bind fun v3 => (Xalloc Tryd.prog 27 r1.2).bind fun r4 => (Xstore Tryd.prog 27 r4.1 v2 r4.2).bind fun r5 => K v3 r4 r5) Q := by
  refine (k10 hs hl hT).bind ?_
  rintro ⟨_, w1⟩ ⟨rfl, b1⟩
  have e : resV ((Ftp.findS l back).map ofFd) = .tuple #[(ff (Ftp.findS l back)).v, .bool (Ftp.findS l back).isSome] := by
    unfold ff
    cases Ftp.findS l back <;> rfl
  rw [e]
  simp only [go_sem]
  rw [alloc27, Option.bind_some, put27, Option.bind_some]
  refine h _ _ _ (b1.trans (local_bel _ _ _)) (local_at _ _ _ _) b1.size ?_
  simp [World.setRow]

set_option maxRecDepth 100000 in
theorem body9 {w : World} (hT : Tab w) {ga gp : Nat} {a0 a1 p0 p1 first k : Int} (hk : k = 1 ∨ k = 2) (ha : CellsAt [.int .u32 a0, .int .u32 a1] w ga 0) (hp : CellsAt [.int .u16 p0, .int .u16 p1] w gp 0)
    (ha0 : 0 ≤ a0 ∧ a0 < 4294967296) (ha1 : 0 ≤ a1 ∧ a1 < 4294967296) (hp0 : 0 < p0 ∧ p0 ≤ 65535) (hp1 : 0 < p1 ∧ p1 ≤ 65535) (hf : 0 ≤ first ∧ first < 4294967296) :
    Brings (s9B0 [.int .u32 first, .pointer (some ⟨ga, 0, none⟩), .pointer (some ⟨gp, 0, none⟩), .bool false, .int .i64 k] w) (fun r => r.1 = .normal ∧ r.2.1 = [.int .u32 first, .pointer (some ⟨ga, 0, none⟩), .pointer (some ⟨gp, 0, none⟩), .bool false, .int .i64 (k + 1)] ∧ Bel w r.2.2) := by
  obtain ⟨pre, hpre, hpl, hpo, hup, hwd⟩ : ∃ pre : List Int, pre.length = 5 ∧ (∀ x ∈ pre, 0 ≤ x ∧ x ≤ 255) ∧ okB pre ∧ Ftp.Ahead k false pre ∧
      (∀ w2, ∃ s w3, XbuildSlice Tryd.prog 46 3 #[(0, .string { data := #[] }), (1, .string { data := #[80, 79, 82, 84, 32] }), (2, .string { data := #[69, 80, 82, 84, 32] })] w2 = some (s, w3) ∧ Bel w2 w3 ∧ ∃ q, QindexAddr Tryd.prog 46 s (.int .i64 k) w3 = some (.pointer (some q)) ∧ Qload Tryd.prog 9 (.pointer (some q)) w3 = some (.string (strOfNums pre))) := by
    have mk : ∀ (pre : List Int) (j : Nat) (B : ByteArray), j < 3 → k = (j : Int) → B = strOfNums pre → (∀ w2 : World, (#[Value.string { data := #[] }, .string { data := #[80, 79, 82, 84, 32] }, .string { data := #[69, 80, 82, 84, 32] }] : Array Value)[j]? = some (.string B)) →
        ∀ w2, ∃ s w3, XbuildSlice Tryd.prog 46 3 #[(0, .string { data := #[] }), (1, .string { data := #[80, 79, 82, 84, 32] }), (2, .string { data := #[69, 80, 82, 84, 32] })] w2 = some (s, w3) ∧ Bel w2 w3 ∧ ∃ q, QindexAddr Tryd.prog 46 s (.int .i64 k) w3 = some (.pointer (some q)) ∧ Qload Tryd.prog 9 (.pointer (some q)) w3 = some (.string (strOfNums pre)) := by
      intro pre j B hj hkj hB hc w2
      refine ⟨_, _, lit46w _ _ _ w2, (Bel.refl w2).alloc _, ⟨w2.heap.size, j, none⟩, ?_, ?_⟩
      · obtain ⟨i, hi, _, hs, _⟩ := inf9
        rw [hkj, QindexAddr_slice und46 hi (by omega) (by omega), hs]
        unfold Addr.add
        by_cases h : j = 0 <;> simp [h]
      · refine Qload_cell one9 ?_
        rw [World.cell?_alloc_mark, ← hB]
        exact hc w2
    rcases hk with rfl | rfl
    · exact ⟨Ftp.sPORT, rfl, by decide, okB_of rfl, .inl ⟨rfl, rfl, by decide⟩, mk _ 1 _ (by decide) rfl eA1 (fun _ => rfl)⟩
    · exact ⟨Ftp.sEPRT, rfl, by decide, okB_of rfl, .inr (.inl ⟨rfl, rfl, by decide⟩), mk _ 2 _ (by decide) rfl eA2 (fun _ => rfl)⟩
  unfold s9B0
  simp only [go_sem]
  rw [decide_eq_true (by omega)]
  simp only [go_sem]
  obtain ⟨sw, w1, e1, b1, q1, eq1, el1⟩ := hwd w
  rw [e1]
  have A1 := arr32 (ha.bel b1)
  have P1 := arr16 (hp.bel b1)
  simp only [go_sem, eq1, el1, A1.1, A1.2.2.1, P1.1, P1.2.2.1]
  refine (k13 (hT.bel b1) (k := k) ha0.1 ha0.2 (by omega) hp0.2).bind ?_
  rintro ⟨v2, w2⟩ ⟨b2, hv2, _⟩
  simp only at b2 hv2
  have b12 := b1.trans b2
  have t1 := Ftp.text_len (k := k) ha0.1 ha0.2 (show 0 ≤ p0 by omega) hp0.2
  have t1p := text_pos (a := a0) (p := p0) hk
  have t2 := Ftp.text_len (k := k) ha1.1 ha1.2 (show 0 ≤ p1 by omega) hp1.2
  have t2p := text_pos (a := a1) (p := p1) hk
  simp only [vstr hv2, go_sem]
  rw [sadd (by omega), Option.bind_some, eB1, sadd (by rw [List.length_append]; simp; omega), Option.bind_some]
  have ok1 : okB (pre ++ Ftp.textS k a0 p0 ++ [13, 10]) := okB_app (okB_app hpo text_ok) (okB_of rfl)
  have len1 : (pre ++ Ftp.textS k a0 p0 ++ [13, 10]).length = (Ftp.textS k a0 p0).length + 7 := by rw [List.length_append, List.length_append, hpre]; simp; omega
  have hf1 := Ftp.find_made (l := pre ++ Ftp.textS k a0 p0 ++ [13, 10]) (back := false) rfl hup (.inl ⟨hk, rfl⟩) (by omega) ha0.1 ha0.2 hp0.1 hp0.2
  rw [if_neg (show ¬ k = 4 by omega), hpre] at hf1
  revert ok1 len1 hf1
  generalize pre ++ Ftp.textS k a0 p0 ++ [13, 10] = l1
  intro ok1 len1 hf1
  obtain ⟨v3, w3, e3, b3, hv3, _⟩ := x922 ok1 (by omega) w2
  rw [e3, Option.bind_some]
  dsimp only
  have b13 := b12.trans b3
  refine findKg hv3 ok1 (hT.bel b13) fun g4 u4 w4 b4 hc4 _ _ => ?_
  rw [hf1] at hc4 ⊢
  dsimp only
  have b14 := b13.trans b4
  have A4 := arr32 (ha.bel b14)
  have P4 := arr16 (hp.bel b14)
  simp only [go_sem, A4.2.1, A4.2.2.2, P4.2.1, P4.2.2.2]
  refine (k13 (hT.bel b14) (k := k) ha1.1 ha1.2 (by omega) hp1.2).bind ?_
  rintro ⟨v5, w5⟩ ⟨b5, hv5, _⟩
  simp only at b5 hv5
  have b15 := b14.trans b5
  simp only [Fnd.all (hc4.bel b5), go_sem]
  have hv35 := hv3.bel (b4.trans b5)
  refine (k14 (f := ff (some _)) hv35 hv5 (by omega) (by rw [ffs, ffe]; dsimp only; omega)).bind ?_
  rintro ⟨v6, w6⟩ ⟨b6, o6⟩
  simp only at b6 o6
  rw [ffs, ffe] at o6
  dsimp only at o6
  have b16 := b15.trans b6
  have hb := Ftp.find_back hf1 ha1.1 ha1.2 hp1.1 hp1.2 _ rfl
  have okc := repl_okA (a := ((5 : Nat) : Int)) (b := ((5 : Nat) : Int) + ((Ftp.textS k a0 p0).length : Int)) ok1 (text_ok (k := k) (a := a1) (p := p1))
  have lenc := repl_lenA (l := l1) (m := Ftp.textS k a1 p1) (a := ((5 : Nat) : Int)) (b := ((5 : Nat) : Int) + ((Ftp.textS k a0 p0).length : Int))
  dsimp only at hb
  rw [if_neg (show ¬ k = 4 by omega)] at hb
  have hv6 := o6.view
  revert hb okc lenc hv6
  generalize Ftp.replS l1 _ _ (Ftp.textS k a1 p1) = c
  intro hb okc lenc hv6
  rw [if_pos (by omega)] at hb
  obtain ⟨hf2, hl2⟩ := hb
  refine findKg hv6 okc (hT.bel b16) fun g7 u7 w7 b7 hc7 _ _ => ?_
  rw [hf2] at hc7 ⊢
  dsimp only
  have b17 := b16.trans b7
  refine Sq.k16.bind ?_
  rintro ⟨_, w8⟩ ⟨sb, rfl, b8, hst, hsb⟩
  simp only at b8 hst hsb
  have b18 := b17.trans b8
  have c48 := hc4.bel (b5.trans (b6.trans (b7.trans b8)))
  simp only [go_sem, Fnd.b1 c48, Fnd.b2 c48, ffs, ffe]
  rw [show Qconv Tryd.prog 3 24 (.int .i64 ((5 : Nat) : Int)) = some (.int .u32 5) by kernel_rfl]
  simp only [go_sem]
  rw [wr (by omega) (by omega), Sq.u32w, show ((5 : Nat) : Int) + ((Ftp.textS k a0 p0).length : Int) - ((5 : Nat) : Int) = ((Ftp.textS k a0 p0).length : Int) by omega]
  have hv58 := Sq.by_view (hv5.bel (b6.trans (b7.trans b8)))
  refine (Sq.k17 (p := ⟨(first + 5) % 4294967296, ((Ftp.textS k a0 p0).length : Int), (Ftp.textS k a1 p1).map Sq.By.mk⟩) hst hv58).bind ?_
  rintro ⟨_, w9⟩ ⟨rfl, c9, sl', Z', hst9, _, _⟩
  simp only at c9 hst9
  have hadd : Sq.addM [] ⟨(first + 5) % 4294967296, ((Ftp.textS k a0 p0).length : Int), (Ftp.textS k a1 p1).map Sq.By.mk⟩ = (0, [⟨(first + 5) % 4294967296, ((Ftp.textS k a0 p0).length : Int), (Ftp.textS k a1 p1).map Sq.By.mk⟩]) := by
    unfold Sq.addM
    have m1 : Sq.mayM ((Ftp.textS k a0 p0).length : Int) = true := by unfold Sq.mayM; simp; omega
    have m2 : Sq.mayM (((Ftp.textS k a1 p1).map Sq.By.mk).length : Int) = true := by unfold Sq.mayM; simp; omega
    rw [if_neg (by rw [m1, m2]; simp), if_neg (by simp), if_neg (by simp)]
    rfl
  rw [hadd] at hst9
  rw [hadd]
  have b79 : Bel w7 w9 := ((Chg.of_bel b8 _).trans c9 fun _ _ e => e).bel fun q hq e => by
    rcases e with e | e
    · omega
    · cases e
  have b19 := b17.trans b79
  have A9 := arr32 (ha.bel b19)
  have P9 := arr16 (hp.bel b19)
  have c49 := hc4.bel (b5.trans (b6.trans (b7.trans b79)))
  have c79 := hc7.bel b79
  simp only [go_sem, Option.isSome, Bool.not_true, Fnd.b3 c49, Fnd.b4 c49, Fnd.b0 c79, Fnd.b3 c79, Fnd.b4 c79, ffk, ffa, ffp, A9.1, A9.2.1, A9.2.2.1, A9.2.2.2, P9.1, P9.2.1, P9.2.2.1, P9.2.2.2, bne_self_eq_false]
  refine (Sq.k18 (n := first) hst9).bind ?_
  rintro ⟨_, w10⟩ ⟨rfl, b10⟩
  simp only at b10
  rw [map_one hf]
  have b20 := b19.trans b10
  have hv3a := hv3.bel (b4.trans (b5.trans (b6.trans (b7.trans (b79.trans b10)))))
  simp only [go_sem, bne_self_eq_false, vlen hv3a]
  have cv : ∀ n : Nat, n < 1000 → Qconv Tryd.prog 3 24 (.int .i64 (n : Int)) = some (.int .u32 (n : Int)) := fun n hn => by
    rw [Qconv_int (k := .u32) (by kernel_rfl), wu32 (by omega) (by omega)]
  rw [cv _ (by omega), Option.bind_some]
  simp only [go_sem, Sq.u32w]
  refine (Sq.k18 (n := (first + (l1.length : Int)) % 4294967296) (hst9.bel b10)).bind ?_
  rintro ⟨_, w11⟩ ⟨rfl, b11⟩
  simp only at b11
  rw [map_two hf (by omega) (by omega)]
  have hv6a := hv6.bel (b7.trans (b79.trans (b10.trans b11)))
  simp only [go_sem, vlen hv6a]
  rw [cv _ (by omega), Option.bind_some]
  simp only [go_sem, Sq.u32w, List.length_map]
  rw [show (first + (l1.length : Int) + ((Ftp.textS k a1 p1).length : Int) - ((Ftp.textS k a0 p0).length : Int)) = first + (c.length : Int) by omega]
  simp only [go_sem, bne_self_eq_false]
  rw [wr (by omega) (by omega)]
  exact .ret ⟨rfl, rfl, b20.trans b11⟩

set_option maxRecDepth 100000 in
theorem law9 {w : World} (hT : Tab w) {a0 a1 p0 p1 first : Int} (ha0 : 0 ≤ a0 ∧ a0 < 4294967296) (ha1 : 0 ≤ a1 ∧ a1 < 4294967296) (hp0 : 0 ≤ p0 ∧ p0 ≤ 65535) (hp1 : 0 ≤ p1 ∧ p1 ≤ 65535) (hf : 0 ≤ first ∧ first < 4294967296) :
    Brings (s9 (.agg #[.int .u32 a0, .int .u32 a1]) (.agg #[.int .u16 p0, .int .u16 p1]) (.int .u32 first) w) (fun r => r.1 = .bool true ∧ Bel w r.2) := by
  unfold s9
  rw [Xbox_eq, Option.bind_some, Xbox_eq, Option.bind_some]
  have b1 : Bel w (w.alloc (.cells #[.int .u32 a0, .int .u32 a1] 44)) := (Bel.refl w).alloc _
  have hA : CellsAt [.int .u32 a0, .int .u32 a1] (w.alloc (.cells #[.int .u32 a0, .int .u32 a1] 44)) w.heap.size 0 := CellsAt.of (MapKept.heap_alloc w _).1
  simp only [Value.cells]
  revert b1 hA
  generalize w.alloc (.cells #[.int .u32 a0, .int .u32 a1] 44) = w1
  generalize w.heap.size = ga
  intro b1 hA
  have b2 : Bel w1 (w1.alloc (.cells #[.int .u16 p0, .int .u16 p1] 45)) := (Bel.refl w1).alloc _
  have hP : CellsAt [.int .u16 p0, .int .u16 p1] (w1.alloc (.cells #[.int .u16 p0, .int .u16 p1] 45)) w1.heap.size 0 := CellsAt.of (MapKept.heap_alloc w1 _).1
  revert b2 hP
  generalize w1.alloc (.cells #[.int .u16 p0, .int .u16 p1] 45) = w2
  generalize w1.heap.size = gp
  intro b2 hP
  have b12 := b1.trans b2
  have P2 := arr16 hP
  have none7 : Brings ((Xcall Tryd.prog (Value.func (Fn.func 13) #[] #[]) #[.int .i64 4, .int .u32 0, .int .u16 7] w2).bind fun r10 => (Qlen Tryd.prog #[22] 3 #[r10.1] r10.2).bind fun v11 => (Qbin Tryd.prog .eql 3 v11 (.int .i64 1)).bind fun v12 => some (v12, r10.2)) (fun r => r.1 = .bool true ∧ Bel w r.2) := by
    refine (k13 (hT.bel b12) (k := 4) (a := 0) (p := 7) (by decide) (by decide) (by decide) (by decide)).bind ?_
    rintro ⟨v, w5⟩ ⟨b3, hv5, _⟩
    have t7 : Ftp.textS 4 0 7 = [55] := by
      unfold Ftp.textS
      rw [if_neg (by decide), if_neg (by decide), if_pos rfl, Ftp.digs_lt (by decide)]
      rfl
    rw [t7] at hv5
    simp only [vlen hv5, go_sem]
    exact .ret ⟨rfl, b12.trans b3⟩
  simp only [go_sem, P2.1, P2.2.1, P2.2.2.1, P2.2.2.2]
  by_cases c0 : p0 = 0
  · rw [show (p0 == 0) = true by simpa using c0]
    simp only [go_sem]
    exact none7
  rw [show (p0 == 0) = false by simpa using c0]
  simp only [go_sem, P2.2.1, P2.2.2.2]
  by_cases c1 : p1 = 0
  · rw [show (p1 == 0) = true by simpa using c1]
    simp only [go_sem]
    exact none7
  rw [show (p1 == 0) = false by simpa using c1]
  simp only [go_sem]
  refine Brings.loop (fun m xs w' => ∃ k : Nat, 1 ≤ k ∧ k ≤ 3 ∧ m = 3 - k ∧ xs = [.int .u32 first, .pointer (some ⟨ga, 0, none⟩), .pointer (some ⟨gp, 0, none⟩), .bool false, .int .i64 (k : Int)] ∧ Bel w2 w') ?_ 2 _ _ ⟨1, by decide, by decide, rfl, rfl, Bel.refl _⟩
  rintro m _ w' ⟨k, k1, k3, rfl, rfl, b⟩
  by_cases hk : k = 3
  · subst hk
    unfold s9B0
    simp only [go_sem]
    refine .ret (.inr ⟨by simp, ?_⟩)
    simp only [s9R0]
    exact .ret ⟨rfl, b12.trans b⟩
  · refine (body9 (hT.bel (b12.trans b)) (k := (k : Int)) (by omega) ((hA.bel b2).bel b) (hP.bel b) ha0 ha1 (by omega) (by omega) hf).mono ?_
    rintro ⟨e, xs, w3⟩ ⟨h1, h2, h3⟩
    exact .inl ⟨h1, 3 - (k + 1), by omega, k + 1, by omega, by omega, rfl, h2, b.trans h3⟩

end Go.Proofs.YtphokckbcmiddaaDoor
