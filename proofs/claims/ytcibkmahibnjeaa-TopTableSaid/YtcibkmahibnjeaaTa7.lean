/- A table: moved, dropped. -/
import Derived.Test.YtcibkmahibnjeaaTa6
namespace Go.Proofs.Ytcibkmahibnjeaa
open Go Go.Ev Go.RowKit
open Go.Proofs

/-! ## Cells of a row -/

theorem flat_set : ∀ (l : List Rw) (i : Nat) (x y : Rw) (d : Nat) (u : Value), l[i]? = some x → d < 8 → y.cs = x.cs.set d u → (l.flatMap Rw.cs).set (i * 8 + d) u = (l.set i y).flatMap Rw.cs
  | [], _, _, _, _, _, h, _, _ => by simp at h
  | z :: l, 0, x, y, d, u, h, hd, hy => by
    simp only [List.getElem?_cons_zero, Option.some.injEq] at h
    subst h
    rw [List.flatMap_cons, List.set_cons_zero, List.flatMap_cons, hy, Nat.zero_mul, Nat.zero_add, List.set_append, if_pos (by rw [Rw.len]; exact hd)]
  | z :: l, i + 1, x, y, d, u, h, hd, hy => by
    simp only [List.getElem?_cons_succ] at h
    rw [List.flatMap_cons, List.set_cons_succ, List.flatMap_cons, List.set_append, if_neg (by rw [Rw.len]; omega), Rw.len, show (i + 1) * 8 + d - 8 = i * 8 + d by omega, flat_set l i x y d u h hd hy]

/-- A field of an element is written to. -/
theorem own_fld {w : World} {v : Value} {l : List Rw} {i d g : Nat} {x y : Rw} {n : Int} (ho : w.ownsRow 0 73 8 v l.length (l.flatMap Rw.cs)) (hg : v.ownBlock = some g) (hx : l[i]? = some x) (hd : d < 8) (hy : y.cs = x.cs.set d (.int .i64 n)) :
    ∃ w', Xstore Try.prog 3 (.pointer (some ⟨g, i * 8 + d, none⟩)) (.int .i64 n) w = some (undef, w') ∧ w'.ownsRow 0 73 8 v (l.set i y).length ((l.set i y).flatMap Rw.cs) ∧ Chg (fun k => k = g) w w' := by
  have hi := (List.getElem?_eq_some_iff.1 hx).1
  obtain ⟨hl, ⟨rfl, h0⟩ | ⟨g', cap, cur, rfl, hb, hcur, hn, hcap, hsz, htk⟩⟩ := ho
  · omega
  · simp only [Value.ownBlock, Option.some.injEq] at hg
    subst hg
    obtain ⟨ti, hti, hts⟩ := inf3
    have hfit : i * 8 + d + 1 ≤ cur.size := by rw [hsz]; have : (i + 1) * 8 ≤ cap * 8 := Nat.mul_le_mul_right _ (by omega); omega
    have e := Xstore_row (P := Try.prog) (t := 3) (v := .int .i64 n) hti (by rw [hts]; rfl) hcur (o := i * 8 + d) (by rw [hts]; exact hfit) (by intro u hu; simp [Value.cells] at hu; subst hu; rfl)
    refine ⟨_, e, ⟨?_, .inr ⟨g', cap, _, by rw [List.length_set], hb, setRow_heap w g' cur _ 73 _ hcur, by rw [List.length_set]; exact hn, hcap, ?_, ?_⟩⟩, setRow_chg _ _⟩
    · rw [flat_len (size := 8) _ (Rw.lens _)]
    · simp only [hts, Value.cells, List.size_toArray, List.length_append, List.length_take, List.length_drop, Array.length_toList]
      simp
      omega
    · have hjc : i * 8 + d < cur.toList.length := by rw [Array.length_toList]; omega
      have e1 : cur.toList.take (i * 8 + d) ++ (Value.int .i64 n).cells.toList ++ cur.toList.drop (i * 8 + d + ti.size) = cur.toList.set (i * 8 + d) (.int .i64 n) := by
        rw [hts, List.set_eq_take_append_cons_drop, if_pos hjc]
        simp [Value.cells]
      rw [show ((cur.toList.take (i * 8 + d) ++ (Value.int .i64 n).cells.toList ++ cur.toList.drop (i * 8 + d + ti.size)).toArray).toList = cur.toList.take (i * 8 + d) ++ (Value.int .i64 n).cells.toList ++ cur.toList.drop (i * 8 + d + ti.size) from rfl, e1, List.take_set, List.length_set, htk, flat_set l i x y d _ hx hd hy]

/-- An element is written, whole. -/
theorem own_put {w : World} {v : Value} {l : List Rw} {i g : Nat} {y : Rw} (ho : w.ownsRow 0 73 8 v l.length (l.flatMap Rw.cs)) (hg : v.ownBlock = some g) (hi : i < l.length) :
    ∃ w', Xstore Try.prog 73 (.pointer (some ⟨g, i * 8, none⟩)) y.v w = some (undef, w') ∧ w'.ownsRow 0 73 8 v (l.set i y).length ((l.set i y).flatMap Rw.cs) ∧ Chg (fun k => k = g) w w' := by
  obtain ⟨hl, ⟨rfl, h0⟩ | ⟨g', cap, cur, rfl, hb, hcur, hn, hcap, hsz, htk⟩⟩ := ho
  · omega
  · simp only [Value.ownBlock, Option.some.injEq] at hg
    subst hg
    obtain ⟨ti, hti, hts⟩ := inf73
    have hfit : i * 8 + 8 ≤ cur.size := by rw [hsz]; have : (i + 1) * 8 ≤ cap * 8 := Nat.mul_le_mul_right _ (by omega); omega
    have e := Xstore_row (P := Try.prog) (t := 73) (v := y.v) hti (by rw [hts]; rfl) hcur (o := i * 8) (by rw [hts]; exact hfit) y.one1
    refine ⟨_, e, ⟨?_, .inr ⟨g', cap, _, by rw [List.length_set], hb, setRow_heap w g' cur _ 73 _ hcur, by rw [List.length_set]; exact hn, hcap, ?_, ?_⟩⟩, setRow_chg _ _⟩
    · rw [flat_len (size := 8) _ (Rw.lens _)]
    · have : y.v.cells.toList.length = 8 := rfl
      simp only [hts, List.size_toArray, List.length_append, List.length_take, List.length_drop, Array.length_toList, this]
      omega
    · have yl : y.v.cells.toList = y.cs := rfl
      have hlen : (l.flatMap Rw.cs).length = l.length * 8 := flat_len (size := 8) _ (Rw.lens _)
      show List.take ((l.set i y).length * 8) (cur.toList.take (i * 8) ++ y.v.cells.toList ++ cur.toList.drop (i * 8 + ti.size)) = _
      rw [yl, hts, List.length_set]
      have hset : l.set i y = l.take i ++ y :: l.drop (i + 1) := by rw [List.set_eq_take_append_cons_drop, if_pos hi]
      rw [hset, List.flatMap_append, List.flatMap_cons, ← flat_take, ← flat_drop, ← htk]
      have h1 : (cur.toList.take (i * 8)).length = i * 8 := by rw [List.length_take, Array.length_toList]; omega
      have h2 : (cur.toList.take (i * 8) ++ y.cs).length = i * 8 + 8 := by rw [List.length_append, h1]; rfl
      rw [List.take_append, h2, List.take_of_length_le (by rw [h2]; omega), List.append_assoc, List.take_take, Nat.min_eq_left (by omega), List.drop_take, show (i + 1) * 8 = i * 8 + 8 from by omega]

/-! ## Moved -/

/-- Keys and times of being put are apart. -/
structure Apart (seq : Int) (L : List Rw) : Prop where
  keys : L.Pairwise fun x y => x.key ≠ y.key
  seqs : L.Pairwise fun x y => x.seq ≠ y.seq
  most : ∀ x ∈ L, x.seq ≤ seq

theorem set_map {k : Tup} {f : Rw → Rw} : ∀ {l : List Rw} {i : Nat} {x : Rw}, l.Pairwise (fun x y => x.key ≠ y.key) → l[i]? = some x → x.key = k → l.set i (f x) = l.map fun y => if isK k y = true then f y else y
  | [], _, _, _, h, _ => by simp at h
  | z :: l, 0, x, hp, h, hk => by
    simp only [List.getElem?_cons_zero, Option.some.injEq] at h
    subst h
    obtain ⟨h1, _⟩ := List.pairwise_cons.1 hp
    rw [List.set_cons_zero, List.map_cons, if_pos (by simpa [isK] using hk)]
    congr 1
    conv => lhs; rw [← List.map_id l]
    refine List.map_congr_left fun y hy => ?_
    rw [if_neg]
    · rfl
    · simp only [isK, decide_eq_true_eq]
      intro e
      exact h1 y hy (hk.trans e.symm)
  | z :: l, i + 1, x, hp, h, hk => by
    simp only [List.getElem?_cons_succ] at h
    obtain ⟨h1, h2⟩ := List.pairwise_cons.1 hp
    rw [List.set_cons_succ, List.map_cons, set_map h2 h hk, if_neg]
    simp only [isK, decide_eq_true_eq]
    intro e
    exact h1 x (List.mem_of_getElem? h) (e.trans hk.symm)

def moveF (till seq : Int) (x : Rw) : Rw := { x with till := till, seq := seq }
def moveL (L : List Rw) (k : Tup) (till seq : Int) : List Rw := L.map fun x => if isK k x = true then moveF till seq x else x
theorem move_key (k : Tup) (till seq : Int) (x : Rw) : (if isK k x = true then moveF till seq x else x).key = x.key := by
  split <;> rfl
theorem Bg_move {b : Tup → Nat} {L : List Rw} {k : Tup} {till seq : Int} (j : Nat) : (moveL L k till seq).filter (fun x => decide (b x.key = j)) = moveL (L.filter fun x => decide (b x.key = j)) k till seq := by
  unfold moveL
  rw [List.filter_map]
  have : L.filter ((fun x => decide (b x.key = j)) ∘ fun x => if isK k x = true then moveF till seq x else x) = L.filter fun x => decide (b x.key = j) := List.filter_congr fun x _ => by simp only [Function.comp, move_key]
  rw [this]
theorem Bj_move {L : List Rw} {k : Tup} {till seq : Int} (j : Nat) : Bj (moveL L k till seq) j = moveL (Bj L j) k till seq := Bg_move (b := bk) j
theorem move_no {L : List Rw} {k : Tup} {till seq : Int} (h : ∀ x ∈ L, x.key ≠ k) : moveL L k till seq = L := by
  unfold moveL
  conv => rhs; rw [← List.map_id L]
  refine List.map_congr_left fun y hy => ?_
  rw [if_neg]
  · rfl
  · simpa [isK] using h y hy

def moveM (seq : Int) (L : List Rw) (k : Tup) (till : Int) : Int × Int × List Rw :=
  if mayT till = false then (2, seq, L) else if hasK L (keyM k) = true then (0, seq + 1, moveL L (keyM k) till (seq + 1)) else (11, seq, L)

theorem k20 {w : World} {a : Nat} {rv : Value} {bv : List Value} {lim seq till : Int} {L : List Rw} {k : Tup} (h : Tb w a rv bv lim seq L) (hS : Small seq L) (hA : Apart seq L) :
    Brings (Xcall Try.prog (Value.func (Fn.func 20) #[] #[]) #[.pointer (some ⟨a, 0, none⟩), k.v, .int .i64 till] w) (Did w a rv bv lim (moveM seq L k till)) := by
  refine e20 ?_
  unfold s20 moveM
  have A := k.new w
  have hb : Bel w (w.alloc (.cells k.cs.toArray 37)) := (Bel.refl w).alloc _
  rw [k.box]
  simp only [go_sem]
  generalize w.alloc (.cells k.cs.toArray 37) = w1 at A hb
  refine k33.bind ?_
  rintro _ rfl
  cases ht : mayT till with
  | false =>
    simp only [Bool.false_eq_true, if_false, if_true, show ((2 : Int) != 0) = true from rfl, go_sem]
    exact .ret (did_same h hb)
  | true =>
  have A1 := A.bel (Bel.refl w1).drew
  have b1 := hb.trans (Bel.refl w1).drew
  simp only [Bool.true_eq_false, if_false, if_true, show ((0 : Int) != 0) = false from rfl, fa70x0, Tup.all A1, go_sem]
  generalize w1.drew = w2 at b1
  refine k32.bind ?_
  rintro ⟨_, w3⟩ ⟨e2, b2⟩
  simp only at e2 b2
  subst e2
  have b3 := b1.trans b2
  refine (k31 (k := keyM k) (h.bel b3) hS.l1).bind ?_
  rintro ⟨p, w4⟩ ⟨b4, hf⟩
  simp only at b4 hf
  have B := b3.trans b4
  rcases hf with ⟨hf, rfl⟩ | ⟨i, v, g, hf, hv, hg, rfl⟩
  · rw [none_has hf]
    simp only [Qb_eqlP (P := Try.prog) (t := 76) (e := 73) ptr76, Option.isNone_none, Bool.false_eq_true, if_false, go_sem]
    exact .ret (did_same h B)
  rw [some_has hf]
  obtain ⟨hi, hp, _⟩ := List.findIdx?_eq_some_iff_getElem.1 hf
  have h4 := h.bel B
  have s0 := hS.s0
  have s1 := hS.s1
  have c4 := h4.cells
  have wsz := B.size
  simp only [Qb_eqlP (P := Try.prog) (t := 76) (e := 73) ptr76, Option.isNone_some, if_true, fa70x2, h4.l4, go_sem]
  rw [wrap_i64 (n := seq + 1) (by omega) (by omega)]
  simp only [tset4 c4, go_sem]
  have c5 := setRow_heap w4 a _ #[rv, hV, .int .i64 (L.length : Int), .int .i64 lim, .int .i64 (seq + 1)] 70 _ c4
  have g5 : Chg (fun k => k = a) w4 (w4.setRow a #[rv, hV, .int .i64 (L.length : Int), .int .i64 lim, .int .i64 (seq + 1)]) := setRow_chg _ _
  generalize w4.setRow a #[rv, hV, .int .i64 (L.length : Int), .int .i64 lim, .int .i64 (seq + 1)] = w5 at c5 g5
  have hj := (bk_eq (keyM k)).2
  obtain ⟨v2, hv2, ho⟩ := h4.own _ hj
  rw [hv] at hv2
  injection hv2 with hv2
  subst hv2
  obtain ⟨na, nR⟩ := h4.ba _ v g hv hg
  have ho5 := g5.owns ho fun q hq e => by rw [hg] at hq; injection hq with hq; exact na (hq.trans e)
  have hx : (Bj L (bk (keyM k)))[i]? = some (Bj L (bk (keyM k)))[i] := List.getElem?_eq_getElem hi
  generalize (Bj L (bk (keyM k)))[i] = x at hx hp
  obtain ⟨w6, e6, o6, c6⟩ := own_fld (i := i) (d := 6) (x := x) (y := { x with till := till }) ho5 hg hx (by omega) rfl
  obtain ⟨w7, e7, o7, c7⟩ := own_fld (i := i) (d := 7) (x := { x with till := till }) (y := moveF till (seq + 1) x) (n := seq + 1) o6 hg (by rw [List.getElem?_set_self hi]) (by omega) rfl
  rw [List.set_set] at o7
  simp only [tl3 c5, fa73x2, fa73x3, e6, e7, go_sem]
  have hk : x.key = keyM k := by simpa [isK] using hp
  have hpw : (Bj L (bk (keyM k))).Pairwise fun x y => x.key ≠ y.key := hA.keys.sublist List.filter_sublist
  rw [set_map (f := moveF till (seq + 1)) hpw hx hk] at o7
  have hcc : Chg (fun q => q = a ∨ rv.ownBlock = some q ∨ v.ownBlock = some q) w4 w7 :=
    ((g5.mono fun q _ hq => .inl hq).trans (c6.mono fun q _ hq => .inr (.inr (hq ▸ hg))) fun _ _ h => h).trans (c7.mono fun q _ hq => .inr (.inr (hq ▸ hg))) fun _ _ h => h
  have c8 : w7.heap[a]? = some (.cells #[rv, hV, .int .i64 (L.length : Int), .int .i64 lim, .int .i64 (seq + 1)] 70 (0, 0)) := c7.at_ (c6.at_ c5 fun e => na e.symm) fun e => na e.symm
  have hset : bv.set (bk (keyM k)) v = bv := by
    obtain ⟨h1, h2⟩ := List.getElem?_eq_some_iff.1 hv
    rw [← h2, List.set_getElem_self]
  have r7 : w7.ownsRow 0 62 1 rv 64 bv := by
    have r5 := g5.owns h4.rows fun q hq e => h4.ra (e ▸ hq)
    have r6 := c6.owns r5 fun q hq e => nR (e ▸ hq)
    exact c7.owns r6 fun q hq e => nR (e ▸ hq)
  obtain ⟨T, hfoot⟩ := h4.turn (j := bk (keyM k)) (v' := v) (L' := moveL L (keyM k) till (seq + 1)) (seq' := seq + 1) hj hv hcc (by rw [c8]; simp [moveL]) (by rw [hset]; exact r7)
    (by rw [Bj_move]; exact o7) (fun q hq => .inl hq) (fun j _ hne => by
      rw [Bj_move]
      refine move_no fun y hy e => hne ?_
      rw [← (mem_Bj.1 hy).2, e])
  refine .ret ⟨rfl, ?_, _, T, fun q hq => (hfoot q hq).imp (fun h => h) fun h1 => by omega⟩
  refine B.thenChg (hcc.mono fun q _ hq => ?_)
  rcases hq with hq | hq | hq
  · exact .inl hq
  · exact .inr (.inl hq)
  · exact .inr (.inr ⟨_, v, hv, hq⟩)

/-! ## Dropped -/

theorem take_set_filter {l m : List Rw} {p : Rw → Bool} {i j : Nat} {x : Rw} (hx : m[j]? = some x) (hp : p x = true) (hl : l.length = m.length) (hi : i < l.length) (h : l.take i = (m.take j).filter p) : (l.set i x).take (i + 1) = (m.take (j + 1)).filter p := by
  have e1 : m.take (j + 1) = m.take j ++ [x] := by rw [List.take_add_one, hx]; rfl
  have e2 : (l.set i x).take (i + 1) = l.take i ++ [x] := by
    rw [List.take_add_one, List.getElem?_set_self hi, List.take_set_of_le (Nat.le_refl _)]; rfl
  rw [e1, e2, List.filter_append, ← h]
  simp [hp]

theorem k39 {w : World} {sl f : Value} {l : List Rw} {p : Rw → Bool} (ho : w.ownsRow 0 73 8 sl l.length (l.flatMap Rw.cs)) (hl : l.length ≤ 100000) (hf : ∀ (x : Rw) (w1 : World), Chg (fun k => sl.ownBlock = some k) w w1 → Brings (Xcall Try.prog f #[x.v] w1) fun r => r.1 = .bool (p x) ∧ Bel w1 r.2) :
    Brings (Xcall Try.prog (Value.func (Fn.func 39) #[] #[]) #[sl, f] w)
      (fun r => Chg (fun k => sl.ownBlock = some k) w r.2 ∧ r.2.ownsRow 0 73 8 r.1 (l.filter fun x => !p x).length ((l.filter fun x => !p x).flatMap Rw.cs) ∧ r.1.ownBlock = sl.ownBlock) := by
  refine e39 ?_
  unfold s39
  refine (k54 (p := p) (View.of_owns ho (Rw.lens _)) hl fun x w1 hb => hf x w1 (.of_bel hb _)).bind ?_
  rintro ⟨_, w1⟩ ⟨e1, b1⟩
  simp only at e1 b1
  subst e1
  have ho1 := later_bel ho b1
  unfold idxM
  cases hfi : l.findIdx? p with
  | none =>
    simp only [show ((-1 : Int) == -1) = true from rfl, go_sem]
    have : (l.filter fun x => !p x) = l := by
      rw [List.filter_eq_self]
      intro x hx
      rw [List.findIdx?_eq_none_iff] at hfi
      rw [hfi x hx]; rfl
    rw [this]
    exact .ret ⟨.of_bel b1 _, ho1, rfl⟩
  | some i0 =>
  obtain ⟨hi0, hp0, hn0⟩ := List.findIdx?_eq_some_iff_getElem.1 hfi
  have hne : ((i0 : Int) == -1) = false := by rw [beq_eq_false_iff_ne]; omega
  simp only [hne, go_sem]
  rw [wrap_i64 (n := (i0 : Int) + 1) (by omega) (by omega)]
  obtain ⟨g, cap, hsl⟩ : ∃ g cap, sl = .slice (some ⟨g, 0, none⟩) l.length cap := by
    obtain ⟨_, ⟨_, e⟩ | ⟨g, cap, cur, rfl, _⟩⟩ := ho
    · omega
    · exact ⟨g, cap, rfl⟩
  have hg : sl.ownBlock = some g := by rw [hsl]; rfl
  refine Brings.loop (fun m xs w' => ∃ (i j : Nat) (l' : List Rw), xs = [sl, f, .int .i64 (i : Int), .int .i64 (j : Int)] ∧ i < j ∧ j ≤ l.length ∧ m = l.length - j ∧ Chg (fun k => sl.ownBlock = some k) w w' ∧ l'.length = l.length ∧ w'.ownsRow 0 73 8 sl l'.length (l'.flatMap Rw.cs) ∧ l'.take i = (l.take j).filter (fun x => !p x) ∧ l'.drop j = l.drop j) ?_ (l.length - (i0 + 1)) _ _
    ⟨i0, i0 + 1, l, rfl, by omega, by omega, rfl, .of_bel b1 _, rfl, ho1, by
      rw [List.take_add_one, List.getElem?_eq_getElem hi0, List.filter_append]
      have e1 : (l.take i0).filter (fun x => !p x) = l.take i0 := by
        rw [List.filter_eq_self]
        intro x hx
        obtain ⟨j, hj, rfl⟩ := List.mem_take_iff_getElem.1 hx
        have := hn0 j (by omega)
        simpa using this
      rw [e1]
      simp [hp0], rfl⟩
  rintro m xs w' ⟨i, j, l', rfl, hij, hj, hm, hc, hll, ho', htk, hdr⟩
  have lens : Qlen Try.prog #[62] 3 #[sl] w' = some (.int .i64 (l.length : Int)) := by rw [hsl]; exact Qlen_slice und62
  simp only [s39B0, lens, go_sem]
  refine .cond (fun hlt => ?_) (fun hlt => ?_)
  · have hlt : j < l.length := by
      have : (j : Int) < l.length := by simpa using hlt
      omega
    obtain ⟨x, g', o, hx', hg', hix, hcl⟩ := getR (View.of_owns ho' (Rw.lens _)) (n := j) (by omega) (by omega)
    rw [Int.toNat_natCast] at hx'
    have hx : l[j]? = some x := by
      have h1 : (l'.drop j)[0]? = some x := by rw [List.getElem?_drop, Nat.add_zero]; exact hx'
      rw [hdr, List.getElem?_drop, Nat.add_zero] at h1
      exact h1
    have B := local_bel w' (.cells Rw.zero.cs.toArray 73) x.cs.toArray
    have A := local_at w' x.cs Rw.zero.cs 73
    simp only [hix, Rw.all hcl, alloc73, put73, Rw.all A, go_sem]
    generalize (w'.alloc (.cells Rw.zero.cs.toArray 73)).setRow w'.heap.size x.cs.toArray = w2 at A B
    have gl := (World.ownsRow.lt ho' g hg).2
    refine (hf x w2 (hc.thenBel B)).bind ?_
    rintro ⟨_, w3⟩ ⟨e3, b3⟩
    simp only at e3 b3
    subst e3
    have A3 := A.bel b3
    have c3 := (hc.thenBel B).thenBel b3
    have ho3 := later_bel (later_bel ho' B) b3
    have wj : IntKind.i64.wrap ((j : Int) + 1) = ((j + 1 : Nat) : Int) := by rw [wrap_i64 (by omega) (by omega)]; rfl
    have wi : IntKind.i64.wrap ((i : Int) + 1) = ((i + 1 : Nat) : Int) := by rw [wrap_i64 (by omega) (by omega)]; rfl
    have hdrop : ∀ {l2 : List Rw}, l2.drop j = l.drop j → l2.drop (j + 1) = l.drop (j + 1) := fun {l2} h => by
      rw [← List.drop_drop, ← List.drop_drop, h]
    cases hp : p x with
    | true =>
      simp only [Bool.not_true, wj, go_sem]
      refine .ret (.inl ⟨rfl, l.length - (j + 1), by omega, i, j + 1, l', rfl, by omega, by omega, rfl, c3, hll, ho3, ?_, hdrop hdr⟩)
      rw [htk, List.take_add_one, hx, List.filter_append]
      simp [hp]
    | false =>
      obtain ⟨w4, e4, o4, c4⟩ := own_put (y := x) ho3 hg (i := i) (by omega)
      have hiy : QindexAddr Try.prog 62 sl (.int .i64 (i : Int)) w3 = some (.pointer (some ⟨g, i * 8, none⟩)) := by
        obtain ⟨ti, hti, hts⟩ := inf73
        obtain ⟨g2, hg2, h2⟩ := owns_at (k := (i : Int)) ho3 und62 hti hts (by omega) (by omega)
        have e5 : g2 = g := Option.some.inj (hg2.symm.trans hg)
        rw [h2, Int.toNat_natCast, e5]
      simp only [Bool.not_false, Rw.all A3, hiy, e4, wi, wj, go_sem]
      refine .ret (.inl ⟨rfl, l.length - (j + 1), by omega, i + 1, j + 1, l'.set i x, rfl, by omega, by omega, rfl, c3.trans (c4.mono fun k _ hk => hk ▸ hg) fun _ _ h => h, by rw [List.length_set]; exact hll, o4, ?_, ?_⟩)
      · exact take_set_filter (p := fun x => !p x) hx (by rw [hp]; rfl) hll (by omega) htk
      · rw [List.drop_set_of_lt (by omega)]
        exact hdrop hdr
  · have hj' : j = l.length := by
      have : ¬ (j : Int) < l.length := by simpa using hlt
      omega
    subst hj'
    rw [List.take_length] at htk
    obtain ⟨hlen, ⟨_, e⟩ | ⟨g', cap', cur, e, hb0, hcur, hn, hcap, hsz, htk2⟩⟩ := ho'
    · omega
    rw [hsl] at e
    injection e with e1 e2 e3
    injection e1 with e1
    injection e1 with e1 _ _
    subst e1 e3
    have e2' := e2
    have hfl : (l.filter fun x => !p x).length = i := by rw [← htk, List.length_take]; omega
    refine .ret (.inr ⟨by simp, ?_⟩)
    have q1 : Qslice Try.prog 62 sl (some (.int .i64 (i : Int))) none none w' = some (.slice (some ⟨g, i * 8, none⟩) (l.length - i) (cap - i)) := by rw [hsl, cutLo (by omega), if_neg (by omega)]
    have q2 : ∀ w2, Qslice Try.prog 62 sl none (some (.int .i64 (i : Int))) none w2 = some (.slice (some ⟨g, 0, none⟩) i cap) := fun w2 => by rw [hsl, cutHi (by omega)]
    simp only [s39R0, q1, go_sem]
    rw [clear62 hcur (by omega) (by rw [hsz]; omega)]
    simp only [q2, go_sem]
    refine .ret ⟨hc.trans ((setRow_chg _ _).mono fun k _ hk => by rw [hk]; exact hg) fun _ _ h => h, ?_, by rw [hg]; rfl⟩
    rw [hfl]
    have hc8 : i * 8 ≤ cap * 8 := Nat.mul_le_mul_right _ (by omega)
    have hl8 : i * 8 + (l.length - i) * 8 = l.length * 8 := by omega
    have hlc : l.length * 8 ≤ cap * 8 := Nat.mul_le_mul_right _ (by omega)
    refine ⟨by rw [flat_len (size := 8) _ (Rw.lens _), hfl], .inr ⟨g, cap, _, rfl, hb0, setRow_heap w' g cur _ 73 _ hcur, by omega, hcap, ?_, ?_⟩⟩
    · simp only [List.size_toArray, List.length_append, List.length_take, List.length_drop, Array.length_toList, size_zeroCells, hsz]
      show min (i * 8) (cap * 8) + (l.length - i) * 8 + _ = _
      omega
    · show List.take (i * 8) (List.take (i * 8) cur.toList ++ _ ++ _) = _
      rw [List.append_assoc, List.take_append_of_le_length (by rw [List.length_take, Array.length_toList, hsz]; omega), List.take_take, Nat.min_self, ← htk, ← flat_take, ← htk2, List.take_take, Nat.min_eq_left (by omega)]

def dropL (L : List Rw) (k : Tup) : List Rw := L.filter fun x => !isK k x
theorem Bj_drop {L : List Rw} {k : Tup} (j : Nat) : Bj (dropL L k) j = dropL (Bj L j) k := by
  unfold Bj dropL
  rw [List.filter_filter, List.filter_filter]
  refine List.filter_congr fun x _ => ?_
  rw [Bool.and_comm]
theorem drop_no {L : List Rw} {k : Tup} (h : ∀ x ∈ L, x.key ≠ k) : dropL L k = L := by
  unfold dropL
  rw [List.filter_eq_self]
  intro x hx
  simpa [isK] using h x hx
theorem drop_len {k : Tup} : ∀ {l : List Rw}, l.Pairwise (fun x y => x.key ≠ y.key) → hasK l k = true → (dropL l k).length + 1 = l.length
  | [], _, h => by simp [hasK] at h
  | z :: l, hp, h => by
    obtain ⟨h1, h2⟩ := List.pairwise_cons.1 hp
    by_cases c : z.key = k
    · have : dropL (z :: l) k = l := by
        have e : dropL (z :: l) k = dropL l k := by simp [dropL, isK, c]
        rw [e]
        exact drop_no fun y hy e => h1 y hy (c.trans e.symm)
      rw [this]; rfl
    · have e : dropL (z :: l) k = z :: dropL l k := by simp [dropL, isK, c]
      have hh : hasK l k = true := by
        unfold hasK at h ⊢
        rw [List.any_cons] at h
        simpa [isK, c] using h
      rw [e, List.length_cons, List.length_cons, drop_len h2 hh]
def dropM (seq : Int) (L : List Rw) (k : Tup) : Int × Int × List Rw := if hasK L (keyM k) = true then (0, seq, dropL L (keyM k)) else (11, seq, L)

theorem k21 {w : World} {a : Nat} {rv : Value} {bv : List Value} {lim seq : Int} {L : List Rw} {k : Tup} (h : Tb w a rv bv lim seq L) (hS : Small seq L) (hA : Apart seq L) :
    Brings (Xcall Try.prog (Value.func (Fn.func 21) #[] #[]) #[.pointer (some ⟨a, 0, none⟩), k.v] w) (Did w a rv bv lim (dropM seq L k)) := by
  refine e21 ?_
  unfold s21 dropM
  have V1 := (Locals.nil w).add rfl (.cells k.cs.toArray 37)
  have V1 : Locals w [.cells k.cs.toArray 37] (w.alloc (.cells k.cs.toArray 37)) := V1
  rw [k.box]
  have o1 : (w.alloc (.cells k.cs.toArray 37)).heap[w.heap.size]? = some (.cells k.cs.toArray 37) := V1.at_ 0 _ rfl
  simp only [go_sem, Qb_eqlP (P := Try.prog) (t := 25) (e := 70) ptr25, Option.isNone_some, load37 o1]
  generalize w.alloc (.cells k.cs.toArray 37) = w1 at V1
  refine k32.bind ?_
  rintro ⟨_, w2⟩ ⟨e2, b2⟩
  simp only at e2 b2
  subst e2
  have V2 := V1.later b2
  have o2 : w2.heap[w.heap.size]? = some (.cells k.cs.toArray 37) := V2.at_ 0 _ rfl
  have V3 := (V2.row (j := 0) (k := w.heap.size) rfl rfl (keyM k).cs.toArray).later (Bel.refl _).drew
  have V3 : Locals w [.cells (keyM k).cs.toArray 37] (w2.setRow w.heap.size (keyM k).cs.toArray).drew := V3
  have o3 : (w2.setRow w.heap.size (keyM k).cs.toArray).drew.heap[w.heap.size]? = some (.cells (keyM k).cs.toArray 37) := V3.at_ 0 _ rfl
  simp only [store37 o2 rfl, fa70x0, load37 o3, go_sem]
  generalize (w2.setRow w.heap.size (keyM k).cs.toArray).drew = w3 at V3 o3
  have h3 := h.bel V3.bel
  refine (k31 (k := keyM k) h3 hS.l1).bind ?_
  rintro ⟨p, w4⟩ ⟨b4, hf⟩
  simp only at b4 hf
  rcases hf with ⟨hf, rfl⟩ | ⟨i, v, g, hf, hv, hg, rfl⟩
  · rw [none_has hf]
    simp only [Qb_eqlP (P := Try.prog) (t := 76) (e := 73) ptr76, Option.isNone_none, Bool.false_eq_true, if_false, go_sem]
    exact .ret (did_same h (V3.bel.trans b4))
  rw [some_has hf]
  have V4 := V3.later (b4.trans (Bel.refl w4).drew)
  have o4 : w4.drew.heap[w.heap.size]? = some (.cells (keyM k).cs.toArray 37) := V4.at_ 0 _ rfl
  simp only [Qb_eqlP (P := Try.prog) (t := 76) (e := 73) ptr76, Option.isNone_some, if_true, fa70x0, load37 o4, go_sem]
  generalize w4.drew = w5 at V4
  have h5 := h.bel V4.bel
  refine (k34 (k := keyM k) h5).bind ?_
  rintro ⟨_, w6⟩ ⟨b6, R, hR, e6⟩
  simp only at e6 b6
  subst e6
  have V6 := V4.later b6
  have h6 := h.bel V6.bel
  have o6 : w6.heap[w.heap.size]? = some (.cells (keyM k).cs.toArray 37) := V6.at_ 0 _ rfl
  have hj := (bk_eq (keyM k)).2
  obtain ⟨v2, hv2, ho⟩ := h6.own _ hj
  rw [hv] at hv2
  injection hv2 with hv2
  subst hv2
  obtain ⟨na, nR⟩ := h6.ba _ v g hv hg
  have lw := h.lt
  have nq : w.heap.size ≠ g := fun e => by have := lw g (.inr (.inr ⟨_, v, hv, hg⟩)); omega
  simp only [h6.l62 hR hv, go_sem]
  have bl := Bj_len L (bk (keyM k))
  have l1 := hS.l1
  refine (k39 (p := isK (keyM k)) ho (by omega) fun x w7 c7 => eqK (.inr rfl) (CellsAt.of (c7.at_ o6 fun e => by rw [hg] at e; injection e with e; exact nq e.symm))).bind ?_
  rintro ⟨v', w7⟩ ⟨c7, o7, hb7⟩
  simp only at c7 o7 hb7
  have gv : ∀ q, v.ownBlock = some q → q = g := fun q hq => by rw [hg] at hq; injection hq with hq; exact hq.symm
  have r7 := c7.owns h6.rows fun q hq e => nR (by rw [hq, gv q e])
  obtain ⟨ti, hti, hts⟩ := inf62
  have hs := owns_slice o7
  obtain ⟨R', hR', hix, w8, e8, o8, c8⟩ := own_set1 (t := 65) und65 hti hts r7 (j := bk (keyM k)) hj (u := v') (by obtain ⟨x, n, c, rfl⟩ := hs; rfl) (by obtain ⟨x, n, c, rfl⟩ := hs; rfl)
  rw [hR] at hR'
  injection hR' with hR'
  subst hR'
  have aR : a ≠ R := fun e => h6.ra (e ▸ hR)
  have gR : g ≠ R := fun e => nR (e ▸ hR)
  have a8 : w8.heap[a]? = some (.cells #[rv, hV, .int .i64 (L.length : Int), .int .i64 lim, .int .i64 seq] 70 (0, 0)) := c8.at_ (c7.at_ h6.cells fun e => na (gv a e).symm) aR
  simp only [e8, fa68x2, tl2 a8, go_sem]
  have hdl := drop_len hA.keys (some_has hf)
  rw [wrap_i64 (n := (L.length : Int) - 1) (by omega) (by omega)]
  simp only [tset2 a8, go_sem]
  have a9 := setRow_heap w8 a _ #[rv, hV, .int .i64 ((L.length : Int) - 1), .int .i64 lim, .int .i64 seq] 70 _ a8
  have c9 : Chg (fun k => k = a) w8 (w8.setRow a #[rv, hV, .int .i64 ((L.length : Int) - 1), .int .i64 lim, .int .i64 seq]) := setRow_chg _ _
  generalize w8.setRow a #[rv, hV, .int .i64 ((L.length : Int) - 1), .int .i64 lim, .int .i64 seq] = w9 at a9 c9
  have hcc : Chg (fun q => q = a ∨ rv.ownBlock = some q ∨ v.ownBlock = some q) w6 w9 :=
    ((c7.mono fun q _ hq => .inr (.inr hq)).trans (c8.mono fun q _ hq => .inr (.inl (hq ▸ hR))) fun _ _ h => h).trans (c9.mono fun q _ hq => .inl hq) fun _ _ h => h
  obtain ⟨T, hfoot⟩ := h6.turn (j := bk (keyM k)) (L' := dropL L (keyM k)) (seq' := seq) hj hv hcc (by rw [a9, show ((L.length : Int) - 1) = ((dropL L (keyM k)).length : Int) by omega])
    (c9.owns o8 fun q hq e => h6.ra (e ▸ hq))
    (by
      rw [Bj_drop]
      have o8' := c8.owns o7 fun q hq e => gR (by rw [hb7] at hq; rw [← gv q hq]; exact e)
      exact c9.owns o8' fun q hq e => na (by rw [hb7] at hq; rw [← gv q hq]; exact e))
    (fun q hq => .inl (by rw [hb7] at hq; exact hq))
    (fun j _ hne => by
      rw [Bj_drop]
      refine drop_no fun y hy e => hne ?_
      rw [← (mem_Bj.1 hy).2, e])
  have wsz := V6.bel.size
  refine .ret ⟨rfl, ?_, _, T, fun q hq => (hfoot q hq).imp (fun h => h) fun h1 => by omega⟩
  refine V6.bel.thenChg (hcc.mono fun q _ hq => ?_)
  rcases hq with hq | hq | hq
  · exact .inl hq
  · exact .inr (.inl hq)
  · exact .inr (.inr ⟨_, v, hv, hq⟩)

end Go.Proofs.Ytcibkmahibnjeaa
