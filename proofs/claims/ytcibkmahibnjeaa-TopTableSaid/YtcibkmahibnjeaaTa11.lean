/- A table's fork; nil tables. -/
import Derived.Test.YtcibkmahibnjeaaTa10
namespace Go.Proofs.Ytcibkmahibnjeaa
open Go Go.Ev Go.RowKit
open Go.Proofs

theorem zero70 (w : World) : (zeroValue 70).run Try.prog w = .ok (.agg #[.slice none 0 0, .nilFunc, .int .i64 0, .int .i64 0, .int .i64 0]) w := by kernel_rfl
theorem alloc70 (w : World) : Xalloc Try.prog 70 w = some (.pointer (some ⟨w.heap.size, 0, none⟩), w.alloc (.cells #[.slice none 0 0, .nilFunc, .int .i64 0, .int .i64 0, .int .i64 0] 70)) := Xalloc_eq (zero70 w)
theorem inf70 : ∃ i, Try.prog.info? 70 = some i ∧ i.size = 5 := ⟨(Try.prog.info? 70).get (by kernel_rfl), by kernel_rfl, by kernel_rfl⟩
theorem inf65 : ∃ i, Try.prog.info? 65 = some i ∧ i.size = 1 := ⟨(Try.prog.info? 65).get (by kernel_rfl), by kernel_rfl, by kernel_rfl⟩

/-- What a copied table is made of, by so many buckets. -/
structure Part (n0 : Nat) (w : World) (rv : Value) (us bs : List Value) (L : List Rw) : Prop where
  rows : w.ownsRow 0 62 1 rv 64 (us ++ bs)
  own : ∀ j u, us[j]? = some u → Own w u (Bj L j)
  new : ∀ (j : Nat) (u : Value) (q : Nat), us[j]? = some u → u.ownBlock = some q → n0 ≤ q
  dist : ∀ (i j : Nat) (u v : Value) (q : Nat), us[i]? = some u → us[j]? = some v → u.ownBlock = some q → v.ownBlock = some q → i = j

theorem k22 {w : World} {a : Nat} {rv : Value} {bv : List Value} {lim seq : Int} {L : List Rw} (h : Tb w a rv bv lim seq L) (hL : L.length ≤ 1000) : Brings (Xcall Try.prog (Value.func (Fn.func 22) #[] #[]) #[.pointer (some ⟨a, 0, none⟩)] w)
    (fun r => Bel w r.2 ∧ ∃ b tv us, r.1 = .pointer (some ⟨b, 0, none⟩) ∧ Tb r.2 b tv us lim seq L ∧ ∀ k, Foot b tv us k → w.heap.size ≤ k) := by
  refine e22 ?_
  unfold s22
  obtain ⟨ti, hti, hts⟩ := inf70
  obtain ⟨t5, ht5, hs5⟩ := inf65
  obtain ⟨R0, cap0, hrv⟩ := h.row
  have ld : Qload Try.prog 70 (.pointer (some ⟨a, 0, none⟩)) w = some (.agg #[rv, hV, .int .i64 (L.length : Int), .int .i64 lim, .int .i64 seq]) :=
    Qload_cells (cs := [rv, hV, .int .i64 (L.length : Int), .int .i64 lim, .int .i64 seq]) Try.underlying70 hti hts (CellsAt.of h.cells)
  have V1 := (Locals.nil w).add rfl (.cells #[.slice none 0 0, .nilFunc, .int .i64 0, .int .i64 0, .int .i64 0] 70)
  have o1 : (w.alloc (.cells #[.slice none 0 0, .nilFunc, .int .i64 0, .int .i64 0, .int .i64 0] 70)).heap[w.heap.size]? = some (.cells #[.slice none 0 0, .nilFunc, .int .i64 0, .int .i64 0, .int .i64 0] 70) := V1.at_ 0 _ rfl
  have st : Xstore Try.prog 70 (.pointer (some ⟨w.heap.size, 0, none⟩)) (.agg #[rv, hV, .int .i64 (L.length : Int), .int .i64 lim, .int .i64 seq]) (w.alloc (.cells #[.slice none 0 0, .nilFunc, .int .i64 0, .int .i64 0, .int .i64 0] 70)) = some (undef, (w.alloc (.cells #[.slice none 0 0, .nilFunc, .int .i64 0, .int .i64 0, .int .i64 0] 70)).setRow w.heap.size #[rv, hV, .int .i64 (L.length : Int), .int .i64 lim, .int .i64 seq]) :=
    Xstore_var (v := .agg #[rv, hV, .int .i64 (L.length : Int), .int .i64 lim, .int .i64 seq]) hti (by rw [hts]; rfl) o1 (by rw [hts]; rfl) (by
      intro u hu
      simp [Value.cells] at hu
      rcases hu with rfl | rfl | rfl | rfl | rfl
      · rw [hrv]; rfl
      all_goals rfl)
  have V2 := V1.row (j := 0) (k := w.heap.size) rfl rfl #[rv, hV, .int .i64 (L.length : Int), .int .i64 lim, .int .i64 seq]
  have V2 : Locals w [.cells #[rv, hV, .int .i64 (L.length : Int), .int .i64 lim, .int .i64 seq] 70] ((w.alloc (.cells #[.slice none 0 0, .nilFunc, .int .i64 0, .int .i64 0, .int .i64 0] 70)).setRow w.heap.size #[rv, hV, .int .i64 (L.length : Int), .int .i64 lim, .int .i64 seq]) := V2
  have h2 := h.bel V2.bel
  simp only [go_sem, Qb_eqlP (P := Try.prog) (t := 25) (e := 70) ptr25, Option.isNone_some, ld, alloc70, st, fa70x0, fa68x0, h2.l0]
  generalize (w.alloc (.cells #[.slice none 0 0, .nilFunc, .int .i64 0, .int .i64 0, .int .i64 0] 70)).setRow w.heap.size #[rv, hV, .int .i64 (L.length : Int), .int .i64 lim, .int .i64 seq] = w2 at V2 h2
  have one1 : ∀ u ∈ bv, u.oneCell' = true := fun u hu => by
    obtain ⟨j, hj, rfl⟩ := List.mem_iff_getElem.1 hu
    obtain ⟨v, hv, ho⟩ := h.own j (by rw [← h.len]; exact hj)
    rw [List.getElem?_eq_getElem hj] at hv
    rw [Option.some.inj hv]
    obtain ⟨x, n, c, e⟩ := owns_slice ho
    rw [e]; rfl
  refine (k41 h2.rows h.len one1).bind ?_
  rintro ⟨tv, w3⟩ ⟨b3, r3, n3⟩
  simp only at b3 r3 n3
  have V3 := V2.later b3
  have o3 : w3.heap[w.heap.size]? = some (.cells #[rv, hV, .int .i64 (L.length : Int), .int .i64 lim, .int .i64 seq] 70) := V3.at_ 0 _ rfl
  obtain ⟨R, cap, htv⟩ : ∃ R cap, tv = .slice (some ⟨R, 0, none⟩) 64 cap := by
    obtain ⟨_, ⟨_, e⟩ | ⟨g, cap, cur, rfl, _⟩⟩ := r3
    · omega
    · exact ⟨g, cap, rfl⟩
  have hR : tv.ownBlock = some R := by rw [htv]; rfl
  have sz2 : w.heap.size + 1 ≤ w2.heap.size := V2.size
  have nR := n3 R hR
  have st3 : Xstore Try.prog 65 (.pointer (some ⟨w.heap.size, 0, none⟩)) tv w3 = some (undef, w3.setRow w.heap.size #[tv, hV, .int .i64 (L.length : Int), .int .i64 lim, .int .i64 seq]) := by
    rw [htv, Xstore_row (P := Try.prog) (t := 65) (v := .slice (some ⟨R, 0, none⟩) 64 cap) ht5 (by rw [hs5]; rfl) o3 (o := 0) (by rw [hs5]; simp) (by intro u hu; simp [Value.cells] at hu; subst hu; rfl), hs5]
    rfl
  have V4 := V3.row (j := 0) (k := w.heap.size) rfl rfl #[tv, hV, .int .i64 (L.length : Int), .int .i64 lim, .int .i64 seq]
  have V4 : Locals w [.cells #[tv, hV, .int .i64 (L.length : Int), .int .i64 lim, .int .i64 seq] 70] (w3.setRow w.heap.size #[tv, hV, .int .i64 (L.length : Int), .int .i64 lim, .int .i64 seq]) := V4
  have c4 := setRow_chg (w := w3) w.heap.size #[tv, hV, .int .i64 (L.length : Int), .int .i64 lim, .int .i64 seq]
  have r4 := c4.owns r3 fun q hq e => by have := n3 q hq; omega
  have b4 : Bel w2 w3 := b3
  have lens : ∀ w', Qlen Try.prog #[65] 3 #[tv] w' = some (.int .i64 ((64 : Nat) : Int)) := fun w' => by rw [htv]; exact Qlen_slice und65
  have o4 : (w3.setRow w.heap.size #[tv, hV, .int .i64 (L.length : Int), .int .i64 lim, .int .i64 seq]).heap[w.heap.size]? = some (.cells #[tv, hV, .int .i64 (L.length : Int), .int .i64 lim, .int .i64 seq] 70) := V4.at_ 0 _ rfl
  have l4 : ∀ {w' : World}, w'.heap[w.heap.size]? = some (.cells #[tv, hV, .int .i64 (L.length : Int), .int .i64 lim, .int .i64 seq] 70) → Qload Try.prog 65 (.pointer (some ⟨w.heap.size, 0, none⟩)) w' = some tv := fun ho => Qload_cell one65 (cell_at ho rfl)
  have sz4 : w2.heap.size ≤ (w3.setRow w.heap.size #[tv, hV, .int .i64 (L.length : Int), .int .i64 lim, .int .i64 seq]).heap.size := Nat.le_trans b3.size c4.size
  have R4 := (World.ownsRow.lt r4 R hR).2
  simp only [st3, l4 o4, lens, go_sem]
  generalize w3.setRow w.heap.size #[tv, hV, .int .i64 (L.length : Int), .int .i64 lim, .int .i64 seq] = w4 at V4 r4 o4 sz4 R4
  refine Brings.loop (fun m xs w' => ∃ (j : Nat) (us : List Value), xs = [.pointer (some ⟨w.heap.size, 0, none⟩), tv, .int .i64 ((64 : Nat) : Int), .int .i64 (j : Int)] ∧ j ≤ 64 ∧ m = 64 - j ∧ us.length = j ∧ Bel w w' ∧ w4.heap.size ≤ w'.heap.size ∧ w'.heap[w.heap.size]? = some (.cells #[tv, hV, .int .i64 (L.length : Int), .int .i64 lim, .int .i64 seq] 70) ∧ Part w4.heap.size w' tv us (bv.drop j) L) ?_ 64 _ _
    ⟨0, [], rfl, by omega, by omega, rfl, V4.bel, Nat.le_refl _, o4, ⟨r4, fun j u hu => by simp at hu, fun j u q hu => by simp at hu, fun i j u v q hu => by simp at hu⟩⟩
  rintro m xs w' ⟨j, us, rfl, hj, hm, hul, hb, hsz, ho', hP⟩
  simp only [s22B0, go_sem]
  refine .cond (fun hlt => ?_) (fun hlt => ?_)
  · have hlt : j < 64 := by
      have : (j : Int) < ((64 : Nat) : Int) := by simpa using hlt
      omega
    obtain ⟨i62, hi62, hs62⟩ := inf62
    have hix : ∀ w2, QindexAddr Try.prog 65 tv (.int .i64 (j : Int)) w2 = some (.pointer (some ⟨R, j, none⟩)) := fun w2 => by
      rw [htv, QindexAddr_slice und65 hi62 (by omega) (by omega), hs62, Int.toNat_natCast, Nat.mul_one, add_0]
    obtain ⟨v, hv, _⟩ := h.own j hlt
    have hvj : (us ++ bv.drop j)[j]? = some v := by
      rw [List.getElem?_append_right (by omega), hul, Nat.sub_self, List.getElem?_drop, Nat.add_zero]; exact hv
    have ldv : Qload Try.prog 62 (.pointer (some ⟨R, j, none⟩)) w' = some v := Qload_cell one62 (by
      have := hP.rows.cells hR j v hvj
      rwa [add_0] at this)
    have bd : Bel w' w'.drew := (Bel.refl _).drew
    have hd := h.bel (hb.trans bd)
    obtain ⟨v2, hv2, hov⟩ := hd.own j hlt
    rw [hv] at hv2
    injection hv2 with hv2
    subst hv2
    have bl := Bj_len L j
    simp only [hix, ldv, fa70x0, fa68x0, l4 (bd.at_ ho'), go_sem]
    refine (k42 hov (by omega)).bind ?_
    rintro ⟨u, w5⟩ ⟨b5, o5, n5⟩
    simp only at b5 o5 n5
    have bb := bd.trans b5
    have r5 := later_bel hP.rows bb
    have hs := owns_slice o5
    obtain ⟨R', hR', hix2, w6, e6, r6, c6⟩ := own_set1 (t := 65) und65 hi62 hs62 r5 (j := j) hlt (u := u) (by obtain ⟨x, n, c, rfl⟩ := hs; rfl) (by obtain ⟨x, n, c, rfl⟩ := hs; rfl)
    rw [hR] at hR'
    injection hR' with hR'
    subst hR'
    simp only [l4 (b5.at_ (bd.at_ ho')), hix, e6, eq_self, and_self, go_sem]
    rw [wrap_i64 (n := (j : Int) + 1) (by omega) (by omega)]
    have nu : ∀ q, u.ownBlock = some q → w'.heap.size ≤ q := fun q hq => Nat.le_trans bd.size (n5 q hq)
    have gt : ∀ (i : Nat) (x : Value), (us ++ [u])[i]? = some x → (i < j ∧ us[i]? = some x) ∨ (i = j ∧ x = u) := fun i x hx => by
      by_cases c : i < us.length
      · rw [List.getElem?_append_left c] at hx
        exact .inl ⟨by omega, hx⟩
      · rw [List.getElem?_append_right (by omega)] at hx
        have : i - us.length = 0 := by
          have := (List.getElem?_eq_some_iff.1 hx).1
          simp at this; omega
        rw [this] at hx
        simp at hx
        exact .inr ⟨by omega, hx.symm⟩
    have ltw : ∀ (i : Nat) (x : Value) (q : Nat), us[i]? = some x → x.ownBlock = some q → q < w'.heap.size := fun i x q hx hq => (World.ownsRow.lt (hP.own i x hx) q hq).2
    refine .ret (.inl ⟨rfl, 64 - (j + 1), by omega, j + 1, us ++ [u], rfl, by omega, rfl, by simp [hul], ?_, ?_, ?_, ⟨?_, fun i x hx => ?_, fun i x q hx hq => ?_, fun i i' x y q hx hy hq hq' => ?_⟩⟩)
    · exact ((hb.trans bb).thenChg c6).bel fun k hk e => by omega
    · exact Nat.le_trans hsz (Nat.le_trans bb.size c6.size)
    · exact c6.at_ (bb.at_ ho') (by omega)
    · have e : (us ++ bv.drop j).set j u = us ++ [u] ++ bv.drop (j + 1) := by
        have hl := h.len
        rw [List.set_append_right _ _ (by omega), hul, Nat.sub_self, List.drop_eq_getElem_cons (by omega), List.set_cons_zero]
        simp
      rw [← e]
      exact r6
    · rcases gt i x hx with ⟨_, hx⟩ | ⟨rfl, rfl⟩
      · exact c6.owns (later_bel (hP.own i x hx) bb) fun q hq e => by have := hP.new i x q hx hq; omega
      · exact c6.owns o5 fun q hq e => by have := nu q hq; omega
    · rcases gt i x hx with ⟨_, hx⟩ | ⟨rfl, rfl⟩
      · exact hP.new i x q hx hq
      · have := nu q hq; omega
    · rcases gt i x hx with ⟨_, hx2⟩ | ⟨e1, e2⟩ <;> rcases gt i' y hy with ⟨_, hy2⟩ | ⟨e3, e4⟩
      · exact hP.dist i i' x y q hx2 hy2 hq hq'
      · have := ltw i x q hx2 hq; have := nu q (e4 ▸ hq'); omega
      · have := ltw i' y q hy2 hq'; have := nu q (e2 ▸ hq); omega
      · rw [e1, e3]
  · have : j = 64 := by
      have : ¬ (j : Int) < ((64 : Nat) : Int) := by simpa using hlt
      omega
    subst this
    have hd0 : bv.drop 64 = [] := List.drop_of_length_le (by rw [h.len]; omega)
    rw [hd0] at hP
    have hr := hP.rows
    rw [List.append_nil] at hr
    refine .ret (.inr ⟨by simp, .ret ⟨hb, w.heap.size, tv, us, rfl, ⟨ho', hr, fun i hi => ?_, fun e => ?_, fun i u q hu hq => ?_, hP.dist⟩, fun k hk => ?_⟩⟩)
    · have hu : us[i]? = some us[i] := List.getElem?_eq_getElem (by omega)
      exact ⟨_, hu, hP.own i _ hu⟩
    · rw [hR] at e; injection e with e; omega
    · have := hP.new i u q hu hq
      exact ⟨by omega, fun e => by rw [hR] at e; injection e with e; omega⟩
    · rcases hk with hk | hk | ⟨i, u, hu, hk⟩
      · omega
      · rw [hR] at hk; injection hk with hk; omega
      · have := hP.new i u k hu hk; omega

/-! ## Nil tables -/

section none_
variable {w : World} {k : Tup}
theorem k17n {id till : Int} : Brings (Xcall Try.prog (Value.func (Fn.func 17) #[] #[]) #[.pointer none, k.v, .int .i64 id, .int .i64 till] w) (fun r => r.1 = .int .i64 1 ∧ Bel w r.2) := by
  refine e17 ?_
  unfold s17
  have hb : Bel w (w.alloc (.cells k.cs.toArray 37)) := (Bel.refl w).alloc _
  rw [k.box]
  simp only [go_sem]
  refine k33n.bind ?_
  rintro _ rfl
  simp only [show ((1 : Int) != 0) = true from rfl, go_sem]
  exact .ret ⟨rfl, hb⟩
theorem k20n {till : Int} : Brings (Xcall Try.prog (Value.func (Fn.func 20) #[] #[]) #[.pointer none, k.v, .int .i64 till] w) (fun r => r.1 = .int .i64 1 ∧ Bel w r.2) := by
  refine e20 ?_
  unfold s20
  have hb : Bel w (w.alloc (.cells k.cs.toArray 37)) := (Bel.refl w).alloc _
  rw [k.box]
  simp only [go_sem]
  refine k33n.bind ?_
  rintro _ rfl
  simp only [show ((1 : Int) != 0) = true from rfl, go_sem]
  exact .ret ⟨rfl, hb⟩
theorem k21n : Brings (Xcall Try.prog (Value.func (Fn.func 21) #[] #[]) #[.pointer none, k.v] w) (fun r => r.1 = .int .i64 1 ∧ Bel w r.2) := by
  refine e21 ?_
  unfold s21
  have hb : Bel w (w.alloc (.cells k.cs.toArray 37)) := (Bel.refl w).alloc _
  rw [k.box]
  simp only [go_sem, Qb_eqlP (P := Try.prog) (t := 25) (e := 70) ptr25, Option.isNone_none]
  exact .ret ⟨rfl, hb⟩
theorem k15n : Brings (Xcall Try.prog (Value.func (Fn.func 15) #[] #[]) #[.pointer none, k.v] w) (fun r => r.1 = .tuple #[.int .i64 0, .int .i64 0, .bool false] ∧ Bel w r.2) := by
  refine e15 ?_
  unfold s15
  have hb : Bel w (w.alloc (.cells k.cs.toArray 37)) := (Bel.refl w).alloc _
  rw [k.box]
  simp only [go_sem, Qb_eqlP (P := Try.prog) (t := 25) (e := 70) ptr25, Option.isNone_none]
  exact .ret ⟨rfl, hb⟩
theorem k16n : Brings (Xcall Try.prog (Value.func (Fn.func 16) #[] #[]) #[.pointer none] w) (fun r => r = (.int .i64 0, w)) := by
  refine e16 ?_
  unfold s16
  simp only [go_sem, Qb_eqlP (P := Try.prog) (t := 25) (e := 70) ptr25, Option.isNone_none]
  exact .ret rfl
theorem k22n : Brings (Xcall Try.prog (Value.func (Fn.func 22) #[] #[]) #[.pointer none] w) (fun r => r = (.pointer none, w)) := by
  refine e22 ?_
  unfold s22
  simp only [go_sem, Qb_eqlP (P := Try.prog) (t := 25) (e := 70) ptr25, Option.isNone_none]
  exact .ret rfl
theorem k13n {now : Int} : Brings (Xcall Try.prog (Value.func (Fn.func 13) #[] #[]) #[.pointer none, .int .i64 now] w) (fun r => r.1 = .slice none 0 0 ∧ Bel w r.2) := by
  refine e13 ?_
  unfold s13
  have hb : Bel w (w.alloc (.cells #[.int .i64 now] 3)) := (Bel.refl w).alloc _
  simp only [go_sem, Qb_eqlP (P := Try.prog) (t := 25) (e := 70) ptr25, Option.isNone_none]
  exact .ret ⟨rfl, hb⟩
theorem k25n : Brings (Xcall Try.prog (Value.func (Fn.func 25) #[] #[]) #[.pointer none] w) (fun r => r.1 = .tuple #[Tup.zero.v, .bool false] ∧ Bel w r.2) := by
  refine e25 ?_
  unfold s25
  have V1 := (Locals.nil w).add rfl (.cells Tup.zero.cs.toArray 37)
  have o1 : (w.alloc (.cells Tup.zero.cs.toArray 37)).heap[w.heap.size]? = some (.cells Tup.zero.cs.toArray 37) := V1.at_ 0 _ rfl
  have V2 := V1.row (j := 0) (k := w.heap.size) rfl rfl Tup.zero.cs.toArray
  have o2 : ((w.alloc (.cells Tup.zero.cs.toArray 37)).setRow w.heap.size Tup.zero.cs.toArray).heap[w.heap.size]? = some (.cells Tup.zero.cs.toArray 37) := V2.at_ 0 _ rfl
  simp only [alloc37, go_sem, Qb_eqlP (P := Try.prog) (t := 25) (e := 70) ptr25, Option.isNone_none, build37z, store37 o1 rfl, load37 o2, Option.map_some, oneOf_2]
  exact .ret ⟨rfl, V2.bel⟩
end none_

end Go.Proofs.Ytcibkmahibnjeaa
