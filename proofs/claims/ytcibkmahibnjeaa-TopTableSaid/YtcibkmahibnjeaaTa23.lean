/- Due of more rows than twelve: how many. -/
import Derived.Test.YtcibkmahibnjeaaTa22
namespace Go.Proofs.Ytcibkmahibnjeaa
open Go Go.Ev Go.RowKit
open Go.Proofs

theorem k13w {w : World} {a : Nat} {rv : Value} {bv : List Value} {lim seq now : Int} {L : List Rw} (h : Tb w a rv bv lim seq L) (hL : L.length ≤ 200) :
    Brings (Xcall Try.prog (Value.func (Fn.func 13) #[] #[]) #[.pointer (some ⟨a, 0, none⟩), .int .i64 now] w) (fun r => ∃ ks : List Tup, ks.length = ((conc L).filter (dueP now)).length ∧ Ks.Fresh w ks r) := by
  refine e13 ?_
  unfold s13
  have V1 := (Locals.nil w).add rfl (.cells #[.int .i64 now] 3)
  have s1 : (w.alloc (.cells #[.int .i64 now] 3)).heap.size = w.heap.size + 1 := by simp
  simp only [go_sem, Qb_eqlP (P := Try.prog) (t := 25) (e := 70) ptr25, Option.isNone_some, fa70x0]
  have V2 := V1.add (by simp) (.cells #[.slice none 0 0] 62)
  have s2 : ((w.alloc (.cells #[.int .i64 now] 3)).alloc (.cells #[.slice none 0 0] 62)).heap.size = w.heap.size + 2 := by simp
  simp only [alloc62, s1, go_sem]
  generalize (w.alloc (.cells #[.int .i64 now] 3)).alloc (.cells #[.slice none 0 0] 62) = w2 at V2 s2
  refine k28.bind ?_
  rintro _ rfl
  have V3 := V2.add (by rw [s2]; rfl) (.cells #[.pointer (some ⟨a, 0, none⟩)] 90)
  have s3 : (w2.alloc (.cells #[.pointer (some ⟨a, 0, none⟩)] 90)).heap.size = w.heap.size + 3 := by simp [s2]
  rw [s2]
  simp only
  generalize w2.alloc (.cells #[.pointer (some ⟨a, 0, none⟩)] 90) = w3 at V3 s3
  refine Brings.range (f := 49) (fd := Try.f49) Try.func49 (by kernel_rfl) (by kernel_rfl) (K := fun e d w' => s13G0R (.pointer (some ⟨w.heap.size + 1, 0, none⟩)) d w' e) ?_
  rw [s3]
  generalize hE : enterW w3 13 _ _ _ _ = w5
  obtain ⟨Lp, hL5, V5⟩ := enterW_lay' hE V3 (by rw [s3]; rfl)
  have s5 : w5.heap.size = w.heap.size + 5 := by rw [← hE, enterW_size, s3]
  have V5 : Locals w [.cells #[.int .i64 now] 3, .cells #[.slice none 0 0] 62, .cells #[.pointer (some ⟨a, 0, none⟩)] 90, .deferred (some []), .loop Lp] w5 := V5
  clear hE
  have h5 := h.bel V5.bel
  have lt0 := h.lt
  have hd0 : Held (w.heap.size + 5) w5 (w.heap.size + 1) [] := ⟨.slice none 0 0, V5.at_ 1 _ rfl, own_nil _, fun q hq => by cases hq⟩
  have hdl : ∀ i, ((conc L).take i).length ≤ 200 := fun i => by
    have := conc_len (L := L)
    rw [List.length_take]; omega
  -- what holds of the loop's own blocks
  let Z (w' : World) : Prop := w'.heap[w.heap.size]? = some (.cells #[.int .i64 now] 3) ∧ w'.heap[w.heap.size + 3]? = some (.deferred (some [])) ∧ w'.heap[w.heap.size + 4]? = some (.loop Lp)
  have hZ : ∀ {T : Nat → Prop} {w' w'' : World}, Z w' → Chg T w' w'' → ¬ T w.heap.size → ¬ T (w.heap.size + 3) → ¬ T (w.heap.size + 4) → Z w'' := fun hz hc h1 h2 h3 => ⟨hc.at_ hz.1 h1, hc.at_ hz.2.1 h2, hc.at_ hz.2.2 h3⟩
  refine (k49 (S := fun k => k = w.heap.size + 1 ∨ k = w.heap.size + 4) (fun i w' => Held (w.heap.size + 5) w' (w.heap.size + 1) (((conc L).take i).filter (dueP now)) ∧ Z w' ∧ w.heap.size + 5 ≤ w'.heap.size)
    (by rintro k (rfl | rfl) <;> omega) (V5.cell (j := 2) rfl) h5 (by omega) (fun k hk hs => by have := lt0 k hk; omega) ?_
    (fun i w' w'' hj hb => ⟨hj.1.bel hb, hZ hj.2.1 (.of_bel hb fun _ => False) (fun f => f) (fun f => f) (fun f => f), Nat.le_trans hj.2.2 hb.size⟩)
    ⟨by simpa using hd0, ⟨V5.at_ 0 _ rfl, V5.at_ 3 _ rfl, V5.at_ 4 _ rfl⟩, by omega⟩).mono ?_
  · rintro i x w' ⟨hh, hz, hsz⟩ hc hx
    rw [s5]
    rw [hL5.yield1 hz.2.2]
    simp only [List.set_cons_succ, List.set_cons_zero]
    refine s13G0Qb ?_
    unfold s13G0Q
    have B := local_bel w' (.cells Rw.zero.cs.toArray 73) x.cs.toArray
    have A := local_at w' x.cs Rw.zero.cs 73
    have hq : w.heap.size + 5 ≤ w'.heap.size := hsz
    simp only [alloc73, put73, go_sem]
    have hz2 := hZ hz (.of_bel B fun _ => False) (fun f => f) (fun f => f) (fun f => f)
    have hh2 := hh.bel B
    have z2 : w.heap.size + 5 ≤ ((w'.alloc (.cells Rw.zero.cs.toArray 73)).setRow w'.heap.size x.cs.toArray).heap.size := Nat.le_trans hsz B.size
    generalize (w'.alloc (.cells Rw.zero.cs.toArray 73)).setRow w'.heap.size x.cs.toArray = w6 at A B hz2 hh2 z2
    generalize w'.heap.size = q at A hq
    rw [begK_ready hz2.2.2 hL5.state]
    have cB := setB_chg w6 (w.heap.size + 4) (.loop { Lp with state := .busy })
    have A7 := A.chg cB (by omega)
    have hh7 := hh2.chg cB (by omega) (fun q hq _ => by omega)
    have n7 : (setB w6 (w.heap.size + 4) (.loop { Lp with state := .busy })).heap[w.heap.size]? = some (.cells #[.int .i64 now] 3) := cB.at_ hz2.1 (by omega)
    have d7 : (setB w6 (w.heap.size + 4) (.loop { Lp with state := .busy })).heap[w.heap.size + 3]? = some (.deferred (some [])) := cB.at_ hz2.2.1 (by omega)
    have l7 := setB_same (o := .loop { Lp with state := .busy }) hz2.2.2
    have c7 : Chg (fun k => (k = w.heap.size + 1 ∨ k = w.heap.size + 4) ∨ w.heap.size + 5 ≤ k) w' (setB w6 (w.heap.size + 4) (.loop { Lp with state := .busy })) := B.thenChg (cB.mono fun k _ hk => .inl (.inr hk))
    have z7 : w.heap.size + 5 ≤ (setB w6 (w.heap.size + 4) (.loop { Lp with state := .busy })).heap.size := by rw [setB_size]; exact z2
    generalize setB w6 (w.heap.size + 4) (.loop { Lp with state := .busy }) = w7 at A7 hh7 n7 d7 l7 c7 z7
    have e : ({ { Lp with state := .busy } with state := if (none : Option Code).isNone then .ready else .done, pending := none } : Loop) = Lp := by
      have h1 := hL5.state; have h2 := hL5.pending
      obtain ⟨st, pe, fn, tm, pa, asg, bd, de⟩ := Lp
      simp only at h1 h2
      subst h1 h2
      rfl
    simp only [fa73x2, Rw.b2 A7, Qload_cell one3 (cell_at n7 rfl : w7.cell? ⟨w.heap.size, 0, none⟩ = some (.int .i64 now)), go_sem]
    have tf := take_filter_next (p := dueP now) hx
    refine .cond (fun hd => ?_) (fun hd => ?_)
    · have hd : x.till ≤ now := by simpa using hd
      obtain ⟨v, s, w8, v', w9, w10, e1, e2, e3, e4, hh10, c10⟩ := held_push (x := x) hh7 (by have := hdl i; have := List.length_filter_le (dueP now) ((conc L).take i); omega) (by omega) z7
      simp only [e1, Rw.all A7, e2, e3, e4, go_sem]
      have l10 := c10.at_ l7 (by omega)
      rw [endR_eq l10, e]
      have cE := setB_chg w10 (w.heap.size + 4) (.loop Lp)
      refine .ret ⟨rfl, ?_, ⟨?_, ?_, ?_⟩⟩
      · exact (c7.trans (c10.mono fun k _ hk => hk.imp .inl fun h => h) fun _ _ h => h).trans (cE.mono fun k _ hk => .inl (.inr hk)) fun _ _ h => h
      · rw [tf, if_pos (by simpa [dueP] using hd)]
        exact hh10.chg cE (by omega) (fun q hq _ => by omega)
      · exact ⟨cE.at_ (c10.at_ n7 (by omega)) (by omega), cE.at_ (c10.at_ d7 (by omega)) (by omega), setB_same l10⟩
      · rw [setB_size]; exact Nat.le_trans z7 c10.size
    · have hd : ¬ x.till ≤ now := by simpa using hd
      rw [endR_eq l7, e]
      have cE := setB_chg w7 (w.heap.size + 4) (.loop Lp)
      refine .ret ⟨rfl, ?_, ⟨?_, ?_, ?_⟩⟩
      · exact c7.trans (cE.mono fun k _ hk => .inl (.inr hk)) fun _ _ h => h
      · rw [tf, if_neg (by simpa [dueP] using hd), List.append_nil]
        exact hh7.chg cE (by omega) (fun q hq _ => by omega)
      · exact ⟨cE.at_ n7 (by omega), cE.at_ d7 (by omega), setB_same l7⟩
      · rw [setB_size]; exact z7
  · rintro ⟨_, w9⟩ ⟨_, hc, hh, hz, hsz⟩
    simp only at hc hh hz hsz
    rw [s5] at hc
    have tl : (conc L).take L.length = conc L := by rw [← conc_len (L := L), List.take_length]
    rw [tl] at hh
    refine ⟨Lp, .normal, hz.2.2, by rw [hL5.state]; rfl, by rw [hL5.pending]; rfl, ?_⟩
    have cE := setB_chg w9 (w.heap.size + 4) (.loop { Lp with state := .exhausted })
    simp only [show w.heap.size + 3 + 1 = w.heap.size + 4 from rfl]
    have hh1 := hh.chg cE (by omega) (fun q hq _ => by omega)
    have d1 := cE.at_ hz.2.1 (by omega)
    have b1 : Bel w (setB w9 (w.heap.size + 4) (.loop { Lp with state := .exhausted })) := (V5.bel.thenChg (hc.trans (cE.mono fun k _ hk => .inl (.inr hk)) fun _ _ h => h)).bel fun k hk hs => by omega
    have z1 : w.heap.size + 5 ≤ (setB w9 (w.heap.size + 4) (.loop { Lp with state := .exhausted })).heap.size := by rw [setB_size]; exact hsz
    generalize setB w9 (w.heap.size + 4) (.loop { Lp with state := .exhausted }) = w10 at hh1 d1 b1 z1
    obtain ⟨v, hv, ho, hvn⟩ := hh1.ex
    have fl : ((conc L).filter (dueP now)).length ≤ 200 := by
      have := List.length_filter_le (dueP now) (conc L)
      rw [conc_len] at this; omega
    simp only [s13G0R, Qload_cell one62 (cell_at hv rfl : w10.cell? ⟨w.heap.size + 1, 0, none⟩ = some v), go_sem]
    refine (k29w ho (by omega)).bind ?_
    rintro ⟨_, w11⟩ ⟨c11, l', o11, p11⟩
    simp only at c11 o11
    have hv11 := c11.at_ hv fun e => by have := hvn _ e; omega
    have d11 := c11.at_ d1 fun e => by have := hvn _ e; omega
    have b11 : Bel w w11 := (b1.thenChg c11).bel fun k hk e => by have := hvn _ e; omega
    have V11 := View.of_owns o11 (Rw.lens _)
    have ll : l'.length ≤ 200 := by rw [p11]; exact fl
    simp only [Qload_cell one62 (cell_at hv11 rfl : w11.cell? ⟨w.heap.size + 1, 0, none⟩ = some v), V11.len und62, go_sem]
    have z11 : w.heap.size + 5 ≤ w11.heap.size := Nat.le_trans z1 c11.size
    refine Brings.loop (fun m xs w' => ∃ (i : Nat) (u : Value), xs = [u, v, .int .i64 (l'.length : Int), .int .i64 (i : Int)] ∧ i ≤ l'.length ∧ m = l'.length - i ∧ Bel w11 w' ∧ Ks.Fresh w11 ((l'.take i).map (·.key)) (u, w')) ?_ l'.length _ _
      ⟨0, _, rfl, by omega, by omega, Bel.refl _, ⟨Bel.refl _, World.ownsRow_nil w11 0 37 5, fun k hk => by cases hk⟩⟩
    rintro m xs w' ⟨i, u, rfl, hi, hm, hb, hF⟩
    simp only [s13B1, go_sem]
    refine .cond (fun hlt => ?_) (fun hlt => ?_)
    · have hlt : i < l'.length := by
        have : (i : Int) < l'.length := by simpa using hlt
        omega
      have hx : l'[i]? = some l'[i] := List.getElem?_eq_getElem hlt
      generalize l'[i] = x at hx
      obtain ⟨g, hg, ix, lx⟩ := own_at (later_bel o11 hb) hx
      have B := local_bel w' (.cells Rw.zero.cs.toArray 73) x.cs.toArray
      have A := local_at w' x.cs Rw.zero.cs 73
      simp only [ix, lx, alloc73, put73, fa73x0, Tup.all (Rw.in0 A), Ks.lit30, go_sem]
      generalize (w'.alloc (.cells Rw.zero.cs.toArray 73)).setRow w'.heap.size x.cs.toArray = w12 at A B
      have ba : Bel w12 (w12.alloc (.cells x.key.cs.toArray 37)) := (Bel.refl _).alloc _
      obtain ⟨F1, F2, F3⟩ := hF
      simp only at F1 F2 F3
      have tl2 : ((l'.take i).map (·.key)).length ≤ 200 := by rw [List.length_map, List.length_take]; omega
      obtain ⟨u', w13, e13, o13, g13, n13⟩ := Ks.app30 (later_bel F2 (B.trans ba)) (Ks.litView x.key w12) (by simp; omega)
      simp only [e13, go_sem]
      have wr : IntKind.i64.wrap ((i : Int) + 1) = ((i + 1 : Nat) : Int) := by rw [wrap_i64 (by omega) (by omega)]; rfl
      rw [wr]
      have cg := Chg.of_grown g13
      have bb : Bel w11 w13 := ((F1.trans (B.trans ba)).thenChg cg).bel fun k hk e => by have := F3 k e.symm; omega
      refine .ret (.inl ⟨rfl, l'.length - (i + 1), by omega, i + 1, u', rfl, by omega, rfl, bb, bb, ?_, fun k hk => ?_⟩)
      · have : (l'.take (i + 1)).map (·.key) = (l'.take i).map (·.key) ++ [x.key] := by
          rw [List.take_add_one, hx, List.map_append]; rfl
        rw [this]
        exact o13
      · rcases n13 k hk with h1 | h1
        · exact F3 k h1
        · have := (F1.trans (B.trans ba)).size; omega
    · have : i = l'.length := by
        have : ¬ (i : Int) < l'.length := by simpa using hlt
        omega
      subst this
      obtain ⟨F1, F2, F3⟩ := hF
      simp only at F1 F2 F3
      rw [List.take_length] at F2
      refine .ret (.inr ⟨by simp, ?_⟩)
      have dd := F1.at_ d11
      simp only [s13R1, takeAll_one dd, go_sem]
      have cE := setB_chg w' (w.heap.size + 3) (.deferred none)
      have bf : Bel w (setB w' (w.heap.size + 3) (.deferred none)) := ((b11.trans F1).thenChg cE).bel fun k hk e => by omega
      refine .ret ⟨l'.map (·.key), by rw [List.length_map, p11], bf, ?_, fun k hk => ?_⟩
      · exact cE.owns F2 fun q hq e => by have := F3 q hq; omega
      · have := F3 k hk; show w.heap.size ≤ k; omega

end Go.Proofs.Ytcibkmahibnjeaa
