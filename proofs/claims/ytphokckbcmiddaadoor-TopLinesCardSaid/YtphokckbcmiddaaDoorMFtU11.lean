/- Add: what is done behind the last part. -/
import Derived.Test.YtphokckbcmiddaaDoorMFtU10
namespace Go.Proofs.YtphokckbcmiddaaDoor.Sq
open Go Go.Ev Go.RowKit
open Go.Proofs

set_option maxRecDepth 100000 in
theorem und49 : Tryd.prog.underlying 49 = some (.int .i64) := by kernel_rfl
set_option maxRecDepth 100000 in
theorem zero49 (w : World) : (zeroValue 49).run Tryd.prog w = .ok (.int .i64 0) w := by kernel_rfl
set_option maxRecDepth 100000 in
theorem alloc49 (w : World) : Xalloc Tryd.prog 49 w = some (.pointer (some ⟨w.heap.size, 0, none⟩), w.alloc (.cells #[.int .i64 0] 49)) := Xalloc_eq (zero49 w)
set_option maxRecDepth 100000 in
theorem inf49 : ∃ i, Tryd.prog.info? 49 = some i ∧ i.size = 1 := ⟨(Tryd.prog.info? 49).get (by kernel_rfl), by kernel_rfl, by kernel_rfl⟩
set_option maxRecDepth 100000 in
theorem one49 : one Tryd.prog 49 = true := by kernel_rfl
set_option maxRecDepth 100000 in
theorem store49 {w : World} {g : Nat} {u : Value} {te : TypeId} {b : Int} (hg : w.heap[g]? = some (.cells #[u] te (0, 0))) : Xstore Tryd.prog 49 (.pointer (some ⟨g, 0, none⟩)) (.int .i64 b) w = some (undef, w.setRow g #[.int .i64 b]) := by
  obtain ⟨i, hi, hs⟩ := inf49
  exact Xstore_var (v := .int .i64 b) hi (by rw [hs]; rfl) hg (by rw [hs]; rfl) (by simp [Value.cells, Value.oneCell'])
set_option maxRecDepth 100000 in
theorem storeAhead {w : World} {q : Nat} {x : Pt} {b : Int} (hg : w.heap[q]? = some (.cells x.cs.toArray 85)) : Xstore Tryd.prog 24 (.pointer (some ⟨q, 2, none⟩)) (.int .u32 b) w = some (undef, w.setRow q ({ x with ahead := b } : Pt).cs.toArray) := by
  obtain ⟨i, hi, hs⟩ := inf24
  rw [Xstore_row (v := .int .u32 b) hi (by rw [hs]; rfl) hg (by rw [hs]; show 2 + 1 ≤ 5; omega) (by simp [Value.cells, Value.oneCell']), hs]
  rfl
set_option maxRecDepth 100000 in
theorem storeBehind {w : World} {q : Nat} {x : Pt} {b : Int} (hg : w.heap[q]? = some (.cells x.cs.toArray 85)) : Xstore Tryd.prog 24 (.pointer (some ⟨q, 3, none⟩)) (.int .u32 b) w = some (undef, w.setRow q ({ x with behind := b } : Pt).cs.toArray) := by
  obtain ⟨i, hi, hs⟩ := inf24
  rw [Xstore_row (v := .int .u32 b) hi (by rw [hs]; rfl) hg (by rw [hs]; show 3 + 1 ≤ 5; omega) (by simp [Value.cells, Value.oneCell']), hs]
  rfl

set_option maxRecDepth 100000 in
theorem chg_or {S T : Nat → Prop} {a b c : World} (h : Chg S a b) (k : Chg T b c) : Chg (fun k => S k ∨ T k) a c :=
  (h.mono fun _ _ h => .inl h).trans (k.mono (T := fun k => S k ∨ T k) fun _ _ h => .inr h) fun _ _ h => h
set_option maxRecDepth 100000 in
theorem cell_one {w : World} {g : Nat} {v : Value} {t : TypeId} (h : w.heap[g]? = some (.cells #[v] t (0, 0))) : w.cell? ⟨g, 0, none⟩ = some v := cell_at h rfl

/-- What Add does. -/
def addM (l : List M) (p : M) : Int × List M :=
  if mayM p.was = false ∨ mayM p.bs.length = false then (2, l)
  else if (match l.reverse with | [] => false | q :: _ => decide (aheadM p.start q.end_ < 0)) = true then (2, l)
  else if 8 ≤ l.length then (9, l) else (0, l ++ [p])

/-- A deed on a stream. -/
def Did (w : World) (a : Nat) (sl : Value) (Z : List (Pt × List By)) (n : Int) (l' : List M) (r : Value × World) : Prop :=
  r.1 = .int .i64 n ∧ Chg (Foot a sl) w r.2 ∧ ∃ sl' Z', St r.2 a sl' Z' l' ∧ (∀ k, Foot a sl' k → Foot a sl k ∨ w.heap.size ≤ k) ∧ ∀ k, Reads Pt.text Z' k → Reads Pt.text Z k ∨ w.heap.size ≤ k

set_option maxRecDepth 100000 in
theorem did_same {w w' : World} {a : Nat} {sl : Value} {Z : List (Pt × List By)} {l : List M} {n : Int} (h : St w a sl Z l) (hb : Bel w w') : Did w a sl Z n l (.int .i64 n, w') :=
  ⟨rfl, .of_bel hb _, sl, Z, h.bel hb, fun _ hk => .inl hk, fun _ hk => .inl hk⟩

set_option maxRecDepth 100000 in
theorem cells_last : ∀ (l : List M) (d : Int) (c : C), (cellsOf d l).reverse[0]? = some c → c.behind = diffOf d l
  | [], _, _, h => by simp [cellsOf] at h
  | [p], d, c, h => by
    simp [cellsOf] at h
    subst h; rfl
  | p :: q :: l, d, c, h => by
    have : (cellsOf (p.more d) (q :: l)).reverse[0]? = some c := by
      rw [cellsOf, List.reverse_cons] at h
      rw [List.getElem?_append_left] at h
      · exact h
      · rw [List.length_reverse, cells_len]; simp
    exact cells_last (q :: l) _ c this

set_option maxRecDepth 100000 in
theorem reads_lt {w : World} {a : Nat} {sl : Value} {Z : List (Pt × List By)} {l : List M} (h : St w a sl Z l) {k : Nat} (hk : Reads Pt.text Z k) : k < w.heap.size := by
  obtain ⟨z, hz, hk⟩ := hk
  exact (h.texts z hz).1.lt hk

set_option maxRecDepth 100000 in
/-- The end of Add: the part stands ready, but for its own difference. -/
theorem tail20 {w0 w : World} {a rv q dq : Nat} {sl tv : Value} {Z : List (Pt × List By)} {l : List M} {p : M} {d : Int} {tx : Sl} (h0 : St w0 a sl Z l) (hb : Bel w0 w) (hrv : w.heap[rv]? = some (.cells #[.int .i64 0] 49)) (hq : w.heap[q]? = some (.cells (⟨p.start, p.end_, d, 0, tx⟩ : Pt).cs.toArray 85))
    (ht : Txt w0 w tx p.bs) (htv : View By.cs 1 w tv p.bs) (hd : d = diffOf 0 l) (hdf : w.heap[dq]? = some (.deferred (some []))) (l1 : w0.heap.size ≤ rv) (l2 : w0.heap.size ≤ q) (l3 : w0.heap.size ≤ dq) (nt : tx.v.ownBlock ≠ some q) :
    Brings (s17G1R (.pointer (some ⟨a, 0, none⟩)) (.int .i64 p.was) tv (.pointer (some ⟨rv, 0, none⟩)) (.pointer (some ⟨q, 0, none⟩)) [{ target := .collected dq, args := #[] }] w .normal) (Did w0 a sl Z (if 8 ≤ l.length then 9 else 0) (if 8 ≤ l.length then l else l ++ [p])) := by
  have h := h0.bel hb
  have hm := h.most
  have hz := h.len
  have neq : rv ≠ q := fun e => by rw [e, hq] at hrv; injection hrv with e; injection e with _ e; cases e
  have nrd : rv ≠ dq := fun e => by rw [e, hdf] at hrv; cases hrv
  have nqd : q ≠ dq := fun e => by rw [e, hdf] at hq; cases hq
  have la := h0.lt a (.inl rfl)
  have lv : ∀ w2, Qlen Tryd.prog #[80] 3 #[sl] w2 = some (.int .i64 l.length) := fun w2 => by
    have := h.view.len Pt.und80 (ty := 3) w2
    rwa [List.length_map, hz] at this
  simp only [s17G1R, go_sem, h.ptr (Bel.refl _), lv]
  by_cases c8 : 8 ≤ l.length
  · have e8 : decide ((8 : Int) ≤ (l.length : Int)) = true := by rw [decide_eq_true_iff]; omega
    simp only [e8, go_sem, c8, if_true, store49 hrv]
    have c1 := setRow_chg (w := w) rv #[.int .i64 9]
    have hdf1 := c1.at_ hdf (fun e => nrd e.symm)
    rw [takeAll_one hdf1]
    have c2 := setB_chg (w.setRow rv #[.int .i64 9]) dq (.deferred none)
    have hr := c2.at_ (setRow_heap w rv _ #[.int .i64 9] 49 _ hrv) nrd
    simp only [go_sem, Qload_cell one49 (cell_one hr)]
    exact .ret (did_same h0 ((hb.thenChg (chg_or c1 c2)).bel fun k hk hs => by rcases hs with hs | hs <;> omega))
  · have e8 : decide ((8 : Int) ≤ (l.length : Int)) = false := by rw [decide_eq_false_iff_not]; omega
    have hq0 := CellsAt.of hq
    simp only [e8, go_sem, c8, if_false, Pt.b2 hq0, htv.len By.und22]
    rw [Qconv_int (k := .u32) (by kernel_rfl), Qconv_int (k := .u32) (by kernel_rfl)]
    simp only [u32w, go_sem]
    have em : ((d + (p.bs.length : Int) % 4294967296) % 4294967296 - p.was % 4294967296) % 4294967296 = p.more d := by unfold M.more; omega
    rw [em, storeBehind hq]
    have c1 := setRow_chg (w := w) q (⟨p.start, p.end_, d, p.more d, tx⟩ : Pt).cs.toArray
    have hq1 := setRow_heap w q _ (⟨p.start, p.end_, d, p.more d, tx⟩ : Pt).cs.toArray 85 _ hq
    have rv1 := c1.at_ hrv neq
    have df1 := c1.at_ hdf (fun e => nqd e.symm)
    have t1 : Txt w0 (w.setRow q (⟨p.start, p.end_, d, p.more d, tx⟩ : Pt).cs.toArray) tx p.bs := ⟨ht.1.chg c1 fun k hk e => nt (by rw [hk, e]), ht.2⟩
    have b1 : Bel w0 (w.setRow q (⟨p.start, p.end_, d, p.more d, tx⟩ : Pt).cs.toArray) := (hb.thenChg c1).bel fun k hk e => by omega
    simp only [go_sem]
    have bd : Bel (w.setRow q (⟨p.start, p.end_, d, p.more d, tx⟩ : Pt).cs.toArray) (w.setRow q (⟨p.start, p.end_, d, p.more d, tx⟩ : Pt).cs.toArray).drew := (Bel.refl _).drew
    have hq2 := bd.at_ hq1
    have rv2 := bd.at_ rv1
    have df2 := bd.at_ df1
    have t2 := t1.bel bd
    have b2 := b1.trans bd
    clear c1 hq1 rv1 df1 t1 b1
    generalize (w.setRow q (⟨p.start, p.end_, d, p.more d, tx⟩ : Pt).cs.toArray).drew = w2 at hq2 rv2 df2 t2 b2
    clear bd
    have h2 := h0.bel b2
    simp only [h2.ptr (Bel.refl _), Pt.all (CellsAt.of hq2), Pt.lit64, go_sem]
    have b3 : Bel w2 (w2.alloc (.cells (⟨p.start, p.end_, d, p.more d, tx⟩ : Pt).cs.toArray 85)) := (Bel.refl w2).alloc _
    have h3 := h2.bel b3
    obtain ⟨v', w4, e4, ho, hg, hk⟩ := Pt.app64 h3.owns (Pt.litView ⟨p.start, p.end_, d, p.more d, tx⟩ w2) (by rw [List.length_map]; simp; omega)
    rw [e4]
    have c4 : Chg (fun k => sl.ownBlock = some k) w2 w4 := b3.thenChg ((Chg.of_grown hg).mono fun k _ hk => hk.symm)
    have s02 := b2.size
    have hk' : ∀ k, v'.ownBlock = some k → sl.ownBlock = some k ∨ w2.heap.size ≤ k := fun k hv => (hk k hv).imp id fun h => by simp at h; omega
    have lsl : ∀ k, sl.ownBlock = some k → k < w0.heap.size := fun k hk => h0.lt k (.inr hk)
    have na : v'.ownBlock ≠ some a := fun e => by
      rcases hk' a e with h1 | h1
      · exact h0.apart h1
      · omega
    have va4 := c4.at_ h2.var (fun e => h0.apart e)
    have rv4 := c4.at_ rv2 (fun e => by have := lsl _ e; omega)
    have df4 := c4.at_ df2 (fun e => by have := lsl _ e; omega)
    have e5 := Pt.store80 va4 (Pt.owns_slice ho)
    have c5 := setRow_chg (w := w4) a #[v']
    have rv5 := c5.at_ rv4 (by omega)
    have df5 := c5.at_ df4 (by omega)
    simp only [e5, go_sem, h2.ptr b3, eq_self, and_self, store49 rv5]
    have c6 := setRow_chg (w := w4.setRow a #[v']) rv #[.int .i64 0]
    have rv6 := setRow_heap (w4.setRow a #[v']) rv _ #[.int .i64 0] 49 _ rv5
    have df6 := c6.at_ df5 (fun e => nrd e.symm)
    rw [takeAll_one df6]
    have c7 := setB_chg ((w4.setRow a #[v']).setRow rv #[.int .i64 0]) dq (.deferred none)
    have rv7 := c7.at_ rv6 nrd
    simp only [go_sem, Qload_cell one49 (cell_one rv7)]
    have C : Chg (fun k => ((sl.ownBlock = some k ∨ k = a) ∨ k = rv) ∨ k = dq) w2 (setB ((w4.setRow a #[v']).setRow rv #[.int .i64 0]) dq (.deferred none)) := chg_or (chg_or (chg_or c4 c5) c6) c7
    have C57 : Chg (fun k => (k = a ∨ k = rv) ∨ k = dq) w4 (setB ((w4.setRow a #[v']).setRow rv #[.int .i64 0]) dq (.deferred none)) := chg_or (chg_or c5 c6) c7
    have nvk : ∀ k, v'.ownBlock = some k → ¬ ((k = a ∨ k = rv) ∨ k = dq) := by
      rintro k hk ((rfl | rfl) | rfl)
      · exact na hk
      · rcases hk' _ hk with h1 | h1
        · have := lsl _ h1; omega
        · have := (Array.getElem?_eq_some_iff.1 rv2).1; omega
      · rcases hk' _ hk with h1 | h1
        · have := lsl _ h1; omega
        · have := (Array.getElem?_eq_some_iff.1 df2).1; omega
    have va7 := c7.at_ (c6.at_ (setRow_heap w4 a _ #[v'] 82 _ va4) (show ¬ a = rv by omega)) (show ¬ a = dq by omega)
    -- texts: those that were there, and the new one
    have old : ∀ z ∈ Z, OwnB w2 z.1.text.v z.2 ∧ ∀ k, z.1.text.v.ownBlock = some k → k < w0.heap.size ∧ k ≠ a ∧ sl.ownBlock ≠ some k := fun z hz => by
      obtain ⟨q1, q2, q3⟩ := h0.texts z hz
      exact ⟨(h2.texts z hz).1, fun k hk => ⟨q1.lt hk, fun e => q2 (by rw [hk, e]), q3 k hk⟩⟩
    refine .ret ⟨rfl, (b2.thenChg C).mono (T := Foot a sl) (fun k hk hs => ?_), v', Z ++ [(⟨p.start, p.end_, d, p.more d, tx⟩, p.bs)], ⟨va7, ?_, na, ?_, ?_, ?_⟩, ?_, ?_⟩
    · rcases hs with ((hs | rfl) | rfl) | rfl
      · exact .inr hs
      · exact .inl rfl
      · omega
      · omega
    · rw [List.map_append]
      exact C57.owns ho nvk
    · intro z hz
      rcases List.mem_append.1 hz with hz | hz
      · obtain ⟨q1, q2⟩ := old z hz
        refine ⟨q1.chg C fun k hk hs => ?_, fun e => (q2 a e).2.1 rfl, fun k hk e => ?_⟩
        · obtain ⟨q3, q4, q5⟩ := q2 k hk
          rcases hs with ((hs | hs) | hs) | hs
          · exact q5 hs
          · exact q4 hs
          · omega
          · omega
        · obtain ⟨q3, q4, q5⟩ := q2 k hk
          rcases hk' k e with h1 | h1
          · exact q5 h1
          · omega
      · simp only [List.mem_singleton] at hz
        subst hz
        simp only
        have tl : ∀ k, tx.v.ownBlock = some k → w0.heap.size ≤ k ∧ k < w2.heap.size := fun k hk => ⟨t2.2 k hk, t2.1.lt hk⟩
        refine ⟨t2.1.chg C fun k hk hs => ?_, fun e => by have := (tl a e).1; omega, fun k hk e => ?_⟩
        · obtain ⟨q3, q4⟩ := tl k hk
          rcases hs with ((hs | hs) | hs) | hs
          · have := lsl k hs; omega
          · omega
          · subst hs
            obtain ⟨_, ⟨e', _⟩ | ⟨g, cap, cur, e', _, hg', _⟩⟩ := t2.1
            · rw [e'] at hk; cases hk
            · rw [e'] at hk
              simp only [Value.ownBlock, Option.some.injEq] at hk
              subst hk
              rw [rv2] at hg'
              injection hg' with hg'
              injection hg' with _ hg'
              cases hg'
          · subst hs
            obtain ⟨_, ⟨e', _⟩ | ⟨g, cap, cur, e', _, hg', _⟩⟩ := t2.1
            · rw [e'] at hk; cases hk
            · rw [e'] at hk
              simp only [Value.ownBlock, Option.some.injEq] at hk
              subst hk
              rw [df2] at hg'
              cases hg'
        · obtain ⟨q3, q4⟩ := tl k hk
          rcases hk' k e with h1 | h1
          · have := lsl k h1; omega
          · omega
    · rw [List.map_append, h0.tells, cells_add, ← hd]
      rfl
    · simp; omega
    · rintro k (rfl | hk)
      · exact .inl (.inl rfl)
      · rcases hk' k hk with h1 | h1
        · exact .inl (.inr h1)
        · exact .inr (by omega)
    · rintro k ⟨z, hz, hk⟩
      rcases List.mem_append.1 hz with hz | hz
      · exact .inl ⟨z, hz, hk⟩
      · simp only [List.mem_singleton] at hz
        subst hz
        exact .inr (t2.2 k hk)

end Go.Proofs.YtphokckbcmiddaaDoor.Sq
