/- Unmap: a number ahead of the changes. -/
import Derived.Test.YtfakpdegiobpaaaSe7
namespace Go.Proofs.Ytfakpdegiobpaaa
open Go Go.Ev Go.RowKit
open Go.Proofs

def unmapP (n : Int) (c : C) : Bool := decide (aheadM ((c.start + c.ahead) % 4294967296) n ≤ 0)
def unmapV (n : Int) (c : C) : Int := if 0 < aheadM ((c.start + c.ahead + c.bs.length) % 4294967296) n then c.start else (n - c.behind) % 4294967296
def unmapC (n : Int) (cs : List C) : Int := match cs.reverse.find? (unmapP n) with | none => n | some c => unmapV n c

theorem unmapC_none {Z : List (Pt × List By)} {n : Int} (h : ∀ z ∈ Z, unmapP n (tellC z) = false) : unmapC n (Z.map tellC) = n := by
  unfold unmapC
  rw [List.find?_eq_none.2 fun c hc => ?_]
  rw [List.mem_reverse, List.mem_map] at hc
  obtain ⟨z, hz, rfl⟩ := hc
  rw [h z hz]; decide
theorem unmapC_some {Z : List (Pt × List By)} {n : Int} {i : Nat} {z : Pt × List By} (hz : Z.reverse[i]? = some z) (hp : unmapP n (tellC z) = true) (hn : ∀ y ∈ Z.reverse.take i, unmapP n (tellC y) = false) : unmapC n (Z.map tellC) = unmapV n (tellC z) := by
  unfold unmapC
  rw [← List.map_reverse, List.find?_map, find_first (p := unmapP n ∘ tellC) hz hp hn]
  rfl

theorem k16 {w : World} {a : Nat} {sl : Value} {Z : List (Pt × List By)} {l : List M} {n : Int} (h : St w a sl Z l) : Brings (Xcall Try.prog (Value.func (Fn.func 16) #[] #[]) #[.pointer (some ⟨a, 0, none⟩), .int .u32 n] w) (fun r => r.1 = .int .u32 (unmapC n (cellsOf 0 l)) ∧ Bel w r.2) := by
  refine e16 ?_
  unfold s16
  simp only [go_sem]
  have V0 := Locals.nil w
  have V1 := V0.add rfl (.cells #[.int .u32 n] 23)
  have V2 := V1.add (by simp) (.cells #[.int .u32 0] 23)
  have hs3 : ((w.alloc (.cells #[.int .u32 n] 23)).alloc (.cells #[.int .u32 0] 23)).heap.size = w.heap.size + 2 := by simp
  simp only [alloc23, World.size_alloc, Qb_eqlP (P := Try.prog) (t := 24) (e := 66) ptr24, Option.isNone_some, go_sem]
  generalize (w.alloc (.cells #[.int .u32 n] 23)).alloc (.cells #[.int .u32 0] 23) = w3 at V2 hs3
  refine (k29 (x := some ⟨a, 0, none⟩)).bind ?_
  rintro _ rfl
  rw [hs3]
  have V4 := V2.add (by rw [hs3]; rfl) (.cells #[.pointer (some ⟨a, 0, none⟩)] 24)
  have hs4 : (w3.alloc (.cells #[.pointer (some ⟨a, 0, none⟩)] 24)).heap.size = w.heap.size + 3 := by simp [hs3]
  simp only
  generalize w3.alloc (.cells #[.pointer (some ⟨a, 0, none⟩)] 24) = w4 at V4 hs4
  refine Brings.range (f := 41) (fd := Try.f41) Try.func41 (by kernel_rfl) (by kernel_rfl) (K := fun e d w' => s16G0R (.pointer (some ⟨w.heap.size, 0, none⟩)) (.pointer (some ⟨w.heap.size + 1, 0, none⟩)) d w' e) ?_
  rw [hs4]
  obtain ⟨L, hL, V5⟩ := enterW_lay (fn := 16) (tmps := #[.pointer (some ⟨a, 0, none⟩), .int .u32 n, undef, .pointer (some ⟨w.heap.size, 0, none⟩), .pointer (some ⟨w.heap.size + 1, 0, none⟩), undef, undef, .pointer (some ⟨a, 0, none⟩), .bool false, .pointer (some ⟨a, 0, none⟩), .func (.func 41) #[] #[.pointer (some ⟨w.heap.size + 2, 0, none⟩)], undef, undef, undef, undef, undef, undef, undef, undef, undef, undef, undef, undef, undef, undef, undef, undef, undef, undef, undef, undef, undef, undef, undef, undef, undef, undef, undef, undef]) (ps := #[11]) (ass := nav [1, 1, 0, 1, 0, 0] (bodyOf Try.f16)) (bdy := nav [1, 1, 0, 1, 0, 1] (bodyOf Try.f16)) V4 (by rw [hs4]; rfl)
  have sz5 : (enterW w4 16 #[.pointer (some ⟨a, 0, none⟩), .int .u32 n, undef, .pointer (some ⟨w.heap.size, 0, none⟩), .pointer (some ⟨w.heap.size + 1, 0, none⟩), undef, undef, .pointer (some ⟨a, 0, none⟩), .bool false, .pointer (some ⟨a, 0, none⟩), .func (.func 41) #[] #[.pointer (some ⟨w.heap.size + 2, 0, none⟩)], undef, undef, undef, undef, undef, undef, undef, undef, undef, undef, undef, undef, undef, undef, undef, undef, undef, undef, undef, undef, undef, undef, undef, undef, undef, undef, undef, undef] #[11] (nav [1, 1, 0, 1, 0, 0] (bodyOf Try.f16)) (nav [1, 1, 0, 1, 0, 1] (bodyOf Try.f16))).heap.size = w.heap.size + 5 := by rw [enterW_size, hs4]
  generalize enterW w4 16 _ _ _ _ = w5 at V5 sz5
  have V5 : Locals w [.cells #[.int .u32 n] 23, .cells #[.int .u32 0] 23, .cells #[.pointer (some ⟨a, 0, none⟩)] 24, .deferred (some []), .loop L] w5 := V5
  have h5 := h.bel V5.bel
  have la := h.lt
  have c2 : w5.cell? ⟨w.heap.size + 2, 0, none⟩ = some (.pointer (some ⟨a, 0, none⟩)) := V5.cell (j := 2) rfl
  refine (k41 (S := fun k => k = w.heap.size + 1 ∨ k = w.heap.size + 4)
    (fun i w' => Locals w [.cells #[.int .u32 n] 23, .cells #[.int .u32 0] 23, .cells #[.pointer (some ⟨a, 0, none⟩)] 24, .deferred (some []), .loop L] w' ∧ ∀ y ∈ Z.reverse.take i, unmapP n (tellC y) = false)
    (fun w' => Locals w [.cells #[.int .u32 n] 23, .cells #[.int .u32 (unmapC n (Z.map tellC))] 23, .cells #[.pointer (some ⟨a, 0, none⟩)] 24, .deferred (some []), .loop { L with state := .done, pending := some .ret }] w')
    (by rintro k (rfl | rfl) <;> omega) c2 h5.cells h5.view (fun k hk hs => by have := la k (.inr hk); omega) ?_
    (fun i w' w'' hj hc => ⟨hj.1.beyond hc (by rw [sz5]; simp), hj.2⟩) (fun w' w'' hj hc => hj.beyond hc (by rw [sz5]; simp)) ⟨V5, by simp⟩).mono ?_
  · rintro i x w' ⟨hV, hn⟩ _ hi hx
    obtain ⟨z, hz, rfl, hzm⟩ := rev_at hi hx
    rw [hL.yield1 (hV.at_ 4 _ rfl)]
    simp only [List.set_cons_succ, List.set_cons_zero]
    refine s16G0Qb ?_
    unfold s16G0Q
    have B := local_bel w' (.cells Pt.zero.cs.toArray 63) z.1.cs.toArray
    have A := local_at w' z.1.cs Pt.zero.cs 63
    have hne : w'.heap.size ≠ w.heap.size + 4 := by have := hV.size; simp at this; omega
    simp only [alloc63, put63, go_sem]
    have V6 := hV.later B
    generalize (w'.alloc (.cells Pt.zero.cs.toArray 63)).setRow w'.heap.size z.1.cs.toArray = w6 at A V6 B
    generalize w'.heap.size = q at A hne
    rw [begK_ready (V6.at_ 4 _ rfl) hL.state]
    have A7 := A.chg (setB_chg w6 (w.heap.size + 4) (.loop { L with state := .busy })) hne
    have V7 := V6.set (j := 4) (show _ < 5 by decide) rfl (.loop { L with state := .busy })
    have c7 : Chg (fun k => k = w.heap.size + 1 ∨ k = w.heap.size + 4) w' (setB w6 (w.heap.size + 4) (.loop { L with state := .busy })) := B.thenChg ((setB_chg _ _ _).mono fun k _ hk => .inr hk)
    generalize setB w6 (w.heap.size + 4) _ = w7 at A7 V7 c7
    have n7 : w7.cell? ⟨w.heap.size, 0, none⟩ = some (.int .u32 n) := V7.cell (j := 0) rfl
    have leave : ∀ (j : Option Code) {w8 : World}, Chg (fun k => k = w.heap.size + 1 ∨ k = w.heap.size + 4) w' w8 → Chg (fun k => k = w.heap.size + 1 ∨ k = w.heap.size + 4) w' (setB w8 (w.heap.size + 4) (.loop { { L with state := .busy } with state := if j.isNone then .ready else .done, pending := j })) := fun j w8 c => c.trans ((setB_chg _ _ _).mono fun k _ hk => .inr hk) fun _ _ s => s
    simp only [Pt.b0 A7, Pt.b2 A7, Qload_cell one23 n7, u32w, go_sem]
    refine k30.bind ?_
    rintro _ rfl
    simp only [go_sem]
    refine .cond (fun hgt => ?_) (fun hgt => ?_)
    · have hgt : 0 < aheadM ((z.1.start + z.1.ahead) % 4294967296) n := by simpa using hgt
      rw [endR_eq (V7.at_ 4 _ rfl)]
      have e : ({ { L with state := .busy } with state := if (none : Option Code).isNone then .ready else .done, pending := none } : Loop) = L := by
        have h1 := hL.state; have h2 := hL.pending
        obtain ⟨st, pe, fn, tm, pa, asg, bd, de⟩ := L
        simp only at h1 h2
        subst h1 h2
        rfl
      have V8 := V7.set (j := 4) (show _ < 5 by decide) rfl (.loop { { L with state := .busy } with state := if (none : Option Code).isNone then .ready else .done, pending := none })
      have c8 := leave none c7
      rw [e] at V8 c8 ⊢
      exact .ret ⟨c8, .inl ⟨rfl, V8, take_none hz (by unfold unmapP tellC; simp; omega) hn⟩⟩
    · have hgt : ¬ 0 < aheadM ((z.1.start + z.1.ahead) % 4294967296) n := by simpa using hgt
      have hm : unmapC n (Z.map tellC) = unmapV n (tellC z) := unmapC_some hz (by unfold unmapP tellC; simp; omega) hn
      simp only [Pt.b4 A7, (h.texts z hzm).1.view.len By.und34, Qload_cell one23 n7, go_sem]
      rw [Qconv_int (k := .u32) (by kernel_rfl), u32w]
      simp only [u32w, go_sem]
      refine k30.bind ?_
      rintro _ rfl
      simp only [go_sem]
      have o7 : w7.heap[w.heap.size + 1]? = some (.cells #[.int .u32 0] 23) := V7.at_ 1 _ rfl
      have out : ∀ v : Int, v = unmapC n (Z.map tellC) → Brings ((Xstore Try.prog 23 (.pointer (some ⟨w.heap.size + 1, 0, none⟩)) (.int .u32 v) w7).bind fun r => endR Try.prog (w.heap.size + 4) (some Code.ret) r.2)
          (fun r => Chg (fun k => k = w.heap.size + 1 ∨ k = w.heap.size + 4) w' r.2 ∧ ((r.1 = .bool true ∧ Locals w [.cells #[.int .u32 n] 23, .cells #[.int .u32 0] 23, .cells #[.pointer (some ⟨a, 0, none⟩)] 24, .deferred (some []), .loop L] r.2 ∧ ∀ y ∈ Z.reverse.take (i + 1), unmapP n (tellC y) = false) ∨ (r.1 = .bool false ∧ Locals w [.cells #[.int .u32 n] 23, .cells #[.int .u32 (unmapC n (Z.map tellC))] 23, .cells #[.pointer (some ⟨a, 0, none⟩)] 24, .deferred (some []), .loop { L with state := .done, pending := some .ret }] r.2))) := by
        rintro v rfl
        have V8 := V7.row (j := 1) rfl rfl #[.int .u32 (unmapC n (Z.map tellC))]
        have c8 : Chg (fun k => k = w.heap.size + 1 ∨ k = w.heap.size + 4) w' (w7.setRow (w.heap.size + 1) #[.int .u32 (unmapC n (Z.map tellC))]) := c7.trans ((setRow_chg _ _).mono fun k _ hk => .inl hk) fun _ _ s => s
        simp only [store23 o7, go_sem]
        rw [endR_eq (V8.at_ 4 _ rfl)]
        exact .ret ⟨leave _ c8, .inr ⟨rfl, V8.set (j := 4) (show _ < 5 by decide) rfl _⟩⟩
      have el : ((z.1.start + z.1.ahead) % 4294967296 + (z.2.length : Int) % 4294967296) % 4294967296 = (z.1.start + z.1.ahead + z.2.length) % 4294967296 := by omega
      rw [el]
      refine .cond (fun h2 => ?_) (fun h2 => ?_)
      · have h2 : 0 < aheadM ((z.1.start + z.1.ahead + z.2.length) % 4294967296) n := by simpa using h2
        simp only [Pt.b0 A7, go_sem]
        exact out _ (by rw [hm]; unfold unmapV tellC; rw [if_pos h2])
      · have h2 : ¬ 0 < aheadM ((z.1.start + z.1.ahead + z.2.length) % 4294967296) n := by simpa using h2
        simp only [Pt.b3 A7, Qload_cell one23 n7, go_sem, u32w]
        exact out _ (by rw [hm]; unfold unmapV tellC; rw [if_neg h2])
  · have ht : Z.map tellC = cellsOf 0 l := h.tells
    rintro ⟨_, w9⟩ ⟨h1, _, ⟨hV, hn⟩ | hV⟩
    · rw [List.length_map, show Z.reverse.take Z.length = Z.reverse by rw [← List.length_reverse, List.take_length]] at hn
      have hm := unmapC_none (Z := Z) (n := n) fun z hz => hn z (List.mem_reverse.2 hz)
      refine ⟨L, .normal, hV.at_ 4 _ rfl, by rw [hL.state]; rfl, by rw [hL.pending]; rfl, ?_⟩
      have V1 := hV.set (j := 4) (show _ < 5 by decide) rfl (.loop { L with state := .exhausted })
      simp only [show w.heap.size + 3 + 1 = w.heap.size + 4 from rfl]
      generalize setB w9 (w.heap.size + 4) _ = w1 at V1
      have o1 : w1.cell? ⟨w.heap.size, 0, none⟩ = some (.int .u32 n) := V1.cell (j := 0) rfl
      have o2 : w1.heap[w.heap.size + 1]? = some (.cells #[.int .u32 0] 23) := V1.at_ 1 _ rfl
      have V2 := V1.row (j := 1) rfl rfl #[.int .u32 n]
      have V3 := V2.set (j := 3) (show _ < 5 by decide) rfl (.deferred none)
      simp only [s16G0R, Qload_cell one23 o1, store23 o2, takeAll_one (V2.at_ 3 _ rfl), go_sem]
      have o3 := V3.cell (j := 1) rfl
      simp only [Qload_cell one23 o3, go_sem]
      exact .ret ⟨by rw [← ht, hm]; rfl, V3.bel⟩
    · refine ⟨_, .ret, hV.at_ 4 _ rfl, rfl, rfl, ?_⟩
      have V1 := hV.set (j := 4) (show _ < 5 by decide) rfl (.loop { L with state := .exhausted, pending := some .ret })
      simp only [show w.heap.size + 3 + 1 = w.heap.size + 4 from rfl]
      generalize setB w9 (w.heap.size + 4) _ = w1 at V1
      have V3 := V1.set (j := 3) (show _ < 5 by decide) rfl (.deferred none)
      simp only [s16G0R, takeAll_one (V1.at_ 3 _ rfl), go_sem]
      have o3 := V3.cell (j := 1) rfl
      simp only [Qload_cell one23 o3, go_sem]
      exact .ret ⟨by rw [← ht]; rfl, V3.bel⟩

end Go.Proofs.Ytfakpdegiobpaaa
