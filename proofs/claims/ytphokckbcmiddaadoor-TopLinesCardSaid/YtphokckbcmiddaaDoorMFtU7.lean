/- Map: a number behind the changes. -/
import Derived.Test.YtphokckbcmiddaaDoorMFtU6
namespace Go.Proofs.YtphokckbcmiddaaDoor.Sq
open Go Go.Ev Go.RowKit
open Go.Proofs

set_option maxRecDepth 100000 in
theorem zero24 (w : World) : (zeroValue 24).run Tryd.prog w = .ok (.int .u32 0) w := by kernel_rfl
set_option maxRecDepth 100000 in
theorem alloc24 (w : World) : Xalloc Tryd.prog 24 w = some (.pointer (some ⟨w.heap.size, 0, none⟩), w.alloc (.cells #[.int .u32 0] 24)) := Xalloc_eq (zero24 w)
set_option maxRecDepth 100000 in
theorem inf24 : ∃ i, Tryd.prog.info? 24 = some i ∧ i.size = 1 := ⟨(Tryd.prog.info? 24).get (by kernel_rfl), by kernel_rfl, by kernel_rfl⟩
set_option maxRecDepth 100000 in
theorem store24 {w : World} {g : Nat} {u : Value} {te : TypeId} {b : Int} (hg : w.heap[g]? = some (.cells #[u] te (0, 0))) : Xstore Tryd.prog 24 (.pointer (some ⟨g, 0, none⟩)) (.int .u32 b) w = some (undef, w.setRow g #[.int .u32 b]) := by
  obtain ⟨i, hi, hs⟩ := inf24
  exact Xstore_var (v := .int .u32 b) hi (by rw [hs]; rfl) hg (by rw [hs]; rfl) (by simp [Value.cells, Value.oneCell'])

def tellC (z : Pt × List By) : C := ⟨z.1.start, z.1.end_, z.1.ahead, z.1.behind, z.2⟩
def mapP (n : Int) (c : C) : Bool := decide (aheadM c.start n ≤ 0)
def mapV (n : Int) (c : C) : Int := if 0 < aheadM c.end_ n then (c.start + c.ahead) % 4294967296 else (n + c.behind) % 4294967296
def mapC (n : Int) (cs : List C) : Int := match cs.reverse.find? (mapP n) with | none => n | some c => mapV n c

set_option maxRecDepth 100000 in
theorem rev_at {Z : List (Pt × List By)} {i : Nat} {x : Pt} (hi : i < (Z.map (·.1)).length) (hx : (Z.map (·.1))[(Z.map (·.1)).length - 1 - i]? = some x) : ∃ z, Z.reverse[i]? = some z ∧ z.1 = x ∧ z ∈ Z := by
  rw [List.length_map] at hi hx
  rw [List.getElem?_map] at hx
  have e : Z.reverse[i]? = Z[Z.length - 1 - i]? := List.getElem?_reverse hi
  cases h : Z[Z.length - 1 - i]? with
  | none => rw [h] at hx; cases hx
  | some z =>
    rw [h] at hx
    injection hx with hx
    exact ⟨z, by rw [e, h], hx, List.mem_of_getElem? h⟩

set_option maxRecDepth 100000 in
theorem mapC_none {Z : List (Pt × List By)} {n : Int} (h : ∀ z ∈ Z, mapP n (tellC z) = false) : mapC n (Z.map tellC) = n := by
  unfold mapC
  rw [List.find?_eq_none.2 fun c hc => ?_]
  rw [List.mem_reverse, List.mem_map] at hc
  obtain ⟨z, hz, rfl⟩ := hc
  rw [h z hz]; decide
set_option maxRecDepth 100000 in
theorem mapC_some {Z : List (Pt × List By)} {n : Int} {i : Nat} {z : Pt × List By} (hz : Z.reverse[i]? = some z) (hp : mapP n (tellC z) = true) (hn : ∀ y ∈ Z.reverse.take i, mapP n (tellC y) = false) : mapC n (Z.map tellC) = mapV n (tellC z) := by
  unfold mapC
  rw [← List.map_reverse, List.find?_map, find_first (p := mapP n ∘ tellC) hz hp hn]
  rfl

def U (n : Int) : Prop := 0 ≤ n ∧ n < 4294967296

set_option maxRecDepth 100000 in
theorem k18 {w : World} {a : Nat} {sl : Value} {Z : List (Pt × List By)} {l : List M} {n : Int} (h : St w a sl Z l) : Brings (Xcall Tryd.prog (Value.func (Fn.func 18) #[] #[]) #[.pointer (some ⟨a, 0, none⟩), .int .u32 n] w) (fun r => r.1 = .int .u32 (mapC n (cellsOf 0 l)) ∧ Bel w r.2) := by
  refine e18 ?_
  unfold s18 s18M0
  simp only [go_sem, Qb_eqlP (P := Tryd.prog) (t := 47) (e := 82) ptr24, Option.isNone_some]
  have V0 := Locals.nil w
  have V1 := V0.add rfl (.cells #[.int .u32 n] 24)
  have q1 : (w.alloc (.cells #[.int .u32 n] 24)).cell? ⟨w.heap.size, 0, none⟩ = some (.int .u32 n) := cell_at (MapKept.heap_alloc w _).1 rfl
  have V2 := V1.add (by simp) (.cells #[.int .u32 0] 24)
  have hz : ((w.alloc (.cells #[.int .u32 n] 24)).alloc (.cells #[.int .u32 0] 24)).heap[w.heap.size + 1]? = some (.cells #[.int .u32 0] 24) := V2.at_ 1 _ rfl
  have V3 := V2.row (j := 1) rfl rfl #[.int .u32 n]
  have hs3 : (((w.alloc (.cells #[.int .u32 n] 24)).alloc (.cells #[.int .u32 0] 24)).setRow (w.heap.size + 1) #[.int .u32 n]).heap.size = w.heap.size + 2 := by simp [World.setRow]
  simp only [Qload_cell one24 q1, alloc24, World.size_alloc, store24 hz, go_sem]
  generalize ((w.alloc (.cells #[.int .u32 n] 24)).alloc (.cells #[.int .u32 0] 24)).setRow (w.heap.size + 1) #[.int .u32 n] = w3 at V3 hs3
  refine (k38 (x := some ⟨a, 0, none⟩)).bind ?_
  rintro _ rfl
  rw [hs3]
  have V4 := V3.add (by rw [hs3]; rfl) (.cells #[.pointer (some ⟨a, 0, none⟩)] 47)
  have hs4 : (w3.alloc (.cells #[.pointer (some ⟨a, 0, none⟩)] 47)).heap.size = w.heap.size + 3 := by simp [hs3]
  simp only
  generalize w3.alloc (.cells #[.pointer (some ⟨a, 0, none⟩)] 47) = w4 at V4 hs4
  refine Brings.range (f := 51) (fd := Tryd.f51) Tryd.func51 (by kernel_rfl) (by kernel_rfl) (K := fun e d w' => s18G1R (.pointer (some ⟨w.heap.size + 1, 0, none⟩)) d w' e) ?_
  rw [hs4]
  obtain ⟨L, hL, V5⟩ := enterW_lay (fn := 18) (tmps := #[.pointer (some ⟨a, 0, none⟩), .int .u32 n, undef, .pointer (some ⟨w.heap.size, 0, none⟩), .int .u32 0, .pointer (some ⟨w.heap.size + 1, 0, none⟩), undef, .pointer (some ⟨a, 0, none⟩), .bool false, .int .u32 n, .pointer (some ⟨a, 0, none⟩), .func (.func 51) #[] #[.pointer (some ⟨w.heap.size + 2, 0, none⟩)], undef, undef, undef, undef, undef, undef, undef, undef, undef, undef, undef, undef, undef, undef, undef, undef, undef, undef, undef, undef, undef, undef, undef]) (ps := #[12]) (ass := nav [1, 0, 1, 1, 1, 0, 1, 0, 0] (bodyOf Tryd.f18)) (bdy := nav [1, 0, 1, 1, 1, 0, 1, 0, 1] (bodyOf Tryd.f18)) V4 (by rw [hs4]; rfl)
  have sz5 : (enterW w4 18 #[.pointer (some ⟨a, 0, none⟩), .int .u32 n, undef, .pointer (some ⟨w.heap.size, 0, none⟩), .int .u32 0, .pointer (some ⟨w.heap.size + 1, 0, none⟩), undef, .pointer (some ⟨a, 0, none⟩), .bool false, .int .u32 n, .pointer (some ⟨a, 0, none⟩), .func (.func 51) #[] #[.pointer (some ⟨w.heap.size + 2, 0, none⟩)], undef, undef, undef, undef, undef, undef, undef, undef, undef, undef, undef, undef, undef, undef, undef, undef, undef, undef, undef, undef, undef, undef, undef] #[12] (nav [1, 0, 1, 1, 1, 0, 1, 0, 0] (bodyOf Tryd.f18)) (nav [1, 0, 1, 1, 1, 0, 1, 0, 1] (bodyOf Tryd.f18))).heap.size = w.heap.size + 5 := by rw [enterW_size, hs4]
  generalize enterW w4 18 _ _ _ _ = w5 at V5 sz5
  have V5 : Locals w [.cells #[.int .u32 n] 24, .cells #[.int .u32 n] 24, .cells #[.pointer (some ⟨a, 0, none⟩)] 47, .deferred (some []), .loop L] w5 := V5
  have h5 := h.bel V5.bel
  have la := h.lt
  have c2 : w5.cell? ⟨w.heap.size + 2, 0, none⟩ = some (.pointer (some ⟨a, 0, none⟩)) := V5.cell (j := 2) rfl
  refine (k51 (S := fun k => k = w.heap.size + 1 ∨ k = w.heap.size + 4)
    (fun i w' => Locals w [.cells #[.int .u32 n] 24, .cells #[.int .u32 n] 24, .cells #[.pointer (some ⟨a, 0, none⟩)] 47, .deferred (some []), .loop L] w' ∧ ∀ y ∈ Z.reverse.take i, mapP n (tellC y) = false)
    (fun w' => Locals w [.cells #[.int .u32 n] 24, .cells #[.int .u32 (mapC n (Z.map tellC))] 24, .cells #[.pointer (some ⟨a, 0, none⟩)] 47, .deferred (some []), .loop { L with state := .done, pending := some (.exit 0) }] w')
    (by rintro k (rfl | rfl) <;> omega) c2 h5.cells h5.view (fun k hk hs => by have := la k (.inr hk); omega) ?_
    (fun i w' w'' hj hc => ⟨hj.1.beyond hc (by rw [sz5]; simp), hj.2⟩) (fun w' w'' hj hc => hj.beyond hc (by rw [sz5]; simp)) ⟨V5, by simp⟩).mono ?_
  · rintro i x w' ⟨hV, hn⟩ _ hi hx
    obtain ⟨z, hz, rfl, hzm⟩ := rev_at hi hx
    rw [hL.yield1 (hV.at_ 4 _ rfl)]
    simp only [List.set_cons_succ, List.set_cons_zero]
    refine s18G1Qb ?_
    unfold s18G1Q
    have B := local_bel w' (.cells Pt.zero.cs.toArray 85) z.1.cs.toArray
    have A := local_at w' z.1.cs Pt.zero.cs 85
    have hne : w'.heap.size ≠ w.heap.size + 4 := by have := hV.size; simp at this; omega
    simp only [alloc85, put85, go_sem]
    have V6 := hV.later B
    generalize (w'.alloc (.cells Pt.zero.cs.toArray 85)).setRow w'.heap.size z.1.cs.toArray = w6 at A V6 B
    generalize w'.heap.size = q at A hne
    rw [begK_ready (V6.at_ 4 _ rfl) hL.state]
    have A7 := A.chg (setB_chg w6 (w.heap.size + 4) (.loop { L with state := .busy })) hne
    have V7 := V6.set (j := 4) (show _ < 5 by decide) rfl (.loop { L with state := .busy })
    have c7 : Chg (fun k => k = w.heap.size + 1 ∨ k = w.heap.size + 4) w' (setB w6 (w.heap.size + 4) (.loop { L with state := .busy })) := B.thenChg ((setB_chg _ _ _).mono fun k _ hk => .inr hk)
    generalize setB w6 (w.heap.size + 4) _ = w7 at A7 V7 c7
    have n7 : w7.cell? ⟨w.heap.size, 0, none⟩ = some (.int .u32 n) := V7.cell (j := 0) rfl
    have leave : ∀ (j : Option Code) {w8 : World}, Chg (fun k => k = w.heap.size + 1 ∨ k = w.heap.size + 4) w' w8 → Chg (fun k => k = w.heap.size + 1 ∨ k = w.heap.size + 4) w' (setB w8 (w.heap.size + 4) (.loop { { L with state := .busy } with state := if j.isNone then .ready else .done, pending := j })) := fun j w8 c => c.trans ((setB_chg _ _ _).mono fun k _ hk => .inr hk) fun _ _ s => s
    simp only [Pt.b0 A7, Qload_cell one24 n7, go_sem]
    refine k39.bind ?_
    rintro _ rfl
    simp only [go_sem]
    refine .cond (fun hgt => ?_) (fun hgt => ?_)
    · have hgt : 0 < aheadM z.1.start n := by simpa using hgt
      rw [endR_eq (V7.at_ 4 _ rfl)]
      have e : ({ { L with state := .busy } with state := if (none : Option Code).isNone then .ready else .done, pending := none } : Loop) = L := by
        have h1 := hL.state; have h2 := hL.pending
        obtain ⟨st, pe, fn, tm, pa, asg, bd, de⟩ := L
        simp only at h1 h2
        subst h1 h2
        rfl
      have V8 := V7.set (j := 4) (show _ < 5 by decide) rfl (.loop { { L with state := .busy } with state := if (none : Option Code).isNone then .ready else .done, pending := none })
      have c8 := leave none c7
      rw [e] at V8 c8 ⊢
      exact .ret ⟨c8, .inl ⟨rfl, V8, take_none hz (by unfold mapP tellC; simp; omega) hn⟩⟩
    · have hgt : ¬ 0 < aheadM z.1.start n := by simpa using hgt
      have hm : mapC n (Z.map tellC) = mapV n (tellC z) := mapC_some hz (by unfold mapP tellC; simp; omega) hn
      simp only [Pt.b1 A7, Qload_cell one24 n7, go_sem]
      refine k39.bind ?_
      rintro _ rfl
      simp only [go_sem]
      have o7 : w7.heap[w.heap.size + 1]? = some (.cells #[.int .u32 n] 24) := V7.at_ 1 _ rfl
      have out : ∀ v : Int, v = mapC n (Z.map tellC) → Brings ((Xstore Tryd.prog 24 (.pointer (some ⟨w.heap.size + 1, 0, none⟩)) (.int .u32 v) w7).bind fun r => endR Tryd.prog (w.heap.size + 4) (some (Code.exit 0)) r.2)
          (fun r => Chg (fun k => k = w.heap.size + 1 ∨ k = w.heap.size + 4) w' r.2 ∧ ((r.1 = .bool true ∧ Locals w [.cells #[.int .u32 n] 24, .cells #[.int .u32 n] 24, .cells #[.pointer (some ⟨a, 0, none⟩)] 47, .deferred (some []), .loop L] r.2 ∧ ∀ y ∈ Z.reverse.take (i + 1), mapP n (tellC y) = false) ∨ (r.1 = .bool false ∧ Locals w [.cells #[.int .u32 n] 24, .cells #[.int .u32 (mapC n (Z.map tellC))] 24, .cells #[.pointer (some ⟨a, 0, none⟩)] 47, .deferred (some []), .loop { L with state := .done, pending := some (.exit 0) }] r.2))) := by
        rintro v rfl
        have V8 := V7.row (j := 1) rfl rfl #[.int .u32 (mapC n (Z.map tellC))]
        have c8 : Chg (fun k => k = w.heap.size + 1 ∨ k = w.heap.size + 4) w' (w7.setRow (w.heap.size + 1) #[.int .u32 (mapC n (Z.map tellC))]) := c7.trans ((setRow_chg _ _).mono fun k _ hk => .inl hk) fun _ _ s => s
        simp only [store24 o7, go_sem]
        rw [endR_eq (V8.at_ 4 _ rfl)]
        exact .ret ⟨leave _ c8, .inr ⟨rfl, V8.set (j := 4) (show _ < 5 by decide) rfl _⟩⟩
      refine .cond (fun h2 => ?_) (fun h2 => ?_)
      · have h2 : 0 < aheadM z.1.end_ n := by simpa using h2
        simp only [Pt.b0 A7, Pt.b2 A7, go_sem, u32w]
        exact out _ (by rw [hm]; unfold mapV tellC; rw [if_pos h2])
      · have h2 : ¬ 0 < aheadM z.1.end_ n := by simpa using h2
        simp only [Pt.b3 A7, Qload_cell one24 n7, go_sem, u32w]
        exact out _ (by rw [hm]; unfold mapV tellC; rw [if_neg h2])
  · have ht : Z.map tellC = cellsOf 0 l := h.tells
    rintro ⟨_, w9⟩ ⟨h1, _, ⟨hV, hn⟩ | hV⟩
    · rw [List.length_map, show Z.reverse.take Z.length = Z.reverse by rw [← List.length_reverse, List.take_length]] at hn
      have hm := mapC_none (Z := Z) (n := n) fun z hz => hn z (List.mem_reverse.2 hz)
      refine ⟨L, .normal, hV.at_ 4 _ rfl, by rw [hL.state]; rfl, by rw [hL.pending]; rfl, ?_⟩
      have V1 := hV.set (j := 4) (show _ < 5 by decide) rfl (.loop { L with state := .exhausted })
      simp only [show w.heap.size + 3 + 1 = w.heap.size + 4 from rfl]
      generalize setB w9 (w.heap.size + 4) _ = w1 at V1
      have o1 : w1.cell? ⟨w.heap.size + 1, 0, none⟩ = some (.int .u32 n) := V1.cell (j := 1) rfl
      simp only [s18G1R, Qload_cell one24 o1, takeAll_one (V1.at_ 3 _ rfl), go_sem]
      exact .ret ⟨by rw [← ht, hm], (V1.set (j := 3) (show _ < 5 by decide) rfl _).bel⟩
    · refine ⟨_, .exit 0, hV.at_ 4 _ rfl, rfl, rfl, ?_⟩
      have V1 := hV.set (j := 4) (show _ < 5 by decide) rfl (.loop { L with state := .exhausted, pending := some (.exit 0) })
      simp only [show w.heap.size + 3 + 1 = w.heap.size + 4 from rfl]
      generalize setB w9 (w.heap.size + 4) _ = w1 at V1
      have o1 : w1.cell? ⟨w.heap.size + 1, 0, none⟩ = some (.int .u32 (mapC n (Z.map tellC))) := V1.cell (j := 1) rfl
      simp only [s18G1R, Qload_cell one24 o1, takeAll_one (V1.at_ 3 _ rfl), go_sem]
      exact .ret ⟨by rw [← ht], (V1.set (j := 3) (show _ < 5 by decide) rfl _).bel⟩


set_option maxRecDepth 100000 in
theorem St.ptr {w w' : World} {a : Nat} {sl : Value} {Z : List (Pt × List By)} {l : List M} (h : St w a sl Z l) (hb : Bel w w') : Qload Tryd.prog 80 (.pointer (some ⟨a, 0, none⟩)) w' = some sl := Qload_cell one80 (hb.cell_some h.cells)
end Go.Proofs.YtphokckbcmiddaaDoor.Sq
