/- Back and Order: that what is told is so. -/
import Derived.Test.YtfakpdegiobpaaaSe20
namespace Go.Proofs.Ytfakpdegiobpaaa
open Go Go.Ev Go.RowKit
open Go.Proofs

theorem map_near {y : Int} : ∀ {e : Int} {l : List Z3}, Row e l → -(128 * l.length) ≤ mapZ l y - y ∧ mapZ l y - y ≤ 128 * l.length
  | _, [], _ => by simp [mapZ]
  | e, p :: l, ⟨a, b, c, d, hp, r⟩ => by
    obtain ⟨d1, d2⟩ := dif_small r
    have ih := map_near (y := y) r
    simp only [mapZ, dif, List.length_cons]
    by_cases h1 : p.x ≤ y
    · rw [if_pos h1]
      by_cases h2 : y < p.x + p.was
      · rw [if_pos h2]; omega
      · rw [if_neg h2]; omega
    · rw [if_neg h1]; omega

/-- What is known of a stream. -/
structure Good (L : List M) : Prop where
  fine : Fine L
  chain : Chain L.reverse
  most : L.length ≤ 8

theorem close_rev {B : Int} {L : List M} (h : Close B L) : Close B L.reverse := fun p hp => h p (List.mem_reverse.1 hp)
theorem fine_rev {L : List M} (h : Fine L) : Fine L.reverse := fun p hp => h p (List.mem_reverse.1 hp)

theorem Good.row {L : List M} (h : Good L) {B : Int} (hc : Close B L) : ∃ e, Row e (L.reverse.map (zOf B)) := by
  obtain ⟨e, he, _⟩ := row_of _ h.chain (fine_rev h.fine) (close_rev hc)
  exact ⟨e, he⟩
theorem Good.map {L : List M} (h : Good L) {B n y : Int} (hc : Close B L) (hn0 : 0 ≤ n) (hn1 : n < 4294967296) (hn : n = (B + y) % 4294967296) (h1 : -1073751824 < y) (h2 : y < 1073751824) :
    mapC n (cellsOf 0 L) = (B + mapZ (L.reverse.map (zOf B)) y) % 4294967296 := by
  obtain ⟨e, he⟩ := h.row hc
  have := map_z hn0 hn1 hn h1 h2 L.reverse (close_rev hc) (fine_rev h.fine) e he (by rw [List.length_reverse]; exact h.most)
  rwa [List.reverse_reverse] at this
theorem Good.unmap {L : List M} (h : Good L) {B n y : Int} (hc : Close B L) (hn0 : 0 ≤ n) (hn1 : n < 4294967296) (hn : n = (B + y) % 4294967296) (h1 : -1073751824 < y) (h2 : y < 1073751824) :
    unmapC n (cellsOf 0 L) = (B + unmapZ (L.reverse.map (zOf B)) y) % 4294967296 := by
  obtain ⟨e, he⟩ := h.row hc
  have := unmap_z hn0 hn1 hn h1 h2 L.reverse (close_rev hc) (fine_rev h.fine) e he (by rw [List.length_reverse]; exact h.most)
  rwa [List.reverse_reverse] at this
theorem Good.near {L : List M} (h : Good L) {B y : Int} (hc : Close B L) : -1024 ≤ mapZ (L.reverse.map (zOf B)) y - y ∧ mapZ (L.reverse.map (zOf B)) y - y ≤ 1024 := by
  obtain ⟨e, he⟩ := h.row hc
  have := map_near (y := y) he
  have hm := h.most
  rw [List.length_map, List.length_reverse] at this
  omega

theorem out_z {L : List M} {B n : Int} (hc : Close B L) (hn0 : 0 ≤ n) (hn1 : n < 4294967296) (h1 : -1073751824 < aheadM n B) (h2 : aheadM n B < 1073751824) (ho : outP L n) : Out (L.reverse.map (zOf B)) (aheadM n B) := by
  intro z hz
  obtain ⟨p, hp, rfl⟩ := List.mem_map.1 hz
  rw [List.mem_reverse] at hp
  obtain ⟨g1, g2⟩ := hc p hp
  have e := ahead_of (a := n) (b := p.start) (B := B) (x := aheadM n B) (y := aheadM p.start B) (ahead_start) ahead_start (by omega) (by omega)
  have := ho p hp
  rw [e] at this
  show ¬ (aheadM p.start B < aheadM n B ∧ aheadM n B < aheadM p.start B + p.was)
  omega

theorem back_law {L : List M} {n : Int} (h : Good L) (hn0 : 0 ≤ n) (hn1 : n < 4294967296) (hnear : nearP L n) (ho : outP L n) : unmapC (mapC n (cellsOf 0 L)) (cellsOf 0 L) = n := by
  cases L with
  | nil => rfl
  | cons q Lr =>
    obtain ⟨hc, h1, h2⟩ := hnear
    have hn : n = (q.start + aheadM n q.start) % 4294967296 := by
      have := ahead_start (s := n) (B := q.start)
      omega
    obtain ⟨e, he⟩ := h.row hc
    obtain ⟨b1, b2⟩ := h.near (y := aheadM n q.start) hc
    rw [h.map hc hn0 hn1 hn (by omega) (by omega), h.unmap hc (by omega) (by omega) rfl (by omega) (by omega), map_back he (out_z hc hn0 hn1 (by omega) (by omega) ho)]
    exact hn.symm

theorem order_law {L : List M} {n m d : Int} (h : Good L) (hn0 : 0 ≤ n) (hn1 : n < 4294967296) (hm : m = (n + d) % 4294967296) (hd0 : 0 ≤ d) (hd1 : d < 65536) (near1 : nearP L n) (near2 : nearP L m) :
    0 ≤ aheadM (mapC m (cellsOf 0 L)) (mapC n (cellsOf 0 L)) ∧ (0 < d → outP L m → 0 < aheadM (mapC m (cellsOf 0 L)) (mapC n (cellsOf 0 L))) := by
  cases L with
  | nil =>
    have : aheadM (mapC m (cellsOf 0 [])) (mapC n (cellsOf 0 [])) = d := by
      show aheadM m n = d
      unfold aheadM
      omega
    rw [this]
    exact ⟨hd0, fun h _ => h⟩
  | cons q Lr =>
    obtain ⟨hc, h1, h2⟩ := near1
    obtain ⟨_, h3, h4⟩ := near2
    have hn : n = (q.start + aheadM n q.start) % 4294967296 := by
      have := ahead_start (s := n) (B := q.start)
      omega
    have hm' : m = (q.start + aheadM m q.start) % 4294967296 := by
      have := ahead_start (s := m) (B := q.start)
      omega
    have ed : aheadM m q.start = aheadM n q.start + d := by omega
    obtain ⟨e, he⟩ := h.row hc
    obtain ⟨b1, b2⟩ := h.near (y := aheadM n q.start) hc
    obtain ⟨b3, b4⟩ := h.near (y := aheadM m q.start) hc
    rw [h.map hc hn0 hn1 hn (by omega) (by omega), h.map hc (by omega) (by omega) hm' (by omega) (by omega)]
    rw [ahead_of (B := q.start) (x := mapZ ((q :: Lr).reverse.map (zOf q.start)) (aheadM m q.start)) (y := mapZ ((q :: Lr).reverse.map (zOf q.start)) (aheadM n q.start)) (by omega) (by omega) (by omega) (by omega)]
    refine ⟨?_, fun hd ho => ?_⟩
    · have := map_mono he (show aheadM n q.start ≤ aheadM m q.start by omega)
      omega
    · have := map_strict he (show aheadM n q.start < aheadM m q.start by omega) (out_z hc (by omega) (by omega) (by omega) (by omega) ho)
      omega

theorem Both.good {w0 w : World} {a b : Nat} {Y : List (Part × List By)} (h : Both w0 w a b (partsM [] Y)) : Good (partsM [] Y) := by
  obtain ⟨sa, Z, A⟩ := h.A
  exact ⟨h.2.1, chain_parts Y [] trivial, A.most⟩

theorem l3 {w : World} {s : Value} {Y : List (Part × List By)} {n : Int} (hv : Parts w s Y) (hn : (Lit.int .u32 n).wf = true) : Brings (s3 s (.int .u32 n) w) (Yes w) := by
  unfold s3
  obtain ⟨hn0, hn1⟩ := u32_ok hn
  refine (k12 hv).bind ?_
  rintro ⟨_, w2⟩ ⟨a, b, h1, T⟩
  simp only at h1 T
  subst h1
  simp only [go_sem]
  refine k13.bind ?_
  rintro ⟨_, w3⟩ ⟨h1, b3⟩
  simp only at h1 b3
  subst h1
  have T3 := T.bel b3
  simp only [go_sem, Bool.not_true]
  refine (k14 (hv.bel T3.1)).bind ?_
  rintro ⟨_, w4⟩ ⟨c, h1, b4, hc⟩
  simp only at h1 b4
  subst h1
  cases c with
  | false =>
    simp only [go_sem, Bool.not_false]
    exact .ret ⟨rfl, T3.1.trans b4⟩
  | true =>
  simp only [go_sem, Bool.not_true]
  have T4 := T3.bel b4
  refine (k15 (hv.bel T4.1)).bind ?_
  rintro ⟨_, w5⟩ ⟨c, h1, b5, ho⟩
  simp only at h1 b5
  subst h1
  have T5 := T4.bel b5
  cases c with
  | true =>
    simp only [go_sem]
    exact .ret ⟨rfl, T5.1⟩
  | false =>
  simp only [go_sem]
  obtain ⟨sa, Z, A⟩ := T5.A
  refine (k17 A).bind ?_
  rintro ⟨_, w6⟩ ⟨h1, b6⟩
  simp only at h1 b6
  subst h1
  simp only [go_sem]
  refine (k16 (A.bel b6)).bind ?_
  rintro ⟨_, w7⟩ ⟨h1, b7⟩
  simp only at h1 b7
  subst h1
  rw [back_law T.good hn0 hn1 (hc rfl) (ho rfl)]
  simp only [go_sem, beq_self_eq_true]
  exact .ret ⟨rfl, (T5.1.trans b6).trans b7⟩

theorem l4 {w : World} {s : Value} {Y : List (Part × List By)} {n d : Int} (hv : Parts w s Y) (hn : (Lit.int .u32 n).wf = true) (hd : 0 ≤ d ∧ d < 65536) : Brings (s4 s (.int .u32 n) (.int .u16 d) w) (Yes w) := by
  unfold s4
  obtain ⟨hn0, hn1⟩ := u32_ok hn
  refine (k12 hv).bind ?_
  rintro ⟨_, w2⟩ ⟨a, b, h1, T⟩
  simp only at h1 T
  subst h1
  simp only [go_sem]
  refine k13.bind ?_
  rintro ⟨_, w3⟩ ⟨h1, b3⟩
  simp only at h1 b3
  subst h1
  have T3 := T.bel b3
  simp only [go_sem, Bool.not_true]
  rw [Qconv_int (k := .u32) (by kernel_rfl)]
  simp only [go_sem, u32w]
  have em : (n + d % 4294967296) % 4294967296 = (n + d) % 4294967296 := by omega
  rw [em]
  refine (k14 (hv.bel T3.1)).bind ?_
  rintro ⟨_, w4⟩ ⟨c, h1, b4, hc⟩
  simp only at h1 b4
  subst h1
  cases c with
  | false =>
    simp only [go_sem, Bool.not_false]
    exact .ret ⟨rfl, T3.1.trans b4⟩
  | true =>
  simp only [go_sem, Bool.not_true]
  have T4 := T3.bel b4
  refine (k14 (hv.bel T4.1)).bind ?_
  rintro ⟨_, w5⟩ ⟨c, h1, b5, hc2⟩
  simp only at h1 b5
  subst h1
  have T5 := T4.bel b5
  cases c with
  | false =>
    simp only [go_sem, Bool.not_false]
    exact .ret ⟨rfl, T5.1⟩
  | true =>
  simp only [go_sem, Bool.not_true]
  obtain ⟨o1, o2⟩ := order_law T.good hn0 hn1 rfl hd.1 hd.2 (hc rfl) (hc2 rfl)
  obtain ⟨sa, Z, A⟩ := T5.A
  refine (k17 A).bind ?_
  rintro ⟨_, w6⟩ ⟨h1, b6⟩
  simp only at h1 b6
  subst h1
  simp only [go_sem]
  refine (k17 (A.bel b6)).bind ?_
  rintro ⟨_, w7⟩ ⟨h1, b7⟩
  simp only at h1 b7
  subst h1
  simp only [go_sem]
  refine k18.bind ?_
  rintro _ rfl
  simp only [go_sem]
  have B7 := (T5.1.trans b6).trans b7
  cases c1 : decide (0 < d) with
  | false =>
    simp only [go_sem, decide_eq_true o1]
    exact .ret ⟨rfl, B7⟩
  | true =>
    simp only [go_sem]
    refine (k15 (hv.bel B7)).bind ?_
    rintro ⟨_, w8⟩ ⟨c, h1, b8, ho⟩
    simp only at h1 b8
    subst h1
    cases c with
    | true =>
      simp only [go_sem, Bool.not_true, decide_eq_true o1]
      exact .ret ⟨rfl, B7.trans b8⟩
    | false =>
      have := o2 (by simpa using c1) (ho rfl)
      simp only [go_sem, Bool.not_false, decide_eq_true this]
      exact .ret ⟨rfl, B7.trans b8⟩

theorem law3 {v0 : Value} {n0 : Nat} {m : Int} {w : World} {r0 : Reach} {b0 : Nat} (ho0 : Value.okWide Try.prog w r0 b0 22 v0) (h0 : Okc Try.prog w n0 22 v0.cells.toList) (hm : (Lit.int .u32 m).wf = true) :
    Calls Try.prog 3 #[v0, .int .u32 m] w fun e w' => e = .returned (.bool true) ∧ Below w.heap.size w w' := by
  obtain ⟨Y, hv⟩ := parts_of ho0 h0
  exact law_of (l3 hv hm) fun _ => c3
theorem law4 {v0 : Value} {n0 : Nat} {m k : Int} {w : World} {r0 : Reach} {b0 : Nat} (ho0 : Value.okWide Try.prog w r0 b0 22 v0) (h0 : Okc Try.prog w n0 22 v0.cells.toList) (hm : (Lit.int .u32 m).wf = true) (hk : (Lit.int .u16 k).wf = true) :
    Calls Try.prog 4 #[v0, .int .u32 m, .int .u16 k] w fun e w' => e = .returned (.bool true) ∧ Below w.heap.size w w' := by
  obtain ⟨Y, hv⟩ := parts_of ho0 h0
  obtain ⟨d, rfl, hd⟩ := wf_u rfl hk
  have : (2 : Nat) ^ (IntKind.u16).bits = 65536 := by decide +kernel
  exact law_of (l4 hv hm ⟨by omega, by omega⟩) fun _ => c4

end Go.Proofs.Ytfakpdegiobpaaa
