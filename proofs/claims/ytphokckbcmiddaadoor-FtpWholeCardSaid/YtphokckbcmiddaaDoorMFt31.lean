/- A line is found alone. -/
import Derived.Test.YtphokckbcmiddaaDoorMFt30
/- A line is found alone. -/
namespace Go.Proofs.YtphokckbcmiddaaDoor
open Go Go.Ev Go.RowKit
open Go.Proofs

/-- append to a full literal. -/
theorem growV {w : World} {s t : Value} {b : Addr} {l m : List Int} (hsv : s = .slice (some b) l.length l.length) (hs : Vw w s l) (ht : Vw w t m) (hm : 0 < m.length) (hl0 : 0 < l.length) (hl : l.length + m.length ≤ 1000) :
    ∃ v' w', Xbi Tryd.prog .append #[22, 22] 22 #[s, t] w = some (v', w') ∧ Bel w w' ∧ Vw w' v' (l ++ m) := by
  obtain ⟨i, hi, hz, h1, h2⟩ := inf5z
  have hf : ∀ (n : List Int), ∀ y ∈ n, (nc .u8 y).length = 1 := fun _ _ _ => rfl
  obtain ⟨b', cap1, e1, hb⟩ := View.cells hs (hf l) hl0
  obtain ⟨a, cap2, e2, ha⟩ := View.cells ht (hf m) hm
  rw [hsv] at e1
  injection e1 with e1 _ e1c
  injection e1 with e1
  subst e1 e1c
  subst hsv
  subst e2
  have e := run_append_grow (P := Tryd.prog) (w := w) 22 22 5 i (.int .u8 0) und22 hi hz b l.length l.length (l.flatMap (nc .u8)) (by rw [h1]; exact flat_len l (hf l)) hb a m.length cap2 (m.flatMap (nc .u8)) (by rw [h1]; exact flat_len m (hf m)) ha (by omega) (by omega)
    (by have := nextslicecap_le (show l.length < l.length + m.length by omega); rw [h2]; omega)
  refine ⟨_, _, Xbi_append e, ((Bel.refl w).drew).alloc _, ?_⟩
  have hd : World.ownsRow (w.drew.alloc (.cells ((l.flatMap (nc .u8)).toArray ++ (m.flatMap (nc .u8)).toArray ++ Builtin.zeroCells (Value.int .u8 0).cells (grownCap w (l.length + m.length) l.length 5 - (l.length + m.length))) 5)) 0 5 1
      (.slice (some ⟨w.heap.size, 0, none⟩) (l.length + m.length) (grownCap w (l.length + m.length) l.length 5)) (l ++ m).length ((l ++ m).flatMap (nc .u8)) := by
    have hz1 : (l.flatMap (nc .u8)).length = l.length * 1 := flat_len l (hf l)
    have hz2 : (m.flatMap (nc .u8)).length = m.length * 1 := flat_len m (hf m)
    have hge := grownCap_ge w (l.length + m.length) l.length 5
    have hcm := grownCap_le_maxLen w (l.length + m.length) l.length 5 (by simp [maxLen]; omega)
    refine ⟨by rw [flat_len _ (hf _)], .inr ⟨w.heap.size, _, _, by rw [List.length_append], Nat.zero_le _, heap_alloc_new w.drew _, by rw [List.length_append]; exact hge, hcm, ?_, ?_⟩⟩
    · simp only [Array.size_append, List.size_toArray, size_zeroCells, hz1, hz2]
      simp [Value.cells]
      omega
    · simp only [Array.toList_append, List.append_assoc, List.flatMap_append]
      rw [← List.append_assoc]
      refine List.take_left' ?_
      simp [hz1, hz2]
  exact View.of_owns (f := nc .u8) hd (fun _ _ => rfl)


theorem lit22_2 (w : World) : XbuildSlice Tryd.prog 22 2 #[(0, .int .u8 13), (1, .int .u8 10)] w = some (.slice (some ⟨w.heap.size, 0, none⟩) 2 2, w.alloc (.cells (List.toArray (([13, 10] : List Int).map (Value.int .u8))) 5)) := by kernel_rfl
theorem lit22_1 (w : World) : XbuildSlice Tryd.prog 22 1 #[(0, .int .u8 32)] w = some (.slice (some ⟨w.heap.size, 0, none⟩) 1 1, w.alloc (.cells (List.toArray (([32] : List Int).map (Value.int .u8))) 5)) := by kernel_rfl

set_option maxRecDepth 100000 in
theorem law4 {w : World} (hT : Tab w) {s : Value} {l : List Int} {back : Bool} (hs : Vw w s l) (hl : okB l) : Brings (s4 s (.bool back) w) (fun r => r.1 = .bool true ∧ Bel w r.2) := by
  unfold s4
  refine findK hs hl hT fun g1 u1 w1 b1 hc1 _ _ => ?_
  dsimp only
  cases hf : Ftp.findS l back with
  | none =>
    simp only [go_sem, Option.isSome]
    refine (k12 (hT.bel b1)).bind ?_
    rintro ⟨_, w2⟩ ⟨rfl, b2⟩
    exact .ret ⟨rfl, b1.trans b2⟩
  | some f =>
    obtain ⟨f1, f2, f3, f4, f5, f6, f7⟩ := Ftp.find_lines hf
    simp only [go_sem, Option.isSome]
    have hs1 := hs.bel b1
    simp only [vlen hs1, go_sem]
    rw [wr (by omega) (by omega)]
    have ht : (l.length : Int) - 1 = ((l.length - 1 : Nat) : Int) := by omega
    rw [ht]
    obtain ⟨v2, e2, hv2, _⟩ := vhi hs1 (hi := l.length - 1) (by omega) w1
    rw [e2, Option.bind_some]
    refine findK hv2 (fun c hc => hl c (List.mem_of_mem_take hc)) (hT.bel b1) fun g2 u2 w2 b2 hc2 _ _ => ?_
    rw [f1]
    dsimp only
    rw [lit0_22, Option.bind_some]
    have b12 := b1.trans b2
    obtain ⟨v3, w3, e3, b3, o3⟩ := copyB (hs.bel b12) (by omega)
    rw [e3, Option.bind_some]
    simp only at b3 o3
    have b13 := b12.trans b3
    obtain ⟨v4, w4, e4, o4, g4⟩ := Ob.appV o3 b3.size (hs.bel b13) (by omega)
    dsimp only
    rw [e4, Option.bind_some]
    have b4 : Bel w2 w4 := (b3.thenChg (Chg.of_grown g4)).bel fun k hk e => by
      have := (o3.base e.symm).1
      omega
    have b14 := b12.trans b4
    refine findK o4.view (okB_app hl hl) (hT.bel b14) fun g5 u5 w5 b5 hc5 _ _ => ?_
    rw [f2]
    dsimp only
    rw [lit22_2, Option.bind_some, same22, Option.bind_some]
    dsimp only
    have b15 := b14.trans b5
    have b6 : Bel w5 (w5.alloc (.cells (List.toArray (([13, 10] : List Int).map (Value.int .u8))) 5 (2, 3))) := (Bel.refl w5).alloc _
    have hv6 := lit_view (l := [13, 10]) (by decide) w5 (2, 3)
    revert b6 hv6
    show Bel w5 (w5.alloc (.cells (List.toArray (([13, 10] : List Int).map (Value.int .u8))) 5 (2, 3))) → _ → Brings ((Xbi Tryd.prog .append #[22, 22] 22 #[.slice (some ⟨w5.heap.size, 0, none⟩) 2 2, s] (w5.alloc (.cells (List.toArray (([13, 10] : List Int).map (Value.int .u8))) 5 (2, 3)))).bind _) _
    generalize w5.alloc (.cells (List.toArray (([13, 10] : List Int).map (Value.int .u8))) 5 (2, 3)) = w6
    intro b6 hv6
    have b16 := b15.trans b6
    obtain ⟨v7, w7, e7, b7, hv7⟩ := growV rfl hv6 (hs.bel b16) (by omega) (by decide) (by simp; omega)
    simp only [List.length_cons, List.length_nil] at e7
    rw [e7, Option.bind_some]
    have b17 := b16.trans b7
    refine findK hv7 (okB_app (okB_of rfl) hl) (hT.bel b17) fun g8 u8 w8 b8 hc8 _ _ => ?_
    rw [f3]
    dsimp only
    rw [lit22_1, Option.bind_some, same22, Option.bind_some]
    dsimp only
    have b18 := b17.trans b8
    have b9 : Bel w8 (w8.alloc (.cells (List.toArray (([32] : List Int).map (Value.int .u8))) 5 (1, 2))) := (Bel.refl w8).alloc _
    have hv9 := lit_view (l := [32]) (by decide) w8 (1, 2)
    revert b9 hv9
    show Bel w8 (w8.alloc (.cells (List.toArray (([32] : List Int).map (Value.int .u8))) 5 (1, 2))) → _ → Brings ((Xbi Tryd.prog .append #[22, 22] 22 #[.slice (some ⟨w8.heap.size, 0, none⟩) 1 1, s] (w8.alloc (.cells (List.toArray (([32] : List Int).map (Value.int .u8))) 5 (1, 2)))).bind _) _
    generalize w8.alloc (.cells (List.toArray (([32] : List Int).map (Value.int .u8))) 5 (1, 2)) = w9
    intro b9 hv9
    have b19 := b18.trans b9
    obtain ⟨v10, w10, e10, b10, hv10⟩ := growV rfl hv9 (hs.bel b19) (by omega) (by decide) (by simp; omega)
    simp only [List.length_cons, List.length_nil] at e10
    rw [e10, Option.bind_some]
    have b110 := b19.trans b10
    refine findK hv10 (okB_app (okB_of rfl) hl) (hT.bel b110) fun g11 u11 w11 b11 hc11 _ _ => ?_
    rw [show [32] ++ l = 32 :: l from rfl, f4]
    simp only [Qun_not, Option.bind_some]
    have b111 := b110.trans b11
    refine findK (hs.bel b111) hl (hT.bel b111) fun g12 u12 w12 b12' hc12 _ _ => ?_
    rw [f5]
    dsimp only
    have b112 := b111.trans b12'
    refine (k12 (hT.bel b112)).bind ?_
    rintro ⟨_, w13⟩ ⟨rfl, b13'⟩
    have b113 := b112.trans b13'
    simp only [go_sem, Option.isSome, Bool.not_false, vlen (hs.bel b113)]
    rw [decide_eq_true (by omega)]
    exact .ret ⟨rfl, b113⟩

end Go.Proofs.YtphokckbcmiddaaDoor
