/- The law that what is written is read. -/
import Derived.Test.YtphokckbcmiddaaDoorMFt29
/- The law that what is written is read. -/
namespace Go.Proofs.YtphokckbcmiddaaDoor
open Go Go.Ev Go.RowKit
open Go.Proofs

theorem eA1 : ({ data := #[80, 79, 82, 84, 32] } : ByteArray) = strOfNums Ftp.sPORT := by decide +kernel
theorem eA2 : ({ data := #[69, 80, 82, 84, 32] } : ByteArray) = strOfNums Ftp.sEPRT := by decide +kernel
theorem eA3 : ({ data := #[50, 50, 55, 32, 97, 32, 40] } : ByteArray) = strOfNums (Ftp.s227 ++ [97, 32] ++ [40]) := by decide +kernel
theorem eA4 : ({ data := #[50, 50, 57, 32, 97, 32, 40, 124, 124, 124] } : ByteArray) = strOfNums (Ftp.s229 ++ [97, 32] ++ [40, 124, 124, 124]) := by decide +kernel
theorem eB1 : ({ data := #[13, 10] } : ByteArray) = strOfNums [13, 10] := by decide +kernel
theorem eB3 : ({ data := #[41, 46, 13, 10] } : ByteArray) = strOfNums (41 :: [46] ++ [13, 10]) := by decide +kernel
theorem eB4 : ({ data := #[124, 41, 13, 10] } : ByteArray) = strOfNums (124 :: 41 :: [] ++ [13, 10]) := by decide +kernel

theorem ffk (f : Ftp.Fd) : (ff (some f)).kind = f.kind := rfl
theorem ffs (f : Ftp.Fd) : (ff (some f)).start = f.start := rfl
theorem ffe (f : Ftp.Fd) : (ff (some f)).end_ = f.stop := rfl
theorem ffa (f : Ftp.Fd) : (ff (some f)).addr = f.addr := rfl
theorem ffp (f : Ftp.Fd) : (ff (some f)).port = f.port := rfl
theorem law5 {w : World} (hT : Tab w) {a p : Int} (h0 : 0 ≤ a) (h1 : a < 4294967296) (p0 : 0 ≤ p) (p1 : p ≤ 65535) : Brings (s5 (.int .u32 a) (.int .u16 p) w) (fun r => r.1 = .bool true ∧ Bel w r.2) := by
  unfold s5
  by_cases hp : p = 0
  · subst hp
    rw [show Qbin Tryd.prog .eql 25 (.int .u16 0) (.int .u16 0) = some (.bool true) by kernel_rfl, Option.bind_some, condK_t]
    refine lineK hT h0 h1 p0 p1 (k := 1) eA1 eB1 (okB_of rfl) (okB_of rfl) (by decide) (by decide) fun g w3 w' b1 hc _ _ => ?_
    rw [Ftp.find_zero h0 h1]
    dsimp only
    refine (k12 (hT.bel b1)).bind ?_
    rintro ⟨_, w2⟩ ⟨rfl, b2⟩
    simp only [go_sem, Option.isSome]
    exact .ret ⟨rfl, b1.trans b2⟩
  have hp1 : 0 < p := by omega
  rw [show Qbin Tryd.prog .eql 25 (.int .u16 p) (.int .u16 0) = some (.bool false) by simp only [go_sem]; rw [show (p == 0) = false by simpa using hp], Option.bind_some, condK_f]
  have hlen := fun k => Ftp.text_len (k := k) h0 h1 p0 p1
  refine lineK hT h0 h1 p0 p1 (k := 1) eA1 eB1 (okB_of rfl) (okB_of rfl) (by decide) (by decide) fun g1 u1 w1 b1 hc1 _ _ => ?_
  rw [Ftp.find_made (k := 1) (back := false) (pre := Ftp.sPORT) (post := [13, 10]) rfl (.inl ⟨rfl, rfl, by decide⟩) (.inl ⟨.inl rfl, rfl⟩) (by have := hlen 1; simp [Ftp.sPORT]; omega) h0 h1 hp1 p1] at hc1 ⊢
  dsimp only
  refine lineK (hT.bel b1) h0 h1 p0 p1 (k := 2) eA2 eB1 (okB_of rfl) (okB_of rfl) (by decide) (by decide) fun g2 u2 w2 b2 hc2 _ _ => ?_
  rw [Ftp.find_made (k := 2) (back := false) (pre := Ftp.sEPRT) (post := [13, 10]) rfl (.inr (.inl ⟨rfl, rfl, by decide⟩)) (.inl ⟨.inr rfl, rfl⟩) (by have := hlen 2; simp [Ftp.sEPRT]; omega) h0 h1 hp1 p1] at hc2 ⊢
  dsimp only
  have b12 := b1.trans b2
  refine lineK (hT.bel b12) h0 h1 p0 p1 (k := 3) eA3 eB3 (okB_of rfl) (okB_of rfl) (by decide) (by decide) fun g3 u3 w3 b3 hc3 _ _ => ?_
  rw [Ftp.find_made (k := 3) (back := true) (pre := Ftp.s227 ++ [97, 32] ++ [40]) (post := 41 :: [46] ++ [13, 10]) rfl (.inr (.inr (.inl ⟨rfl, rfl, _, rfl, by decide, by decide⟩))) (.inr (.inl ⟨rfl, _, rfl, by decide⟩)) (by have := hlen 3; simp [Ftp.s227]; omega) h0 h1 hp1 p1] at hc3 ⊢
  dsimp only
  have b123 := b12.trans b3
  refine lineK (hT.bel b123) h0 h1 p0 p1 (k := 4) eA4 eB4 (okB_of rfl) (okB_of rfl) (by decide) (by decide) fun g4 u4 w4 b4 hc4 _ _ => ?_
  rw [Ftp.find_made (k := 4) (back := true) (pre := Ftp.s229 ++ [97, 32] ++ [40, 124, 124, 124]) (post := 124 :: 41 :: [] ++ [13, 10]) rfl (.inr (.inr (.inr ⟨rfl, rfl, _, rfl, by decide, by decide⟩))) (.inr (.inr ⟨rfl, _, rfl, by decide⟩)) (by have := hlen 4; simp [Ftp.s229]; omega) h0 h1 hp1 p1] at hc4 ⊢
  dsimp only
  have b1234 := b123.trans b4
  refine (k12 (hT.bel b1234)).bind ?_
  rintro ⟨_, w5⟩ ⟨rfl, b5⟩
  have c1 := hc1.bel (b2.trans (b3.trans (b4.trans b5)))
  have c2 := hc2.bel (b3.trans (b4.trans b5))
  have c3 := hc3.bel (b4.trans b5)
  have c4 := hc4.bel b5
  simp only [Option.isSome]
  simp only [go_sem, ffk, ffa, ffp, beq_self_eq_true, Fnd.b0 c1, Fnd.b3 c1, Fnd.b4 c1, Fnd.b0 c2, Fnd.b3 c2, Fnd.b4 c2, Fnd.b0 c3, Fnd.b3 c3, Fnd.b4 c3, Fnd.b0 c4, Fnd.b3 c4, Fnd.b4 c4, if_neg (show ¬ (1 : Int) = 4 by decide), if_neg (show ¬ (2 : Int) = 4 by decide), if_neg (show ¬ (3 : Int) = 4 by decide), if_true]
  exact .ret ⟨rfl, b1234.trans b5⟩

end Go.Proofs.YtphokckbcmiddaaDoor
