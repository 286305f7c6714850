/- The reader lives. -/
import Derived.Test.YtphokckbcmiddaaDoorMFt25
import Derived.Test.YtphokckbcmiddaaDoorMFr
/- The reader lives. -/
namespace Go.Proofs.YtphokckbcmiddaaDoor
open Go Go.Ev Go.RowKit
open Go.Proofs

/-- What was found, or nothing. -/
def ff (o : Option Ftp.Fd) : Fnd := (o.map ofFd).getD Fnd.zero
theorem findK {w : World} {s : Value} {l : List Int} {back : Bool} (hs : Vw w s l) (hl : okB l) (hT : Tab w) {K : Value → Value × World → Value × World → Option (Value × World)} {Q : Value × World → Prop}
    (h : ∀ g w3 w', Bel w w' → CellsAt (ff (Ftp.findS l back)).cs w' g 0 → w.heap.size ≤ g → g < w'.heap.size → Brings (K (.bool (Ftp.findS l back).isSome) (.pointer (some ⟨g, 0, none⟩), w3) (undef, w')) Q) :
    Brings ((Xcall Tryd.prog (Value.func (Fn.func 10) #[] #[]) #[s, .bool back] w).bind fun r1 => (Qext r1.1 0).bind fun v2 => (Qext r1.1 1).bind fun v3 => (Xalloc Tryd.prog 27 r1.2).bind fun r4 => (Xstore Tryd.prog 27 r4.1 v2 r4.2).bind fun r5 => K v3 r4 r5) Q := by
  refine (k10 hs hl hT).bind ?_
  rintro ⟨_, w1⟩ ⟨rfl, b1⟩
  have e : resV ((Ftp.findS l back).map ofFd) = .tuple #[(ff (Ftp.findS l back)).v, .bool (Ftp.findS l back).isSome] := by
    unfold ff
    cases Ftp.findS l back <;> rfl
  rw [e]
  simp only [go_sem]
  rw [alloc27, Option.bind_some, put27, Option.bind_some]
  refine h _ _ _ (b1.trans (local_bel _ _ _)) (local_at _ _ _ _) b1.size ?_
  simp [World.setRow]

theorem text_ok {k a p : Int} : okB (Ftp.textS k a p) := by
  unfold Ftp.textS
  split
  · exact jd_ok (by decide) _
  · split
    · exact okB_app (okB_app (okB_app (okB_app (okB_of rfl) (jd_ok (by decide) _)) (okB_of rfl)) digs_ok) (okB_of rfl)
    · split
      · exact digs_ok
      · exact okB_of rfl
theorem lit19 (w : World) : XbuildSlice Tryd.prog 22 19 #[(0, (.int .u8 80)), (1, (.int .u8 79)), (2, (.int .u8 82)), (3, (.int .u8 84)), (4, (.int .u8 32)), (5, (.int .u8 49)), (6, (.int .u8 48)), (7, (.int .u8 44)), (8, (.int .u8 48)), (9, (.int .u8 44)), (10, (.int .u8 48)), (11, (.int .u8 44)), (12, (.int .u8 50)), (13, (.int .u8 44)), (14, (.int .u8 52)), (15, (.int .u8 44)), (16, (.int .u8 49)), (17, (.int .u8 13)), (18, (.int .u8 10))] w =
    some (.slice (some ⟨w.heap.size, 0, none⟩) 19 19, w.alloc (.cells (List.toArray (([80, 79, 82, 84, 32, 49, 48, 44, 48, 44, 48, 44, 50, 44, 52, 44, 49, 13, 10] : List Int).map (Value.int .u8))) 5)) := by kernel_rfl
theorem el5 : Tryd.prog.underlying 5 = some (.int .u8) := by kernel_rfl
theorem same22 (C : Array Value) (n c : Nat) (w : World) : Xconv Tryd.prog 22 22 (.slice (some ⟨w.heap.size, 0, none⟩) n c) (w.alloc (.cells C 5)) = some (.slice (some ⟨w.heap.size, 0, none⟩) n c, w.alloc (.cells C 5 (C.size, C.size + 1))) := by
  unfold Xconv xv
  rw [Lib.run_convert_bytes_const w 22 5 C n c und22 el5]
/-- A literal of bytes, as a view. -/
theorem lit_view {l : List Int} (hl : l.length ≤ 100) (w : World) (z : Nat × Nat) : Vw (w.alloc (.cells (List.toArray (l.map (Value.int .u8))) 5 z)) (.slice (some ⟨w.heap.size, 0, none⟩) l.length l.length) l :=
  ⟨some ⟨w.heap.size, 0, none⟩, _, rfl, Nat.le_refl _, by simp [maxLen]; omega, fun h => (by cases h), fun j y hj => ⟨_, _, rfl, by
    intro i v hi
    match i, hi with
    | 0, hi =>
      simp only [nc] at hi
      injection hi with hi
      subst hi
      rw [World.cell?_alloc_mark]
      simp [hj]⟩⟩
def liveL : List Int := [80, 79, 82, 84, 32, 49, 48, 44, 48, 44, 48, 44, 50, 44, 52, 44, 49, 13, 10]
theorem live_find : Ftp.findS liveL false = some ⟨1, 5, 17, 167772162, 1025⟩ := by decide +kernel

theorem bldlive (w : World) : Qbuild Tryd.prog 27 #[(0, .int .i64 1), (1, .int .i64 5), (2, .int .i64 17), (3, .int .u32 167772162), (4, .int .u16 1025)] w = some (Fnd.v ⟨1, 5, 17, 167772162, 1025⟩) := by kernel_rfl
theorem k12 {w : World} (hT : Tab w) : Brings (Xcall Tryd.prog (Value.func (Fn.func 12) #[] #[]) #[] w) (fun r => r.1 = .bool true ∧ Bel w r.2) := by
  refine e12 ?_
  unfold s12
  rw [lit19, Option.bind_some, same22, Option.bind_some]
  have hv : Vw (w.alloc (.cells (List.toArray (liveL.map (Value.int .u8))) 5 (19, 20))) (.slice (some ⟨w.heap.size, 0, none⟩) 19 19) liveL := lit_view (l := liveL) (by decide) w _
  have b1 : Bel w (w.alloc (.cells (List.toArray (liveL.map (Value.int .u8))) 5 (19, 20))) := (Bel.refl w).alloc _
  show Brings ((Xcall Tryd.prog (Value.func (Fn.func 10) #[] #[]) #[.slice (some ⟨w.heap.size, 0, none⟩) 19 19, .bool false] (w.alloc (.cells (List.toArray (liveL.map (Value.int .u8))) 5 (19, 20)))).bind _) _
  generalize w.alloc (.cells (List.toArray (liveL.map (Value.int .u8))) 5 (19, 20)) = w1 at hv b1
  refine findK hv (okB_of rfl) (hT.bel b1) fun g w3 w' b2 hc _ _ => ?_
  rw [live_find] at hc ⊢
  simp only [go_sem, Option.isSome, Fnd.all hc, bldlive]
  rw [show ff (some ⟨1, 5, 17, 167772162, 1025⟩) = (⟨1, 5, 17, 167772162, 1025⟩ : Fnd) from rfl, Fnd.eql, decide_eq_true rfl]
  simp only [go_sem]
  refine (k13 (hT.bel (b1.trans b2)) (k := 4) (a := 0) (p := 7) (by decide) (by decide) (by decide) (by decide)).bind ?_
  rintro ⟨v, w5⟩ ⟨b3, hv5, _⟩
  simp only [go_sem, vstr hv5]
  have e7 : ({ data := #[55] } : ByteArray) = strOfNums [55] := by decide +kernel
  have t7 : Ftp.textS 4 0 7 = [55] := by
    unfold Ftp.textS
    rw [if_neg (by decide), if_neg (by decide), if_pos rfl, Ftp.digs_lt (by decide)]
    rfl
  rw [e7, t7, str_eq (okB_of rfl) (okB_of rfl), decide_eq_true rfl]
  exact .ret ⟨rfl, (b1.trans b2).trans b3⟩


/-- A text is made into a line, read as bytes: what `[]byte("PORT " + string(text) + "\r\n")` brings. -/
theorem lineK {w : World} (hT : Tab w) {k a p : Int} (h0 : 0 ≤ a) (h1 : a < 4294967296) (p0 : 0 ≤ p) (p1 : p ≤ 65535) {A B : ByteArray} {pre post : List Int} (eA : A = strOfNums pre) (eB : B = strOfNums post) (oA : okB pre) (oB : okB post) (lA : pre.length ≤ 20) (lB : post.length ≤ 20)
    {back : Bool} {K : Value → Value × World → Value × World → Option (Value × World)} {Q : Value × World → Prop}
    (h : ∀ g w3 w', Bel w w' → CellsAt (ff (Ftp.findS (pre ++ Ftp.textS k a p ++ post) back)).cs w' g 0 → w.heap.size ≤ g → g < w'.heap.size → Brings (K (.bool (Ftp.findS (pre ++ Ftp.textS k a p ++ post) back).isSome) (.pointer (some ⟨g, 0, none⟩), w3) (undef, w')) Q) :
    Brings ((Xcall Tryd.prog (Value.func (Fn.func 13) #[] #[]) #[.int .i64 k, .int .u32 a, .int .u16 p] w).bind fun r1 => (Xconv Tryd.prog 22 9 r1.1 r1.2).bind fun r2 => (Qbin Tryd.prog .add 9 (.string A) r2.1).bind fun v3 => (Qbin Tryd.prog .add 9 v3 (.string B)).bind fun v4 =>
      (Xconv Tryd.prog 9 22 v4 r2.2).bind fun r5 => (Xcall Tryd.prog (Value.func (Fn.func 10) #[] #[]) #[r5.1, .bool back] r5.2).bind fun r1 => (Qext r1.1 0).bind fun v2 => (Qext r1.1 1).bind fun v3 => (Xalloc Tryd.prog 27 r1.2).bind fun r4 => (Xstore Tryd.prog 27 r4.1 v2 r4.2).bind fun r5 => K v3 r4 r5) Q := by
  subst eA eB
  refine (k13 hT h0 h1 p0 p1).bind ?_
  rintro ⟨v, w1⟩ ⟨b1, hv1, _⟩
  have ht := Ftp.text_len (k := k) h0 h1 p0 p1
  have hok : okB (Ftp.textS k a p) := text_ok
  rw [vstr hv1, Option.bind_some, sadd (by omega), Option.bind_some, sadd (by rw [List.length_append]; omega), Option.bind_some]
  obtain ⟨v5, w5, e5, b5, hv5, _⟩ := x922 (l := pre ++ Ftp.textS k a p ++ post) (okB_app (okB_app oA hok) oB) (by rw [List.length_append, List.length_append]; omega) w1
  rw [e5, Option.bind_some]
  refine findK hv5 (okB_app (okB_app oA hok) oB) (hT.bel (b1.trans b5)) fun g w3 w' b6 hc hg hlt => ?_
  exact h g w3 w' ((b1.trans b5).trans b6) hc (by have := (b1.trans b5).size; omega) hlt

end Go.Proofs.YtphokckbcmiddaaDoor
