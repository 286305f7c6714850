/- What is found is written back. -/
import Derived.Test.YtphokckbcmiddaaDoorMFt31
/- What is found is written back. -/
namespace Go.Proofs.YtphokckbcmiddaaDoor
open Go Go.Ev Go.RowKit
open Go.Proofs

set_option maxRecDepth 100000 in
theorem law8 {w : World} (hT : Tab w) {s : Value} {l : List Int} {back : Bool} (hs : Vw w s l) (hl : okB l) : Brings (s8 s (.bool back) w) (fun r => r.1 = .bool true ∧ Bel w r.2) := by
  unfold s8
  refine findK hs hl hT fun g1 u1 w1 b1 hc1 _ _ => ?_
  dsimp only
  cases hf : Ftp.findS l back with
  | none =>
    rw [hf] at hc1
    simp only [Option.isSome, Qun_not, Bool.not_false, Option.bind_some, condK_t]
    refine (k12 (hT.bel b1)).bind ?_
    rintro ⟨_, w2⟩ ⟨rfl, b2⟩
    simp only [go_sem, Fnd.all (hc1.bel b2), bld27n]
    rw [show ff none = Fnd.zero from rfl, Fnd.eql, decide_eq_true rfl]
    simp only [go_sem]
    exact .ret ⟨rfl, b1.trans b2⟩
  | some f =>
    rw [hf] at hc1
    obtain ⟨z1, z2, z3, z4, z5, z6⟩ := Ftp.find_self hf
    obtain ⟨_, _, hfit⟩ := Ftp.findS_iff.1 hf
    obtain ⟨_, hl1, h128, _⟩ := Ftp.find_line hf
    simp only [Option.isSome, Qun_not, Bool.not_true, Option.bind_some, condK_f]
    generalize hwd : w1.drew = wd
    have bd : Bel w1 wd := by rw [← hwd]; exact (Bel.refl w1).drew
    have cd := hc1.bel bd
    have b1d := b1.trans bd
    rw [Fnd.all cd]
    simp only [go_sem, Fnd.b1 cd, Fnd.b2 cd, ffs, ffe]
    obtain ⟨v2, e2, hv2, _⟩ := vcut (hs.bel b1d) (lo := f.start.toNat) (hi := f.stop.toNat) (by omega) (by omega) wd
    rw [Int.toNat_of_nonneg z4, Int.toNat_of_nonneg (show 0 ≤ f.stop by omega)] at e2
    rw [e2, Option.bind_some]
    have hm : ((l.take f.stop.toNat).drop f.start.toNat).length ≤ 128 := by rw [List.length_drop, List.length_take]; omega
    refine (k14 (f := ff (some f)) (hs.bel b1d) hv2 (by omega) (by rw [ffs, ffe]; omega)).bind ?_
    rintro ⟨r1, w2⟩ ⟨b2, o2⟩
    simp only at b2 o2
    simp only [ffs, ffe, List.drop_take] at o2
    rw [z2] at o2
    simp only [chkK_T]
    generalize hwd2 : w2.drew = wd2
    have bd2 : Bel w2 wd2 := by rw [← hwd2]; exact (Bel.refl w2).drew
    have b2d := b1d.trans (b2.trans bd2)
    have cd2 := cd.bel (b2.trans bd2)
    rw [Fnd.all cd2]
    simp only [go_sem, Fnd.b0 cd2, Fnd.b3 cd2, Fnd.b4 cd2, ffk, ffa, ffp]
    refine (k13 (hT.bel b2d) hfit.addr0 hfit.addr1 (by have := hfit.port0; omega) hfit.port1).bind ?_
    rintro ⟨r3, w3⟩ ⟨b3, hv3, _⟩
    simp only at b3 hv3
    have ht := Ftp.text_len (k := f.kind) (a := f.addr) (p := f.port) hfit.addr0 hfit.addr1 (by have := hfit.port0; omega) hfit.port1
    have b3d := b2d.trans b3
    refine (k14 (f := ff (some f)) (hs.bel b3d) hv3 (by omega) (by rw [ffs, ffe]; omega)).bind ?_
    rintro ⟨r4, w4⟩ ⟨b4, o4⟩
    simp only at b4 o4
    simp only [ffs, ffe] at o4
    rw [z1] at o4
    have b4d := b3d.trans b4
    simp only [Fnd.all (cd2.bel b3), eq_self, and_self, chkK_T]
    refine (k12 (hT.bel b4d)).bind ?_
    rintro ⟨_, w5⟩ ⟨rfl, b5⟩
    have b5d := b4d.trans b5
    have v1 := (Ob.view o2).bel (bd2.trans (b3.trans (b4.trans b5)))
    have v4 := (Ob.view o4).bel b5
    have c5 := cd2.bel (b3.trans (b4.trans b5))
    simp only [go_sem, vstr v1, vstr v4, vstr (hs.bel b5d)]
    rw [str_eq hl hl, decide_eq_true rfl]
    simp only [go_sem, vstr v1, vstr v4, vstr (hs.bel b5d)]
    rw [str_eq hl hl, decide_eq_true rfl]
    simp only [go_sem, Fnd.b4 c5, ffp]
    rw [decide_eq_true (by exact z3)]
    exact .ret ⟨rfl, b5d⟩


theorem repl_ok {l m : List Int} {a b : Int} (hl : okB l) (hm : okB m) : okB (Ftp.replS l a b m) := by
  unfold Ftp.replS
  split
  · exact hl
  · exact okB_app (okB_app (fun c hc => hl c (List.mem_of_mem_take hc)) hm) (fun c hc => hl c (List.mem_of_mem_drop hc))
theorem repl_len {l m : List Int} {a b : Int} : (Ftp.replS l a b m).length ≤ l.length + m.length + l.length := by
  unfold Ftp.replS
  split
  · omega
  · rw [List.length_append, List.length_append, List.length_take, List.length_drop]
    omega

set_option maxRecDepth 100000 in
theorem back_end {w : World} (hT : Tab w) {s c : Value} {l m : List Int} {f f' : Ftp.Fd} {g1 g2 : Nat} {a p : Int} (hs : Vw w s l) (hc : Vw w c m) (h1 : CellsAt (ff (some f)).cs w g1 0) (h2 : CellsAt (ff (some f')).cs w g2 0)
    (ek : f'.kind = f.kind) (es : f'.start = f.start) (ea : f'.addr = a) (ep : f'.port = p) (ee : f'.stop - f'.start = m.length - l.length + f.stop - f.start) (hb : m.length ≤ 128 ∧ l.length ≤ 128 ∧ 0 ≤ f.start ∧ f.start ≤ f.stop ∧ f.stop ≤ 128) :
    Brings (s7M0 s (.int .u16 p) (.pointer (some ⟨g1, 0, none⟩)) c (.pointer (some ⟨g2, 0, none⟩)) (.bool true) (.int .u32 a) w) (fun r => r.1 = .bool true ∧ Bel w r.2) := by
  unfold s7M0
  refine (k12 hT).bind ?_
  rintro ⟨_, w2⟩ ⟨rfl, b⟩
  have c1 := h1.bel b
  have c2 := h2.bel b
  simp only [go_sem, Fnd.b0 c1, Fnd.b0 c2, ffk, ek, beq_self_eq_true, Fnd.b1 c1, Fnd.b1 c2, ffs, es, Fnd.b3 c2, ffa, ea, Fnd.b4 c2, ffp, ep, Fnd.b2 c1, Fnd.b2 c2, ffe, vlen (hs.bel b), vlen (hc.bel b)]
  have ee2 := ee
  rw [es] at ee2
  have x1 : IntKind.i64.wrap ((m.length : Int) - (l.length : Int)) = (m.length : Int) - (l.length : Int) := wr (by omega) (by omega)
  have x2 : IntKind.i64.wrap ((m.length : Int) - (l.length : Int) + f.stop) = (m.length : Int) - (l.length : Int) + f.stop := wr (by omega) (by omega)
  rw [x1, x2, ee2, beq_self_eq_true]
  exact .ret ⟨rfl, b⟩

theorem eq25 (a b : Int) : Qbin Tryd.prog .eql 25 (.int .u16 a) (.int .u16 b) = some (.bool (a == b)) := by simp only [go_sem]
set_option maxRecDepth 100000 in
theorem law7 {w : World} (hT : Tab w) {s : Value} {l : List Int} {back : Bool} {d : Dst} (hs : Vw w s l) (hl : okB l) (a0 : 0 ≤ d.addr) (a1 : d.addr < 4294967296) (p0 : 0 ≤ d.port) (p1 : d.port ≤ 65535) :
    Brings (s7 s (.bool back) d.v w) (fun r => r.1 = .bool true ∧ Bel w r.2) := by
  unfold s7
  rw [Dst.box, Option.bind_some]
  have b0 : Bel w (w.alloc (.cells d.cs.toArray 42)) := (Bel.refl w).alloc _
  have hd := d.new w
  revert b0 hd
  generalize w.alloc (.cells d.cs.toArray 42) = w0
  intro b0 hd
  dsimp only
  generalize hwd : w0.drew = wd
  have bd : Bel w0 wd := by rw [← hwd]; exact (Bel.refl w0).drew
  have bd0 := b0.trans bd
  have cd := hd.bel bd
  simp only [go_sem, Dst.b0 cd, Dst.b1 cd]
  refine findK (hs.bel bd0) hl (hT.bel bd0) fun g1 u1 w1 b1 hc1 _ _ => ?_
  dsimp only
  have b1d := bd0.trans b1
  have livep : ∀ {w' : World}, Bel w w' → Brings ((Xcall Tryd.prog (Value.func (Fn.func 12) #[] #[]) #[] w').bind fun r => some (r.1, r.2)) (fun r => r.1 = .bool true ∧ Bel w r.2) := by
    intro w' b
    refine (k12 (hT.bel b)).bind ?_
    rintro ⟨_, w2⟩ ⟨rfl, b2⟩
    exact .ret ⟨rfl, b.trans b2⟩
  cases hf : Ftp.findS l back with
  | none =>
    simp only [go_sem, Option.isSome, Bool.not_false]
    exact livep b1d
  | some f =>
    rw [hf] at hc1
    simp only [go_sem, Option.isSome, Bool.not_true]
    by_cases hp : d.port = 0
    · rw [show (d.port == 0) = true by simpa using hp]
      simp only [go_sem]
      exact livep b1d
    rw [show (d.port == 0) = false by simpa using hp]
    simp only [go_sem]
    obtain ⟨z1, z2, z3, z4, z5, z6⟩ := Ftp.find_self hf
    obtain ⟨_, hl1, h128, _⟩ := Ftp.find_line hf
    generalize hwd2 : w1.drew = wd2
    have bd2 : Bel w1 wd2 := by rw [← hwd2]; exact (Bel.refl w1).drew
    have c2 := hc1.bel bd2
    have b2d := b1d.trans bd2
    rw [Fnd.all c2]
    simp only [go_sem, Fnd.b0 c2, ffk]
    refine (k13 (hT.bel b2d) a0 a1 p0 p1).bind ?_
    rintro ⟨r3, w3⟩ ⟨b3, hv3, _⟩
    simp only at b3 hv3
    have ht := Ftp.text_len (k := f.kind) a0 a1 p0 p1
    have b3d := b2d.trans b3
    refine (k14 (f := ff (some f)) (hs.bel b3d) hv3 (by omega) (by rw [ffs, ffe]; omega)).bind ?_
    rintro ⟨r4, w4⟩ ⟨b4, o4⟩
    simp only at b4 o4
    simp only [ffs, ffe] at o4
    have b4d := b3d.trans b4
    simp only [Fnd.all (c2.bel b3), eq_self, and_self, chkK_T]
    have hb := Ftp.find_back hf a0 a1 (by omega) p1 _ rfl
    have hok := repl_ok (a := f.start) (b := f.stop) hl (text_ok (k := f.kind) (a := d.addr) (p := d.port))
    have hlen := repl_len (l := l) (m := Ftp.textS f.kind d.addr d.port) (a := f.start) (b := f.stop)
    have hv4 := Ob.view o4
    revert hb hok hlen hv4
    generalize Ftp.replS l f.start f.stop (Ftp.textS f.kind d.addr d.port) = c
    intro hb hok hlen hv4
    refine findK hv4 hok (hT.bel b4d) fun g5 u5 w5 b5 hc5 _ _ => ?_
    dsimp only
    have b5d := b4d.trans b5
    have c5 := c2.bel (b3.trans (b4.trans b5))
    simp only [vlen (hv4.bel b5), go_sem]
    by_cases hc : c.length ≤ 128
    · rw [if_pos hc] at hb
      obtain ⟨hb1, hb2⟩ := hb
      rw [decide_eq_false (by omega)]
      rw [hb1] at hc5 ⊢
      simp only [go_sem, Fnd.b0 c5, ffk, Option.isSome]
      by_cases h4 : f.kind = 4
      · rw [show (f.kind == 4) = true by simpa using h4]
        simp only [go_sem]
        rw [if_pos h4] at hc5
        exact (back_end (hT.bel b5d) (hs.bel b5d) (hv4.bel b5) c5 hc5 rfl rfl rfl rfl (by simp only; omega) ⟨hc, h128, z4, z5, by omega⟩).mono fun r h => ⟨h.1, b5d.trans h.2⟩
      · rw [show (f.kind == 4) = false by simpa using h4]
        simp only [go_sem]
        rw [if_neg h4] at hc5
        exact (back_end (hT.bel b5d) (hs.bel b5d) (hv4.bel b5) c5 hc5 rfl rfl rfl rfl (by simp only; omega) ⟨hc, h128, z4, z5, by omega⟩).mono fun r h => ⟨h.1, b5d.trans h.2⟩
    · rw [if_neg hc] at hb
      rw [decide_eq_true (by omega)]
      rw [hb]
      simp only [go_sem, Option.isSome]
      refine (k12 (hT.bel b5d)).bind ?_
      rintro ⟨_, w6⟩ ⟨rfl, b6⟩
      simp only [go_sem, Bool.not_false]
      exact .ret ⟨rfl, b5d.trans b6⟩

end Go.Proofs.YtphokckbcmiddaaDoor
