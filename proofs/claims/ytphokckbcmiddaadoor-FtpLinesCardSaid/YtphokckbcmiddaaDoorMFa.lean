/- Laws of what computations come to, and of memory. -/
import Derived.Below
import Derived.MapKept
import Derived.Laws.Small
import Derived.Test.YtphokckbcmiddaaDoorMEv
/- Laws of what computations come to, and of memory. -/
namespace Go.Ev
open Go Go.RowKit

/-! ## A region that draws its order, by the tape -/

def opsOf : Code → Array Oper
  | .region _ ops _ => ops
  | _ => #[]

theorem evDraw_tape {β : Type} {P : Program} {fn id : Nat} {ops : Array Oper} {a : Act} {w : World} {K : Act → World → Option β} {M : (Nat → Value) → World → Option β} {n : Nat} {d : List Deferred} {y : β}
    (hok : drawOk P ops = false) (hs : a.tmps.size = n) (hd : a.defers = d) (hK : ∀ g w y, M g w = some y → K (frm n g d) w = some y)
    (h : ((evIdx P ops (Region.linearise .any ops (w.tape w.drawn (.order fn id))) a w.drew).bind fun x => M (fun i => x.1.tmps.getD i undef) x.2) = some y) : evDraw P fn id ops a w K = some y := by
  unfold evDraw
  rw [hok]
  obtain ⟨x, hx, h⟩ := bind_inv h
  show (Option.bind _ _) = _
  rw [hx]
  show K x.1 x.2 = some y
  obtain ⟨h1, h2⟩ := evIdx_keep _ _ _ _ hx
  rw [frm_of (h1.trans hs) ((h2 rfl).trans hd)]
  exact hK _ _ _ h

/-! ## A scope out of which no jump goes -/

def scopeK {β : Type} (K : Exit → Act → World → Option β) : Exit → Act → World → Option β
  | .goto _, _, _ => none
  | e, a, w => K e a w
theorem scopeN_one {f : Option Nat → Act → World → Option (Exit × Act × World)} {has : Nat → Bool} (n : Nat) {at_ : Option Nat} {a : Act} {w : World} {x : Exit × Act × World} (h : f at_ a w = some x) (hx : ∀ t, x.1 ≠ .goto t) : scopeN f has (n + 1) at_ a w = some x := by
  obtain ⟨e, a', w'⟩ := x
  simp only [scopeN, h]
  cases e <;> first | rfl | exact absurd rfl (hx _)
theorem scope_of {β : Type} {P : Program} {fn : FuncId} {r : Option Nat} {c c' : Code} {a : Act} {w : World} {K : Exit → Act → World → Option β} {y : β} (hc : c' = .scope c)
    (h : evK P fn r c none β a w (scopeK K) = some y) : evK P fn r c' none β a w K = some y := by
  subst hc
  rw [evK_nat] at h
  obtain ⟨⟨e, a', w'⟩, hx, h⟩ := bind_inv h
  have hk : (∀ t, e ≠ .goto t) ∧ K e a' w' = some y := by
    cases e <;> first | exact ⟨by simp, h⟩ | cases h
  have : scopeN (fun at_ a w => evK P fn r c at_ _ a w ret3) (fun l => (findLabel c l).isSome) 64 none a w = some (e, a', w') := scopeN_one 63 hx hk.1
  show ((scopeN (fun at_ a w => evK P fn r c at_ _ a w ret3) (fun l => (findLabel c l).isSome) 64 none a w).bind fun x => K x.1 x.2.1 x.2.2) = some y
  rw [this]
  exact hk.2

/-! ## A scope with jumps: at most n more of them -/

noncomputable def gscopeK {β : Type} (P : Program) (fn : FuncId) (r : Option Nat) (c : Code) (n : Nat) (K : Exit → Act → World → Option β) : Exit → Act → World → Option β
  | .goto t, a, w => if (findLabel c t).isSome = true then (scopeN (fun at_ a w => evK P fn r c at_ _ a w ret3) (fun l => (findLabel c l).isSome) n (some t) a w).bind fun x => K x.1 x.2.1 x.2.2 else K (.goto t) a w
  | e, a, w => K e a w
theorem scopeN_to {β : Type} {P : Program} {fn : FuncId} {r : Option Nat} {c : Code} {n : Nat} {at_ : Option Nat} {a : Act} {w : World} {K : Exit → Act → World → Option β} {y : β}
    (h : evK P fn r c at_ β a w (gscopeK P fn r c n K) = some y) : ((scopeN (fun at_ a w => evK P fn r c at_ _ a w ret3) (fun l => (findLabel c l).isSome) (n + 1) at_ a w).bind fun x => K x.1 x.2.1 x.2.2) = some y := by
  rw [evK_nat] at h
  obtain ⟨⟨e, a', w'⟩, hx, h⟩ := bind_inv h
  simp only [scopeN, hx]
  cases e with
  | goto t =>
    simp only [gscopeK] at h
    by_cases c1 : (findLabel c t).isSome = true
    · rw [if_pos c1] at h
      show ((if (findLabel c t).isSome = true then _ else _ : Option (Exit × Act × World)).bind _) = _
      rw [if_pos c1]; exact h
    · rw [if_neg c1] at h
      show ((if (findLabel c t).isSome = true then _ else _ : Option (Exit × Act × World)).bind _) = _
      rw [if_neg c1]; exact h
  | _ => exact h
theorem gscope_of {β : Type} {P : Program} {fn : FuncId} {r : Option Nat} {c c' : Code} {a : Act} {w : World} {K : Exit → Act → World → Option β} {y : β} (hc : c' = .scope c)
    (h : evK P fn r c none β a w (gscopeK P fn r c 63 K) = some y) : evK P fn r c' none β a w K = some y := by
  subst hc
  exact scopeN_to h
theorem goto_of {β : Type} {P : Program} {fn : FuncId} {r : Option Nat} {c : Code} {n t : Nat} {a : Act} {w : World} {K : Exit → Act → World → Option β} {y : β} (ht : (findLabel c t).isSome = true)
    (h : evK P fn r c (some t) β a w (gscopeK P fn r c n K) = some y) : gscopeK P fn r c (n + 1) K (.goto t) a w = some y := by
  simp only [gscopeK, ht, if_true]
  exact scopeN_to h

/-! ## Rounds of a range over a function -/

noncomputable def begK {β : Type} (P : Program) (l : Nat) (w : World) (K : World → Option β) : Option β :=
  match (Instr.beginRound l).run P w with
  | .ok _ w2 => K w2
  | _ => none
noncomputable def endR (P : Program) (l : Nat) (j : Option Code) (w : World) : Option (Value × World) :=
  match (Instr.endRound l j).run P w with
  | .ok v w' => some (v, w')
  | _ => none
theorem begK_mono {β : Type} {P : Program} {l : Nat} {w : World} {K K' : World → Option β} {y : β} (h : ∀ w2, K w2 = some y → K' w2 = some y) (hk : begK P l w K = some y) : begK P l w K' = some y := by
  unfold begK at hk ⊢
  split at hk
  · exact h _ hk
  · cases hk

theorem evRange_tmps {P : Program} {fn : FuncId} {r : Option Nat} {g : Value} {ps : Array Tmp} {as bd : Code} {a : Act} {w : World} {x : Exit × Act × World} (h : evRange P fn r g ps as bd a w = some x) : x.2.1.tmps = a.tmps := by
  unfold evRange at h
  split at h
  · split at h
    · obtain ⟨y, _, h⟩ := bind_inv h
      split at h <;> first | (injection h with h; subst h; rfl) | cases h
    · cases h
  · cases h
theorem range_of {β : Type} {P : Program} {fn : FuncId} {r : Option Nat} {g : Value} {ps : Array Tmp} {as bd : Code} {a : Act} {w : World} {K : Exit → Act → World → Option β} {R : Exit → List Deferred → World → Option β} {y : β}
    (hR : ∀ e d w y, R e d w = some y → K e ⟨a.tmps, d⟩ w = some y) : ((evRange P fn r g ps as bd a w).bind fun x => R x.1 x.2.1.defers x.2.2) = some y →
    ((evRange P fn r g ps as bd a w).bind fun x => K x.1 x.2.1 x.2.2) = some y := by
  intro h
  obtain ⟨x, hx, h⟩ := bind_inv h
  rw [hx]
  show K x.1 x.2.1 x.2.2 = some y
  have := hR _ _ _ _ h
  rw [← evRange_tmps hx] at this
  exact this

/-! ## What comes of a computation -/

/-- It ends, and so. -/
def Brings {α : Type} (o : Option α) (Q : α → Prop) : Prop := ∃ r, o = some r ∧ Q r

@[congr] theorem Brings.congr_left {α : Type} {o o' : Option α} {Q : α → Prop} (h : o = o') : Brings o Q = Brings o' Q := by rw [h]
@[congr] theorem bind_congr_left {α β : Type} {o o' : Option α} {k : α → Option β} (h : o = o') : o.bind k = o'.bind k := by rw [h]
@[congr] theorem condK_congr {β : Type} {v v' : Value} {x y : Option β} (h : v = v') : condK v x y = condK v' x y := by rw [h]
@[congr] theorem guardQ_congr {v v' : Value} {b : Bool} {q : Option Value} (h : v = v') : guardQ v b q = guardQ v' b q := by rw [h]
@[congr] theorem guardX_congr {v v' : Value} {b : Bool} {w : World} {q : Option (Value × World)} (h : v = v') : guardX v b w q = guardX v' b w q := by rw [h]

theorem Brings.ret {α : Type} {Q : α → Prop} {r : α} (h : Q r) : Brings (some r) Q := ⟨r, rfl, h⟩
theorem Brings.mono {α : Type} {o : Option α} {Q Q' : α → Prop} (h : Brings o Q) (hq : ∀ r, Q r → Q' r) : Brings o Q' := by
  obtain ⟨r, e, h⟩ := h
  exact ⟨r, e, hq r h⟩
theorem Brings.bind {α β : Type} {o : Option α} {R : α → Prop} {k : α → Option β} {Q : β → Prop} (h : Brings o R) (hk : ∀ r, R r → Brings (k r) Q) : Brings (o.bind k) Q := by
  obtain ⟨r, e, h⟩ := h
  rw [e]; exact hk r h
theorem Brings.cond {β : Type} {b : Bool} {x y : Option β} {Q : β → Prop} (ht : b = true → Brings x Q) (hf : b = false → Brings y Q) : Brings (condK (.bool b) x y) Q := by
  cases b
  · exact hf rfl
  · exact ht rfl
theorem Brings.chk {β : Type} {p : Prop} {x : Option β} {Q : β → Prop} (hp : p) (h : Brings x Q) : Brings (chkK p x) Q := by
  unfold chkK
  rwa [if_pos hp]
theorem Brings.of_eq {α : Type} {o o' : Option α} {Q : α → Prop} (h : Brings o' Q) (e : ∀ r, o' = some r → o = some r) : Brings o Q := by
  obtain ⟨r, h1, h2⟩ := h
  exact ⟨r, e r h1, h2⟩
theorem Brings.call {f : Value} {args : Array Value} {P : Program} {k : FuncId} {as : Array Value} {w : World} {o : Option (Value × World)} {Q : Value × World → Prop}
    (h : Brings o Q) (hx : Xcall P f args w = C P k as w) (hc : ∀ r, o = some r → C P k as w = some r) : Brings (Xcall P f args w) Q := by
  rw [hx]; exact h.of_eq hc

/-- A loop: a measure that falls, and what holds ahead of each round. -/
theorem Brings.loop {β : Type} {B : List Value → World → Option (Exit × List Value × World)} {R : Exit → List Value → World → Option β} {Q : β → Prop} (I : Nat → List Value → World → Prop)
    (step : ∀ n xs w, I n xs w → Brings (B xs w) fun r => (r.1 = .normal ∧ ∃ m, m < n ∧ I m r.2.1 r.2.2) ∨ (r.1 ≠ .normal ∧ Brings (R r.1 r.2.1 r.2.2) Q)) :
    ∀ n xs w, I n xs w → Brings (loopR B R xs w) Q := by
  intro n
  induction n using Nat.strongRecOn with
  | _ n ih =>
    intro xs w hI
    obtain ⟨⟨e, xs', w'⟩, hb, h | h⟩ := step n xs w hI
    · obtain ⟨he, m, hm, hI'⟩ := h
      simp only at he hI'
      subst he
      obtain ⟨y, hy, hq⟩ := ih m hm xs' w' hI'
      exact ⟨y, loopR_step hb hy, hq⟩
    · obtain ⟨he, y, hy, hq⟩ := h
      exact ⟨y, loopR_stop hb he hy, hq⟩

theorem Xcall_fn {P : Program} {k : FuncId} {fn : Func} (hf : P.funcs[k]? = some fn) (hn : (fn.name == "runtime.NumGoroutine") = false) (hb : fn.body.isNone = false) (first captured args : Array Value) (w : World) :
    Xcall P (.func (.func k) first captured) args w = C P k (first ++ args ++ captured) w := by
  unfold Xcall
  show next P ((invoke (.fn (.func k) captured) (first ++ args)).run P w) = _
  simp only [invoke, callFunc, Sem.run_bind, run_program, Result.andThen_ok, hf, hn, hb, Bool.false_eq_true, if_false]
  rfl

/-! ## The plain operations -/

/-- A law that is a step of its own. -/
theorem nonrfl {α : Type} {a b : α} (h : a = b) : a = b := by cases h; exact rfl


def iand (k : IntKind) (a b : Int) : Int := k.wrap ((BitVec.ofInt k.bits a &&& BitVec.ofInt k.bits b).toNat)
def ior (k : IntKind) (a b : Int) : Int := k.wrap ((BitVec.ofInt k.bits a ||| BitVec.ofInt k.bits b).toNat)
def ixor (k : IntKind) (a b : Int) : Int := k.wrap ((BitVec.ofInt k.bits a ^^^ BitVec.ofInt k.bits b).toNat)
def iandNot (k : IntKind) (a b : Int) : Int := k.wrap ((BitVec.ofInt k.bits a &&& ~~~(BitVec.ofInt k.bits b)).toNat)


section ops
variable {P : Program}

@[go_sem] theorem bind_some' {α β : Type} (a : α) (k : α → Option β) : (some a).bind k = k a := nonrfl rfl
@[go_sem] theorem condK_t {β : Type} (x y : Option β) : condK (.bool true) x y = x := nonrfl rfl
@[go_sem] theorem condK_f {β : Type} (x y : Option β) : condK (.bool false) x y = y := nonrfl rfl
@[go_sem] theorem gv_t (v : Value) : gv true v = v := nonrfl rfl
@[go_sem] theorem gv_f (v : Value) : gv false v = undef := nonrfl rfl
@[go_sem] theorem isB_t (b : Bool) : isB (.bool b) true = b := by cases b <;> rfl
@[go_sem] theorem isB_f (b : Bool) : isB (.bool b) false = !b := by cases b <;> rfl
@[go_sem] theorem gv_nt (v : Value) : gv (!true) v = undef := nonrfl rfl
@[go_sem] theorem gv_nf (v : Value) : gv (!false) v = v := nonrfl rfl
@[go_sem] theorem guardQ_tt (q : Option Value) : guardQ (.bool true) true q = q := nonrfl rfl
@[go_sem] theorem guardQ_ff (q : Option Value) : guardQ (.bool false) false q = q := nonrfl rfl
@[go_sem] theorem guardQ_tf (q : Option Value) : guardQ (.bool true) false q = some undef := nonrfl rfl
@[go_sem] theorem guardQ_ft (q : Option Value) : guardQ (.bool false) true q = some undef := nonrfl rfl
@[go_sem] theorem guardQ_u (b : Bool) (q : Option Value) : guardQ undef b q = some undef := nonrfl rfl
@[go_sem] theorem guardX_tt (w : World) (q : Option (Value × World)) : guardX (.bool true) true w q = q := nonrfl rfl
@[go_sem] theorem guardX_ff (w : World) (q : Option (Value × World)) : guardX (.bool false) false w q = q := nonrfl rfl
@[go_sem] theorem guardX_tf (w : World) (q : Option (Value × World)) : guardX (.bool true) false w q = some (undef, w) := nonrfl rfl
@[go_sem] theorem guardX_ft (w : World) (q : Option (Value × World)) : guardX (.bool false) true w q = some (undef, w) := nonrfl rfl
@[go_sem] theorem guardX_u (b : Bool) (w : World) (q : Option (Value × World)) : guardX undef b w q = some (undef, w) := nonrfl rfl
@[go_sem] theorem Qpick_t (x y : Value) : Qpick (.bool true) x y = some x := nonrfl rfl
@[go_sem] theorem Qpick_f (x y : Value) : Qpick (.bool false) x y = some y := nonrfl rfl
@[go_sem] theorem Qext_0 (x : Value) (xs : List Value) : Qext (.tuple ⟨x :: xs⟩) 0 = some x := nonrfl rfl
@[go_sem] theorem Qext_1 (x y : Value) (xs : List Value) : Qext (.tuple ⟨x :: y :: xs⟩) 1 = some y := nonrfl rfl
@[go_sem] theorem Qext_2 (x y z : Value) (xs : List Value) : Qext (.tuple ⟨x :: y :: z :: xs⟩) 2 = some z := nonrfl rfl
@[go_sem] theorem Qnil_p (a : Addr) : Qnil (.pointer (some a)) = some (.pointer (some a)) := nonrfl rfl
@[go_sem] theorem Qnil_f (f : FuncId) (x y : Array Value) : Qnil (.func (.func f) x y) = some (.func (.func f) x y) := nonrfl rfl
@[go_sem] theorem Qnil_y (l : Nat) (x y : Array Value) : Qnil (.func (.yield l) x y) = some (.func (.yield l) x y) := nonrfl rfl
@[go_sem] theorem Qun_not (b : Bool) : Qun .not (.bool b) = some (.bool !b) := nonrfl rfl
@[go_sem] theorem Qun_neg (k : IntKind) (n : Int) : Qun .neg (.int k n) = some (.int k (k.wrap (0 - n))) := nonrfl rfl
@[go_sem] theorem chkK_T {β : Type} (x : Option β) : chkK True x = x := nonrfl (if_pos trivial)

variable {t : TypeId} {k : IntKind} {a b : Int}
@[go_sem] theorem Qb_add : Qbin P .add t (.int k a) (.int k b) = some (.int k (k.wrap (a + b))) := by simp [Qbin, intBin]
@[go_sem] theorem Qb_sub : Qbin P .sub t (.int k a) (.int k b) = some (.int k (k.wrap (a - b))) := by simp [Qbin, intBin]
@[go_sem] theorem Qb_mul : Qbin P .mul t (.int k a) (.int k b) = some (.int k (k.wrap (a * b))) := by simp [Qbin, intBin]
@[go_sem] theorem Qb_and : Qbin P .and t (.int k a) (.int k b) = some (.int k (iand k a b)) := by simp [Qbin, intBin, iand]
@[go_sem] theorem Qb_or : Qbin P .or t (.int k a) (.int k b) = some (.int k (ior k a b)) := by simp [Qbin, intBin, ior]
@[go_sem] theorem Qb_xor : Qbin P .xor t (.int k a) (.int k b) = some (.int k (ixor k a b)) := by simp [Qbin, intBin, ixor]
@[go_sem] theorem Qb_andNot : Qbin P .andNot t (.int k a) (.int k b) = some (.int k (iandNot k a b)) := by simp [Qbin, intBin, iandNot]
@[go_sem] theorem Qb_eql : Qbin P .eql t (.int k a) (.int k b) = some (.bool (a == b)) := by simp [Qbin, intBin]
@[go_sem] theorem Qb_neq : Qbin P .neq t (.int k a) (.int k b) = some (.bool (a != b)) := by simp [Qbin, intBin]
@[go_sem] theorem Qb_lss : Qbin P .lss t (.int k a) (.int k b) = some (.bool (decide (a < b))) := by simp [Qbin, intBin]
@[go_sem] theorem Qb_leq : Qbin P .leq t (.int k a) (.int k b) = some (.bool (decide (a ≤ b))) := by simp [Qbin, intBin]
@[go_sem] theorem Qb_gtr : Qbin P .gtr t (.int k a) (.int k b) = some (.bool (decide (b < a))) := by simp [Qbin, intBin]
@[go_sem] theorem Qb_geq : Qbin P .geq t (.int k a) (.int k b) = some (.bool (decide (b ≤ a))) := by simp [Qbin, intBin]
theorem Qb_rem (hb : b ≠ 0) : Qbin P .rem t (.int k a) (.int k b) = some (.int k (k.wrap (a.tmod b)) ) ∨ Qbin P .rem t (.int k a) (.int k b) = some (.int k (a.tmod b)) := by
  right; simp [Qbin, intBin, hb]
@[go_sem] theorem Qb_remP (hb : b ≠ 0) : Qbin P .rem t (.int k a) (.int k b) = some (.int k (a.tmod b)) := by simp [Qbin, intBin, hb]
@[go_sem] theorem Qb_quoP (hb : b ≠ 0) : Qbin P .quo t (.int k a) (.int k b) = some (.int k (k.wrap (a.tdiv b))) := by simp [Qbin, intBin, hb]
@[go_sem] theorem Qb_shl {j : IntKind} (hb : 0 ≤ b) : Qbin P .shl t (.int k a) (.int j b) = some (.int k (k.wrap (a * 2 ^ (min b.toNat k.bits)))) := by simp [Qbin, intBin, Int.not_lt.2 hb]
@[go_sem] theorem Qb_shr {j : IntKind} (hb : 0 ≤ b) : Qbin P .shr t (.int k a) (.int j b) = some (.int k (a.fdiv (2 ^ (min b.toNat k.bits)))) := by simp [Qbin, intBin, Int.not_lt.2 hb]

theorem Qb_eqlB {x y : Bool} (ht : P.underlying t = some .bool) : Qbin P .eql t (.bool x) (.bool y) = some (.bool (x == y)) := by simp [Qbin, eqV, ht]
theorem Qb_neqB {x y : Bool} (ht : P.underlying t = some .bool) : Qbin P .neq t (.bool x) (.bool y) = some (.bool (x != y)) := by cases x <;> cases y <;> simp [Qbin, eqV, ht]
@[go_sem] theorem Qb_eqlS {x y : ByteArray} : Qbin P .eql t (.string x) (.string y) = some (.bool (x.toList == y.toList)) := by simp [Qbin, strBin]
@[go_sem] theorem Qb_neqS {x y : ByteArray} : Qbin P .neq t (.string x) (.string y) = some (.bool !(x.toList == y.toList)) := by simp [Qbin, strBin]
theorem Qb_eqlP {x : Option Addr} {e : TypeId} (ht : P.underlying t = some (.pointer e)) : Qbin P .eql t (.pointer x) (.pointer none) = some (.bool x.isNone) := by cases x <;> simp [Qbin, eqV, ht]
theorem Qb_neqP {x : Option Addr} {e : TypeId} (ht : P.underlying t = some (.pointer e)) : Qbin P .neq t (.pointer x) (.pointer none) = some (.bool x.isSome) := by cases x <;> simp [Qbin, eqV, ht]
theorem Qb_eqlL {x : Option Addr} {n c n' c' : Nat} {e : TypeId} (ht : P.underlying t = some (.slice e)) : Qbin P .eql t (.slice x n c) (.slice none n' c') = some (.bool x.isNone) := by cases x <;> simp [Qbin, eqV, ht]
theorem Qb_neqL {x : Option Addr} {n c n' c' : Nat} {e : TypeId} (ht : P.underlying t = some (.slice e)) : Qbin P .neq t (.slice x n c) (.slice none n' c') = some (.bool x.isSome) := by cases x <;> simp [Qbin, eqV, ht]
theorem Qconv_int {s d : TypeId} {j : IntKind} {n : Int} (h : intConv P s d = some k) : Qconv P s d (.int j n) = some (.int k (k.wrap n)) := by simp [Qconv, h]

/-! ## Memory -/

/-- One cell is a variable of the type. -/
def one (P : Program) (t : TypeId) : Bool :=
  match P.underlying t, P.info? t with
  | some (.struct _), _ | some (.array _ _), _ => false
  | some _, some i => i.size == 1
  | _, _ => false

theorem isAgg_one (h : one P t = true) (w : World) : (isAgg t).run P w = .ok false w := by
  unfold one at h
  cases hd : P.underlying t with
  | none => rw [hd] at h; simp at h
  | some d =>
    rw [hd] at h
    simp only [isAgg, Sem.run_bind, run_underlying hd, Result.andThen_ok]
    cases d <;> first | rfl | (exfalso; simp at h)

theorem Qload_one (h : one P t = true) {p : Addr} {w : World} : Qload P t (.pointer (some p)) w = match w.cell? p with
    | some v => some v
    | none => qv P (load p) w := by
  unfold Qload qv
  simp only [Instr.loadAt, Instr.sureAddr, loadVar, Sem.run_bind, Sem.run_pure, Result.andThen_ok, isAgg_one h, Bool.false_eq_true, if_false]
  cases hc : w.cell? p with
  | none => rfl
  | some v => simp [load, Sem.run, hc]

theorem Qload_cell (h : one P t = true) {p : Addr} {w : World} {v : Value} (hc : w.cell? p = some v) : Qload P t (.pointer (some p)) w = some v := by
  rw [Qload_one h, hc]

theorem oneCell_cells {v : Value} (h : v.oneCell' = true) : v.cells = #[v] := by
  cases v <;> first | rfl | cases h

theorem Xbox_eq {v : Value} {w : World} : Xbox P t v w = some (.pointer (some ⟨w.heap.size, 0, none⟩), w.alloc (.cells v.cells t)) := rfl
@[go_sem] theorem Xbox_int {n : Int} {w : World} : Xbox P t (.int k n) w = some (.pointer (some ⟨w.heap.size, 0, none⟩), w.alloc (.cells #[.int k n] t)) := nonrfl rfl
@[go_sem] theorem Xbox_agg {cs : Array Value} {w : World} : Xbox P t (.agg cs) w = some (.pointer (some ⟨w.heap.size, 0, none⟩), w.alloc (.cells cs t)) := nonrfl rfl

end ops

/-! ## Worlds -/

/-- Nothing that was there has turned. -/
abbrev Bel (w w' : World) : Prop := Below w.heap.size w w'

theorem Bel.refl (w : World) : Bel w w := Below.refl _ _
theorem Bel.trans {a b c : World} (h : Bel a b) (k : Bel b c) : Bel a c := Below.trans h (k.mono h.size)
theorem Bel.alloc {a w : World} (h : Bel a w) (o : Obj) : Bel a (w.alloc o) := Below.alloc h h.size o
theorem Bel.drew {a w : World} (h : Bel a w) : Bel a w.drew := Below.drew h
theorem Bel.at_ {w w' : World} (h : Bel w w') {b : Nat} {o : Obj} (hb : w.heap[b]? = some o) : w'.heap[b]? = some o := by
  rw [h.block b (Array.getElem?_eq_some_iff.1 hb).1]; exact hb
theorem Bel.lt {w w' : World} (h : Bel w w') {b : Nat} (hb : b < w.heap.size) : b < w'.heap.size := Nat.lt_of_lt_of_le hb h.size
theorem Bel.cell_some {w w' : World} (h : Bel w w') {p : Addr} {v : Value} (hc : w.cell? p = some v) : w'.cell? p = some v := by
  rw [Below.cell h (World.block_lt_of_cell? _ _ hc)]; exact hc

theorem cell_at {w : World} {b i : Nat} {c : Array Value} {t : TypeId} {z : Nat × Nat} {v : Value} (hb : w.heap[b]? = some (.cells c t z)) (hv : c[i]? = some v) : w.cell? ⟨b, i, none⟩ = some v := by
  simp [World.cell?, hb, hv]

end Go.Ev
