/- A range over a function: entered, a round, left. -/
import Derived.Test.YtcibkmahibnjeaaFa
namespace Go.Ev
open Go Go.RowKit

section rng
variable {P : Program} {β : Type}

theorem run_getLoop {w : World} {l : Nat} {L : Loop} (h : w.heap[l]? = some (.loop L)) : (Instr.getLoop l).run P w = .ok L w := by
  unfold Instr.getLoop
  simp only [Sem.run_bind]
  have : (getObj l).run P w = .ok (.loop L) w := by simp [getObj, Sem.run, h]
  simp only [this, Result.andThen_ok]
  rfl
theorem run_setLoop {w : World} {l : Nat} {L : Loop} (o : Obj) (h : w.heap[l]? = some (.loop L)) : (setObj l o).run P w = .ok () { w with heap := w.heap.setIfInBounds l o } := by
  simp [setObj, Sem.run, h]

/-- A block gets another content. -/
def setB (w : World) (l : Nat) (o : Obj) : World := { w with heap := w.heap.setIfInBounds l o }
theorem setB_same {w : World} {l : Nat} {o o' : Obj} (h : w.heap[l]? = some o') : (setB w l o).heap[l]? = some o := by
  obtain ⟨h1, _⟩ := Array.getElem?_eq_some_iff.1 h
  simp [setB, h1]
theorem setB_other {w : World} {l k : Nat} {o : Obj} (h : k ≠ l) : (setB w l o).heap[k]? = w.heap[k]? := by
  simp only [setB, Array.getElem?_setIfInBounds]
  rw [if_neg (fun e => h e.symm)]
theorem setB_size {w : World} {l : Nat} {o : Obj} : (setB w l o).heap.size = w.heap.size := by simp [setB]

theorem begK_ready {w : World} {l : Nat} {L : Loop} {K : World → Option β} (h : w.heap[l]? = some (.loop L)) (hs : L.state = .ready) : begK P l w K = K (setB w l (.loop { L with state := .busy })) := by
  unfold begK Instr.beginRound
  simp only [Sem.run_bind, run_getLoop h, Result.andThen_ok, run_setLoop _ h, hs]
  rfl
theorem endR_eq {w : World} {l : Nat} {L : Loop} {j : Option Code} (h : w.heap[l]? = some (.loop L)) :
    endR P l j w = some (.bool j.isNone, setB w l (.loop { L with state := if j.isNone then .ready else .done, pending := j })) := by
  unfold endR Instr.endRound
  simp only [Sem.run_bind, run_getLoop h, Result.andThen_ok, run_setLoop _ h, Sem.run_pure]
  rfl

/-- A call of the loop's yield is a round. -/
theorem Xcall_yield {w : World} {l : Nat} {L : Loop} {args : Array Value} (h : w.heap[l]? = some (.loop L)) (hs : args.size = L.params.size) :
    Xcall P (.func (.yield l) #[] #[]) args w = Rd P l L.fn ((L.params.zip args).foldl (fun tmps (t, a) => tmps.setIfInBounds t a) L.tmps) L.assign L.body w := by
  unfold Xcall
  show next P ((invoke (.fn (.yield l) #[]) (#[] ++ args)).run P w) = _
  simp only [invoke, Instr.yield, Sem.run_bind, run_getLoop h, Result.andThen_ok, Array.empty_append, hs, ne_eq, not_true_eq_false, if_false, Sem.run_pure]
  rfl

def exitOf : Option Code → Option Exit
  | none => some .normal
  | some .ret => some .ret
  | some (.exit id) => some (.exit id)
  | some (.goto t) => some (.goto t)
  | _ => none

/-- The world in which a loop has been entered. -/
def enterW (w : World) (fn : FuncId) (tmps : Array Value) (ps : Array Tmp) (as bd : Code) : World :=
  (w.alloc (.deferred (some []))).alloc (.loop { state := .ready, pending := none, fn, tmps, params := ps, assign := as, body := bd, defers := w.heap.size })
theorem enterW_loop (w : World) (fn : FuncId) (tmps : Array Value) (ps : Array Tmp) (as bd : Code) :
    (enterW w fn tmps ps as bd).heap[w.heap.size + 1]? = some (.loop { state := .ready, pending := none, fn, tmps, params := ps, assign := as, body := bd, defers := w.heap.size }) := by
  have := (MapKept.heap_alloc (w.alloc (.deferred (some []))) (.loop { state := .ready, pending := none, fn, tmps, params := ps, assign := as, body := bd, defers := w.heap.size })).1
  rw [World.size_alloc] at this
  exact this
theorem enterW_def (w : World) (fn : FuncId) (tmps : Array Value) (ps : Array Tmp) (as bd : Code) : (enterW w fn tmps ps as bd).heap[w.heap.size]? = some (.deferred (some [])) := by
  have := (MapKept.heap_alloc (w.alloc (.deferred (some []))) (.loop { state := .ready, pending := none, fn, tmps, params := ps, assign := as, body := bd, defers := w.heap.size })).2 w.heap.size (by simp)
  unfold enterW
  rw [this]
  exact (MapKept.heap_alloc w _).1
theorem enterW_bel (w : World) (fn : FuncId) (tmps : Array Value) (ps : Array Tmp) (as bd : Code) : Bel w (enterW w fn tmps ps as bd) := ((Bel.refl w).alloc _).alloc _
theorem enterW_size (w : World) (fn : FuncId) (tmps : Array Value) (ps : Array Tmp) (as bd : Code) : (enterW w fn tmps ps as bd).heap.size = w.heap.size + 2 := by simp [enterW]

theorem Brings.range {fn f : FuncId} {fd : Func} {first captured : Array Value} {ps : Array Tmp} {as bd : Code} {tmps : Array Value} {d : List Deferred} {w : World} {K : Exit → List Deferred → World → Option β} {Q : β → Prop}
    (hf : P.funcs[f]? = some fd) (hn : (fd.name == "runtime.NumGoroutine") = false) (hb : fd.body.isNone = false)
    (h : Brings (Xcall P (.func (.func f) first captured) #[.func (.yield (w.heap.size + 1)) #[] #[]] (enterW w fn tmps ps as bd)) fun x =>
      ∃ L e, x.2.heap[w.heap.size + 1]? = some (.loop L) ∧ (L.state == .busy) = false ∧ exitOf L.pending = some e ∧
        Brings (K e ({ target := .collected w.heap.size, args := #[] } :: d) (setB x.2 (w.heap.size + 1) (.loop { L with state := .exhausted }))) Q) :
    Brings ((evRange P fn none (.func (.func f) first captured) ps as bd ⟨tmps, d⟩ w).bind fun x => K x.1 x.2.1.defers x.2.2) Q := by
  obtain ⟨x, hx, L, e, hl, hbusy, hex, y, hy, hq⟩ := h
  rw [Xcall_fn hf hn hb] at hx
  refine ⟨y, ?_, hq⟩
  have hent : (Instr.enterLoop fn tmps ps as bd none).run P w = .ok (w.heap.size + 1, [{ target := .collected w.heap.size, args := #[] }]) (enterW w fn tmps ps as bd) := by
    simp only [Instr.enterLoop, Sem.run_bind, run_newObj, Result.andThen_ok, Sem.run_pure, Array.size_push]
    rfl
  have hinv : (do let d ← Deferred.ofValue (.func (.func f) first captured) #[.func (.yield (w.heap.size + 1)) #[] #[]]; invoke d.target d.args : Sem Next).run P (enterW w fn tmps ps as bd) =
      .ok (.enter f (first ++ #[.func (.yield (w.heap.size + 1)) #[] #[]] ++ captured)) (enterW w fn tmps ps as bd) := by
    show (invoke (.fn (.func f) captured) (first ++ _)).run P _ = _
    simp only [invoke, callFunc, Sem.run_bind, run_program, Result.andThen_ok, hf, hn, hb, Bool.false_eq_true, if_false]
    rfl
  have hend : (Instr.endLoop (w.heap.size + 1)).run P x.2 = .ok L.pending (setB x.2 (w.heap.size + 1) (.loop { L with state := .exhausted })) := by
    unfold Instr.endLoop
    simp only [Sem.run_bind, run_getLoop hl, Result.andThen_ok, hbusy, Bool.false_eq_true, if_false, run_setLoop _ hl, Sem.run_pure]
    rfl
  have : evRange P fn none (.func (.func f) first captured) ps as bd ⟨tmps, d⟩ w = some (e, ⟨tmps, { target := .collected w.heap.size, args := #[] } :: d⟩, setB x.2 (w.heap.size + 1) (.loop { L with state := .exhausted })) := by
    unfold evRange
    simp only [hent, hinv, hx, Option.bind_some, hend]
    cases hp : L.pending with
    | none => rw [hp] at hex; injection hex with hex; subst hex; rfl
    | some c =>
      rw [hp] at hex
      cases c <;> simp only [exitOf, reduceCtorEq, Option.some.injEq] at hex <;> subst hex <;> rfl
  rw [this]
  exact hy

theorem takeAll_one {w : World} {q : Nat} (h : w.heap[q]? = some (.deferred (some []))) : takeAll P [{ target := .collected q, args := #[] }] w = some (setB w q (.deferred none)) := by
  have hg : (getObj q).run P w = .ok (.deferred (some [])) w := by simp [getObj, Sem.run, h]
  have hs : (setObj q (.deferred none)).run P w = .ok () (setB w q (.deferred none)) := by simp [setObj, Sem.run, h, setB]
  have : (Instr.takeDeferred q).run P w = .ok [] (setB w q (.deferred none)) := by
    unfold Instr.takeDeferred
    simp only [Sem.run_bind, hg, Result.andThen_ok, hs, Sem.run_pure]
  simp only [takeAll, this]

end rng
end Go.Ev
