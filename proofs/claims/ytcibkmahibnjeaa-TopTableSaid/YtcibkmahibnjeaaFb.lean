/- Regions that draw their order: what holds ahead and behind each operation holds at the end, in whatever order. -/
import Derived.Test.YtcibkmahibnjeaaFa
namespace Go.Ev
open Go Go.RowKit

section lin
variable {P : Program} {ops : Array Oper}

theorem listed_all (back : ∀ j i, Edge1 ops j i → i < j) {listed : Array Bool} (hs : listed.size = ops.size) (h : Region.ready .any ops listed = []) : ∀ i, i < ops.size → listed.getD i false = true := by
  intro i
  induction i using Nat.strongRecOn with
  | _ i ih =>
    intro hi
    cases hu : listed.getD i false with
    | true => rfl
    | false =>
      exfalso
      have hl : i < listed.size := by rw [hs]; exact hi
      have hmem : i ∈ Region.ready .any ops listed := by
        unfold Region.ready
        rw [List.mem_filter]
        refine ⟨by simpa using hi, ?_⟩
        rw [Bool.and_eq_true]
        constructor
        · simp only [Array.getD_eq_getD_getElem?, Array.getElem?_eq_getElem hl, Option.getD_some] at hu ⊢
          simp [hu]
        · simp only [Array.getElem?_eq_getElem hi, Option.map_some, Option.getD_some, Array.all_eq_true]
          intro k hk
          cases hb : Region.binds .any ops[i].after[k] with
          | false => rfl
          | true =>
            have he : Edge1 ops i ops[i].after[k].on := ⟨ops[i], by simp [hi], _, Array.getElem_mem hk, hb, rfl⟩
            have hlt := back _ _ he
            simp [ih _ hlt (by omega)]
      rw [h] at hmem; cases hmem

theorem lin_go (J : (Nat → Bool) → Act → World → Prop) (back : ∀ j i, Edge1 ops j i → i < j)
    (step : ∀ (S : Nat → Bool) a w i o, J S a w → ops[i]? = some o → S i = false → (∀ e ∈ o.after, Region.binds .any e = true → S e.on = true) →
      ∃ v w', (res P ops a w o).to w = some (v, w') ∧ J (fun j => S j || j == i) (a.put o.dst v) w') :
    ∀ (fuel t : Nat) (listed : Array Bool) (a : Act) (w : World), listed.size = ops.size → J (fun j => listed.getD j false) a w → listed.toList.countP (· == false) ≤ fuel →
      ∃ S a' w', evIdx P ops (Region.linearise.go .any ops fuel t listed []) a w = some (a', w') ∧ J S a' w' ∧ ∀ i, i < ops.size → S i = true := by
  intro fuel
  induction fuel with
  | zero =>
    intro t listed a w hsz hJ hc
    refine ⟨_, a, w, rfl, hJ, fun i hi => ?_⟩
    have hl : i < listed.size := by rw [hsz]; exact hi
    have h0 : listed.toList.countP (· == false) = 0 := by omega
    rw [List.countP_eq_zero] at h0
    have := h0 listed[i] (by simp)
    simp only [Array.getD_eq_getD_getElem?, Array.getElem?_eq_getElem hl, Option.getD_some]
    simpa using this
  | succ fuel ih =>
    intro t listed a w hsz hJ hc
    simp only [Region.linearise.go]
    change ∃ S a' w', evIdx P ops (match (Region.ready .any ops listed)[t % (Region.ready .any ops listed).length]? with
      | some i => Region.linearise.go .any ops fuel (t / (Region.ready .any ops listed).length) (listed.setIfInBounds i true) [i]
      | none => [].reverse) a w = _ ∧ _
    cases hi : (Region.ready .any ops listed)[t % (Region.ready .any ops listed).length]? with
    | none =>
      have hnil : Region.ready .any ops listed = [] := by
        cases hr : Region.ready .any ops listed with
        | nil => rfl
        | cons x xs =>
          rw [hr] at hi
          have hlt : t % (x :: xs).length < (x :: xs).length := Nat.mod_lt _ (by simp)
          rw [List.getElem?_eq_none_iff] at hi
          omega
      exact ⟨_, a, w, rfl, hJ, listed_all back hsz hnil⟩
    | some i =>
      simp only []
      rw [linearise_go_acc, List.reverse_singleton, List.singleton_append]
      have hmem := List.mem_of_getElem? hi
      obtain ⟨hun, o, ho, hed⟩ := ready_mem hmem
      have hilt : i < listed.size := by rw [hsz]; exact (Array.getElem?_eq_some_iff.1 ho).1
      have hun' : listed[i] = false := by
        simpa [Array.getD_eq_getD_getElem?, Array.getElem?_eq_getElem hilt] using hun
      have hSi : listed.getD i false = false := by
        simp [Array.getD_eq_getD_getElem?, Array.getElem?_eq_getElem hilt, hun']
      obtain ⟨v, w2, hr, hJ2⟩ := step _ a w i o hJ ho hSi hed
      have hS : (fun j => listed.getD j false || j == i) = fun j => (listed.setIfInBounds i true).getD j false := by
        funext j
        simp only [Array.getD_eq_getD_getElem?, Array.getElem?_setIfInBounds]
        by_cases e : i = j
        · subst e; simp [hilt]
        · rw [if_neg e]
          have : (j == i) = false := by simp; exact fun h => e h.symm
          simp [this]
      rw [hS] at hJ2
      have hlist : (listed.setIfInBounds i true).toList = listed.toList.set i true := by simp
      have hpos : 0 < listed.toList.countP (· == false) := by
        rw [List.countP_pos_iff]
        exact ⟨listed[i], by simp, by simp [hun']⟩
      have hset := List.countP_set (p := (· == false)) (l := listed.toList) (i := i) (a := true) (h := by simpa using hilt)
      rw [show listed.toList[i]'(by simpa using hilt) = false by simpa using hun'] at hset
      simp only [beq_self_eq_true, if_true, show (true == false) = false from rfl, Bool.false_eq_true, if_false] at hset
      obtain ⟨S, a', w', h1, h2, h3⟩ := ih (t / (Region.ready .any ops listed).length) (listed.setIfInBounds i true) _ _ (by simpa using hsz) hJ2 (by rw [hlist, hset]; omega)
      refine ⟨S, a', w', ?_, h2, h3⟩
      simp only [evIdx, ho, hr, Option.bind_some]
      exact h1

/-- Whatever the order: what holds at the start, and is kept by each operation, behind all that it waits for, holds when all are done. -/
theorem lin_inv (J : (Nat → Bool) → Act → World → Prop) (back : ∀ j i, Edge1 ops j i → i < j) {a : Act} {w : World} (h0 : J (fun _ => false) a w)
    (step : ∀ (S : Nat → Bool) a w i o, J S a w → ops[i]? = some o → S i = false → (∀ e ∈ o.after, Region.binds .any e = true → S e.on = true) →
      ∃ v w', (res P ops a w o).to w = some (v, w') ∧ J (fun j => S j || j == i) (a.put o.dst v) w') (t : Nat) :
    ∃ S a' w', evIdx P ops (Region.linearise .any ops t) a w = some (a', w') ∧ J S a' w' ∧ ∀ i, i < ops.size → S i = true := by
  refine lin_go J back step ops.size t _ a w (by simp) ?_ ?_
  · have : (fun j => (Array.replicate ops.size false).getD j false) = fun _ => false := by
      funext j
      simp only [Array.getD_eq_getD_getElem?, Array.getElem?_replicate]
      split <;> rfl
    rw [this]; exact h0
  · exact Nat.le_trans List.countP_le_length (by simp)

/-- All edges lead back, by a look at each. -/
def backB (ops : Array Oper) : Bool := ops.toList.zipIdx.all fun p => p.1.after.toList.all fun e => !Region.binds .any e || decide (e.on < p.2)
theorem back_of (h : backB ops = true) : ∀ j i, Edge1 ops j i → i < j := by
  rintro j i ⟨o, ho, e, he, hb, rfl⟩
  unfold backB at h
  rw [List.all_eq_true] at h
  have := h (o, j) (mem_zip ho)
  rw [List.all_eq_true] at this
  simpa [hb] using this e (by simpa using he)

end lin

/-! ## Maps -/

/-- The first entry of a key. -/
def findM (q : Value → Bool) : List MapEntry → Nat → Option (Nat × Value)
  | [], _ => none
  | e :: es, i => if q e.key = true then some (i, e.val) else findM q es (i + 1)

section maps
variable {P : Program}

theorem run_findAsking {kt : TypeId} {k : Value} {q : Value → Bool} {w : World} : ∀ (l : List MapEntry) (i : Nat), (∀ e ∈ l, (Op.equal kt k e.key).run P w = .ok (q e.key) w) →
    (Instr.findAsking kt k l i).run P w = .ok (findM q l i) w
  | [], i, _ => rfl
  | e :: es, i, h => by
    simp only [Instr.findAsking, Sem.run_bind, h e (by simp), Result.andThen_ok, findM]
    cases q e.key with
    | true => rfl
    | false => exact run_findAsking es (i + 1) fun e' he => h e' (by simp [he])

theorem checkKey_int {kt : TypeId} {d j : IntKind} {n : Int} (hd : P.underlying kt = some (.int d)) (m : Nat) (b : Bool) (w : World) : (Instr.checkKey b (m + 1) kt (.int j n)).run P w = .ok () w := by
  simp only [Instr.checkKey, Sem.run_bind, run_underlying hd, Result.andThen_ok]; rfl

/-- How a key of a type is looked for. -/
def KeyBy (P : Program) (kt : TypeId) (k : Value) (q : Value → Bool) (es : List MapEntry) : Prop :=
  (∀ (w : World) (b : Bool), (Instr.checkKey b 10000 kt k).run P w = .ok () w) ∧ ∀ w : World, (Instr.findKey kt k es).run P w = .ok (findM q es 0) w

/-- Is it this number? -/
def intQ (n : Int) (x : Value) : Bool :=
  match x with
  | .int _ m => n == m
  | _ => false

theorem findNow_int {j : IntKind} {n : Int} {d : IntKind} : ∀ (l : List MapEntry) (i : Nat), (∀ e ∈ l, ∃ m, e.key = .int j m) →
    Instr.findNow (.int d) (.int j n) l i = some (findM (intQ n) l i)
  | [], _, _ => rfl
  | e :: es, i, h => by
    obtain ⟨m, hm⟩ := h e (by simp)
    simp only [Instr.findNow, hm, Instr.sameNow, if_true, findM, intQ]
    cases hq : n == m with
    | true => rfl
    | false => exact findNow_int es (i + 1) fun e' he => h e' (by simp [he])

theorem keyBy_int {kt : TypeId} {d j : IntKind} {n : Int} {es : List MapEntry} (hd : P.underlying kt = some (.int d)) (h : ∀ e ∈ es, ∃ m, e.key = .int j m) :
    KeyBy P kt (.int j n) (intQ n) es := by
  refine ⟨fun w b => ?_, fun w => ?_⟩
  · exact checkKey_int hd 9999 b w
  · simp only [Instr.findKey, Sem.run_bind, run_underlying hd, Result.andThen_ok, findNow_int es 0 h]; rfl

theorem Xlookup_some {t kt et : TypeId} {r : Nat} {es : Array MapEntry} {c : Nat} {k z : Value} {q : Value → Bool} {ok : Bool} {w : World} (ht : P.underlying t = some (.map kt et)) (hr : w.heap[r]? = some (.map es c))
    (hk : KeyBy P kt k q es.toList) (hz : (zeroValue et).run P w = .ok z w) :
    Xlookup P t (.map (some r)) k ok w = some (match findM q es.toList 0 with
      | some (_, v) => if ok then .tuple #[v, .bool true] else v
      | none => if ok then .tuple #[z, .bool false] else z, w) := by
  unfold Xlookup xv
  simp only [Instr.lookup, Sem.run_bind, run_underlying ht, Result.andThen_ok, MapKept.run_getObj_map hr, Sem.run_pure, hk.1, hk.2]
  cases findM q es.toList 0 with
  | none => simp only [Sem.run_bind, hz, Result.andThen_ok, Sem.run_pure]
  | some x => rfl

/-- An entry that is new. -/
theorem Xinsert_new {t kt et : TypeId} {r : Nat} {es : Array MapEntry} {c : Nat} {k v : Value} {q : Value → Bool} {w : World} (ht : P.underlying t = some (.map kt et)) (hr : w.heap[r]? = some (.map es c))
    (hk : KeyBy P kt k q es.toList) (hn : findM q es.toList 0 = none) :
    Xinsert P t (.map (some r)) k v w = some (undef, { w with heap := w.heap.setIfInBounds r (.map (es.push { key := k, val := v, born := c }) (c + 1)) }) := by
  unfold Xinsert xu
  simp only [Instr.mapUpdate, Sem.run_bind, run_underlying ht, Result.andThen_ok, MapKept.run_getObj_map hr, hk.1, hk.2, hn, MapKept.run_setObj_map _ hr]

@[go_sem] theorem XmakeMap_none {t : TypeId} {w : World} : XmakeMap P t none w = some (.map (some w.heap.size), w.alloc (.map #[] 0)) := nonrfl rfl

end maps
end Go.Ev
