/- Regions that draw their order: what holds ahead and behind each operation holds at the end, in whatever order. -/
import Derived.Test.YtphokckbcmiddaaDoorMFa
import Derived.OpenShut
import Derived.ChangeOld
import Derived.Deep.Grids
import Derived.Laws.OwnMore
import Derived.Laws.AppendOwn
import Derived.Laws.CopyRow
import Derived.Laws.AppendOwnNone
import Derived.Laws.Slices
import Derived.DataReads
import Derived.Laws.BytesArg
/- Regions that draw their order: what holds ahead and behind each operation holds at the end, in whatever order. -/
namespace Go.Ev
open Go Go.RowKit

section lin
variable {P : Program} {ops : Array Oper}

theorem listed_all (back : ∀ j i, Edge1 ops j i → i < j) {listed : Array Bool} (hs : listed.size = ops.size) (h : Region.ready .any ops listed = []) : ∀ i, i < ops.size → listed.getD i false = true := by
  intro i
  induction i using Nat.strongRecOn with
  | _ i ih =>
    intro hi
    cases hu : listed.getD i false with
    | true => rfl
    | false =>
      exfalso
      have hl : i < listed.size := by rw [hs]; exact hi
      have hmem : i ∈ Region.ready .any ops listed := by
        unfold Region.ready
        rw [List.mem_filter]
        refine ⟨by simpa using hi, ?_⟩
        rw [Bool.and_eq_true]
        constructor
        · simp only [Array.getD_eq_getD_getElem?, Array.getElem?_eq_getElem hl, Option.getD_some] at hu ⊢
          simp [hu]
        · simp only [Array.getElem?_eq_getElem hi, Option.map_some, Option.getD_some, Array.all_eq_true]
          intro k hk
          cases hb : Region.binds .any ops[i].after[k] with
          | false => rfl
          | true =>
            have he : Edge1 ops i ops[i].after[k].on := ⟨ops[i], by simp [hi], _, Array.getElem_mem hk, hb, rfl⟩
            have hlt := back _ _ he
            simp [ih _ hlt (by omega)]
      rw [h] at hmem; cases hmem

theorem lin_go (J : (Nat → Bool) → Act → World → Prop) (back : ∀ j i, Edge1 ops j i → i < j)
    (step : ∀ (S : Nat → Bool) a w i o, J S a w → ops[i]? = some o → S i = false → (∀ e ∈ o.after, Region.binds .any e = true → S e.on = true) →
      ∃ v w', (res P ops a w o).to w = some (v, w') ∧ J (fun j => S j || j == i) (a.put o.dst v) w') :
    ∀ (fuel t : Nat) (listed : Array Bool) (a : Act) (w : World), listed.size = ops.size → J (fun j => listed.getD j false) a w → listed.toList.countP (· == false) ≤ fuel →
      ∃ S a' w', evIdx P ops (Region.linearise.go .any ops fuel t listed []) a w = some (a', w') ∧ J S a' w' ∧ ∀ i, i < ops.size → S i = true := by
  intro fuel
  induction fuel with
  | zero =>
    intro t listed a w hsz hJ hc
    refine ⟨_, a, w, rfl, hJ, fun i hi => ?_⟩
    have hl : i < listed.size := by rw [hsz]; exact hi
    have h0 : listed.toList.countP (· == false) = 0 := by omega
    rw [List.countP_eq_zero] at h0
    have := h0 listed[i] (by simp)
    simp only [Array.getD_eq_getD_getElem?, Array.getElem?_eq_getElem hl, Option.getD_some]
    simpa using this
  | succ fuel ih =>
    intro t listed a w hsz hJ hc
    simp only [Region.linearise.go]
    change ∃ S a' w', evIdx P ops (match (Region.ready .any ops listed)[t % (Region.ready .any ops listed).length]? with
      | some i => Region.linearise.go .any ops fuel (t / (Region.ready .any ops listed).length) (listed.setIfInBounds i true) [i]
      | none => [].reverse) a w = _ ∧ _
    cases hi : (Region.ready .any ops listed)[t % (Region.ready .any ops listed).length]? with
    | none =>
      have hnil : Region.ready .any ops listed = [] := by
        cases hr : Region.ready .any ops listed with
        | nil => rfl
        | cons x xs =>
          rw [hr] at hi
          have hlt : t % (x :: xs).length < (x :: xs).length := Nat.mod_lt _ (by simp)
          rw [List.getElem?_eq_none_iff] at hi
          omega
      exact ⟨_, a, w, rfl, hJ, listed_all back hsz hnil⟩
    | some i =>
      simp only []
      rw [linearise_go_acc, List.reverse_singleton, List.singleton_append]
      have hmem := List.mem_of_getElem? hi
      obtain ⟨hun, o, ho, hed⟩ := ready_mem hmem
      have hilt : i < listed.size := by rw [hsz]; exact (Array.getElem?_eq_some_iff.1 ho).1
      have hun' : listed[i] = false := by
        simpa [Array.getD_eq_getD_getElem?, Array.getElem?_eq_getElem hilt] using hun
      have hSi : listed.getD i false = false := by
        simp [Array.getD_eq_getD_getElem?, Array.getElem?_eq_getElem hilt, hun']
      obtain ⟨v, w2, hr, hJ2⟩ := step _ a w i o hJ ho hSi hed
      have hS : (fun j => listed.getD j false || j == i) = fun j => (listed.setIfInBounds i true).getD j false := by
        funext j
        simp only [Array.getD_eq_getD_getElem?, Array.getElem?_setIfInBounds]
        by_cases e : i = j
        · subst e; simp [hilt]
        · rw [if_neg e]
          have : (j == i) = false := by simp; exact fun h => e h.symm
          simp [this]
      rw [hS] at hJ2
      have hlist : (listed.setIfInBounds i true).toList = listed.toList.set i true := by simp
      have hpos : 0 < listed.toList.countP (· == false) := by
        rw [List.countP_pos_iff]
        exact ⟨listed[i], by simp, by simp [hun']⟩
      have hset := List.countP_set (p := (· == false)) (l := listed.toList) (i := i) (a := true) (h := by simpa using hilt)
      rw [show listed.toList[i]'(by simpa using hilt) = false by simpa using hun'] at hset
      simp only [beq_self_eq_true, if_true, show (true == false) = false from rfl, Bool.false_eq_true, if_false] at hset
      obtain ⟨S, a', w', h1, h2, h3⟩ := ih (t / (Region.ready .any ops listed).length) (listed.setIfInBounds i true) _ _ (by simpa using hsz) hJ2 (by rw [hlist, hset]; omega)
      refine ⟨S, a', w', ?_, h2, h3⟩
      simp only [evIdx, ho, hr, Option.bind_some]
      exact h1

/-- Whatever the order: what holds at the start, and is kept by each operation, behind all that it waits for, holds when all are done. -/
theorem lin_inv (J : (Nat → Bool) → Act → World → Prop) (back : ∀ j i, Edge1 ops j i → i < j) {a : Act} {w : World} (h0 : J (fun _ => false) a w)
    (step : ∀ (S : Nat → Bool) a w i o, J S a w → ops[i]? = some o → S i = false → (∀ e ∈ o.after, Region.binds .any e = true → S e.on = true) →
      ∃ v w', (res P ops a w o).to w = some (v, w') ∧ J (fun j => S j || j == i) (a.put o.dst v) w') (t : Nat) :
    ∃ S a' w', evIdx P ops (Region.linearise .any ops t) a w = some (a', w') ∧ J S a' w' ∧ ∀ i, i < ops.size → S i = true := by
  refine lin_go J back step ops.size t _ a w (by simp) ?_ ?_
  · have : (fun j => (Array.replicate ops.size false).getD j false) = fun _ => false := by
      funext j
      simp only [Array.getD_eq_getD_getElem?, Array.getElem?_replicate]
      split <;> rfl
    rw [this]; exact h0
  · exact Nat.le_trans List.countP_le_length (by simp)

/-- All edges lead back, by a look at each. -/
def backB (ops : Array Oper) : Bool := ops.toList.zipIdx.all fun p => p.1.after.toList.all fun e => !Region.binds .any e || decide (e.on < p.2)
theorem back_of (h : backB ops = true) : ∀ j i, Edge1 ops j i → i < j := by
  rintro j i ⟨o, ho, e, he, hb, rfl⟩
  unfold backB at h
  rw [List.all_eq_true] at h
  have := h (o, j) (mem_zip ho)
  rw [List.all_eq_true] at this
  simpa [hb] using this e (by simpa using he)

end lin

/-! ## Maps -/

/-- The first entry of a key. -/
def findM (q : Value → Bool) : List MapEntry → Nat → Option (Nat × Value)
  | [], _ => none
  | e :: es, i => if q e.key = true then some (i, e.val) else findM q es (i + 1)

section maps
variable {P : Program}

theorem run_findAsking {kt : TypeId} {k : Value} {q : Value → Bool} {w : World} : ∀ (l : List MapEntry) (i : Nat), (∀ e ∈ l, (Op.equal kt k e.key).run P w = .ok (q e.key) w) →
    (Instr.findAsking kt k l i).run P w = .ok (findM q l i) w
  | [], i, _ => rfl
  | e :: es, i, h => by
    simp only [Instr.findAsking, Sem.run_bind, h e (by simp), Result.andThen_ok, findM]
    cases q e.key with
    | true => rfl
    | false => exact run_findAsking es (i + 1) fun e' he => h e' (by simp [he])

theorem checkKey_int {kt : TypeId} {d j : IntKind} {n : Int} (hd : P.underlying kt = some (.int d)) (m : Nat) (b : Bool) (w : World) : (Instr.checkKey b (m + 1) kt (.int j n)).run P w = .ok () w := by
  simp only [Instr.checkKey, Sem.run_bind, run_underlying hd, Result.andThen_ok]; rfl

/-- How a key of a type is looked for. -/
def KeyBy (P : Program) (kt : TypeId) (k : Value) (q : Value → Bool) (es : List MapEntry) : Prop :=
  (∀ (w : World) (b : Bool), (Instr.checkKey b 10000 kt k).run P w = .ok () w) ∧ ∀ w : World, (Instr.findKey kt k es).run P w = .ok (findM q es 0) w

/-- Is it this number? -/
def intQ (n : Int) (x : Value) : Bool :=
  match x with
  | .int _ m => n == m
  | _ => false

theorem findNow_int {j : IntKind} {n : Int} {d : IntKind} : ∀ (l : List MapEntry) (i : Nat), (∀ e ∈ l, ∃ m, e.key = .int j m) →
    Instr.findNow (.int d) (.int j n) l i = some (findM (intQ n) l i)
  | [], _, _ => rfl
  | e :: es, i, h => by
    obtain ⟨m, hm⟩ := h e (by simp)
    simp only [Instr.findNow, hm, Instr.sameNow, if_true, findM, intQ]
    cases hq : n == m with
    | true => rfl
    | false => exact findNow_int es (i + 1) fun e' he => h e' (by simp [he])

theorem keyBy_int {kt : TypeId} {d j : IntKind} {n : Int} {es : List MapEntry} (hd : P.underlying kt = some (.int d)) (h : ∀ e ∈ es, ∃ m, e.key = .int j m) :
    KeyBy P kt (.int j n) (intQ n) es := by
  refine ⟨fun w b => ?_, fun w => ?_⟩
  · exact checkKey_int hd 9999 b w
  · simp only [Instr.findKey, Sem.run_bind, run_underlying hd, Result.andThen_ok, findNow_int es 0 h]; rfl

theorem Xlookup_some {t kt et : TypeId} {r : Nat} {es : Array MapEntry} {c : Nat} {k z : Value} {q : Value → Bool} {ok : Bool} {w : World} (ht : P.underlying t = some (.map kt et)) (hr : w.heap[r]? = some (.map es c))
    (hk : KeyBy P kt k q es.toList) (hz : (zeroValue et).run P w = .ok z w) :
    Xlookup P t (.map (some r)) k ok w = some (match findM q es.toList 0 with
      | some (_, v) => if ok then .tuple #[v, .bool true] else v
      | none => if ok then .tuple #[z, .bool false] else z, w) := by
  unfold Xlookup xv
  simp only [Instr.lookup, Sem.run_bind, run_underlying ht, Result.andThen_ok, MapKept.run_getObj_map hr, Sem.run_pure, hk.1, hk.2]
  cases findM q es.toList 0 with
  | none => simp only [Sem.run_bind, hz, Result.andThen_ok, Sem.run_pure]
  | some x => rfl

/-- An entry that is new. -/
theorem Xinsert_new {t kt et : TypeId} {r : Nat} {es : Array MapEntry} {c : Nat} {k v : Value} {q : Value → Bool} {w : World} (ht : P.underlying t = some (.map kt et)) (hr : w.heap[r]? = some (.map es c))
    (hk : KeyBy P kt k q es.toList) (hn : findM q es.toList 0 = none) :
    Xinsert P t (.map (some r)) k v w = some (undef, { w with heap := w.heap.setIfInBounds r (.map (es.push { key := k, val := v, born := c }) (c + 1)) }) := by
  unfold Xinsert xu
  simp only [Instr.mapUpdate, Sem.run_bind, run_underlying ht, Result.andThen_ok, MapKept.run_getObj_map hr, hk.1, hk.2, hn, MapKept.run_setObj_map _ hr]

@[go_sem] theorem XmakeMap_none {t : TypeId} {w : World} : XmakeMap P t none w = some (.map (some w.heap.size), w.alloc (.map #[] 0)) := nonrfl rfl

end maps
end Go.Ev

/- What a value that came in is made of; bits. -/
namespace Go.Ev
open Go Go.RowKit

/-- A list of cells is a value of the type, all that it leads to among it. -/
def Okc (P : Program) (w : World) : Nat → TypeId → List Value → Prop
  | 0, _, _ => False
  | n + 1, t, cs =>
    match P.underlying t with
    | some .bool => ∃ b, cs = [.bool b]
    | some (.int k) => ∃ m, cs = [.int k m] ∧ (Lit.int k m).wf = true
    | some .string => ∃ s, cs = [.string s] ∧ s.size ≤ maxLen
    | some (.struct fs) => cs.length = P.cellsOf t ∧ ∀ f ∈ fs.toList, Okc P w n f.type ((cs.drop f.offset).take (P.cellsOf f.type))
    | some (.array m e) => cs.length = P.cellsOf t ∧ ∀ i, i < m → Okc P w n e ((cs.drop (i * P.cellsOf e)).take (P.cellsOf e))
    | some (.slice e) => cs = [.slice none 0 0] ∨ ∃ a len cap, cs = [.slice (some a) len cap] ∧ len ≤ cap ∧ cap ≤ maxLen ∧
        ∀ i, i < len → ∃ es, w.cells? 0 (a.add (i * P.cellsOf e)) (P.cellsOf e) = some es ∧ Okc P w n e es
    | _ => True

section
variable {H : Type} {enc : TypeId × Value → H} {P : Program} {w : World} {spare : Nat → Bool} {held : Bool}

theorem okc_of : ∀ (n : Nat) (t : TypeId) (cs : List Value) (x : DataW H × List MemPlace), DataW.trod enc P w 0 spare held n t cs = some x → Okc P w n t cs
  | 0, _, _, _, h => by simp [DataW.trod] at h
  | n + 1, t, cs, x, h => by
    unfold Okc
    cases hu : P.underlying t with
    | none => trivial
    | some d =>
      cases d with
      | bool =>
        obtain ⟨b, h1, _⟩ := DataW.trod_bool hu h
        exact ⟨b, h1⟩
      | int k =>
        unfold DataW.trod at h
        rw [hu] at h
        split at h <;> simp_all
      | string =>
        unfold DataW.trod at h
        rw [hu] at h
        split at h <;> simp_all
      | struct fs =>
        obtain ⟨xs, m', hm, _, hl, hx, hi⟩ := DataW.trod_struct hu h
        injection hm with hm
        subst hm
        refine ⟨hl, fun f hf => ?_⟩
        obtain ⟨i, hi', rfl⟩ := List.mem_iff_getElem.1 hf
        have h2 : i < fs.size := by simpa using hi'
        have := hi i fs[i] (by simp [h2])
        rw [List.getElem?_eq_getElem (by omega)] at this
        simpa using okc_of n _ _ _ this
      | array m e =>
        obtain ⟨xs, m', hm, _, hl, hx, hi⟩ := DataW.trod_array hu h
        injection hm with hm
        subst hm
        refine ⟨hl, fun i hi' => ?_⟩
        have := hi i hi'
        rw [List.getElem?_eq_getElem (by omega)] at this
        exact okc_of n _ _ _ this
      | slice e =>
        rcases DataW.trod_slice hu h with h0 | ⟨a, len, cap, elems, rest, m, hm, rfl, _, _, hl, hc, hlen, hel, _⟩
        · exact .inl h0.1
        · right
          injection hm with hm
          subst hm
          refine ⟨a, len, cap, rfl, hl, hc, fun i hi => ?_⟩
          have := hel i hi
          rw [List.getElem?_eq_getElem (by omega)] at this
          obtain ⟨es, h1, h2⟩ := bind_inv this
          exact ⟨es, h1, okc_of n _ _ _ h2⟩
      | _ => trivial
end

/-! ## Slices that were handed in -/

section rows
variable {P : Program} {w : World}

theorem cells1 {a : Addr} {es : List Value} (h : w.cells? 0 a 1 = some es) : ∃ v, es = [v] ∧ w.cell? a = some v := by
  unfold World.cells? at h
  rw [if_pos (Nat.zero_le _)] at h
  simp only [List.range_one, List.mapM_cons, List.mapM_nil] at h
  obtain ⟨v, hv, h⟩ := bind_inv h
  simp only [pure, bind, Option.bind] at h
  injection h with h
  exact ⟨v, h.symm, by simpa [Addr.add] using hv⟩

/-- A slice of variables of one cell. -/
theorem okc_row {n : Nat} {t e : TypeId} {v : Value} (ht : P.underlying t = some (.slice e)) (hc : P.cellsOf e = 1) (hv : v.cells.toList = [v]) (h : Okc P w n t v.cells.toList) :
    v = .slice none 0 0 ∨ ∃ a len cap m, v = .slice (some a) len cap ∧ len ≤ cap ∧ cap ≤ maxLen ∧ ∀ i, i < len → ∃ x, w.cell? (a.add i) = some x ∧ Okc P w m e [x] := by
  cases n with
  | zero => exact h.elim
  | succ n =>
    unfold Okc at h
    rw [ht, hv] at h
    rcases h with h | ⟨a, len, cap, h, h1, h2, h3⟩
    · left; simpa using h
    · right
      refine ⟨a, len, cap, n, by simpa using h, h1, h2, fun i hi => ?_⟩
      obtain ⟨es, h4, h5⟩ := h3 i hi
      rw [hc, Nat.mul_one] at h4
      obtain ⟨x, rfl, hx⟩ := cells1 h4
      exact ⟨x, hx, h5⟩
theorem okc_int {n : Nat} {t : TypeId} {k : IntKind} {x : Value} (ht : P.underlying t = some (.int k)) (h : Okc P w n t [x]) : ∃ m, x = .int k m ∧ (Lit.int k m).wf = true := by
  cases n with
  | zero => exact h.elim
  | succ n =>
    unfold Okc at h
    rw [ht] at h
    obtain ⟨m, h1, h2⟩ := h
    exact ⟨m, by simpa using h1, h2⟩
theorem okc_bool {n : Nat} {t : TypeId} {x : Value} (ht : P.underlying t = some .bool) (h : Okc P w n t [x]) : ∃ b, x = .bool b := by
  cases n with
  | zero => exact h.elim
  | succ n =>
    unfold Okc at h
    rw [ht] at h
    obtain ⟨m, h1⟩ := h
    exact ⟨m, by simpa using h1⟩
end rows

/-! ## Operations on memory -/

section mem
variable {P : Program} {t e : TypeId} {w : World}

theorem run_size {i : TypeInfo} (h : P.info? e = some i) (w : World) : (sizeOf e).run P w = .ok i.size w := by
  simp only [sizeOf, typeInfo, Sem.run_bind, run_program, Result.andThen_ok, h, Sem.run_pure]

theorem QindexAddr_slice {i : TypeInfo} {a : Addr} {len cap : Nat} {k : IntKind} {n : Int} (ht : P.underlying t = some (.slice e)) (hi : P.info? e = some i) (h0 : 0 ≤ n) (h1 : n < len) :
    QindexAddr P t (.slice (some a) len cap) (.int k n) w = some (.pointer (some (a.add (n.toNat * i.size)))) := by
  unfold QindexAddr qv
  simp only [Instr.indexAt, asIntOf, Sem.run_bind, Sem.run_pure, Result.andThen_ok, run_underlying ht, run_size hi, if_pos (And.intro h0 h1)]
theorem Qlen_slice {ty : TypeId} {a : Option Addr} {len cap : Nat} (ht : P.underlying t = some (.slice e)) : Qlen P #[t] ty #[.slice a len cap] w = some (.int .i64 len) := by
  unfold Qlen qv
  simp [Builtin.len_, run_underlying ht, goInt]

/-- A slice, and what its elements (of one cell each) are like. -/
def RowOf (p : Value → Prop) (w : World) (v : Value) (len : Nat) : Prop := ∃ x cap, v = .slice x len cap ∧ len ≤ maxLen ∧ ∀ i, i < len → ∃ a y, x = some a ∧ w.cell? (a.add i) = some y ∧ p y

theorem RowOf.bel {p : Value → Prop} {w w' : World} {v : Value} {len : Nat} (h : RowOf p w v len) (hb : Bel w w') : RowOf p w' v len := by
  obtain ⟨x, cap, hv, hl, h⟩ := h
  refine ⟨x, cap, hv, hl, fun i hi => ?_⟩
  obtain ⟨a, y, h1, h2, h3⟩ := h i hi
  exact ⟨a, y, h1, hb.cell_some h2, h3⟩
theorem RowOf.len {p : Value → Prop} {v : Value} {len : Nat} (h : RowOf p w v len) {ty : TypeId} (ht : P.underlying t = some (.slice e)) (w' : World) : Qlen P #[t] ty #[v] w' = some (.int .i64 len) := by
  obtain ⟨x, cap, rfl, _⟩ := h
  exact Qlen_slice ht
theorem RowOf.get {p : Value → Prop} {v : Value} {len : Nat} (h : RowOf p w v len) {i : TypeInfo} (ht : P.underlying t = some (.slice e)) (hi : P.info? e = some i) (hs : i.size = 1) {n : Int} (h0 : 0 ≤ n) (h1 : n < len) :
    ∃ q y, (∀ w', QindexAddr P t v (.int .i64 n) w' = some (.pointer (some q))) ∧ w.cell? q = some y ∧ p y := by
  obtain ⟨x, cap, rfl, _, h⟩ := h
  obtain ⟨a, y, rfl, h2, h3⟩ := h n.toNat (by omega)
  refine ⟨a.add n.toNat, y, fun w' => ?_, h2, h3⟩
  rw [QindexAddr_slice ht hi h0 h1, hs, Nat.mul_one]
theorem rowOf_int {n : Nat} {k : IntKind} {v : Value} (ht : P.underlying t = some (.slice e)) (he : P.underlying e = some (.int k)) (hc : P.cellsOf e = 1) (hv : v.cells.toList = [v]) (h : Okc P w n t v.cells.toList) :
    ∃ len, RowOf (fun y => ∃ m, y = .int k m ∧ (Lit.int k m).wf = true) w v len := by
  rcases okc_row ht hc hv h with rfl | ⟨a, len, cap, m, rfl, h1, h2, h3⟩
  · exact ⟨0, none, 0, rfl, Nat.zero_le _, fun i hi => absurd hi (Nat.not_lt_zero _)⟩
  · refine ⟨len, some a, cap, rfl, Nat.le_trans h1 h2, fun i hi => ?_⟩
    obtain ⟨x, h4, h5⟩ := h3 i hi
    exact ⟨a, x, rfl, h4, okc_int he h5⟩
theorem rowOf_bool {n : Nat} {v : Value} (ht : P.underlying t = some (.slice e)) (he : P.underlying e = some .bool) (hc : P.cellsOf e = 1) (hv : v.cells.toList = [v]) (h : Okc P w n t v.cells.toList) :
    ∃ len, RowOf (fun y => ∃ b, y = .bool b) w v len := by
  rcases okc_row ht hc hv h with rfl | ⟨a, len, cap, m, rfl, h1, h2, h3⟩
  · exact ⟨0, none, 0, rfl, Nat.zero_le _, fun i hi => absurd hi (Nat.not_lt_zero _)⟩
  · refine ⟨len, some a, cap, rfl, Nat.le_trans h1 h2, fun i hi => ?_⟩
    obtain ⟨x, h4, h5⟩ := h3 i hi
    exact ⟨a, x, rfl, h4, okc_bool he h5⟩
/-- A slice's value is one cell. -/
theorem cells_slice {r : Reach} {b0 : Nat} {v : Value} (ht : P.underlying t = some (.slice e)) (h : Value.okWide P w r b0 t v) : v.cells.toList = [v] := by
  obtain ⟨a, len, cap, rfl⟩ := Go.WideShapes.okWide_slice ht h
  rfl
end mem

end Go.Ev

/- Worlds of which some blocks turn; variables, structs and slices in memory. -/
namespace Go.Ev
open Go Go.RowKit

/-- Of what was there, but for these blocks, nothing has turned. -/
structure Chg (S : Nat → Prop) (w w' : World) : Prop where
  os : w'.os = w.os
  tape : w'.tape = w.tape
  output : w'.output = w.output
  size : w.heap.size ≤ w'.heap.size
  block : ∀ k, k < w.heap.size → ¬ S k → w'.heap[k]? = w.heap[k]?

section chg
variable {S T : Nat → Prop} {a b c w w' : World}
theorem Chg.refl (S : Nat → Prop) (w : World) : Chg S w w := ⟨rfl, rfl, rfl, Nat.le_refl _, fun _ _ _ => rfl⟩
theorem Chg.of_bel (h : Bel w w') (S : Nat → Prop) : Chg S w w' := ⟨h.os, h.tape, h.output, h.size, fun k hk _ => h.block k hk⟩
theorem Chg.of_grown {row : Option Nat} (h : w.grownBy w' row) : Chg (fun k => some k = row) w w' := ⟨h.os, h.tape, h.output, h.size, fun k hk hs => h.block k hk hs⟩
theorem Chg.bel (h : Chg S w w') (hS : ∀ k, k < w.heap.size → ¬ S k) : Bel w w' := ⟨h.os, h.tape, h.output, h.size, fun k hk => h.block k hk (hS k hk)⟩
theorem Chg.mono (h : Chg S w w') (hS : ∀ k, k < w.heap.size → S k → T k) : Chg T w w' := ⟨h.os, h.tape, h.output, h.size, fun k hk ht => h.block k hk fun hs => ht (hS k hk hs)⟩
theorem Chg.trans (h : Chg S a b) (k : Chg T b c) (hT : ∀ i, i < a.heap.size → T i → S i) : Chg S a c :=
  ⟨k.os.trans h.os, k.tape.trans h.tape, k.output.trans h.output, Nat.le_trans h.size k.size, fun i hi hs => (k.block i (Nat.lt_of_lt_of_le hi h.size) fun ht => hs (hT i hi ht)).trans (h.block i hi hs)⟩
theorem Chg.thenBel (h : Chg S a b) (k : Bel b c) : Chg S a c := h.trans (.of_bel k fun _ => False) fun _ _ f => f.elim
theorem Bel.thenChg (h : Bel a b) (k : Chg S b c) : Chg S a c := (Chg.of_bel h S).trans k fun _ _ s => s
theorem Chg.at_ (h : Chg S w w') {i : Nat} {o : Obj} (hb : w.heap[i]? = some o) (hs : ¬ S i) : w'.heap[i]? = some o := by
  rw [h.block i (Array.getElem?_eq_some_iff.1 hb).1 hs]; exact hb
theorem Chg.owns (h : Chg S w w') {base : Nat} {e : TypeId} {size n : Nat} {v : Value} {xs : List Value} (ho : w.ownsRow base e size v n xs) (hs : ∀ k, v.ownBlock = some k → ¬ S k) : w'.ownsRow base e size v n xs := by
  obtain ⟨h1, h2 | ⟨g, cap, cur, rfl, h3, h4, h5, h6, h7, h8⟩⟩ := ho
  · exact ⟨h1, .inl h2⟩
  · exact ⟨h1, .inr ⟨g, cap, cur, rfl, h3, h.at_ h4 (hs g rfl), h5, h6, h7, h8⟩⟩
end chg

theorem add_0 (g n : Nat) : (⟨g, 0, none⟩ : Addr).add n = ⟨g, n, none⟩ := by
  unfold Addr.add
  by_cases h : n = 0
  · subst h; rfl
  · simp [h]

/-- The cells at a place. -/
def CellsAt (cs : List Value) (w : World) (g o : Nat) : Prop := ∀ j v, cs[j]? = some v → w.cell? ⟨g, o + j, none⟩ = some v
theorem CellsAt.bel {cs : List Value} {w w' : World} {g o : Nat} (h : CellsAt cs w g o) (hb : Bel w w') : CellsAt cs w' g o := fun j v hj => hb.cell_some (h j v hj)
theorem CellsAt.chg {S : Nat → Prop} {cs : List Value} {w w' : World} {g o : Nat} (h : CellsAt cs w g o) (hc : Chg S w w') (hs : ¬ S g) : CellsAt cs w' g o := fun j v hj => by
  have := h j v hj
  rw [← this]
  exact World.cell?_of_block (hc.block g (World.block_lt_of_cell? _ _ this) hs)
theorem CellsAt.of {cs : List Value} {w : World} {g : Nat} {t : TypeId} {z : Nat × Nat} (h : w.heap[g]? = some (.cells cs.toArray t z)) : CellsAt cs w g 0 := fun j v hj => by
  rw [Nat.zero_add]
  exact cell_at h (by simpa using hj)
theorem CellsAt.part {cs ds es : List Value} {w : World} {g o : Nat} (h : CellsAt (cs ++ ds ++ es) w g o) : CellsAt ds w g (o + cs.length) := fun j v hj => by
  rw [Nat.add_assoc]
  refine h _ v ?_
  rw [List.append_assoc, List.getElem?_append_right (Nat.le_add_right _ _), Nat.add_sub_cancel_left, List.getElem?_append_left]
  · exact hj
  · exact (List.getElem?_eq_some_iff.1 hj).1

section mem
variable {P : Program} {t e : TypeId} {w : World}

/-! ## Variables -/

theorem Xalloc_eq {z : Value} (hz : (zeroValue t).run P w = .ok z w) : Xalloc P t w = some (.pointer (some ⟨w.heap.size, 0, none⟩), w.alloc (.cells z.cells t)) := by
  unfold Xalloc xv
  simp only [Instr.alloc, Sem.run_bind, hz, Result.andThen_ok]
  rfl

/-- A struct is read. -/
theorem Qload_agg {fs : Array Field} {i : TypeInfo} {p : Addr} {cs : List Value} (ht : P.underlying t = some (.struct fs)) (hi : P.info? t = some i) (hs : i.size = cs.length) (h : ∀ j v, cs[j]? = some v → w.cell? (p.add j) = some v) :
    Qload P t (.pointer (some p)) w = some (.agg cs.toArray) := by
  unfold Qload qv
  have hag : (isAgg t).run P w = .ok true w := by simp only [isAgg, Sem.run_bind, run_underlying ht, Result.andThen_ok]; rfl
  simp only [Instr.loadAt, Instr.sureAddr, loadVar, Sem.run_bind, Sem.run_pure, Result.andThen_ok, hag, if_true, run_size hi, hs]
  rw [run_loadCells_list (P := P) w p cs h]
  rfl

theorem Qload_cells {fs : Array Field} {i : TypeInfo} {g o : Nat} {cs : List Value} (ht : P.underlying t = some (.struct fs)) (hi : P.info? t = some i) (hs : i.size = cs.length) (h : CellsAt cs w g o) :
    Qload P t (.pointer (some ⟨g, o, none⟩)) w = some (.agg cs.toArray) :=
  Qload_agg ht hi hs fun j v hj => by
    have := h j v hj
    rw [show (⟨g, o, none⟩ : Addr).add j = ⟨g, o + j, none⟩ from ?_]
    · exact this
    · unfold Addr.add
      by_cases h : j = 0 <;> simp [h]

theorem run_storeVar {i : TypeInfo} {g o : Nat} {cur : Array Value} {te : TypeId} {v : Value} (hi : P.info? t = some i) (hs : v.cells.size = i.size) (hg : w.heap[g]? = some (.cells cur te (0, 0))) (hfit : o + i.size ≤ cur.size) (h1 : ∀ u ∈ v.cells.toList, u.oneCell' = true) :
    (storeVar t ⟨g, o, none⟩ v).run P w = .ok () (w.setRow g (cur.toList.take o ++ v.cells.toList ++ cur.toList.drop (o + i.size)).toArray) := by
  have := run_storeCells_at P g o te v.cells.toList 0 cur w hg (by simp; omega) h1
  simp only [Nat.add_zero, Array.length_toList, hs] at this
  simp only [storeVar, Sem.run_bind, run_size hi, Result.andThen_ok, hs, ne_eq, not_true_eq_false, if_false, this]

theorem Xstore_row {i : TypeInfo} {g o : Nat} {cur : Array Value} {te : TypeId} {v : Value} (hi : P.info? t = some i) (hs : v.cells.size = i.size) (hg : w.heap[g]? = some (.cells cur te (0, 0))) (hfit : o + i.size ≤ cur.size) (h1 : ∀ u ∈ v.cells.toList, u.oneCell' = true) :
    Xstore P t (.pointer (some ⟨g, o, none⟩)) v w = some (undef, w.setRow g (cur.toList.take o ++ v.cells.toList ++ cur.toList.drop (o + i.size)).toArray) := by
  unfold Xstore xu
  simp only [Instr.storeAt, Instr.sureAddr, Sem.run_bind, Sem.run_pure, Result.andThen_ok, run_storeVar hi hs hg hfit h1]
/-- A variable is written, whole. -/
theorem Xstore_var {i : TypeInfo} {g : Nat} {cur : Array Value} {te : TypeId} {v : Value} (hi : P.info? t = some i) (hs : v.cells.size = i.size) (hg : w.heap[g]? = some (.cells cur te (0, 0))) (hc : cur.size = i.size) (h1 : ∀ u ∈ v.cells.toList, u.oneCell' = true) :
    Xstore P t (.pointer (some ⟨g, 0, none⟩)) v w = some (undef, w.setRow g v.cells) := by
  rw [Xstore_row hi hs hg (by omega) h1]
  congr 3
  simp [List.drop_eq_nil_of_le, hc]

theorem setRow_chg (g : Nat) (c : Array Value) : Chg (fun k => k = g) w (w.setRow g c) :=
  ⟨rfl, rfl, rfl, by simp, fun k _ hk => setRow_other w g k c hk⟩

/-- A new variable that is written at once. -/
theorem local_bel (w : World) (o : Obj) (c : Array Value) : Bel w ((w.alloc o).setRow w.heap.size c) := (((Bel.refl w).alloc o).thenChg (setRow_chg _ _)).bel fun k hk e => by omega
theorem local_at (w : World) (cs c0 : List Value) (t : TypeId) : CellsAt cs ((w.alloc (.cells c0.toArray t)).setRow w.heap.size cs.toArray) w.heap.size 0 := CellsAt.of (setRow_heap _ _ _ cs.toArray t _ (MapKept.heap_alloc w _).1)

/-- Where an element of a row lies. -/
theorem owns_at {base size n : Nat} {v : Value} {xs : List Value} {i : TypeInfo} {st : TypeId} {k : Int} (ho : w.ownsRow base e size v n xs) (hst : P.underlying st = some (.slice e)) (hi : P.info? e = some i) (hs : i.size = size) (h0 : 0 ≤ k) (h1 : k < n) :
    ∃ g, v.ownBlock = some g ∧ (∀ w', QindexAddr P st v (.int .i64 k) w' = some (.pointer (some ⟨g, k.toNat * size, none⟩))) := by
  obtain ⟨_, h2 | ⟨g, cap, cur, rfl, _⟩⟩ := ho
  · omega
  · refine ⟨g, rfl, fun w' => ?_⟩
    rw [QindexAddr_slice hst hi h0 h1, hs, add_0]
theorem owns_cells {base size n : Nat} {v : Value} {xs : List Value} {g k : Nat} (ho : w.ownsRow base e size v n xs) (hg : v.ownBlock = some g) : CellsAt ((xs.drop (k * size)).take size) w g (k * size) := fun j u hj => by
  have hjl : j < size := by
    have := (List.getElem?_eq_some_iff.1 hj).1
    simp at this; omega
  rw [List.getElem?_take, if_pos hjl, List.getElem?_drop] at hj
  have := ho.cells hg _ _ hj
  rwa [add_0] at this
/-- The cells of one of some rows, each as long. -/
theorem flat_at {α : Type} {f : α → List Value} {size : Nat} : ∀ (l : List α) (k : Nat) (x : α), (∀ y ∈ l, (f y).length = size) → l[k]? = some x → ((l.flatMap f).drop (k * size)).take size = f x
  | [], _, _, _, h => by simp at h
  | y :: l, 0, x, hl, h => by
    simp only [List.getElem?_cons_zero, Option.some.injEq] at h
    subst h
    have := hl y (by simp)
    rw [List.flatMap_cons, Nat.zero_mul, List.drop_zero, List.take_append_of_le_length (by omega), List.take_of_length_le (by omega)]
  | y :: l, k + 1, x, hl, h => by
    have h1 := hl y (by simp)
    simp only [List.getElem?_cons_succ] at h
    rw [List.flatMap_cons, List.drop_append, Nat.add_mul, Nat.one_mul]
    rw [List.drop_of_length_le (by omega), List.nil_append, show k * size + size - (f y).length = k * size by omega]
    exact flat_at l k x (fun z hz => hl z (by simp [hz])) h

end mem
end Go.Ev

/- A range over a function: entered, a round, left. -/
namespace Go.Ev
open Go Go.RowKit

section rng
variable {P : Program} {β : Type}

theorem run_getLoop {w : World} {l : Nat} {L : Loop} (h : w.heap[l]? = some (.loop L)) : (Instr.getLoop l).run P w = .ok L w := by
  unfold Instr.getLoop
  simp only [Sem.run_bind]
  have : (getObj l).run P w = .ok (.loop L) w := by simp [getObj, Sem.run, h]
  simp only [this, Result.andThen_ok]
  rfl
theorem run_setLoop {w : World} {l : Nat} {L : Loop} (o : Obj) (h : w.heap[l]? = some (.loop L)) : (setObj l o).run P w = .ok () { w with heap := w.heap.setIfInBounds l o } := by
  simp [setObj, Sem.run, h]

/-- A block gets another content. -/
def setB (w : World) (l : Nat) (o : Obj) : World := { w with heap := w.heap.setIfInBounds l o }
theorem setB_same {w : World} {l : Nat} {o o' : Obj} (h : w.heap[l]? = some o') : (setB w l o).heap[l]? = some o := by
  obtain ⟨h1, _⟩ := Array.getElem?_eq_some_iff.1 h
  simp [setB, h1]
theorem setB_other {w : World} {l k : Nat} {o : Obj} (h : k ≠ l) : (setB w l o).heap[k]? = w.heap[k]? := by
  simp only [setB, Array.getElem?_setIfInBounds]
  rw [if_neg (fun e => h e.symm)]
theorem setB_size {w : World} {l : Nat} {o : Obj} : (setB w l o).heap.size = w.heap.size := by simp [setB]

theorem begK_ready {w : World} {l : Nat} {L : Loop} {K : World → Option β} (h : w.heap[l]? = some (.loop L)) (hs : L.state = .ready) : begK P l w K = K (setB w l (.loop { L with state := .busy })) := by
  unfold begK Instr.beginRound
  simp only [Sem.run_bind, run_getLoop h, Result.andThen_ok, run_setLoop _ h, hs]
  rfl
theorem endR_eq {w : World} {l : Nat} {L : Loop} {j : Option Code} (h : w.heap[l]? = some (.loop L)) :
    endR P l j w = some (.bool j.isNone, setB w l (.loop { L with state := if j.isNone then .ready else .done, pending := j })) := by
  unfold endR Instr.endRound
  simp only [Sem.run_bind, run_getLoop h, Result.andThen_ok, run_setLoop _ h, Sem.run_pure]
  rfl

/-- A call of the loop's yield is a round. -/
theorem Xcall_yield {w : World} {l : Nat} {L : Loop} {args : Array Value} (h : w.heap[l]? = some (.loop L)) (hs : args.size = L.params.size) :
    Xcall P (.func (.yield l) #[] #[]) args w = Rd P l L.fn ((L.params.zip args).foldl (fun tmps (t, a) => tmps.setIfInBounds t a) L.tmps) L.assign L.body w := by
  unfold Xcall
  show next P ((invoke (.fn (.yield l) #[]) (#[] ++ args)).run P w) = _
  simp only [invoke, Instr.yield, Sem.run_bind, run_getLoop h, Result.andThen_ok, Array.empty_append, hs, ne_eq, not_true_eq_false, if_false, Sem.run_pure]
  rfl

def exitOf : Option Code → Option Exit
  | none => some .normal
  | some .ret => some .ret
  | some (.exit id) => some (.exit id)
  | some (.goto t) => some (.goto t)
  | _ => none

/-- The world in which a loop has been entered. -/
def enterW (w : World) (fn : FuncId) (tmps : Array Value) (ps : Array Tmp) (as bd : Code) : World :=
  (w.alloc (.deferred (some []))).alloc (.loop { state := .ready, pending := none, fn, tmps, params := ps, assign := as, body := bd, defers := w.heap.size })
theorem enterW_loop (w : World) (fn : FuncId) (tmps : Array Value) (ps : Array Tmp) (as bd : Code) :
    (enterW w fn tmps ps as bd).heap[w.heap.size + 1]? = some (.loop { state := .ready, pending := none, fn, tmps, params := ps, assign := as, body := bd, defers := w.heap.size }) := by
  have := (MapKept.heap_alloc (w.alloc (.deferred (some []))) (.loop { state := .ready, pending := none, fn, tmps, params := ps, assign := as, body := bd, defers := w.heap.size })).1
  rw [World.size_alloc] at this
  exact this
theorem enterW_def (w : World) (fn : FuncId) (tmps : Array Value) (ps : Array Tmp) (as bd : Code) : (enterW w fn tmps ps as bd).heap[w.heap.size]? = some (.deferred (some [])) := by
  have := (MapKept.heap_alloc (w.alloc (.deferred (some []))) (.loop { state := .ready, pending := none, fn, tmps, params := ps, assign := as, body := bd, defers := w.heap.size })).2 w.heap.size (by simp)
  unfold enterW
  rw [this]
  exact (MapKept.heap_alloc w _).1
theorem enterW_bel (w : World) (fn : FuncId) (tmps : Array Value) (ps : Array Tmp) (as bd : Code) : Bel w (enterW w fn tmps ps as bd) := ((Bel.refl w).alloc _).alloc _
theorem enterW_size (w : World) (fn : FuncId) (tmps : Array Value) (ps : Array Tmp) (as bd : Code) : (enterW w fn tmps ps as bd).heap.size = w.heap.size + 2 := by simp [enterW]

theorem Brings.range {fn f : FuncId} {fd : Func} {first captured : Array Value} {ps : Array Tmp} {as bd : Code} {tmps : Array Value} {d : List Deferred} {w : World} {K : Exit → List Deferred → World → Option β} {Q : β → Prop}
    (hf : P.funcs[f]? = some fd) (hn : (fd.name == "runtime.NumGoroutine") = false) (hb : fd.body.isNone = false)
    (h : Brings (Xcall P (.func (.func f) first captured) #[.func (.yield (w.heap.size + 1)) #[] #[]] (enterW w fn tmps ps as bd)) fun x =>
      ∃ L e, x.2.heap[w.heap.size + 1]? = some (.loop L) ∧ (L.state == .busy) = false ∧ exitOf L.pending = some e ∧
        Brings (K e ({ target := .collected w.heap.size, args := #[] } :: d) (setB x.2 (w.heap.size + 1) (.loop { L with state := .exhausted }))) Q) :
    Brings ((evRange P fn none (.func (.func f) first captured) ps as bd ⟨tmps, d⟩ w).bind fun x => K x.1 x.2.1.defers x.2.2) Q := by
  obtain ⟨x, hx, L, e, hl, hbusy, hex, y, hy, hq⟩ := h
  rw [Xcall_fn hf hn hb] at hx
  refine ⟨y, ?_, hq⟩
  have hent : (Instr.enterLoop fn tmps ps as bd none).run P w = .ok (w.heap.size + 1, [{ target := .collected w.heap.size, args := #[] }]) (enterW w fn tmps ps as bd) := by
    simp only [Instr.enterLoop, Sem.run_bind, run_newObj, Result.andThen_ok, Sem.run_pure, Array.size_push]
    rfl
  have hinv : (do let d ← Deferred.ofValue (.func (.func f) first captured) #[.func (.yield (w.heap.size + 1)) #[] #[]]; invoke d.target d.args : Sem Next).run P (enterW w fn tmps ps as bd) =
      .ok (.enter f (first ++ #[.func (.yield (w.heap.size + 1)) #[] #[]] ++ captured)) (enterW w fn tmps ps as bd) := by
    show (invoke (.fn (.func f) captured) (first ++ _)).run P _ = _
    simp only [invoke, callFunc, Sem.run_bind, run_program, Result.andThen_ok, hf, hn, hb, Bool.false_eq_true, if_false]
    rfl
  have hend : (Instr.endLoop (w.heap.size + 1)).run P x.2 = .ok L.pending (setB x.2 (w.heap.size + 1) (.loop { L with state := .exhausted })) := by
    unfold Instr.endLoop
    simp only [Sem.run_bind, run_getLoop hl, Result.andThen_ok, hbusy, Bool.false_eq_true, if_false, run_setLoop _ hl, Sem.run_pure]
    rfl
  have : evRange P fn none (.func (.func f) first captured) ps as bd ⟨tmps, d⟩ w = some (e, ⟨tmps, { target := .collected w.heap.size, args := #[] } :: d⟩, setB x.2 (w.heap.size + 1) (.loop { L with state := .exhausted })) := by
    unfold evRange
    simp only [hent, hinv, hx, Option.bind_some, hend]
    cases hp : L.pending with
    | none => rw [hp] at hex; injection hex with hex; subst hex; rfl
    | some c =>
      rw [hp] at hex
      cases c <;> simp only [exitOf, reduceCtorEq, Option.some.injEq] at hex <;> subst hex <;> rfl
  rw [this]
  exact hy

theorem takeAll_one {w : World} {q : Nat} (h : w.heap[q]? = some (.deferred (some []))) : takeAll P [{ target := .collected q, args := #[] }] w = some (setB w q (.deferred none)) := by
  have hg : (getObj q).run P w = .ok (.deferred (some [])) w := by simp [getObj, Sem.run, h]
  have hs : (setObj q (.deferred none)).run P w = .ok () (setB w q (.deferred none)) := by simp [setObj, Sem.run, h, setB]
  have : (Instr.takeDeferred q).run P w = .ok [] (setB w q (.deferred none)) := by
    unfold Instr.takeDeferred
    simp only [Sem.run_bind, hg, Result.andThen_ok, hs, Sem.run_pure]
  simp only [takeAll, this]

end rng
end Go.Ev

/- Variables of a function: the blocks that it laid behind all that was there. -/
namespace Go.Ev
open Go Go.RowKit

/-- Behind all that was there lie these blocks; of what was there nothing has turned. -/
structure Locals (w : World) (os : List Obj) (w' : World) : Prop where
  bel : Bel w w'
  size : w.heap.size + os.length ≤ w'.heap.size
  at_ : ∀ j o, os[j]? = some o → w'.heap[w.heap.size + j]? = some o

section loc
variable {w w' w'' : World} {os : List Obj}

theorem Locals.nil (w : World) : Locals w [] w := ⟨Bel.refl w, Nat.le_refl _, fun j o h => by simp at h⟩
theorem Locals.add (h : Locals w os w') (hs : w'.heap.size = w.heap.size + os.length) (o : Obj) : Locals w (os ++ [o]) (w'.alloc o) := by
  refine ⟨h.bel.alloc o, by simp; omega, fun j o' hj => ?_⟩
  by_cases hlt : j < os.length
  · rw [List.getElem?_append_left hlt] at hj
    exact ((Bel.refl w').alloc o).at_ (h.at_ j o' hj)
  · rw [List.getElem?_append_right (by omega)] at hj
    have : j = os.length := by
      have := (List.getElem?_eq_some_iff.1 hj).1
      simp at this; omega
    subst this
    simp at hj
    subst hj
    have := (MapKept.heap_alloc w' o).1
    rwa [hs] at this
theorem Locals.later (h : Locals w os w') (hb : Bel w' w'') : Locals w os w'' := ⟨h.bel.trans hb, Nat.le_trans h.size hb.size, fun j o hj => hb.at_ (h.at_ j o hj)⟩
theorem Locals.chg (h : Locals w os w') {S : Nat → Prop} (hc : Chg S w' w'') (hs : ∀ k, S k → w'.heap.size ≤ k) : Locals w os w'' := h.later (hc.bel fun k hk hS => by have := hs k hS; omega)
theorem setB_chg (w : World) (l : Nat) (o : Obj) : Chg (fun k => k = l) w (setB w l o) := ⟨rfl, rfl, rfl, by rw [setB_size]; exact Nat.le_refl _, fun k _ hk => setB_other hk⟩
theorem Locals.set (h : Locals w os w') {j : Nat} (hj : j < os.length) {k : Nat} (hk : k = w.heap.size + j) (o : Obj) : Locals w (os.set j o) (setB w' k o) := by
  subst hk
  refine ⟨(h.bel.thenChg (setB_chg w' _ o)).bel fun i hi hk => by omega, by rw [setB_size, List.length_set]; exact h.size, fun i o' hi => ?_⟩
  by_cases e : i = j
  · subst e
    rw [List.getElem?_set_self hj] at hi
    injection hi with hi; subst hi
    exact setB_same (h.at_ i _ (List.getElem?_eq_getElem hj))
  · rw [List.getElem?_set_ne (fun x => e x.symm)] at hi
    rw [setB_other (by omega)]
    exact h.at_ i o' hi
theorem Locals.row (h : Locals w os w') {j : Nat} {c : Array Value} {t : TypeId} {z : Nat × Nat} (hj : os[j]? = some (.cells c t z)) {k : Nat} (hk : k = w.heap.size + j) (d : Array Value) : Locals w (os.set j (.cells d t z)) (w'.setRow k d) := by
  subst hk
  have hl := (List.getElem?_eq_some_iff.1 hj).1
  refine ⟨(h.bel.thenChg (setRow_chg _ d)).bel fun i hi hk => by omega, by rw [List.length_set]; exact Nat.le_trans h.size (setRow_chg _ d).size, fun i o' hi => ?_⟩
  by_cases e : i = j
  · subst e
    rw [List.getElem?_set_self hl] at hi
    injection hi with hi; subst hi
    exact setRow_heap w' _ c d t z (h.at_ i _ hj)
  · rw [List.getElem?_set_ne (fun x => e x.symm)] at hi
    rw [setRow_other w' _ _ d (by omega)]
    exact h.at_ i o' hi

theorem Locals.cell (h : Locals w os w') {j : Nat} {v : Value} {t : TypeId} {z : Nat × Nat} (hj : os[j]? = some (.cells #[v] t z)) : w'.cell? ⟨w.heap.size + j, 0, none⟩ = some v := by
  obtain ⟨z0, z1⟩ := z
  exact cell_at (h.at_ j _ hj) rfl
theorem find_first {α : Type} {p : α → Bool} {l : List α} {i : Nat} {x : α} (hx : l[i]? = some x) (hp : p x = true) (hn : ∀ y ∈ l.take i, p y = false) : l.find? p = some x := by
  obtain ⟨hi, he⟩ := List.getElem?_eq_some_iff.1 hx
  have : l = l.take i ++ (x :: l.drop (i + 1)) := by
    conv => lhs; rw [← List.take_append_drop i l, List.drop_eq_getElem_cons hi, he]
  rw [this, List.find?_append, List.find?_eq_none.2 (fun y hy => by simp [hn y hy]), List.find?_cons, hp]
  rfl
theorem take_none {α : Type} {p : α → Bool} {l : List α} {i : Nat} {x : α} (hx : l[i]? = some x) (hp : p x = false) (hn : ∀ y ∈ l.take i, p y = false) : ∀ y ∈ l.take (i + 1), p y = false := by
  intro y hy
  rw [List.take_add_one, hx] at hy
  rcases List.mem_append.1 hy with hy | hy
  · exact hn y hy
  · simp at hy; subst hy; exact hp

end loc
end Go.Ev

/- Variables of a function beside blocks that others turn; loops over functions. -/
namespace Go.Ev
open Go Go.RowKit

/-- Behind all that was there lie these blocks; of what was there only these blocks have turned. -/
structure Lay (S : Nat → Prop) (w : World) (os : List Obj) (w' : World) : Prop where
  chg : Chg S w w'
  size : w.heap.size + os.length ≤ w'.heap.size
  at_ : ∀ j o, os[j]? = some o → w'.heap[w.heap.size + j]? = some o

section lay
variable {S : Nat → Prop} {w w' w'' : World} {os : List Obj}

theorem Lay.of (h : Locals w os w') (S : Nat → Prop) : Lay S w os w' := ⟨.of_bel h.bel S, h.size, h.at_⟩
theorem Lay.later (h : Lay S w os w') (hb : Bel w' w'') : Lay S w os w'' := ⟨h.chg.thenBel hb, Nat.le_trans h.size hb.size, fun j o hj => hb.at_ (h.at_ j o hj)⟩
/-- A change of the blocks named, which lay there ahead, and of none of these. -/
theorem Lay.call (h : Lay S w os w') (hS : ∀ k, S k → k < w.heap.size) (hc : Chg S w' w'') : Lay S w os w'' :=
  ⟨h.chg.trans hc fun _ _ s => s, Nat.le_trans h.size hc.size, fun j o hj => hc.at_ (h.at_ j o hj) fun hs => by have := hS _ hs; omega⟩
theorem Lay.set (h : Lay S w os w') {j : Nat} (hj : j < os.length) {k : Nat} (hk : k = w.heap.size + j) (o : Obj) : Lay S w (os.set j o) (setB w' k o) := by
  subst hk
  refine ⟨h.chg.trans ((setB_chg w' _ o).mono (T := fun k => w.heap.size ≤ k) fun k _ hk => by omega) fun k hk hs => by omega, by rw [setB_size, List.length_set]; exact h.size, fun i o' hi => ?_⟩
  by_cases e : i = j
  · subst e
    rw [List.getElem?_set_self hj] at hi
    injection hi with hi; subst hi
    exact setB_same (h.at_ i _ (List.getElem?_eq_getElem hj))
  · rw [List.getElem?_set_ne (fun x => e x.symm)] at hi
    rw [setB_other (by omega)]
    exact h.at_ i o' hi
theorem Lay.row (h : Lay S w os w') {j : Nat} {c : Array Value} {t : TypeId} {z : Nat × Nat} (hj : os[j]? = some (.cells c t z)) {k : Nat} (hk : k = w.heap.size + j) (d : Array Value) : Lay S w (os.set j (.cells d t z)) (w'.setRow k d) := by
  subst hk
  have hl := (List.getElem?_eq_some_iff.1 hj).1
  refine ⟨h.chg.trans ((setRow_chg _ d).mono (T := fun k => w.heap.size ≤ k) fun k _ hk => by omega) fun k hk hs => by omega, by rw [List.length_set]; exact Nat.le_trans h.size (setRow_chg _ d).size, fun i o' hi => ?_⟩
  by_cases e : i = j
  · subst e
    rw [List.getElem?_set_self hl] at hi
    injection hi with hi; subst hi
    exact setRow_heap w' _ c d t z (h.at_ i _ hj)
  · rw [List.getElem?_set_ne (fun x => e x.symm)] at hi
    rw [setRow_other w' _ _ d (by omega)]
    exact h.at_ i o' hi
theorem Lay.cell (h : Lay S w os w') {j : Nat} {v : Value} {t : TypeId} {z : Nat × Nat} (hj : os[j]? = some (.cells #[v] t z)) : w'.cell? ⟨w.heap.size + j, 0, none⟩ = some v := by
  obtain ⟨z0, z1⟩ := z
  exact cell_at (h.at_ j _ hj) rfl
/-- Blocks behind all that was there may turn. -/
theorem Chg.above (hc : Chg (fun k => w.heap.size ≤ k) w' w'') (n : Nat) (hn : n ≤ w.heap.size) : Chg (fun k => n ≤ k) w' w'' := hc.mono fun k _ hk => Nat.le_trans hn hk
theorem Locals.beyond {w w' w'' : World} {os : List Obj} {m : Nat} (h : Locals w os w') (hc : Chg (fun k => m ≤ k) w' w'') (hm : w.heap.size + os.length ≤ m) : Locals w os w'' := by
  have s1 := h.bel.size
  refine ⟨(h.bel.thenChg hc).bel fun k hk hs => by omega, Nat.le_trans h.size hc.size, fun j o hj => hc.at_ (h.at_ j o hj) fun hs => ?_⟩
  have := (List.getElem?_eq_some_iff.1 hj).1
  omega
end lay

section rounds
variable {P : Program}

/-- A loop over a function, as it is entered. -/
structure Entered (L : Loop) (fn : FuncId) (tmps : Array Value) (ps : Array Tmp) (as bd : Code) : Prop where
  state : L.state = .ready
  pending : L.pending = none
  fn : L.fn = fn
  tmps : L.tmps = tmps
  params : L.params = ps
  assign : L.assign = as
  body : L.body = bd

theorem enterW_lay {w : World} {fn : FuncId} {tmps : Array Value} {ps : Array Tmp} {ass bdy : Code} {w0 : World} {os : List Obj} (h : Locals w0 os w) (hs : w.heap.size = w0.heap.size + os.length) :
    ∃ L, Entered L fn tmps ps ass bdy ∧ Locals w0 (os ++ [.deferred (some [])] ++ [.loop L]) (enterW w fn tmps ps ass bdy) :=
  ⟨_, ⟨rfl, rfl, rfl, rfl, rfl, rfl, rfl⟩, (h.add hs (.deferred (some []))).add (by rw [World.size_alloc, hs, List.length_append]; rfl) (.loop _)⟩

theorem Entered.yield1 {w : World} {l : Nat} {L : Loop} {fn : FuncId} {ts : List Value} {p : Tmp} {as bd : Code} (h : w.heap[l]? = some (.loop L)) (hf : Entered L fn ts.toArray #[p] as bd) (x : Value) :
    Xcall P (.func (.yield l) #[] #[]) #[x] w = Rd P l fn (ts.set p x).toArray as bd w := by
  rw [Xcall_yield h (by rw [hf.params]; rfl), hf.fn, hf.assign, hf.body, hf.params, hf.tmps]
  congr 1
  simp
theorem Entered.yield2 {w : World} {l : Nat} {L : Loop} {fn : FuncId} {ts : List Value} {p q : Tmp} {as bd : Code} (h : w.heap[l]? = some (.loop L)) (hf : Entered L fn ts.toArray #[p, q] as bd) (x y : Value) :
    Xcall P (.func (.yield l) #[] #[]) #[x, y] w = Rd P l fn ((ts.set p x).set q y).toArray as bd w := by
  rw [Xcall_yield h (by rw [hf.params]; rfl), hf.fn, hf.assign, hf.body, hf.params, hf.tmps]
  congr 1
  simp
end rounds
end Go.Ev

/- Slices of structs: seen, cut, appended to. -/
namespace Go.Ev
open Go Go.RowKit

/-- A slice whose elements are these. -/
def View {α : Type} (f : α → List Value) (size : Nat) (w : World) (v : Value) (l : List α) : Prop :=
  ∃ x cap, v = .slice x l.length cap ∧ l.length ≤ cap ∧ cap ≤ maxLen ∧ (x = none → cap = 0) ∧ ∀ k y, l[k]? = some y → ∃ g o, x = some ⟨g, o, none⟩ ∧ CellsAt (f y) w g (o + k * size)

theorem flat_len {α : Type} {f : α → List Value} {size : Nat} : ∀ (l : List α), (∀ y ∈ l, (f y).length = size) → (l.flatMap f).length = l.length * size
  | [], _ => by simp
  | y :: l, hf => by rw [List.flatMap_cons, List.length_append, hf y (by simp), flat_len l fun z hz => hf z (by simp [hz]), List.length_cons, Nat.add_mul, Nat.one_mul, Nat.add_comm]

section view
variable {α : Type} {f : α → List Value} {size : Nat} {P : Program} {t e : TypeId} {w w' : World} {v : Value} {l : List α}

theorem View.bel (h : View f size w v l) (hb : Bel w w') : View f size w' v l := by
  obtain ⟨x, cap, hv, h1, h2, h3, h4⟩ := h
  refine ⟨x, cap, hv, h1, h2, h3, fun k y hk => ?_⟩
  obtain ⟨g, o, hx, hc⟩ := h4 k y hk
  exact ⟨g, o, hx, hc.bel hb⟩
theorem View.chg {S : Nat → Prop} (h : View f size w v l) (hc : Chg S w w') (hs : ∀ k, v.ownBlock = some k → ¬ S k) : View f size w' v l := by
  obtain ⟨x, cap, rfl, h1, h2, h3, h4⟩ := h
  refine ⟨x, cap, rfl, h1, h2, h3, fun k y hk => ?_⟩
  obtain ⟨g, o, rfl, hcl⟩ := h4 k y hk
  exact ⟨g, o, rfl, hcl.chg hc (hs g rfl)⟩
theorem View.len (h : View f size w v l) {ty : TypeId} (ht : P.underlying t = some (.slice e)) (w' : World) : Qlen P #[t] ty #[v] w' = some (.int .i64 l.length) := by
  obtain ⟨x, cap, rfl, _⟩ := h
  exact Qlen_slice ht
theorem View.small (h : View f size w v l) : l.length ≤ maxLen := by
  obtain ⟨x, cap, rfl, h1, h2, _⟩ := h
  exact Nat.le_trans h1 h2
/-- An element. -/
theorem View.get (h : View f size w v l) {i : TypeInfo} (ht : P.underlying t = some (.slice e)) (hi : P.info? e = some i) (hs : i.size = size) {n : Int} (h0 : 0 ≤ n) (h1 : n < l.length) :
    ∃ y g o, l[n.toNat]? = some y ∧ v.ownBlock = some g ∧ (∀ w', QindexAddr P t v (.int .i64 n) w' = some (.pointer (some ⟨g, o, none⟩))) ∧ CellsAt (f y) w g o := by
  obtain ⟨x, cap, rfl, _, _, _, h4⟩ := h
  have hlt : n.toNat < l.length := by omega
  obtain ⟨g, o, rfl, hc⟩ := h4 n.toNat l[n.toNat] (by simp [hlt])
  refine ⟨_, g, o + n.toNat * size, by simp [hlt], rfl, fun w' => ?_, hc⟩
  rw [QindexAddr_slice ht hi h0 h1, hs]
  unfold Addr.add
  by_cases h : n.toNat * size = 0 <;> simp [h]
theorem View.of_owns {base : Nat} (h : w.ownsRow base e size v l.length (l.flatMap f)) (hf : ∀ y ∈ l, (f y).length = size) : View f size w v l := by
  have ho := h
  obtain ⟨h1, ⟨rfl, h2⟩ | ⟨g, cap, cur, rfl, hb, hg, hc, hm, hsz, ht⟩⟩ := h
  · have : l = [] := List.length_eq_zero_iff.1 h2
    subst this
    exact ⟨none, 0, rfl, Nat.le_refl _, Nat.zero_le _, fun _ => rfl, fun k y hk => by simp at hk⟩
  · refine ⟨some ⟨g, 0, none⟩, cap, rfl, hc, hm, (fun h => by cases h), fun k y hk => ⟨g, 0, rfl, ?_⟩⟩
    rw [Nat.zero_add, ← flat_at l k y hf hk]
    exact owns_cells ho rfl
theorem View.nil : View f size w (.slice none 0 0) [] := ⟨none, 0, rfl, Nat.le_refl _, Nat.zero_le _, fun _ => rfl, fun k y hk => by simp at hk⟩

/-- All its cells, in a row. -/
theorem View.cells (h : View f size w v l) (hf : ∀ y ∈ l, (f y).length = size) (h0 : 0 < l.length) : ∃ a cap, v = .slice (some a) l.length cap ∧ ∀ j u, (l.flatMap f)[j]? = some u → w.cell? (a.add j) = some u := by
  obtain ⟨x, cap, rfl, _, _, _, h4⟩ := h
  obtain ⟨g, o, rfl, _⟩ := h4 0 l[0] (by simp [h0])
  refine ⟨⟨g, o, none⟩, cap, rfl, fun j u hj => ?_⟩
  have hadd : (⟨g, o, none⟩ : Addr).add j = ⟨g, o + j, none⟩ := by
    unfold Addr.add
    by_cases h : j = 0 <;> simp [h]
  rw [hadd]
  have hlen := flat_len l hf
  have hjl := (List.getElem?_eq_some_iff.1 hj).1
  have hpos : 0 < size := by
    rcases Nat.eq_zero_or_pos size with h | h
    · subst h; rw [hlen] at hjl; simp at hjl
    · exact h
  have hk : j / size < l.length := by
    rw [Nat.div_lt_iff_lt_mul hpos]; omega
  obtain ⟨g', o', e1, hc⟩ := h4 (j / size) l[j / size] (by simp [hk])
  injection e1 with e1
  injection e1 with e1 e2 _
  subst e1 e2
  have hfl := flat_at (f := f) l (j / size) l[j / size] hf (by simp [hk])
  have hjm : (f l[j / size])[j % size]? = some u := by
    rw [← hfl, List.getElem?_take, if_pos (Nat.mod_lt _ hpos), List.getElem?_drop]
    rw [show j / size * size + j % size = j from by rw [Nat.mul_comm]; exact Nat.div_add_mod j size]
    exact hj
  have := hc _ _ hjm
  rw [Nat.add_assoc, show j / size * size + j % size = j from by rw [Nat.mul_comm]; exact Nat.div_add_mod j size] at this
  exact this

/-- A part of it. -/
theorem View.cut (h : View f size w v l) {i : TypeInfo} (ht : P.underlying t = some (.slice e)) (hi : P.info? e = some i) (hs : i.size = size) {lo hi' : Int} (h0 : 0 ≤ lo) (h1 : lo ≤ hi') (h2 : hi' ≤ l.length) (w' : World) :
    ∃ v', Qslice P t v (some (.int .i64 lo)) (some (.int .i64 hi')) none w' = some v' ∧ View f size w v' ((l.take hi'.toNat).drop lo.toNat) ∧ (∀ k, v'.ownBlock = some k → v.ownBlock = some k) := by
  have hel : P.elem t = e := by simp [Program.elem, ht]
  have ht' : P.underlying t = some (.slice (P.elem t)) := by rw [hel]; exact ht
  obtain ⟨x, cap, rfl, h3, h4, h5, h6⟩ := h
  refine ⟨sliced x lo.toNat hi'.toNat cap size, ?_, ?_, ?_⟩
  · unfold Qslice qv
    rw [run_sliceAt_slice _ _ _ _ _ _ ht', run_slice_lh _ _ _ _ _ ht' _ _ _ _ h0 h1 (by omega), hel, run_size hi, hs]
    rfl
  · have hlen : ((l.take hi'.toNat).drop lo.toNat).length = hi'.toNat - lo.toNat := by simp; omega
    unfold sliced
    rw [← hlen]
    refine ⟨_, _, rfl, by omega, by omega, ?_, fun k y hk => ?_⟩
    · intro hn
      by_cases hc : cap = lo.toNat
      · rw [if_pos hc] at hn; omega
      · rw [if_neg hc] at hn
        rw [Option.map_eq_none_iff] at hn
        have := h5 hn; omega
    · rw [List.getElem?_drop, List.getElem?_take] at hk
      split at hk
      · obtain ⟨g, o, rfl, hc⟩ := h6 _ y hk
        have hlt := (List.getElem?_eq_some_iff.1 hk).1
        refine ⟨g, o + lo.toNat * size, ?_, ?_⟩
        · rw [if_neg (by omega)]
          simp only [Option.map_some, Option.some.injEq]
          unfold Addr.add
          by_cases h : lo.toNat * size = 0 <;> simp [h]
        · rw [Nat.add_mul] at hc
          rw [Nat.add_assoc]; exact hc
      · cases hk
  · intro k hk
    unfold sliced at hk
    split at hk
    · cases x <;> exact hk
    · cases x with
      | none => cases hk
      | some a =>
        simp only [Option.map_some, Value.ownBlock, Option.some.injEq] at hk ⊢
        rw [← hk]
        unfold Addr.add
        split <;> rfl

end view
end Go.Ev

/- Slices that were handed in: what they are made of. -/
namespace Go.Ev
open Go Go.RowKit

theorem list_of {α : Type} {R : Nat → α → Prop} : ∀ (n : Nat), (∀ i, i < n → ∃ x, R i x) → ∃ l : List α, l.length = n ∧ ∀ i x, l[i]? = some x → R i x
  | 0, _ => ⟨[], rfl, fun i x h => by simp at h⟩
  | n + 1, h => by
    obtain ⟨l, hl, hr⟩ := list_of n fun i hi => h i (by omega)
    obtain ⟨x, hx⟩ := h n (by omega)
    refine ⟨l ++ [x], by simp [hl], fun i y hy => ?_⟩
    by_cases hlt : i < l.length
    · rw [List.getElem?_append_left hlt] at hy
      exact hr i y hy
    · rw [List.getElem?_append_right (by omega)] at hy
      have : i = l.length := by
        have := (List.getElem?_eq_some_iff.1 hy).1
        simp at this; omega
      subst this
      simp at hy
      subst hy
      rw [hl]; exact hx

theorem spot_none {w : World} {a : Addr} {v : Value} (h : w.cell? a = some v) : a = ⟨a.block, a.off, none⟩ := by
  obtain ⟨b, o, s⟩ := a
  unfold World.cell? at h
  cases s with
  | none => rfl
  | some s =>
    simp only [Option.isSome_some, if_true] at h
    split at h <;> cases h

theorem add_at (g o n : Nat) : (⟨g, o, none⟩ : Addr).add n = ⟨g, o + n, none⟩ := by
  unfold Addr.add
  by_cases h : n = 0 <;> simp [h]

/-- A slice's value. -/
structure Sl where
  a : Option Addr
  n : Nat
  c : Nat
  deriving DecidableEq
def Sl.v (s : Sl) : Value := .slice s.a s.n s.c
theorem okc_slice {P : Program} {t e : TypeId} {w : World} {n : Nat} {c : Value} (ht : P.underlying t = some (.slice e)) (h : Okc P w n t [c]) : ∃ s : Sl, c = s.v := by
  cases n with
  | zero => exact h.elim
  | succ n =>
    unfold Okc at h
    rw [ht] at h
    rcases h with h | ⟨a, len, cap, h, _⟩
    · exact ⟨⟨none, 0, 0⟩, by simpa [Sl.v] using h⟩
    · exact ⟨⟨some a, len, cap⟩, by simpa [Sl.v] using h⟩

section
variable {α : Type} {f : α → List Value} {size : Nat} {P : Program} {t e : TypeId} {w : World} {v : Value}

theorem view_okc {n : Nat} {ok : α → Prop} (ht : P.underlying t = some (.slice e)) (hc : P.cellsOf e = size) (hp : 0 < size) (hv : v.cells.toList = [v])
    (ho : ∀ m cs, Okc P w m e cs → ∃ x : α, cs = f x ∧ ok x) (h : Okc P w n t v.cells.toList) : ∃ l : List α, View f size w v l ∧ ∀ x ∈ l, ok x := by
  cases n with
  | zero => exact h.elim
  | succ n =>
    unfold Okc at h
    rw [ht, hv] at h
    rcases h with h | ⟨a, len, cap, h, h1, h2, h3⟩
    · have : v = .slice none 0 0 := by simpa using h
      subst this
      exact ⟨[], View.nil, fun x hx => by simp at hx⟩
    · have : v = .slice (some a) len cap := by simpa using h
      subst this
      rw [hc] at h3
      obtain ⟨l, hl, hr⟩ := list_of (R := fun i (x : α) => w.cells? 0 (a.add (i * size)) size = some (f x) ∧ ok x) len fun i hi => by
        obtain ⟨es, h4, h5⟩ := h3 i hi
        obtain ⟨x, rfl, hx⟩ := ho _ _ h5
        exact ⟨x, h4, hx⟩
      refine ⟨l, ⟨some a, cap, by rw [hl], by omega, h2, (fun h => by cases h), fun k y hk => ?_⟩, fun x hx => ?_⟩
      · obtain ⟨hcs, hoky⟩ := hr k y hk
        obtain ⟨_, hlen, hcell⟩ := World.cells?_some hcs
        have h0 := hcell 0 hp
        rw [List.getElem?_eq_getElem (by omega)] at h0
        -- the first cell of the first element says that the address is a plain one
        have hk0 : 0 < l.length := by have := (List.getElem?_eq_some_iff.1 hk).1; omega
        obtain ⟨hcs0, _⟩ := hr 0 l[0] (by simp [hk0])
        obtain ⟨_, hlen0, hcell0⟩ := World.cells?_some hcs0
        have h00 := hcell0 0 hp
        rw [List.getElem?_eq_getElem (by omega)] at h00
        rw [Nat.zero_mul, show (a.add 0).add 0 = a from by simp [Addr.add]] at h00
        have ha := spot_none h00
        obtain ⟨g, o, s⟩ := a
        simp only [Addr.mk.injEq, true_and] at ha
        subst ha
        refine ⟨g, o, rfl, fun j u hj => ?_⟩
        have hjl := (List.getElem?_eq_some_iff.1 hj).1
        have := hcell j (by omega)
        rw [hj, add_at, add_at] at this
        exact this
      · obtain ⟨i, hi, e⟩ := List.mem_iff_getElem.1 hx
        exact (hr i x (by rw [List.getElem?_eq_getElem hi, e])).2

/-- A slice of integers. -/
theorem view_int {n : Nat} {k : IntKind} (ht : P.underlying t = some (.slice e)) (he : P.underlying e = some (.int k)) (hc : P.cellsOf e = 1) (hv : v.cells.toList = [v]) (h : Okc P w n t v.cells.toList) :
    ∃ l : List Int, View (fun m => [.int k m]) 1 w v l ∧ ∀ m ∈ l, (Lit.int k m).wf = true :=
  view_okc ht hc (by decide) hv (fun m cs h => by
    cases m with
    | zero => exact h.elim
    | succ m =>
      unfold Okc at h
      rw [he] at h
      exact h) h
end

section cuts
variable {α : Type} {f : α → List Value} {size : Nat} {P : Program} {t e : TypeId} {w : World} {v : Value} {l : List α}
theorem View.sliced_ {x : Option Addr} {n cap : Nat} {lo hi : Nat} (h : View f size w (.slice x n cap) l) (h1 : lo ≤ hi) (h2 : hi ≤ l.length) :
    View f size w (sliced x lo hi cap size) ((l.take hi).drop lo) ∧ ∀ k, (sliced x lo hi cap size).ownBlock = some k → (Value.slice x n cap).ownBlock = some k := by
  obtain ⟨x', cap', e, h3, h4, h5, h6⟩ := h
  injection e with e1 e2 e3
  subst e1 e2 e3
  refine ⟨?_, ?_⟩
  · have hlen : ((l.take hi).drop lo).length = hi - lo := by simp; omega
    unfold sliced
    rw [← hlen]
    refine ⟨_, _, rfl, by omega, by omega, ?_, fun k y hk => ?_⟩
    · intro hn
      by_cases hc : cap = lo
      · rw [if_pos hc] at hn; omega
      · rw [if_neg hc] at hn
        rw [Option.map_eq_none_iff] at hn
        have := h5 hn; omega
    · rw [List.getElem?_drop, List.getElem?_take] at hk
      split at hk
      · obtain ⟨g, o, rfl, hc⟩ := h6 _ y hk
        have hlt := (List.getElem?_eq_some_iff.1 hk).1
        refine ⟨g, o + lo * size, ?_, ?_⟩
        · rw [if_neg (by omega)]
          simp only [Option.map_some, Option.some.injEq]
          exact add_at _ _ _
        · rw [Nat.add_mul] at hc
          rw [Nat.add_assoc]; exact hc
      · cases hk
  · intro k hk
    unfold sliced at hk
    split at hk
    · cases x <;> exact hk
    · cases x with
      | none => cases hk
      | some a =>
        simp only [Option.map_some, Value.ownBlock, Option.some.injEq] at hk ⊢
        rw [← hk]
        unfold Addr.add
        split <;> rfl
/-- A part of it, from its begin, or to its end. -/
theorem View.cutHi (h : View f size w v l) {i : TypeInfo} (ht : P.underlying t = some (.slice e)) (hi : P.info? e = some i) (hs : i.size = size) {n : Int} (h0 : 0 ≤ n) (h2 : n ≤ l.length) (w' : World) :
    ∃ v', Qslice P t v none (some (.int .i64 n)) none w' = some v' ∧ View f size w v' (l.take n.toNat) ∧ (∀ k, v'.ownBlock = some k → v.ownBlock = some k) := by
  have hel : P.elem t = e := by simp [Program.elem, ht]
  have ht' : P.underlying t = some (.slice (P.elem t)) := by rw [hel]; exact ht
  have hv := h
  obtain ⟨x, cap, rfl, h3, h4, h5, h6⟩ := h
  have := hv.sliced_ (lo := 0) (hi := n.toNat) (by omega) (by omega)
  rw [List.drop_zero] at this
  refine ⟨_, ?_, this⟩
  unfold Qslice qv
  rw [run_sliceAt_slice _ _ _ _ _ _ ht', run_slice_h _ _ _ _ _ ht' _ _ h0 (by omega), hel, run_size hi, hs]
  rfl
theorem View.cutLo (h : View f size w v l) {i : TypeInfo} (ht : P.underlying t = some (.slice e)) (hi : P.info? e = some i) (hs : i.size = size) {n : Int} (h0 : 0 ≤ n) (h2 : n ≤ l.length) (w' : World) :
    ∃ v', Qslice P t v (some (.int .i64 n)) none none w' = some v' ∧ View f size w v' (l.drop n.toNat) ∧ (∀ k, v'.ownBlock = some k → v.ownBlock = some k) := by
  have hel : P.elem t = e := by simp [Program.elem, ht]
  have ht' : P.underlying t = some (.slice (P.elem t)) := by rw [hel]; exact ht
  have hv := h
  obtain ⟨x, cap, rfl, h3, h4, h5, h6⟩ := h
  have := hv.sliced_ (lo := n.toNat) (hi := l.length) (by omega) (by omega)
  rw [List.take_length] at this
  refine ⟨_, ?_, this⟩
  unfold Qslice qv
  rw [run_sliceAt_slice _ _ _ _ _ _ ht', run_slice_l _ _ _ _ _ ht' _ _ h0 h2, hel, run_size hi, hs]
  rfl
end cuts

/-- A law's walk: it returns true, and nothing that was there has turned. -/
theorem law_of {P : Program} {f : FuncId} {args : Array Value} {w : World} {o : Option (Value × World)} (h : Brings o fun r => r.1 = .bool true ∧ Bel w r.2) (hc : ∀ r, o = some r → C P f args w = some r) :
    Calls P f args w fun e w' => e = .returned (.bool true) ∧ Below w.heap.size w w' := by
  obtain ⟨⟨v, w'⟩, ho, hv, hb⟩ := h
  simp only at hv hb
  subst hv
  refine (C_sound (hc _ ho)).mono fun e w2 ⟨h1, h2⟩ => ?_
  subst h2
  exact ⟨h1, hb⟩

/-- A shift to the right. -/
theorem shr_nat (n k : Nat) : ((n : Nat) : Int).fdiv (2 ^ k) = ((n / 2 ^ k : Nat) : Int) := by
  have : (2 : Int) ^ k = ((2 ^ k : Nat) : Int) := by simp
  rw [this, Int.natCast_ediv, Int.fdiv_eq_ediv_of_nonneg _ (Int.natCast_nonneg _)]
end Go.Ev

/- Slices that are made; bytes as a text. -/
namespace Go.Ev
open Go Go.RowKit

section
variable {P : Program} {w : World} {src dst e : TypeId}

/-- Bytes as a text. -/
theorem Xconv_bytes {α : Type} {g : α → Int} {f : α → List Value} {s : Value} {l : List α} (hs : P.underlying src = some (.slice e)) (he : P.underlying e = some (.int .u8)) (hd : P.underlying dst = some .string)
    (hf : ∀ x, f x = [.int .u8 (g x)]) (hv : View f 1 w s l) : Xconv P src dst s w = some (.string (strOfNums (l.map g)), w) := by
  obtain ⟨x, cap, rfl, h1, h2, h3, h4⟩ := hv
  have hr : (convert src dst (.slice x l.length cap)).run P w = .ok (.string (strOfNums (l.map g))) w := by
    cases x with
    | none =>
      have hl : l = [] := by
        cases l with
        | nil => rfl
        | cons y l =>
          obtain ⟨_, _, h, _⟩ := h4 0 y rfl
          cases h
      subst hl
      exact run_convert_bytes_nil w src e hs he _ _ dst hd
    | some a =>
      have hsp : l = [] ∨ ∃ b o, a = ⟨b, o, none⟩ := by
        cases l with
        | nil => exact .inl rfl
        | cons y l =>
          obtain ⟨b, o, h, _⟩ := h4 0 y rfl
          injection h with h
          exact .inr ⟨b, o, h⟩
      rcases hsp with rfl | ⟨b, o, rfl⟩
      · have hl := run_convert_bytes_string w src dst e (some a) 0 cap hs he hd
        have h0 : (convert src dst (.slice (some a) 0 cap)).run P w = .ok (.string (strOfNums [])) w := by
          rw [hl, run_bytesToString w _ 0 cap [] (by rfl)]
          rfl
        exact h0
      · refine run_convert_bytes_arg w src e hs he b o l.length cap (l.map g) (by simp) (fun i hi => ?_) dst hd
        obtain ⟨b', o', h, hc⟩ := h4 i l[i] (by simp [hi])
        injection h with h
        injection h with h1 h2
        subst h1 h2
        have := hc 0 (.int .u8 (g l[i])) (by rw [hf]; rfl)
        simpa [hi] using this
  unfold Xconv xv
  rw [hr]

/-- A slice of a length. -/
theorem Xmade {α : Type} {f : α → List Value} {d : α} {t : TypeId} {i : TypeInfo} {z : Value} {size : Nat} {kl kc : IntKind} (ht : P.underlying t = some (.slice e)) (hi : P.info? e = some i) (hz : i.zero = some z) (hsize : i.size = size)
    (hf : f d = z.cells.toList) (h1 : size = 1) (hc : z.cells.size = 1) {n : Nat} (hb : i.bytes * n ≤ 281474976710656) (h63 : n ≤ maxLen) :
    ∃ w', XmakeSlice P t (.int kl (n : Int)) (.int kc (n : Int)) w = some (.slice (some ⟨w.heap.size, 0, none⟩) n n, w') ∧ w'.ownsRow 0 e size (.slice (some ⟨w.heap.size, 0, none⟩) n n) n ((List.replicate n d).flatMap f) ∧ Bel w w' := by
  obtain ⟨w', e1, e2, e3⟩ := run_make_full (P := P) w 0 t e i z size ht hi hz hsize kl kc n hb h63 (Nat.zero_le _)
  refine ⟨w', ?_, ?_, (Chg.of_grown e3).bel fun k _ h => by cases h⟩
  · unfold XmakeSlice xv
    rw [e1]
  · obtain ⟨u, hu⟩ : ∃ u, z.cells = #[u] := by
      match hzc : z.cells with
      | ⟨[u]⟩ => exact ⟨u, rfl⟩
      | ⟨[]⟩ => rw [hzc] at hc; simp at hc
      | ⟨_ :: _ :: _⟩ => rw [hzc] at hc; simp at hc
    have e : (List.replicate n d).flatMap f = (madeCells z.cells (n * size)).toList := by
      rw [hu] at hf ⊢
      rw [toList_madeCells_one, h1, Nat.mul_one]
      clear e2 e1 h63 hb
      induction n with
      | zero => rfl
      | succ n ih => rw [List.replicate_succ, List.flatMap_cons, ih, hf]; rfl
    rw [e]; exact e2

/-- One cell of a row of one's own is written to. -/
theorem own_set1 {t : TypeId} {i : TypeInfo} (ht : P.underlying t = some (.slice e)) (hi : P.info? e = some i) (hs : i.size = 1) {v : Value} {n : Nat} {xs : List Value} (h : w.ownsRow 0 e 1 v n xs) {j : Nat} (hj : j < n) {u : Value} (hu : u.cells = #[u]) (h1 : u.oneCell' = true) :
    ∃ g, v.ownBlock = some g ∧ (∀ w2, QindexAddr P t v (.int .i64 (j : Int)) w2 = some (.pointer (some ⟨g, j, none⟩))) ∧
      ∃ w', Xstore P e (.pointer (some ⟨g, j, none⟩)) u w = some (undef, w') ∧ w'.ownsRow 0 e 1 v n (xs.set j u) ∧ Chg (fun k => k = g) w w' := by
  obtain ⟨hl, ⟨rfl, rfl⟩ | ⟨g, cap, cur, rfl, hb, hg, hn, hcap, hsz, htk⟩⟩ := h
  · omega
  · refine ⟨g, rfl, fun w2 => ?_, _, Xstore_row (P := P) (t := e) (v := u) hi (by rw [hu, hs]; rfl) hg (o := j) (by rw [hs]; omega) (by rw [hu]; intro x hx; simp at hx; subst hx; exact h1), ⟨by rw [List.length_set]; exact hl, .inr ⟨g, cap, _, rfl, hb, setRow_heap w g cur _ e _ hg, hn, hcap, ?_, ?_⟩⟩, setRow_chg _ _⟩
    · rw [QindexAddr_slice ht hi (by omega) (by omega), hs, Int.toNat_natCast, Nat.mul_one]
      unfold Addr.add
      by_cases hz : j = 0 <;> simp [hz]
    · simp only [hs, hu, List.size_toArray, List.length_append, List.length_take, List.length_drop, Array.length_toList]
      simp
      omega
    · have hjc : j < cur.toList.length := by rw [Array.length_toList]; omega
      have e1 : cur.toList.take j ++ (u.cells).toList ++ cur.toList.drop (j + i.size) = cur.toList.set j u := by
        rw [hs, hu, List.set_eq_take_append_cons_drop, if_pos hjc]
        simp
      rw [show ((cur.toList.take j ++ (u.cells).toList ++ cur.toList.drop (j + i.size)).toArray).toList = cur.toList.take j ++ (u.cells).toList ++ cur.toList.drop (j + i.size) from rfl, e1, List.take_set, htk]

/-- An array is loaded, whole. -/
theorem Qload_array {t : TypeId} {i : TypeInfo} {n g o : Nat} {cs : List Value} (ht : P.underlying t = some (.array n e)) (hi : P.info? t = some i) (hs : i.size = cs.length) (h : CellsAt cs w g o) :
    Qload P t (.pointer (some ⟨g, o, none⟩)) w = some (.agg cs.toArray) := by
  unfold Qload qv
  have hag : (isAgg t).run P w = .ok true w := by simp only [isAgg, Sem.run_bind, run_underlying ht, Result.andThen_ok]; rfl
  simp only [Instr.loadAt, Instr.sureAddr, loadVar, Sem.run_bind, Sem.run_pure, Result.andThen_ok, hag, if_true, run_size hi, hs]
  rw [run_loadCells_list (P := P) w _ cs fun j v hj => by
    have := h j v hj
    rw [show (⟨g, o, none⟩ : Addr).add j = ⟨g, o + j, none⟩ from ?_]
    · exact this
    · unfold Addr.add
      by_cases h : j = 0 <;> simp [h]]
  rfl
end
end Go.Ev

/- Arrays: their elements by address and by value. -/
namespace Go.Ev
open Go Go.RowKit

section
variable {P : Program} {w : World} {t e : TypeId}

theorem QindexAddr_array {n : Nat} {i : TypeInfo} {g o : Nat} {k : IntKind} {j : Nat} (ht : P.underlying t = some (.array n e)) (hi : P.info? e = some i) (hs : i.size = 1) (hj : j < n) :
    QindexAddr P t (.pointer (some ⟨g, o, none⟩)) (.int k (j : Int)) w = some (.pointer (some ⟨g, o + j, none⟩)) := by
  have h : (0 : Int) ≤ (j : Int) ∧ (j : Int) < (n : Int) := by omega
  unfold QindexAddr qv
  simp only [Instr.indexAt, Instr.sureAddr, asIntOf, Sem.run_bind, Sem.run_pure, Result.andThen_ok, run_underlying ht, run_size hi, if_pos h, hs, Int.toNat_natCast, Nat.mul_one]
  unfold Addr.add
  by_cases h : j = 0 <;> simp [h]
theorem Qindex_array {n : Nat} {i : TypeInfo} {cs : Array Value} {k : IntKind} {j : Nat} {v : Value} (ht : P.underlying t = some (.array n e)) (he : ∃ k, P.underlying e = some (.int k)) (hi : P.info? e = some i) (hs : i.size = 1) (hj : j < n) (hv : cs[j]? = some v) :
    Qindex P t (.agg cs) (.int k (j : Int)) w = some v := by
  have h : (0 : Int) ≤ (j : Int) ∧ (j : Int) < (n : Int) := by omega
  unfold Qindex qv
  simp only [Instr.index, asIntOf, Sem.run_bind, Sem.run_pure, Result.andThen_ok, run_underlying ht, run_size hi, if_pos h, hs, Int.toNat_natCast, Nat.mul_one]
  obtain ⟨k', he⟩ := he
  have hag : (isAgg e).run P w = .ok false w := by simp only [isAgg, Sem.run_bind, run_underlying he, Result.andThen_ok]; rfl
  simp only [part, Sem.run_bind, hag, Result.andThen_ok, hv, Bool.false_eq_true, if_false, Sem.run_pure]
end
end Go.Ev

/- Appending to a slice of one's own. -/
namespace Go.Ev
open Go Go.RowKit

section app
variable {P : Program} {t e : TypeId} {w : World}

theorem append_own {i : TypeInfo} {z : Value} {ty : TypeId} {size bytes : Nat} (ht : P.underlying t = some (.slice e)) (hi : P.info? e = some i) (hz : i.zero = some z)
    (hsize : i.size = size) (hby : i.bytes = bytes) (hzs : z.cells.size = size) (hsz : 0 < size)
    {v : Value} {n : Nat} {xs : List Value} (hown : w.ownsRow 0 e size v n xs)
    {a : Addr} {m c : Nat} {news : List Value} (hl : news.length = m * size) (hnews : ∀ j u, news[j]? = some u → w.cell? (a.add j) = some u) (h1 : ∀ u ∈ news, u.oneCell' = true)
    (h63 : n + m ≤ maxLen) (hbytes : (n + m) * bytes ≤ 140737488355328) :
    ∃ v' w', (Builtin.append_ #[t, t] ty #[v, .slice (some a) m c]).run P w = .ok v' w' ∧ w'.ownsRow 0 e size v' (n + m) (xs ++ news) ∧ w.grownBy w' v.ownBlock ∧
      (∀ k, v'.ownBlock = some k → v.ownBlock = some k ∨ w.heap.size ≤ k) := by
  obtain ⟨v', w', hr, h2, h3, _⟩ := run_append_own (P := P) w 0 t ty e i z size bytes ht hi hz hsize hby hzs hsz v n xs hown a m c news hl hnews h1 h63 hbytes (Nat.zero_le _)
  refine ⟨v', w', hr, h2, h3, ?_⟩
  have h63' : n + m ≤ 9223372036854775807 := by simp only [maxLen] at h63; omega
  subst hsize
  subst hby
  rcases hown.2 with ⟨rfl, rfl⟩ | ⟨g, cap, cur, rfl, hbg, hg, hnc, hcm, hcs, htake⟩
  · obtain ⟨v2, w2, hr2, h22, _⟩ := run_append_own (P := P) w w.heap.size t ty e i z i.size i.bytes ht hi hz rfl rfl hzs hsz (.slice none 0 0) 0 xs ⟨hown.1, .inl ⟨rfl, rfl⟩⟩ a m c news hl hnews h1 h63 hbytes (Nat.le_refl _)
    rw [hr] at hr2
    injection hr2 with e1 e2
    subst e1 e2
    intro k hk
    exact .inr (h22.lt k hk).1
  · by_cases hroom : n + m ≤ cap
    · have hfit : n * i.size + news.length ≤ cur.size := by rw [hl, hcs, ← Nat.add_mul]; exact Nat.mul_le_mul_right _ hroom
      have hr2 := run_append_room (P := P) w t ty e i ht hi g n cap cur hg a m c news hl hnews h1 hroom hfit
      rw [hr] at hr2
      injection hr2 with e1 _
      subst e1
      exact fun k hk => .inl hk
    · have holds : ∀ j u, xs[j]? = some u → w.cell? ((⟨g, 0, none⟩ : Addr).add j) = some u := hown.cells (g := g) rfl
      have hr2 := run_append_grow (P := P) w t ty e i z ht hi hz ⟨g, 0, none⟩ n cap xs hown.1 holds a m c news hl hnews (by omega) (by omega) (growslice_fits (by omega) hbytes)
      rw [hr] at hr2
      injection hr2 with e1 _
      subst e1
      intro k hk
      simp only [Value.ownBlock, Option.some.injEq] at hk
      exact .inr (by omega)

theorem Xbi_append {ts : Array TypeId} {ty : TypeId} {args : Array Value} {v' : Value} {w' : World} (h : (Builtin.append_ ts ty args).run P w = .ok v' w') : Xbi P .append ts ty args w = some (v', w') := by
  unfold Xbi
  simp only [builtin, Sem.run_bind, h, Result.andThen_ok]
  rfl

/-- Elements are appended to a row of one's own. -/
theorem Xappend {α : Type} {f : α → List Value} {i : TypeInfo} {z : Value} {ty : TypeId} {size bytes : Nat} (ht : P.underlying t = some (.slice e)) (hi : P.info? e = some i) (hz : i.zero = some z)
    (hsize : i.size = size) (hby : i.bytes = bytes) (hzs : z.cells.size = size) (hsz : 0 < size) {v s : Value} {l m : List α} (hown : w.ownsRow 0 e size v l.length (l.flatMap f)) (hv : View f size w s m)
    (hf : ∀ y ∈ m, (f y).length = size) (h1 : ∀ y ∈ m, ∀ u ∈ f y, u.oneCell' = true) (hbytes : (l.length + m.length) * bytes ≤ 140737488355328) (h63 : l.length + m.length ≤ maxLen) :
    ∃ v' w', Xbi P .append #[t, t] ty #[v, s] w = some (v', w') ∧ w'.ownsRow 0 e size v' (l ++ m).length ((l ++ m).flatMap f) ∧ w.grownBy w' v.ownBlock ∧ (∀ k, v'.ownBlock = some k → v.ownBlock = some k ∨ w.heap.size ≤ k) := by
  rw [List.length_append, List.flatMap_append]
  obtain ⟨x, cap, rfl, hc1, hc2, hnil, hel⟩ := hv
  cases x with
  | none =>
    have hcap := hnil rfl
    have hm : m.length = 0 := by omega
    have : m = [] := List.length_eq_zero_iff.1 hm
    subst this
    subst hcap
    have hrun := run_append_owned_none (P := P) (w := w) 0 t ty e i size ht hi v l.length (l.flatMap f) hown
    exact ⟨v, w, Xbi_append hrun, by simpa using hown, ⟨rfl, rfl, rfl, Nat.le_refl _, fun _ _ _ => rfl⟩, fun k hk => .inl hk⟩
  | some a =>
    have hlen := flat_len m hf
    have hcells : ∀ j u, (m.flatMap f)[j]? = some u → w.cell? (a.add j) = some u := by
      intro j u hj
      rcases Nat.eq_zero_or_pos m.length with h0 | h0
      · have : m = [] := List.length_eq_zero_iff.1 h0
        subst this
        simp at hj
      · obtain ⟨a', cap', e1, h⟩ := View.cells (v := .slice (some a) m.length cap) (l := m) ⟨some a, cap, rfl, hc1, hc2, hnil, hel⟩ hf h0
        injection e1 with e1 _ _
        injection e1 with e1
        subst e1
        exact h j u hj
    obtain ⟨v', w', hr, h2, h3, h4⟩ := append_own (P := P) (ty := ty) ht hi hz hsize hby hzs hsz hown (a := a) (c := cap) hlen hcells (fun u hu => by
      obtain ⟨y, hy, hu⟩ := List.mem_flatMap.1 hu
      exact h1 y hy u hu) h63 hbytes
    exact ⟨v', w', Xbi_append hr, h2, h3, h4⟩

end app
end Go.Ev

/- Rows of whole numbers. -/
namespace Go.Ev
open Go Go.RowKit

/-- A slice type of whole numbers. -/
structure NumTy (P : Program) (t e : TypeId) (k : IntKind) : Prop where
  und : P.underlying t = some (.slice e)
  el : P.underlying e = some (.int k)
  info : ∃ i, P.info? e = some i ∧ i.zero = some (.int k 0) ∧ i.size = 1 ∧ i.bytes ≤ 8
  one : one P e = true
  lit : ∀ n w, XbuildSlice P t 1 #[(0, .int k n)] w = some (.slice (some ⟨w.heap.size, 0, none⟩) 1 1, w.alloc (.cells #[.int k n] e))
  lit0 : ∀ w, XbuildSlice P t 0 #[] w = some (.slice (some ⟨w.heap.size, 0, none⟩) 0 0, w.alloc (.cells #[] e))

def nc (k : IntKind) (n : Int) : List Value := [.int k n]
def OwnN (e : TypeId) (k : IntKind) (w : World) (v : Value) (l : List Int) : Prop := w.ownsRow 0 e 1 v l.length (l.flatMap (nc k))

section nums
variable {P : Program} {t e : TypeId} {k : IntKind} {w w' w0 : World} {v : Value} {l : List Int}

theorem OwnN.view (h : OwnN e k w v l) : View (nc k) 1 w v l := View.of_owns h fun _ _ => rfl
theorem OwnN.chg {S : Nat → Prop} (h : OwnN e k w v l) (hc : Chg S w w') (hs : ∀ q, v.ownBlock = some q → ¬ S q) : OwnN e k w' v l := hc.owns h hs
theorem OwnN.bel (h : OwnN e k w v l) (hb : Bel w w') : OwnN e k w' v l := h.chg (.of_bel hb fun _ => False) fun _ _ f => f
theorem OwnN.lt (h : OwnN e k w v l) {q : Nat} (hq : v.ownBlock = some q) : q < w.heap.size := (World.ownsRow.lt h q hq).2
theorem OwnN.nil (w : World) : OwnN e k w (.slice none 0 0) [] := World.ownsRow_nil w 0 e 1
theorem OwnN.slice (h : OwnN e k w v l) : ∃ x n c, v = .slice x n c := by
  obtain ⟨_, ⟨e, _⟩ | ⟨g, cap, cur, e, _⟩⟩ := h
  · exact ⟨_, _, _, e⟩
  · exact ⟨_, _, _, e⟩
theorem NumTy.len (T : NumTy P t e k) (h : View (nc k) 1 w v l) {ty : TypeId} (w2 : World) : Qlen P #[t] ty #[v] w2 = some (.int .i64 l.length) := h.len T.und w2
theorem NumTy.get (T : NumTy P t e k) (h : View (nc k) 1 w v l) {j : Nat} (hj : j < l.length) : ∃ x a, l[j]? = some x ∧ (∀ w2, QindexAddr P t v (.int .i64 (j : Int)) w2 = some (.pointer (some a))) ∧ Qload P e (.pointer (some a)) w = some (.int k x) := by
  obtain ⟨i, hi, _, hs, _⟩ := T.info
  obtain ⟨y, g, o, hy, _, hix, hc⟩ := h.get T.und hi hs (n := j) (by omega) (by omega)
  rw [Int.toNat_natCast] at hy
  exact ⟨y, _, hy, hix, Qload_cell T.one (hc 0 _ rfl)⟩

/-- A row that was laid since. -/
def FreshN (e : TypeId) (k : IntKind) (w0 w : World) (v : Value) (l : List Int) : Prop := Bel w0 w ∧ OwnN e k w v l ∧ ∀ q, v.ownBlock = some q → w0.heap.size ≤ q
theorem FreshN.start (w : World) : FreshN e k w w (.slice none 0 0) [] := ⟨Bel.refl _, OwnN.nil w, fun q hq => by cases hq⟩
theorem FreshN.later (h : FreshN e k w0 w v l) (hb : Bel w w') : FreshN e k w0 w' v l := ⟨h.1.trans hb, h.2.1.bel hb, h.2.2⟩
theorem FreshN.app (T : NumTy P t e k) (h : FreshN e k w0 w v l) {s : Value} {m : List Int} (hv : View (nc k) 1 w s m) (hl : l.length + m.length ≤ 1000000) :
    ∃ v' w', Xbi P .append #[t, t] t #[v, s] w = some (v', w') ∧ FreshN e k w0 w' v' (l ++ m) ∧ Chg (fun q => v.ownBlock = some q) w w' := by
  obtain ⟨i, hi, hz, hs, hb⟩ := T.info
  obtain ⟨v', w', e1, e2, e3, e4⟩ := Xappend (f := nc k) (ty := t) T.und hi hz hs rfl rfl (by omega) h.2.1 hv (fun _ _ => rfl) (fun y _ u hu => by simp [nc] at hu; subst hu; rfl) (by
    have : (l.length + m.length) * i.bytes ≤ 1000000 * 8 := Nat.mul_le_mul hl hb
    omega) (by simp only [maxLen]; omega)
  have c := Chg.of_grown e3
  refine ⟨v', w', e1, ⟨(h.1.thenChg c).bel fun q hq hs => ?_, e2, fun q hq => ?_⟩, c.mono fun q _ hq => hq.symm⟩
  · have := h.2.2 q hs.symm; omega
  · rcases e4 q hq with h' | h'
    · exact h.2.2 q h'
    · have := h.1.size; omega
theorem FreshN.push (T : NumTy P t e k) (h : FreshN e k w0 w v l) (n : Int) (hl : l.length ≤ 900000) :
    ∃ s w1, XbuildSlice P t 1 #[(0, .int k n)] w = some (s, w1) ∧ ∃ v' w', Xbi P .append #[t, t] t #[v, s] w1 = some (v', w') ∧ FreshN e k w0 w' v' (l ++ [n]) ∧ Chg (fun q => v.ownBlock = some q) w w' := by
  have b1 : Bel w (w.alloc (.cells #[.int k n] e)) := (Bel.refl w).alloc _
  have hv : View (nc k) 1 (w.alloc (.cells #[.int k n] e)) (.slice (some ⟨w.heap.size, 0, none⟩) 1 1) [n] :=
    ⟨some ⟨w.heap.size, 0, none⟩, 1, rfl, Nat.le_refl _, by simp [maxLen], fun h => (by cases h), fun j y hj => by
      match j, hj with
      | 0, hj =>
        injection hj with hj
        subst hj
        exact ⟨w.heap.size, 0, rfl, CellsAt.of (MapKept.heap_alloc w _).1⟩
      | j + 1, hj => simp at hj⟩
  obtain ⟨v', w', e1, e2, e3⟩ := (h.later b1).app T hv (by simp; omega)
  exact ⟨_, _, T.lit n w, v', w', e1, e2, b1.thenChg e3⟩
/-- A copy of a row. -/
theorem NumTy.copy (T : NumTy P t e k) (h : View (nc k) 1 w v l) (hl : l.length ≤ 900000) : ∃ s w1, XbuildSlice P t 0 #[] w = some (s, w1) ∧ Bel w w1 ∧ ∃ v' w', Xbi P .append #[t, t] t #[s, v] w1 = some (v', w') ∧ FreshN e k w w' v' l := by
  have b1 : Bel w (w.alloc (.cells #[] e)) := (Bel.refl w).alloc _
  have f1 : FreshN e k w (w.alloc (.cells #[] e)) (.slice (some ⟨w.heap.size, 0, none⟩) 0 0) [] := by
    refine ⟨b1, ⟨rfl, .inr ⟨w.heap.size, 0, #[], rfl, Nat.zero_le _, (MapKept.heap_alloc w _).1, Nat.le_refl _, Nat.zero_le _, rfl, rfl⟩⟩, fun q hq => ?_⟩
    have hq' : some w.heap.size = some q := hq
    injection hq' with hq'
    omega
  obtain ⟨v', w', e1, e2, e3⟩ := f1.app T (h.bel b1) (by simp; omega)
  exact ⟨_, _, T.lit0 w, b1, v', w', e1, e2⟩
end nums
end Go.Ev

/- Bits of numbers without sign. -/
namespace Go.Ev
open Go

theorem toNat_ofInt_u {n : Nat} {a : Nat} (h : a < 2 ^ n) : (BitVec.ofInt n (a : Int)).toNat = a := by
  rw [BitVec.ofInt_natCast, BitVec.toNat_ofNat, Nat.mod_eq_of_lt h]
theorem wrap_u {k : IntKind} (hk : k.signed = false) {x : Nat} (h : x < 2 ^ k.bits) : k.wrap (x : Int) = x := by
  have h' : ((x : Int)) % ((2 ^ k.bits : Nat) : Int) = x := by rw [← Int.natCast_emod, Nat.mod_eq_of_lt h]
  cases k <;> first | (exfalso; revert hk; decide) | (simp only [IntKind.wrap, IntKind.bits, IntKind.signed] at h' ⊢; simp at h' ⊢; omega)
theorem iand_u {k : IntKind} (hk : k.signed = false) {a b : Nat} (ha : a < 2 ^ k.bits) (hb : b < 2 ^ k.bits) : iand k (a : Int) (b : Int) = ((a &&& b : Nat) : Int) := by
  unfold iand
  rw [BitVec.toNat_and, toNat_ofInt_u ha, toNat_ofInt_u hb]
  exact wrap_u hk (Nat.lt_of_le_of_lt Nat.and_le_left ha)
theorem ior_u {k : IntKind} (hk : k.signed = false) {a b : Nat} (ha : a < 2 ^ k.bits) (hb : b < 2 ^ k.bits) : ior k (a : Int) (b : Int) = ((a ||| b : Nat) : Int) := by
  unfold ior
  rw [BitVec.toNat_or, toNat_ofInt_u ha, toNat_ofInt_u hb]
  exact wrap_u hk (Nat.or_lt_two_pow ha hb)
theorem iandNot_u {k : IntKind} (hk : k.signed = false) {a b : Nat} (ha : a < 2 ^ k.bits) (hb : b < 2 ^ k.bits) : iandNot k (a : Int) (b : Int) = ((a &&& (2 ^ k.bits - 1 - b) : Nat) : Int) := by
  unfold iandNot
  rw [BitVec.toNat_and, BitVec.toNat_not, toNat_ofInt_u ha, toNat_ofInt_u hb]
  exact wrap_u hk (Nat.lt_of_le_of_lt Nat.and_le_left ha)

/-- The upper bits alone. -/
theorem and_upper {n a s : Nat} (ha : a < 2 ^ n) (hs : s ≤ n) : a &&& (2 ^ n - 2 ^ s) = a - a % 2 ^ s := by
  have e1 : a - a % 2 ^ s = (a >>> s) <<< s := by
    rw [Nat.shiftRight_eq_div_pow, Nat.shiftLeft_eq]
    have := Nat.div_add_mod a (2 ^ s)
    rw [Nat.mul_comm] at this
    omega
  have e2 : 2 ^ n - 2 ^ s = (2 ^ (n - s) - 1) <<< s := by
    rw [Nat.shiftLeft_eq, Nat.sub_mul, Nat.one_mul, ← Nat.pow_add, Nat.sub_add_cancel hs]
  rw [e1, e2]
  apply Nat.eq_of_testBit_eq
  intro i
  simp only [Nat.testBit_and, Nat.testBit_shiftLeft, Nat.testBit_shiftRight, Nat.testBit_two_pow_sub_one]
  by_cases h : s ≤ i
  · simp only [ge_iff_le, h, decide_true, Bool.true_and]
    rw [Nat.add_sub_cancel' h]
    by_cases h2 : i - s < n - s
    · simp [h2]
    · have : a.testBit i = false := Nat.testBit_lt_two_pow (Nat.lt_of_lt_of_le ha (Nat.pow_le_pow_right (by omega) (by omega)))
      simp [this]
  · simp [h]
/-- One bit struck. -/
theorem strike_bit {n a i : Nat} (ha : a < 2 ^ n) (hi : i < n) : (a - a % 2 ^ i) &&& (2 ^ n - 1 - 2 ^ i) = a - a % 2 ^ (i + 1) := by
  have e : ∀ s, a - a % 2 ^ s = (a >>> s) <<< s := by
    intro s
    rw [Nat.shiftRight_eq_div_pow, Nat.shiftLeft_eq]
    have := Nat.div_add_mod a (2 ^ s)
    rw [Nat.mul_comm] at this
    omega
  rw [e, e]
  apply Nat.eq_of_testBit_eq
  intro j
  have hb : (2 ^ n - 1 - 2 ^ i).testBit j = (decide (j < n) && !decide (i = j)) := by
    rw [Nat.sub_sub, Nat.add_comm 1, Nat.testBit_two_pow_sub_succ (Nat.pow_lt_pow_right (by omega) hi), Nat.testBit_two_pow]
  simp only [Nat.testBit_and, Nat.testBit_shiftLeft, Nat.testBit_shiftRight, hb]
  by_cases h : i ≤ j
  · by_cases h2 : i = j
    · subst h2; have : ¬ i + 1 ≤ i := by omega
      simp [this]
    · have h3 : i + 1 ≤ j := by omega
      simp only [ge_iff_le, h, h2, h3, decide_true, decide_false, Bool.true_and, Bool.not_false, Bool.and_true]
      rw [Nat.add_sub_cancel' h, Nat.add_sub_cancel' h3]
      by_cases h4 : j < n
      · simp [h4]
      · have : a.testBit j = false := Nat.testBit_lt_two_pow (Nat.lt_of_lt_of_le ha (Nat.pow_le_pow_right (by omega) (by omega)))
        simp [this]
  · have h3 : ¬ i + 1 ≤ j := by omega
    simp [h, h3]

theorem wf_u {k : IntKind} (hk : k.signed = false) {n : Int} (h : (Lit.int k n).wf = true) : ∃ m : Nat, n = m ∧ m < 2 ^ k.bits := by
  have : 0 ≤ n ∧ n < 2 ^ k.bits := by
    cases k <;> first | (exfalso; revert hk; decide) | (simp [Lit.wf, IntKind.min, IntKind.max, IntKind.signed, IntKind.bits] at h ⊢; omega)
  refine ⟨n.toNat, by omega, ?_⟩
  have h2 := this.2
  have : ((n.toNat : Nat) : Int) < ((2 ^ k.bits : Nat) : Int) := by rw [Int.toNat_of_nonneg this.1]; simpa using h2
  omega
theorem wf_i64 {n : Int} (h : (Lit.int .i64 n).wf = true) : -9223372036854775808 ≤ n ∧ n ≤ 9223372036854775807 := by
  simp [Lit.wf, IntKind.min, IntKind.max, IntKind.signed, IntKind.bits] at h
  omega
theorem wrap_i64 {n : Int} (h0 : -9223372036854775808 ≤ n) (h1 : n ≤ 9223372036854775807) : IntKind.i64.wrap n = n := by
  simp only [IntKind.wrap, IntKind.bits, IntKind.signed]
  simp
  omega
end Go.Ev
