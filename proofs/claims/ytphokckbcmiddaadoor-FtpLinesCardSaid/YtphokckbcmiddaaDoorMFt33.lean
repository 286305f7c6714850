/- What is laid, as the walks read it. -/
import Derived.Test.YtphokckbcmiddaaDoorMFt32
import Derived.ProofKit
/- What is laid, as the walks read it. -/
namespace Go.Proofs.YtphokckbcmiddaaDoor
open Go Go.Ev Go.RowKit
open Go.Proofs
open Go.ChangeShapes Go.WideShapes Go.ChangeAt Go.WideMaps Go.WideElems

set_option maxRecDepth 100000 in
/-- A table of numbers, cell by cell. -/
theorem arr_cells {w : World} {n fuel : Nat} {t e : TypeId} {k : IntKind} (ht : Tryd.prog.underlying t = some (.array n e)) (he : Tryd.prog.underlying e = some (.int k)) (c5 : Tryd.prog.cellsOf e = 1) {tb : List Int} (hlen : tb.length = n) {cs : List Value} {p : List MemPlace}
    (h : DataW.trod (fun _ => ()) Tryd.prog w 0 (fun _ => true) false fuel t cs = some (.agg (tb.map fun z => (.lit (.int k z) : DataW Unit)), p)) : ∀ i, i < n → cs[i]? = some (.int k (tb.getD i 0)) := by
  intro i hi
  obtain ⟨xs, m1, rfl, hx1, hlen2, hn3, hel⟩ := DataW.trod_array ht h
  have h0 := hel i hi
  rw [c5, Nat.mul_one] at h0
  have hl : tb.map (fun z => (DataW.lit (.int k z) : DataW Unit)) = xs.map (·.1) := by
    have := congrArg Prod.fst hx1
    injection this
  have hx : xs[i]? = some (xs[i]'(by rw [hn3]; exact hi)) := List.getElem?_eq_getElem _
  rw [hx] at h0
  obtain ⟨k', e1, e2, _⟩ := DataW.trod_int he h0
  have hk : some k' = tb[i]? := by
    have h1 : (tb.map (fun z => (DataW.lit (.int k z) : DataW Unit)))[i]? = some (xs[i]'(by rw [hn3]; exact hi)).1 := by
      rw [hl, List.getElem?_map, hx]; rfl
    rw [List.getElem?_map] at h1
    cases ht : tb[i]? with
    | none => rw [ht] at h1; cases h1
    | some m =>
      rw [ht] at h1
      injection h1 with h1
      rw [e2] at h1
      injection h1 with h1
      injection h1 with _ h1
      rw [h1]
  have hd : tb.getD i 0 = k' := by
    rw [List.getD_eq_getElem?_getD, ← hk]; rfl
  rw [hd]
  have h1 : ((cs.drop i).take 1)[0]? = some (.int k k') := by rw [e1]; rfl
  rwa [List.getElem?_take_of_lt (by omega), List.getElem?_drop, Nat.add_zero] at h1

def powL : List Int := [1, 10, 100, 1000, 10000, 100000, 1000000, 10000000, 100000000, 1000000000, 10000000000, 100000000000, 1000000000000, 10000000000000, 100000000000000, 1000000000000000, 10000000000000000, 100000000000000000, 1000000000000000000, 10000000000000000000]
theorem pow_eq : (Rows.laid_internal_strconv_uint64pow10 : DataW Unit) = .agg (powL.map fun z => (.lit (.int .u64 z) : DataW Unit)) := by kernel_rfl
theorem pow_get : (List.range 20).all (fun i => powL.getD i 0 == ((10 ^ i : Nat) : Int)) = true := by decide +kernel
def firstL : List Int := Go.Pinned.utf8FirstZ.map fun n : Nat => (n : Int)
theorem first_eq : Rows.laid_unicode_utf8_first = .agg (firstL.map fun z => (.lit (.int .u8 z) : DataW Unit)) := by kernel_rfl
theorem first_len : firstL.length = 256 := by kernel_rfl
theorem first_get : (List.range 256).all (fun i => firstL.getD i 0 == ((firstT i : Nat) : Int)) = true := by decide +kernel

theorem ce5 : Tryd.prog.cellsOf 5 = 1 := by kernel_rfl
theorem ce63 : Tryd.prog.cellsOf 63 = 1 := by kernel_rfl
theorem ce155 : Tryd.prog.cellsOf 155 = 2 := by kernel_rfl
theorem t1 : (Tryd.prog.globals[1]?).map (·.type) = some 153 := by kernel_rfl
theorem t2 : (Tryd.prog.globals[2]?).map (·.type) = some 156 := by kernel_rfl
theorem t3 : (Tryd.prog.globals[3]?).map (·.type) = some 95 := by kernel_rfl
theorem t4 : (Tryd.prog.globals[4]?).map (·.type) = some 95 := by kernel_rfl
theorem t5 : (Tryd.prog.globals[5]?).map (·.type) = some 167 := by kernel_rfl
def accL : List (Int × Int) := [(128, 191), (160, 191), (128, 159), (144, 191), (128, 143), (0, 0), (0, 0), (0, 0), (0, 0), (0, 0), (0, 0), (0, 0), (0, 0), (0, 0), (0, 0), (0, 0)]
theorem acc_eq : (Rows.laid_unicode_utf8_acceptRanges : DataW Unit) = .agg (accL.map fun z => (.agg [.lit (.int .u8 z.1), .lit (.int .u8 z.2)] : DataW Unit)) := by kernel_rfl


set_option maxRecDepth 100000 in
/-- A cell that holds an interface that is not nil. -/
theorem err_cell {w : World} {fuel : Nat} {cs : List Value} {p : List MemPlace} {nm : String} {d : DataW Unit} (h : DataW.trod (fun _ => ()) Tryd.prog w 0 (fun _ => true) false fuel 95 cs = some (.iface nm d, p)) : ∃ t a, cs = [.iface t a] := by
  cases fuel with
  | zero => simp [DataW.trod] at h
  | succ n =>
    unfold DataW.trod at h
    have e : Tryd.prog.underlying 95 = some (.interface #[("Error", 122)]) := Tryd.underlying95
    generalize Tryd.prog.underlying 95 = u at h e
    subst e
    match cs, h with
    | [.iface u v], _ => exact ⟨u, v, rfl⟩
    | [.nilIface], h => simp at h


set_option maxRecDepth 100000 in
theorem acc_cells {w : World} {fuel : Nat} {cs : List Value} {p : List MemPlace} (h : DataW.trod (fun _ => ()) Tryd.prog w 0 (fun _ => true) false fuel 156 cs = some (.agg (accL.map fun z => (.agg [.lit (.int .u8 z.1), .lit (.int .u8 z.2)] : DataW Unit)), p)) :
    ∀ i, i < 5 → cs[2 * i]? = some (.int .u8 (accLo i)) ∧ cs[2 * i + 1]? = some (.int .u8 (accHi i)) := by
  intro i hi
  obtain ⟨xs, m1, rfl, hx1, hlen2, hn3, hel⟩ := DataW.trod_array Tryd.underlying156 h
  have h0 := hel i (by omega)
  rw [ce155] at h0
  have hl : accL.map (fun z => (.agg [.lit (.int .u8 z.1), .lit (.int .u8 z.2)] : DataW Unit)) = xs.map (·.1) := by
    have := congrArg Prod.fst hx1
    injection this
  have hx : xs[i]? = some (xs[i]'(by omega)) := List.getElem?_eq_getElem _
  rw [hx] at h0
  obtain ⟨y0, y1, n, e, hl2, e0, e1⟩ := trod_struct2 Tryd.underlying155 h0
  have hi16 : i < accL.length := by have : accL.length = 16 := rfl; omega
  have h1 : (accL.map fun z => (.agg [.lit (.int .u8 z.1), .lit (.int .u8 z.2)] : DataW Unit))[i]? = some (xs[i]'(by omega)).1 := by
    rw [hl, List.getElem?_map, hx]; rfl
  rw [List.getElem?_map, List.getElem?_eq_getElem hi16] at h1
  simp only [Option.map_some, Option.some.injEq] at h1
  rw [e] at h1
  injection h1 with h1
  injection h1 with h1a h1b
  injection h1b with h1b _
  dsimp only at e0 e1
  rw [ce5] at e0 e1
  obtain ⟨k0, c0, l0, _⟩ := DataW.trod_int Tryd.underlying5 e0
  obtain ⟨k1, c1, l1, _⟩ := DataW.trod_int Tryd.underlying5 e1
  rw [l0] at h1a
  rw [l1] at h1b
  injection h1a with h1a
  injection h1a with _ h1a
  injection h1b with h1b
  injection h1b with _ h1b
  have q0 : cs[2 * i]? = some (.int .u8 k0) := by
    have := congrArg (·[0]?) c0
    simp only [List.getElem?_take, List.getElem?_drop] at this
    rw [Nat.mul_comm]
    simpa using this
  have q1 : cs[2 * i + 1]? = some (.int .u8 k1) := by
    have := congrArg (·[0]?) c1
    simp only [List.getElem?_take, List.getElem?_drop] at this
    rw [Nat.mul_comm]
    simpa using this
  have ha : ∀ (j : Nat) (h5 : j < 5) (h : j < accL.length), accL[j].1 = accLo j ∧ accL[j].2 = accHi j := by
    intro j h5 h
    match j, h5, h with
    | 0, _, _ => exact ⟨rfl, rfl⟩
    | 1, _, _ => exact ⟨rfl, rfl⟩
    | 2, _, _ => exact ⟨rfl, rfl⟩
    | 3, _, _ => exact ⟨rfl, rfl⟩
    | 4, _, _ => exact ⟨rfl, rfl⟩
  obtain ⟨x0, x1⟩ := ha i hi hi16
  rw [q0, q1, ← h1a, ← h1b, x0, x1]
  exact ⟨rfl, rfl⟩

theorem w00 : ((begin Tryd.prog (fun _ _ => 0) default).world.heap[0]?).bind Obj.row? = some (#[.int .i64 0], 3) := by kernel_rfl
theorem w07 : ((begin Tryd.prog (fun _ _ => 0) default).world.heap[7]?).bind Obj.row? = some (Array.replicate 64 (.int .u8 0), 176) := by kernel_rfl
theorem gsz : Tryd.prog.globals.size = 8 := by kernel_rfl
set_option maxRecDepth 100000 in
theorem of_shaped {W : World} (h : W.ShapedOpen Tryd.prog) : (∃ m, W.cell? ⟨0, 0, none⟩ = some (.int .i64 m)) ∧ 8 ≤ W.heap.size := by
  obtain ⟨h1, _⟩ := h
  constructor
  · obtain ⟨cs, hc, hz, hr⟩ := h1 0 _ _ (by rw [gsz]; decide) w00
    obtain ⟨ts, ht, _, hv⟩ := hr (by kernel_rfl)
    have e : Tryd.prog.cellTypes Tryd.prog.depth 3 = some [3] := by kernel_rfl
    obtain rfl := Option.some.inj (e.symm.trans ht)
    have h0 : cs[0]? = some (cs[0]'(by rw [hz]; decide)) := Array.getElem?_eq_getElem _
    obtain ⟨u, hu, hok⟩ := hv 0 _ h0
    have : u = 3 := by simpa using hu.symm
    subst this
    revert hok h0
    generalize cs[0]'(by rw [hz]; decide) = v
    intro h0 hok
    unfold Cell.ok at hok
    have e3 : Tryd.prog.underlying 3 = some (.int .i64) := Tryd.underlying3
    rw [e3] at hok
    match v, hok, h0 with
    | .int k n, hok, h0 =>
      refine ⟨n, ?_⟩
      obtain ⟨rfl, _⟩ := hok
      simp [World.cell?, hc, h0]
  · obtain ⟨cs, hc, _⟩ := h1 7 _ _ (by rw [gsz]; decide) w07
    have := (Array.getElem?_eq_some_iff.1 hc).1
    omega

set_option maxRecDepth 100000 in
theorem of_laid {W : World} (hS : W.ShapedOpen Tryd.prog) (h : laidMetH Tryd.prog LD W) : Tab W := by
  rw [MakeChecks.laidMetH_plain _ _ _ (by kernel_rfl)] at h
  obtain ⟨hmax, hsz⟩ := of_shaped hS
  obtain ⟨ps, hl, _, _⟩ := h
  unfold LD at hl
  obtain ⟨_, _, _, _, _, _, _, _, _, _, hl, _⟩ := hl
  obtain ⟨_, _, _, _, _, _, _, _, _, _, hl, _⟩ := hl
  obtain ⟨gp, tp, cp, fp, pp, qp, hgp, htp, hvp, hdp, hl, _⟩ := hl
  obtain ⟨ga, ta, ca, fa, pa, qa, hga, hta, hva, hda, hl, _⟩ := hl
  obtain ⟨gr, tr, cr, fr, pr, qr, hgr, htr, hvr, hdr, hl, _⟩ := hl
  obtain ⟨gs, ts, cs, fs, ps', qs, hgs, hts, hvs, hds, hl, _⟩ := hl
  obtain ⟨gf, tf, cf, ff, pf, qf, hgf, htf, hvf, hdf, hl, _⟩ := hl
  obtain rfl := Option.some.inj (g5.symm.trans hgp)
  obtain rfl := Option.some.inj (t5.symm.trans htp)
  obtain rfl := Option.some.inj (g2.symm.trans hga)
  obtain rfl := Option.some.inj (t2.symm.trans hta)
  obtain rfl := Option.some.inj (g4.symm.trans hgr)
  obtain rfl := Option.some.inj (t4.symm.trans htr)
  obtain rfl := Option.some.inj (g3.symm.trans hgs)
  obtain rfl := Option.some.inj (t3.symm.trans hts)
  obtain rfl := Option.some.inj (g1.symm.trans hgf)
  obtain rfl := Option.some.inj (t1.symm.trans htf)
  rw [pow_eq] at hdp
  rw [acc_eq] at hda
  rw [first_eq] at hdf
  refine ⟨fun i hi => ?_, fun i hi => ?_, fun i hi => ?_, hmax, ?_, ?_, hsz⟩
  · have := arr_cells Tryd.underlying153 Tryd.underlying5 ce5 first_len hdf i hi
    rw [World.var?_cell hgf hvf i, ← Array.getElem?_toList, this]
    have := List.all_eq_true.1 first_get i (List.mem_range.2 hi)
    rw [eq_of_beq this]
  · have := acc_cells hda i hi
    rw [World.var?_cell hga hva, World.var?_cell hga hva, ← Array.getElem?_toList, ← Array.getElem?_toList]
    exact this
  · have := arr_cells Tryd.underlying167 Tryd.underlying63 ce63 (show powL.length = 20 from rfl) hdp i hi
    rw [World.var?_cell hgp hvp i, ← Array.getElem?_toList, this]
    have := List.all_eq_true.1 pow_get i (List.mem_range.2 hi)
    rw [eq_of_beq this]
  · obtain ⟨t, a, e⟩ := err_cell hds
    refine ⟨t, a, ?_⟩
    rw [World.var?_cell hgs hvs 0, ← Array.getElem?_toList, e]
    rfl
  · obtain ⟨t, a, e⟩ := err_cell hdr
    refine ⟨t, a, ?_⟩
    rw [World.var?_cell hgr hvr 0, ← Array.getElem?_toList, e]
    rfl

/-- As the kit's returnsInHanded_of_change_and, but the world's shape is kept for the walk. -/
theorem returnsShaped {H : Type} {enc : TypeId × Value → H} {a : Assume} {C : Checked} {os : Os} {f : FuncId} {fn : Func} {s : ChangeSpec} {conds : List PathCond} {apart fresh handsOn again : Bool} {X : World → Array Value → Prop}
    (hX : ∀ (w w' : World) (args : Array Value), w.heap = w'.heap → X w args → X w' args)
    (own : ownKnob C.prog.godebug = none) (started : os.Started) (noInit : C.prog.inits.idxOf? f = none) (hfn : C.prog.funcs[f]? = some fn)
    (witness : ∃ (w : World) (tape : Tape) (i : Input), w.os = os ∧ (w.forCall tape i).Shaped C.prog ∧ i.vars = [] ∧ Input.okWide C.prog (w.forCall tape i) .any w.heap.size f i ∧
      ((s.pre enc C.prog fn conds apart (w.forCall tape i).memory i.args ∧ X (w.forCall tape i).memory i.args) ∧ sizedMet enc C.prog fn (OpenSpec.ofChange s) apart (w.forCall tape i).memory i.args) ∧ a.holds C.prog (lone (Frame.enter C.prog f i.args .normal) [] (w.forCall tape i)))
    (contract : ∀ (W : World) (base : Nat) (args : Array Value) (ds gs : List (DataW H)) (before : List MemPlace), W.ShapedOpen C.prog →
      (∀ (j : Nat) t v, fn.params[j]? = some t → args[j]? = some v → Value.okWide C.prog W .any base t v) →
      DataW.Whole enc C.prog fn.params.toList s.vars apart W args.toList ds gs before →
      (DataW.weightsEach C.prog (fn.params.toList ++ s.plain.varTypes C.prog) (ds ++ gs)).all (· ≤ reachBytes) = true → X W args →
      Calls C.prog f args W fun e W' => ∃ v, e = .returned v ∧ s.post enc C.prog fn apart fresh handsOn again W args v W') :
    ReturnsInHanded a C os f .any (fun w args => (s.pre enc C.prog fn conds apart w args ∧ X w args) ∧ sizedMet enc C.prog fn (OpenSpec.ofChange s) apart w args) (s.post enc C.prog fn apart fresh handsOn again) := by
  refine returnsInHanded_of_calls own started noInit witness ?_
  intro w tape i _ hS _ hok hpre hholds
  obtain ⟨_, _, _, fn', hfn', _, _, _, _, hval⟩ := hok
  obtain rfl : fn' = fn := Option.some.inj (hfn'.symm.trans hfn)
  obtain ⟨⟨⟨ds, gs, before, hw, _⟩, hx⟩, hz⟩ := hpre
  have hw' := DataW.Whole.of_heap (w' := w.forCall tape i) (by rfl) hw
  refine (contract (w.forCall tape i) w.heap.size i.args ds gs before hS hval hw' (hz.weights hw) (hX _ _ _ (by rfl) hx)).mono fun e W' ⟨v, he, hp⟩ => ?_
  subst he
  exact ChangeSpec.post_blind hp

end Go.Proofs.YtphokckbcmiddaaDoor
