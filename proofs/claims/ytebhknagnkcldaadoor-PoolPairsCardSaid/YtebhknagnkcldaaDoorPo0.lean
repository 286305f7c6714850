/- The table that the program keeps: what it holds. -/
import Derived.Test.YtebhknagnkcldaaDoorRows
import Derived.Test.YtebhknagnkcldaaDoorFl
import Derived.Test.YtebhknagnkcldaaDoorFn
import Derived.ProofKit
import Derived.LaidMore
import Derived.OpenShut
import Derived.Stop.Joined
namespace Go.Proofs.YtebhknagnkcldaaDoor
open Go Go.Ev Go.RowKit
open Go.Proofs
open Go.ChangeShapes Go.WideShapes Go.ChangeAt Go.WideMaps Go.WideElems

def LD {H : Type} : List (String × DataW H) := [("math/bits.deBruijn64tab", Rows.laid_math_bits_deBruijn64tab)]
def tab : List Int := [0, 1, 56, 2, 57, 49, 28, 3, 61, 58, 42, 50, 38, 29, 17, 4, 62, 47, 59, 36, 45, 43, 51, 22, 53, 39, 33, 30, 24, 18, 12, 5, 63, 55, 48, 27, 60, 41, 37, 16, 46, 35, 44, 21, 52, 32, 23, 11, 54, 26, 40, 15, 34, 20, 31, 10, 25, 14, 19, 9, 13, 8, 7, 6]
theorem gTab : Tryd.prog.globalNamed "math/bits.deBruijn64tab" = some 0 := by kernel_rfl
theorem tTab : (Tryd.prog.globals[0]?).map (·.type) = some 63 := by kernel_rfl

theorem door_met (os : Os) (args : Array Value) : laidMetH Tryd.prog LD ((World.doorLaid Tryd.prog 400 os).forCall (fun _ _ => 0) ⟨#[], args, []⟩).memory :=
  laidMetH_of_parts3 (fuel := 8) (laidMet_of_run' 8 (by kernel_rfl) (by kernel_rfl)) (by kernel_rfl) (by kernel_rfl)

/-- The table is there. -/
def Tab (w : World) : Prop := ∀ i : Nat, i < 64 → w.cell? ⟨0, i, none⟩ = some (.int .u8 (tab.getD i 0))

theorem of_laid {W : World} (h : laidMetH Tryd.prog LD W) : Tab W := by
  rw [MakeChecks.laidMetH_plain _ _ _ (by kernel_rfl)] at h
  obtain ⟨ps, ⟨g0, t0, cs0, f0, p0, q0, hg0, ht0, hv0, hd0, _, _⟩, _, _⟩ := h
  obtain rfl := Option.some.inj (gTab.symm.trans hg0)
  obtain rfl := Option.some.inj (tTab.symm.trans ht0)
  obtain ⟨xs, m1, rfl, hx1, hlen, hn3, hel⟩ := DataW.trod_array Tryd.underlying63 hd0
  intro i hi
  have c5 : Tryd.prog.cellsOf 5 = 1 := by kernel_rfl
  have h0 := hel i hi
  rw [c5, Nat.mul_one] at h0
  have hl : tab.map (fun k => (DataW.lit (.int .u8 k) : DataW Unit)) = xs.map (·.1) := by
    have := congrArg Prod.fst hx1
    injection this
  have hx : xs[i]? = some (xs[i]'(by rw [hn3]; exact hi)) := List.getElem?_eq_getElem _
  rw [hx] at h0
  obtain ⟨k, e1, e2, _⟩ := DataW.trod_int Tryd.underlying5 h0
  have hk : some k = tab[i]? := by
    have h1 : (tab.map (fun k => (DataW.lit (.int .u8 k) : DataW Unit)))[i]? = some (xs[i]'(by rw [hn3]; exact hi)).1 := by
      rw [hl, List.getElem?_map, hx]; rfl
    rw [List.getElem?_map] at h1
    cases ht : tab[i]? with
    | none => rw [ht] at h1; cases h1
    | some m =>
      rw [ht] at h1
      injection h1 with h1
      rw [e2] at h1
      injection h1 with h1
      injection h1 with _ h1
      rw [h1]
  have hd : tab.getD i 0 = k := by
    rw [List.getD_eq_getElem?_getD, ← hk]; rfl
  rw [hd]
  have hc : cs0[i]? = some (.int .u8 k) := by
    have h1 : ((cs0.toList.drop i).take 1)[0]? = some (.int .u8 k) := by rw [e1]; rfl
    rw [List.getElem?_take_of_lt (by omega), List.getElem?_drop, Nat.add_zero, Array.getElem?_toList] at h1
    exact h1
  have := World.var?_cell hg0 hv0 i
  rw [hc] at this
  exact this
end Go.Proofs.YtebhknagnkcldaaDoor
