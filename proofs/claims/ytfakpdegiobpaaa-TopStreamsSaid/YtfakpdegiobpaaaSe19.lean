/- Numbers as offsets from a first one: what Map and Unmap are there. -/
import Derived.Test.YtfakpdegiobpaaaSe18
namespace Go.Proofs.Ytfakpdegiobpaaa
open Go Go.Ev Go.RowKit
open Go.Proofs

/-- A part: its place, how long it was, how long it is. -/
structure Z3 where
  x : Int
  was : Int
  is : Int
def dif : List Z3 → Int
  | [] => 0
  | p :: l => dif l + (p.is - p.was)
/-- Map; the last part is the first of the list. -/
def mapZ : List Z3 → Int → Int
  | [], y => y
  | p :: l, y => if p.x ≤ y then (if y < p.x + p.was then p.x + dif l else y + dif (p :: l)) else mapZ l y
def unmapZ : List Z3 → Int → Int
  | [], z => z
  | p :: l, z => if p.x + dif l ≤ z then (if z < p.x + dif l + p.is then p.x else z - dif (p :: l)) else unmapZ l z
/-- Parts that lie one behind the other, all ahead of e. -/
def Row : Int → List Z3 → Prop
  | _, [] => True
  | e, p :: l => 1 ≤ p.was ∧ p.was ≤ 128 ∧ 1 ≤ p.is ∧ p.is ≤ 128 ∧ p.x + p.was ≤ e ∧ Row p.x l
def Out (l : List Z3) (y : Int) : Prop := ∀ p ∈ l, ¬ (p.x < y ∧ y < p.x + p.was)

theorem Row.mono : ∀ {e e' : Int} {l : List Z3}, Row e l → e ≤ e' → Row e' l
  | _, _, [], _, _ => trivial
  | _, _, _ :: _, ⟨a, b, c, d, h, r⟩, he => ⟨a, b, c, d, by omega, r⟩
theorem map_below : ∀ {e y : Int} {l : List Z3}, Row e l → y < e → mapZ l y < e + dif l
  | e, y, [], _, h => by simp only [mapZ, dif]; omega
  | e, y, p :: l, ⟨a, b, c, d, hp, r⟩, h => by
    simp only [mapZ, dif]
    by_cases h1 : p.x ≤ y
    · rw [if_pos h1]
      by_cases h2 : y < p.x + p.was
      · rw [if_pos h2]; omega
      · rw [if_neg h2]; omega
    · rw [if_neg h1]
      have := map_below r (show y < p.x by omega)
      omega
theorem map_above {e y : Int} : ∀ {l : List Z3}, Row e l → e ≤ y → mapZ l y = y + dif l
  | [], _, _ => by simp only [mapZ, dif]; omega
  | p :: l, ⟨a, b, c, d, hp, r⟩, h => by
    simp only [mapZ]
    rw [if_pos (by omega), if_neg (by omega)]
theorem map_least : ∀ {e y : Int} {l : List Z3}, Row e l → e ≤ y → e + dif l ≤ mapZ l y := by
  intro e y l h hy
  rw [map_above h hy]
  omega
theorem map_mono : ∀ {e y y' : Int} {l : List Z3}, Row e l → y ≤ y' → mapZ l y ≤ mapZ l y'
  | _, y, y', [], _, h => by simp only [mapZ]; omega
  | e, y, y', p :: l, ⟨a, b, c, d, hp, r⟩, h => by
    by_cases h1 : p.x ≤ y
    · simp only [mapZ, dif]
      rw [if_pos h1, if_pos (show p.x ≤ y' by omega)]
      by_cases h2 : y < p.x + p.was
      · rw [if_pos h2]
        by_cases h3 : y' < p.x + p.was
        · rw [if_pos h3]; omega
        · rw [if_neg h3]; omega
      · rw [if_neg h2, if_neg (by omega)]; omega
    · by_cases h2 : p.x ≤ y'
      · have := map_below r (show y < p.x by omega)
        simp only [mapZ, dif]
        rw [if_neg h1, if_pos h2]
        by_cases h3 : y' < p.x + p.was
        · rw [if_pos h3]; omega
        · rw [if_neg h3]; omega
      · simp only [mapZ]
        rw [if_neg h1, if_neg h2]
        exact map_mono r h
theorem map_strict : ∀ {e y y' : Int} {l : List Z3}, Row e l → y < y' → Out l y' → mapZ l y < mapZ l y'
  | _, y, y', [], _, h, _ => by simp only [mapZ]; omega
  | e, y, y', p :: l, ⟨a, b, c, d, hp, r⟩, h, ho => by
    have hpo := ho p (by simp)
    by_cases h1 : p.x ≤ y
    · simp only [mapZ, dif]
      have h3 : ¬ y' < p.x + p.was := fun h3 => hpo ⟨by omega, h3⟩
      rw [if_pos h1, if_pos (show p.x ≤ y' by omega), if_neg h3]
      by_cases h2 : y < p.x + p.was
      · rw [if_pos h2]; omega
      · rw [if_neg h2]; omega
    · by_cases h2 : p.x ≤ y'
      · have := map_below r (show y < p.x by omega)
        simp only [mapZ, dif]
        rw [if_neg h1, if_pos h2]
        by_cases h3 : y' < p.x + p.was
        · rw [if_pos h3]; omega
        · rw [if_neg h3]; omega
      · simp only [mapZ]
        rw [if_neg h1, if_neg h2]
        exact map_strict r h fun q hq => ho q (by simp [hq])
theorem map_back : ∀ {e y : Int} {l : List Z3}, Row e l → Out l y → unmapZ l (mapZ l y) = y
  | _, y, [], _, _ => rfl
  | e, y, p :: l, ⟨a, b, c, d, hp, r⟩, ho => by
    have hpo := ho p (by simp)
    by_cases h1 : p.x ≤ y
    · by_cases h2 : y < p.x + p.was
      · have : y = p.x := by
          have : ¬ p.x < y := fun h => hpo ⟨h, h2⟩
          omega
        subst this
        have e1 : mapZ (p :: l) p.x = p.x + dif l := by
          simp only [mapZ]
          rw [if_pos (Int.le_refl _), if_pos h2]
        rw [e1]
        simp only [unmapZ]
        rw [if_pos (Int.le_refl _), if_pos (by omega)]
      · have e1 : mapZ (p :: l) y = y + (dif l + (p.is - p.was)) := by
          simp only [mapZ, dif]
          rw [if_pos h1, if_neg h2]
        rw [e1]
        simp only [unmapZ, dif]
        rw [if_pos (by omega), if_neg (by omega)]
        omega
    · have := map_below r (show y < p.x by omega)
      have e1 : mapZ (p :: l) y = mapZ l y := by
        simp only [mapZ]
        rw [if_neg h1]
      rw [e1]
      simp only [unmapZ]
      rw [if_neg (by omega)]
      exact map_back r fun q hq => ho q (by simp [hq])
theorem unmap_above {e z : Int} : ∀ {l : List Z3}, Row e l → e + dif l ≤ z → unmapZ l z = z - dif l
  | [], _, _ => by simp only [unmapZ, dif]; omega
  | p :: l, ⟨a, b, c, d, hp, r⟩, h => by
    simp only [dif] at h
    simp only [unmapZ]
    rw [if_pos (by omega), if_neg (by omega)]
theorem dif_small : ∀ {e : Int} {l : List Z3}, Row e l → -(128 * l.length) ≤ dif l ∧ dif l ≤ 128 * l.length
  | _, [], _ => by simp [dif]
  | e, p :: l, ⟨a, b, c, d, hp, r⟩ => by
    have := dif_small r
    simp only [dif, List.length_cons]
    omega

/-! ## Of the parts of a stream -/

def zOf (B : Int) (p : M) : Z3 := ⟨aheadM p.start B, p.was, p.bs.length⟩

theorem ahead_of {a b B x y : Int} (ha : a % 4294967296 = (B + x) % 4294967296) (hb : b % 4294967296 = (B + y) % 4294967296) (h1 : -2147483648 ≤ x - y) (h2 : x - y < 2147483648) : aheadM a b = x - y := by
  unfold aheadM
  omega
theorem ahead_start {s B : Int} : s % 4294967296 = (B + aheadM s B) % 4294967296 := by
  unfold aheadM
  omega

theorem diff_z (B : Int) : ∀ rl : List M, diffOf 0 rl.reverse % 4294967296 = dif (rl.map (zOf B)) % 4294967296 ∧ (rl ≠ [] → 0 ≤ diffOf 0 rl.reverse ∧ diffOf 0 rl.reverse < 4294967296)
  | [] => ⟨rfl, fun h => absurd rfl h⟩
  | p :: rl => by
    have h := (diff_z B rl).1
    rw [List.reverse_cons, diff_add]
    simp only [List.map_cons, dif, zOf, M.more]
    exact ⟨by omega, fun _ => by omega⟩

/-- How far parts may lie. -/
def Close (B : Int) (l : List M) : Prop := ∀ p ∈ l, 0 ≤ aheadM p.start B ∧ aheadM p.start B ≤ 536870912

theorem cells_rev (p : M) (rl : List M) : (cellsOf 0 (p :: rl).reverse).reverse = ⟨p.start, p.end_, diffOf 0 rl.reverse, p.more (diffOf 0 rl.reverse), p.bs⟩ :: (cellsOf 0 rl.reverse).reverse := by
  rw [List.reverse_cons, cells_add, List.reverse_append]
  rfl

theorem map_z {B n y : Int} (hn0 : 0 ≤ n) (hn1 : n < 4294967296) (hn : n = (B + y) % 4294967296) (h1 : -1073751824 < y) (h2 : y < 1073751824) : ∀ (rl : List M) (_ : Close B rl) (_ : Fine rl) (e : Int) (_ : Row e (rl.map (zOf B))) (_ : rl.length ≤ 8), mapC n (cellsOf 0 rl.reverse) = (B + mapZ (rl.map (zOf B)) y) % 4294967296
  | [], _, _, _, _, _ => by
    simp only [mapC, mapZ, List.map_nil, List.reverse_nil, cellsOf, List.find?_nil]
    exact hn
  | p :: rl, hc, hf, e, hr, hl => by
    obtain ⟨g1, g2⟩ := hc p (by simp)
    obtain ⟨f1, f2, f3, f4, f5, f6⟩ := hf p (by simp)
    have hd := (diff_z B rl).1
    obtain ⟨r1, r2, r3, r4, r5, r6⟩ := hr
    obtain ⟨d1, d2⟩ := dif_small r6
    rw [List.length_map] at d1 d2
    simp only [List.length_cons] at hl
    have ih := map_z hn0 hn1 hn h1 h2 rl (fun q hq => hc q (by simp [hq])) (fun q hq => hf q (by simp [hq])) _ r6 (by omega)
    have hs : p.start % 4294967296 = (B + aheadM p.start B) % 4294967296 := ahead_start
    have a1 : aheadM p.start n = aheadM p.start B - y := ahead_of (B := B) (y := y) hs (by omega) (by omega) (by omega)
    have a2 : aheadM p.end_ n = aheadM p.start B + p.was - y := by
      refine ahead_of (B := B) (x := aheadM p.start B + p.was) (y := y) ?_ (by omega) (by omega) (by omega)
      unfold M.end_
      omega
    unfold mapC at ih ⊢
    rw [cells_rev, List.find?_cons]
    simp only [mapZ, List.map_cons, dif]
    have e1 : (zOf B p).x = aheadM p.start B := rfl
    have e2 : (zOf B p).was = p.was := rfl
    have e3 : (zOf B p).is = p.bs.length := rfl
    rw [e1, e2, e3]
    unfold mapP
    rw [a1]
    by_cases c1 : aheadM p.start B ≤ y
    · rw [if_pos c1, decide_eq_true (by omega)]
      unfold mapV
      simp only
      rw [a2]
      by_cases c2 : y < aheadM p.start B + p.was
      · rw [if_pos c2, if_pos (by omega)]
        omega
      · rw [if_neg c2, if_neg (by omega)]
        unfold M.more
        omega
    · rw [if_neg c1, decide_eq_false (by omega)]
      exact ih

theorem unmap_z {B n y : Int} (hn0 : 0 ≤ n) (hn1 : n < 4294967296) (hn : n = (B + y) % 4294967296) (h1 : -1073751824 < y) (h2 : y < 1073751824) : ∀ (rl : List M) (_ : Close B rl) (_ : Fine rl) (e : Int) (_ : Row e (rl.map (zOf B))) (_ : rl.length ≤ 8), unmapC n (cellsOf 0 rl.reverse) = (B + unmapZ (rl.map (zOf B)) y) % 4294967296
  | [], _, _, _, _, _ => by
    simp only [unmapC, unmapZ, List.map_nil, List.reverse_nil, cellsOf, List.find?_nil]
    exact hn
  | p :: rl, hc, hf, e, hr, hl => by
    obtain ⟨g1, g2⟩ := hc p (by simp)
    obtain ⟨f1, f2, f3, f4, f5, f6⟩ := hf p (by simp)
    have hd := (diff_z B rl).1
    obtain ⟨r1, r2, r3, r4, r5, r6⟩ := hr
    obtain ⟨d1, d2⟩ := dif_small r6
    rw [List.length_map] at d1 d2
    simp only [List.length_cons] at hl
    have ih := unmap_z hn0 hn1 hn h1 h2 rl (fun q hq => hc q (by simp [hq])) (fun q hq => hf q (by simp [hq])) _ r6 (by omega)
    have hs : p.start % 4294967296 = (B + aheadM p.start B) % 4294967296 := ahead_start
    have a1 : aheadM ((p.start + diffOf 0 rl.reverse) % 4294967296) n = aheadM p.start B + dif (rl.map (zOf B)) - y := ahead_of (B := B) (x := aheadM p.start B + dif (rl.map (zOf B))) (y := y) (by omega) (by omega) (by omega) (by omega)
    have a2 : aheadM ((p.start + diffOf 0 rl.reverse + p.bs.length) % 4294967296) n = aheadM p.start B + dif (rl.map (zOf B)) + p.bs.length - y := ahead_of (B := B) (x := aheadM p.start B + dif (rl.map (zOf B)) + p.bs.length) (y := y) (by omega) (by omega) (by omega) (by omega)
    unfold unmapC at ih ⊢
    rw [cells_rev, List.find?_cons]
    simp only [unmapZ, List.map_cons, dif]
    have e1 : (zOf B p).x = aheadM p.start B := rfl
    have e2 : (zOf B p).was = p.was := rfl
    have e3 : (zOf B p).is = p.bs.length := rfl
    rw [e1, e2, e3]
    unfold unmapP
    simp only
    rw [a1]
    by_cases c1 : aheadM p.start B + dif (rl.map (zOf B)) ≤ y
    · rw [if_pos c1, decide_eq_true (by omega)]
      unfold unmapV
      simp only
      rw [a2]
      by_cases c2 : y < aheadM p.start B + dif (rl.map (zOf B)) + p.bs.length
      · rw [if_pos c2, if_pos (by omega)]
        omega
      · rw [if_neg c2, if_neg (by omega)]
        unfold M.more
        omega
    · rw [if_neg c1, decide_eq_false (by omega)]
      exact ih

end Go.Proofs.Ytfakpdegiobpaaa
