/- Appending to a slice of one's own. -/
import Derived.Test.YtcibkmahibnjeaaFf
namespace Go.Ev
open Go Go.RowKit

section app
variable {P : Program} {t e : TypeId} {w : World}

theorem append_own {i : TypeInfo} {z : Value} {ty : TypeId} {size bytes : Nat} (ht : P.underlying t = some (.slice e)) (hi : P.info? e = some i) (hz : i.zero = some z)
    (hsize : i.size = size) (hby : i.bytes = bytes) (hzs : z.cells.size = size) (hsz : 0 < size)
    {v : Value} {n : Nat} {xs : List Value} (hown : w.ownsRow 0 e size v n xs)
    {a : Addr} {m c : Nat} {news : List Value} (hl : news.length = m * size) (hnews : ∀ j u, news[j]? = some u → w.cell? (a.add j) = some u) (h1 : ∀ u ∈ news, u.oneCell' = true)
    (h63 : n + m ≤ maxLen) (hbytes : (n + m) * bytes ≤ 140737488355328) :
    ∃ v' w', (Builtin.append_ #[t, t] ty #[v, .slice (some a) m c]).run P w = .ok v' w' ∧ w'.ownsRow 0 e size v' (n + m) (xs ++ news) ∧ w.grownBy w' v.ownBlock ∧
      (∀ k, v'.ownBlock = some k → v.ownBlock = some k ∨ w.heap.size ≤ k) := by
  obtain ⟨v', w', hr, h2, h3, _⟩ := run_append_own (P := P) w 0 t ty e i z size bytes ht hi hz hsize hby hzs hsz v n xs hown a m c news hl hnews h1 h63 hbytes (Nat.zero_le _)
  refine ⟨v', w', hr, h2, h3, ?_⟩
  have h63' : n + m ≤ 9223372036854775807 := by simp only [maxLen] at h63; omega
  subst hsize
  subst hby
  rcases hown.2 with ⟨rfl, rfl⟩ | ⟨g, cap, cur, rfl, hbg, hg, hnc, hcm, hcs, htake⟩
  · obtain ⟨v2, w2, hr2, h22, _⟩ := run_append_own (P := P) w w.heap.size t ty e i z i.size i.bytes ht hi hz rfl rfl hzs hsz (.slice none 0 0) 0 xs ⟨hown.1, .inl ⟨rfl, rfl⟩⟩ a m c news hl hnews h1 h63 hbytes (Nat.le_refl _)
    rw [hr] at hr2
    injection hr2 with e1 e2
    subst e1 e2
    intro k hk
    exact .inr (h22.lt k hk).1
  · by_cases hroom : n + m ≤ cap
    · have hfit : n * i.size + news.length ≤ cur.size := by rw [hl, hcs, ← Nat.add_mul]; exact Nat.mul_le_mul_right _ hroom
      have hr2 := run_append_room (P := P) w t ty e i ht hi g n cap cur hg a m c news hl hnews h1 hroom hfit
      rw [hr] at hr2
      injection hr2 with e1 _
      subst e1
      exact fun k hk => .inl hk
    · have holds : ∀ j u, xs[j]? = some u → w.cell? ((⟨g, 0, none⟩ : Addr).add j) = some u := hown.cells (g := g) rfl
      have hr2 := run_append_grow (P := P) w t ty e i z ht hi hz ⟨g, 0, none⟩ n cap xs hown.1 holds a m c news hl hnews (by omega) (by omega) (growslice_fits (by omega) hbytes)
      rw [hr] at hr2
      injection hr2 with e1 _
      subst e1
      intro k hk
      simp only [Value.ownBlock, Option.some.injEq] at hk
      exact .inr (by omega)

theorem Xbi_append {ts : Array TypeId} {ty : TypeId} {args : Array Value} {v' : Value} {w' : World} (h : (Builtin.append_ ts ty args).run P w = .ok v' w') : Xbi P .append ts ty args w = some (v', w') := by
  unfold Xbi
  simp only [builtin, Sem.run_bind, h, Result.andThen_ok]
  rfl

/-- Elements are appended to a row of one's own. -/
theorem Xappend {α : Type} {f : α → List Value} {i : TypeInfo} {z : Value} {ty : TypeId} {size bytes : Nat} (ht : P.underlying t = some (.slice e)) (hi : P.info? e = some i) (hz : i.zero = some z)
    (hsize : i.size = size) (hby : i.bytes = bytes) (hzs : z.cells.size = size) (hsz : 0 < size) {v s : Value} {l m : List α} (hown : w.ownsRow 0 e size v l.length (l.flatMap f)) (hv : View f size w s m)
    (hf : ∀ y ∈ m, (f y).length = size) (h1 : ∀ y ∈ m, ∀ u ∈ f y, u.oneCell' = true) (hbytes : (l.length + m.length) * bytes ≤ 140737488355328) (h63 : l.length + m.length ≤ maxLen) :
    ∃ v' w', Xbi P .append #[t, t] ty #[v, s] w = some (v', w') ∧ w'.ownsRow 0 e size v' (l ++ m).length ((l ++ m).flatMap f) ∧ w.grownBy w' v.ownBlock ∧ (∀ k, v'.ownBlock = some k → v.ownBlock = some k ∨ w.heap.size ≤ k) := by
  rw [List.length_append, List.flatMap_append]
  obtain ⟨x, cap, rfl, hc1, hc2, hnil, hel⟩ := hv
  cases x with
  | none =>
    have hcap := hnil rfl
    have hm : m.length = 0 := by omega
    have : m = [] := List.length_eq_zero_iff.1 hm
    subst this
    subst hcap
    have hrun := run_append_owned_none (P := P) (w := w) 0 t ty e i size ht hi v l.length (l.flatMap f) hown
    exact ⟨v, w, Xbi_append hrun, by simpa using hown, ⟨rfl, rfl, rfl, Nat.le_refl _, fun _ _ _ => rfl⟩, fun k hk => .inl hk⟩
  | some a =>
    have hlen := flat_len m hf
    have hcells : ∀ j u, (m.flatMap f)[j]? = some u → w.cell? (a.add j) = some u := by
      intro j u hj
      rcases Nat.eq_zero_or_pos m.length with h0 | h0
      · have : m = [] := List.length_eq_zero_iff.1 h0
        subst this
        simp at hj
      · obtain ⟨a', cap', e1, h⟩ := View.cells (v := .slice (some a) m.length cap) (l := m) ⟨some a, cap, rfl, hc1, hc2, hnil, hel⟩ hf h0
        injection e1 with e1 _ _
        injection e1 with e1
        subst e1
        exact h j u hj
    obtain ⟨v', w', hr, h2, h3, h4⟩ := append_own (P := P) (ty := ty) ht hi hz hsize hby hzs hsz hown (a := a) (c := cap) hlen hcells (fun u hu => by
      obtain ⟨y, hy, hu⟩ := List.mem_flatMap.1 hu
      exact h1 y hy u hu) h63 hbytes
    exact ⟨v', w', Xbi_append hr, h2, h3, h4⟩

end app
end Go.Ev
