/- The reference's rows of numbers. -/
import Derived.Test.YtphokckbcmiddaaDoorMFt37
namespace Go.Proofs.YtphokckbcmiddaaDoor
open Go Go.Ev Go.RowKit
open Go.Proofs

theorem up13 {c : Int} (h : Ftp.up c = 13 ∨ Ftp.up c = 10) : c = 13 ∨ c = 10 := by
  unfold Ftp.up at h
  split at h <;> omega
theorem eat_crlf {t r : List Int} (ht : ∀ c ∈ t, c ≠ 13 ∧ c ≠ 10) : Ftp.eatS t (r ++ [13, 10]) = (Ftp.eatS t r).map (· ++ [13, 10]) := by
  apply Option.ext
  intro x
  rw [Option.map_eq_some_iff]
  constructor
  · intro h
    obtain ⟨p, e, hp⟩ := Ftp.eatS_iff.1 h
    have hno : ∀ c ∈ p, c ≠ 13 ∧ c ≠ 10 := by
      intro c hc
      have hu : Ftp.up c ∈ t := by rw [← hp]; exact List.mem_map_of_mem hc
      have := ht _ hu
      constructor
      · intro h; subst h; exact this.1 rfl
      · intro h; subst h; exact this.2 rfl
    rcases List.append_eq_append_iff.1 e with ⟨a, e1, e2⟩ | ⟨a, e1, e2⟩
    · cases a with
      | nil => exact ⟨[], Ftp.eatS_iff.2 ⟨p, by simpa using e1.symm, hp⟩, by simpa using e2⟩
      | cons y a =>
        injection e2 with e2 _
        subst e2
        exact absurd rfl (hno 13 (by rw [e1]; simp)).1
    · exact ⟨a, Ftp.eatS_iff.2 ⟨p, e1, hp⟩, e2.symm⟩
  · rintro ⟨y, h, rfl⟩
    obtain ⟨p, e, hp⟩ := Ftp.eatS_iff.1 h
    exact Ftp.eatS_iff.2 ⟨p, by rw [e, List.append_assoc], hp⟩
theorem num_crlf {most : Int} {r : List Int} : Ftp.numS most (r ++ [13, 10]) = (Ftp.numS most r).map (fun y => (y.1, y.2 ++ [13, 10])) := by
  have hd := Ftp.takeWhile_all (p := Ftp.dig) r
  have hs := List.takeWhile_append_dropWhile (p := Ftp.dig) (l := r)
  have hh := List.head?_dropWhile_not Ftp.dig r
  have key := Ftp.takeWhile_app (p := Ftp.dig) (l := r.takeWhile Ftp.dig) (m := r.dropWhile Ftp.dig ++ [13, 10]) hd (by
    intro c hc
    cases hm : r.dropWhile Ftp.dig with
    | nil => rw [hm] at hc; injection hc with hc; subst hc; rfl
    | cons y m =>
      rw [hm] at hc hh
      injection hc with hc
      subst hc
      simpa using hh)
  rw [← List.append_assoc, hs] at key
  unfold Ftp.numS
  rw [key.1, key.2]
  by_cases h0 : r.takeWhile Ftp.dig = []
  · rw [if_pos (.inl h0), if_pos (.inl h0)]
    rfl
  have hne : r ≠ [] := fun h => h0 (by rw [h]; rfl)
  have hhd : (r ++ [13, 10]).head? = r.head? := by cases r with
    | nil => exact absurd rfl hne
    | cons => rfl
  rw [hhd]
  split <;> rfl
theorem has_eat (t r : List Int) : hasS t r = (Ftp.eatS t r).isSome := by
  unfold hasS Ftp.eatS
  by_cases h : (r.take t.length).map Ftp.up = t
  · rw [decide_eq_true h, if_pos h]; rfl
  · rw [decide_eq_false h, if_neg h]; rfl

theorem drop_crlf {b : List Int} {p : Nat} (hp : p ≤ b.length) : (b ++ [13, 10]).drop p = b.drop p ++ [13, 10] := List.drop_append_of_le_length hp
theorem suf_drop {b r : List Int} (h : r <:+ b) : b.drop (b.length - r.length) = r := (List.suffix_iff_eq_drop.1 h).symm

section
variable {w : World} {s : Value} {b : List Int} (hs : Vw w s (b ++ [13, 10])) (hl : okB (b ++ [13, 10])) (hb8 : b.length ≤ 900)
include hs hl hb8
theorem k27b {t : List Int} {p : Nat} (hp : p ≤ b.length) (ht : ∀ c ∈ t, c ≠ 13 ∧ c ≠ 10) (hto : okB t) (htl : t.length ≤ 100) :
    Brings (Xcall Tryd.prog (Value.func (Fn.func 27) #[] #[]) #[s, .int .i64 (p : Int), .string (strOfNums t)] w) (fun r => r = (.bool (Ftp.eatS t (b.drop p)).isSome, w)) := by
  have := k27 hs hl hto (p := p) (by simp; omega) (by simp; omega) htl
  rw [drop_crlf hp, has_eat, eat_crlf ht, Option.isSome_map] at this
  exact this
theorem k31b {most : Int} {p : Nat} (hp : p ≤ b.length) (hm : 0 ≤ most ∧ most ≤ 65535) :
    Brings (Xcall Tryd.prog (Value.func (Fn.func 31) #[] #[]) #[s, .int .i64 (p : Int), .int .i64 most] w) (fun r => r = (numV2 p (Ftp.numS most (b.drop p)) b.length, w)) := by
  have := k31 hs hl (p := p) (by simp; omega) (by simp; omega) hm
  rw [drop_crlf hp, num_crlf] at this
  refine this.mono fun r h => ?_
  rw [h]
  cases Ftp.numS most (b.drop p) with
  | none => rfl
  | some y => simp [numV2]
end

theorem num_suf {most n : Int} {r r' : List Int} (h : Ftp.numS most r = some (n, r')) : r' <:+ r := by
  obtain ⟨_, _, e, _⟩ := Ftp.numS_iff.1 h
  exact ⟨_, e.symm⟩
theorem acc_suf {sep : Int} (hs : sep < 48) {i : Nat} {r r' l : List Int} (h : Ftp.accS sep i r = some (l, r')) : r' <:+ r := by
  obtain ⟨_, _, e, _⟩ := (Ftp.accS_iff hs).1 h
  exact ⟨_, e.symm⟩
theorem acc_none {sep : Int} {r : List Int} : ∀ {j i : Nat}, j ≤ i → Ftp.accS sep j r = none → Ftp.accS sep i r = none
  | j, 0, h, e => by obtain rfl : j = 0 := by omega
                     exact e
  | j, i + 1, h, e => by
    rcases Nat.lt_or_ge i j with h1 | h1
    · obtain rfl : j = i + 1 := by omega
      exact e
    · rw [Ftp.accS, acc_none h1 e]; rfl

theorem t99 : NumTy Tryd.prog 99 3 .i64 := ⟨by kernel_rfl, by kernel_rfl, ⟨(Tryd.prog.info? 3).get (by kernel_rfl), by kernel_rfl, by kernel_rfl, by kernel_rfl, by decide +kernel⟩, by kernel_rfl, fun _ _ => by kernel_rfl, fun _ => by kernel_rfl⟩

end Go.Proofs.YtphokckbcmiddaaDoor
