/- An action is read. Conditions: the reader's four cells, texts to a hundred thousand bytes. -/
import Derived.Test.YtejpmdlokmlmeaaLexD
import Derived.Test.YtejpmdlokmlmeaaMapB
set_option linter.unusedVariables false
set_option linter.unusedSimpArgs false
namespace Go.Proofs.Ytejpmdlokmlmeaa
open Go.RowKit

/-- What stands within so many braces, up to behind the one that closes the last: how many bytes; none: it does not end as it must. -/
def actN : Nat → Nat → List UInt8 → Option Nat
  | 0, _, _ => none
  | _ + 1, 0, _ => some 0
  | _ + 1, _ + 1, [] => none
  | f + 1, d + 1, c :: r =>
    if c = 123 then (actN f (d + 2) r).map (· + 1)
    else if c = 125 then (actN f d r).map (· + 1)
    else if c = 34 then (quoteN (r.length + 1) r).bind fun n => (actN f (d + 1) (r.drop n)).map (· + (n + 1))
    else if c = 47 ∧ r.head? = some 47 then (actN f (d + 1) ((c :: r).drop ((c :: r).takeWhile (· != 10)).length)).map (· + ((c :: r).takeWhile (· != 10)).length)
    else (actN f (d + 1) r).map (· + 1)
theorem actN_more : ∀ (f g d : Nat) (l : List UInt8), l.length < f → l.length < g → actN f d l = actN g d l := by
  intro f
  induction f with
  | zero => intro g d l h; omega
  | succ f ih =>
    intro g d l hf hg
    obtain ⟨g, rfl⟩ : ∃ k, g = k + 1 := ⟨g - 1, by omega⟩
    cases d with
    | zero => rfl
    | succ d =>
      cases l with
      | nil => rfl
      | cons c r =>
        simp only [List.length_cons] at hf hg
        simp only [actN]
        rw [ih g (d + 2) r (by omega) (by omega), ih g d r (by omega) (by omega), ih g (d + 1) r (by omega) (by omega)]
        have e1 : ∀ n, actN f (d + 1) (r.drop n) = actN g (d + 1) (r.drop n) := fun n => ih g _ _ (by simp; omega) (by simp; omega)
        simp only [e1]
        split
        · rfl
        · split
          · rfl
          · split
            · rfl
            · split
              · rename_i h
                have hp : 1 ≤ ((c :: r).takeWhile (· != 10)).length := by simp [h.1]
                rw [ih g (d + 1) _ (by simp; omega) (by simp; omega)]
              · rfl
/-- .. of a text, from a place on. -/
def actS (s : ByteArray) (d i : Nat) : Option Nat := actN (s.size + 1) d (s.data.toList.drop i)
theorem actS_of {s : ByteArray} {i d f : Nat} (h : (s.data.toList.drop i).length < f) : actN f d (s.data.toList.drop i) = actS s d i :=
  actN_more _ _ _ _ h (by simp; omega)
theorem actS_zero (s : ByteArray) (i : Nat) : actS s 0 i = some 0 := rfl
theorem actS_end {s : ByteArray} {d i : Nat} (h : s.size ≤ i) : actS s (d + 1) i = none := by
  have h' : s.data.toList.length ≤ i := by simpa using h
  unfold actS
  rw [List.drop_eq_nil_of_le h']
  rfl
theorem bAt_head {s : ByteArray} {i : Nat} : (s.data.toList.drop i).head? = some 47 ↔ bAt s i = 47 := by
  by_cases h : i < s.size
  · rw [drop_bAt h]; simp
  · rw [bAt_out (by omega), List.drop_eq_nil_of_le (by simp; omega)]
    simp
theorem actS_at {s : ByteArray} {d i : Nat} (h : i < s.size) : actS s (d + 1) i =
    if bAt s i = 123 then (actS s (d + 2) (i + 1)).map (· + 1)
    else if bAt s i = 125 then (actS s d (i + 1)).map (· + 1)
    else if bAt s i = 34 then (quoteS s (i + 1)).bind fun n => (actS s (d + 1) (i + 1 + n)).map (· + (n + 1))
    else if bAt s i = 47 then (actS s (d + 1) (i + slashN s i)).map (· + slashN s i)
    else (actS s (d + 1) (i + 1)).map (· + 1) := by
  have hl : ∀ j, (s.data.toList.drop j).length = s.size - j := by simp
  have hL : ((bAt s i :: s.data.toList.drop (i + 1)).takeWhile (· != 10)).length = lineN s i := by rw [← drop_bAt h]; rfl
  rw [actS, drop_bAt h, actN, hL, actS_of (by rw [hl]; omega), actS_of (by rw [hl]; omega), actS_of (by rw [hl]; omega), quoteS_of (by omega)]
  simp only [List.drop_drop, bAt_head]
  have e1 : ∀ n, actN s.size (d + 1) (s.data.toList.drop (i + 1 + n)) = actS s (d + 1) (i + 1 + n) := fun n => actS_of (by rw [hl]; omega)
  simp only [e1]
  rw [← drop_bAt h, List.drop_drop]
  by_cases h47 : bAt s i = 47
  · by_cases h48 : bAt s (i + 1) = 47
    · have hs : slashN s i = lineN s i := by simp [slashN, isCom, h47, h48]
      have hp : 1 ≤ lineN s i := by rw [lineN_go h (by rw [h47]; decide)]; omega
      rw [hs, actS_of (by rw [hl]; omega)]
      simp [h47, h48]
    · have hs : slashN s i = 1 := by simp [slashN, isCom, h47, h48]
      rw [hs]
      simp [h47, h48]
  · simp [h47]
theorem slashN_le (s : ByteArray) (i : Nat) (h : i < s.size) : i + slashN s i ≤ s.size := by
  unfold slashN
  split
  · exact lineN_le s i (by omega)
  · omega
theorem slashN_pos (s : ByteArray) (i : Nat) (h : i < s.size) (h47 : bAt s i = 47) : 1 ≤ slashN s i := by
  unfold slashN
  split
  · rw [lineN_go h (by rw [h47]; decide)]; omega
  · omega
theorem actS_le {s : ByteArray} : ∀ (m d i n : Nat), s.size - i = m → i ≤ s.size → actS s d i = some n → i + n ≤ s.size := by
  intro m
  induction m using Nat.strongRecOn with
  | _ m ih =>
    intro d i n hm hi hq
    cases d with
    | zero => rw [actS_zero] at hq; injection hq with hq; omega
    | succ d =>
      by_cases h : i < s.size
      · rw [actS_at h] at hq
        split at hq
        · obtain ⟨k, hk, rfl⟩ := Option.map_eq_some_iff.1 hq
          have := ih _ (by omega) _ _ _ rfl (by omega) hk; omega
        · split at hq
          · obtain ⟨k, hk, rfl⟩ := Option.map_eq_some_iff.1 hq
            have := ih _ (by omega) _ _ _ rfl (by omega) hk; omega
          · split at hq
            · obtain ⟨q, hq1, hq2⟩ := Option.bind_eq_some_iff.1 hq
              obtain ⟨k, hk, rfl⟩ := Option.map_eq_some_iff.1 hq2
              have := quoteS_le _ _ _ rfl hq1
              have := ih _ (by omega) _ _ _ rfl (by omega) hk; omega
            · split at hq
              · rename_i h47
                obtain ⟨k, hk, rfl⟩ := Option.map_eq_some_iff.1 hq
                have h1 := slashN_le s i h
                have h2 := slashN_pos s i h h47
                have := ih _ (by omega) _ _ _ rfl (by omega) hk; omega
              · obtain ⟨k, hk, rfl⟩ := Option.map_eq_some_iff.1 hq
                have := ih _ (by omega) _ _ _ rfl (by omega) hk; omega
      · rw [actS_end (by omega)] at hq
        exact absurd hq (by simp)
end Go.Proofs.Ytejpmdlokmlmeaa
