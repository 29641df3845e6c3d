/- A token is read: what it is. No condition. -/
import Derived.Test.YtejpmdlokmlmeaaLexF
import Derived.Test.YtejpmdlokmlmeaaShelf
set_option linter.unusedVariables false
set_option linter.unusedSimpArgs false
namespace Go.Proofs.Ytejpmdlokmlmeaa
open Go.RowKit

/-- A token: its kind, its text, its place. -/
structure Tk where
  kind : Nat
  text : ByteArray
  at_ : Nat
def Tk.cells (t : Tk) : List Value := [.int .u8 t.kind, .string t.text, .int .i64 t.at_]
def tkCells (l : List Tk) : List Value := l.flatMap Tk.cells
theorem tkCells_length (l : List Tk) : (tkCells l).length = l.length * 3 := by
  induction l with
  | nil => rfl
  | cons t l ih => simp [tkCells, Tk.cells] at *; omega
def wordsText : List UInt8 := [32, 116, 111, 107, 101, 110, 32, 116, 121, 112, 101, 32, 108, 101, 102, 116, 32, 114, 105, 103, 104, 116, 32, 110, 111, 110, 97, 115, 115, 111, 99, 32, 115, 116, 97, 114, 116, 32, 112, 114, 101, 99, 32]
def isWordT (t : ByteArray) : Bool := !t.data.toList.isEmpty && Lib.contains wordsText (32 :: t.data.toList ++ [32])
def signsText : List UInt8 := [58, 59, 124, 40, 41, 44, 60, 62]
/-- The token at a place and the place behind it; or the error. -/
def tokS (s : ByteArray) (i : Nat) : Except Int (Tk × Nat) :=
  if isLet (bAt s i) then (if 40 < nameN s i then .error 101 else .ok (⟨2, s.extract i (i + nameN s i), i⟩, i + nameN s i))
  else if bAt s i = 37 ∧ bAt s (i + 1) = 37 then .ok (⟨6, ⟨#[37, 37]⟩, i⟩, i + 2)
  else if bAt s i = 37 then (if isWordT (s.extract (i + 1) (i + 1 + nameN s (i + 1))) then .ok (⟨1, s.extract (i + 1) (i + 1 + nameN s (i + 1)), i⟩, i + 1 + nameN s (i + 1)) else .error 101)
  else if bAt s i = 123 then (match actS s 1 (i + 1) with | none => .error 101 | some n => .ok (⟨9, s.extract (i + 1) (i + n), i⟩, i + 1 + n))
  else if 0 ≤ Lib.indexByte signsText (bAt s i) then .ok (⟨6, ⟨#[bAt s i]⟩, i⟩, i + 1)
  else .error 100
theorem tokS_le {s : ByteArray} {i j : Nat} {t : Tk} (hi : i < s.size) (h : tokS s i = .ok (t, j)) : i < j ∧ j ≤ s.size := by
  unfold tokS at h
  split at h
  · rename_i hl
    split at h
    · exact absurd h (by simp)
    · injection h with h; injection h with h1 h2
      have := nameN_le s i (by omega)
      have := nameN_go (s := s) (i := i) (by simp [isNm, hl])
      omega
  · split at h
    · rename_i h2
      injection h with h; injection h with h1 h3
      have : i + 1 < s.size := by
        by_cases q : i + 1 < s.size
        · exact q
        · have := h2.2; rw [bAt_out (by omega)] at this; exact absurd this (by decide)
      omega
    · split at h
      · split at h
        · injection h with h; injection h with h1 h3
          have := nameN_le s (i + 1) (by omega)
          omega
        · exact absurd h (by simp)
      · split at h
        · split at h
          · exact absurd h (by simp)
          · rename_i n hn
            injection h with h; injection h with h1 h3
            have := actS_le _ _ _ _ rfl (by omega) hn
            omega
        · split at h
          · injection h with h; injection h with h1 h3; omega
          · exact absurd h (by simp)
/-- What 'token' does: the frame spares the reader's block and what lies from 'base' on. -/
def TokPost (w : World) (b base : Nat) (s : ByteArray) (i : Nat) (l : List Tk) (e : Ending) (w' : World) : Prop :=
  Fr (fun k => k = b ∨ base ≤ k) w w' ∧ match tokS s i with
    | .error n => e = .panicked (lexPanic n)
    | .ok (t, j) => e = .returned (.tuple #[]) ∧ ∃ v, LR w' b s j v 0 ∧ w'.ownsRow base 103 3 v (l.length + 1) (tkCells (l ++ [t]))
theorem TokPost.bad {w w' : World} {b base : Nat} {s : ByteArray} {i : Nat} {l : List Tk} {e : Ending} {n : Int} (h : tokS s i = .error n) (hf : Fr (fun k => k = b ∨ base ≤ k) w w') (he : e = .panicked (lexPanic n)) : TokPost w b base s i l e w' := by
  unfold TokPost; rw [h]; exact ⟨hf, he⟩
theorem TokPost.good {w w' : World} {b base : Nat} {s : ByteArray} {i j : Nat} {l : List Tk} {e : Ending} {t : Tk} {v : Value} (h : tokS s i = .ok (t, j)) (hf : Fr (fun k => k = b ∨ base ≤ k) w w') (he : e = .returned (.tuple #[]))
    (hr : LR w' b s j v 0) (ho : w'.ownsRow base 103 3 v (l.length + 1) (tkCells (l ++ [t]))) : TokPost w b base s i l e w' := by
  unfold TokPost; rw [h]; exact ⟨hf, he, v, hr, ho⟩
theorem Try.infoTok : (Try.prog.info? 103).map (fun i => (i.zero, i.size, i.bytes)) = some (some (.agg #[.int .u8 0, .string ⟨#[]⟩, .int .i64 0]), 3, 32) := by kernel_rfl
end Go.Proofs.Ytejpmdlokmlmeaa
