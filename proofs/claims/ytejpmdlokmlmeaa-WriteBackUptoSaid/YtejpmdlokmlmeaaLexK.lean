/- A token is read, on whatever way; what all tokens of a text are. Conditions: the reader's four cells, texts to a hundred thousand bytes. -/
import Derived.Test.YtejpmdlokmlmeaaLexJ
set_option linter.unusedVariables false
set_option linter.unusedSimpArgs false
namespace Go.Proofs.Ytejpmdlokmlmeaa
open Go.RowKit

theorem token_any {w : World} {b base : Nat} {s : ByteArray} {at_ : Nat} {v : Value} {l : List Tk} (h : LR w b s at_ v 0) (ho : w.ownsRow base 103 3 v l.length (tkCells l)) (hb : b < base) (hB : base ≤ w.heap.size)
    (ha : at_ < s.size) (hs : s.size ≤ 100000) (hl : l.length ≤ 100000) {mm : Int} (hm : w.cell? ⟨0, 0, none⟩ = some (.int .i64 mm)) (h0 : 0 < b) :
    Calls Try.prog 40 #[.pointer (some ⟨b, 0, none⟩)] w (TokPost w b base s at_ l) := by
  cases hL : isLet (bAt s at_)
  · by_cases h37 : bAt s at_ = 37
    · by_cases h2 : bAt s (at_ + 1) = 37
      · exact token_mark h ho hb hB ha hs hl hL h37 h2
      · cases hw : isWordT (s.extract (at_ + 1) (at_ + 1 + nameN s (at_ + 1)))
        · exact token_noWord h ho hb hB ha hs hl hL hm h0 h37 h2 hw
        · exact token_word h ho hb hB ha hs hl hL hm h0 h37 h2 hw
    · by_cases h123 : bAt s at_ = 123
      · cases hq : actS s 1 (at_ + 1) with
        | none => exact token_noAction h ho hb hB ha hs hl hL h37 h123 hq
        | some n => exact token_action h ho hb hB ha hs hl hL h37 h123 hq
      · by_cases hq : 0 ≤ Lib.indexByte signsText (bAt s at_)
        · exact token_sign h ho hb hB ha hs hl hL h37 h123 hq
        · exact token_none h ho hb hB ha hs hl hL h37 h123 hq
  · exact token_letter h ho hb hB ha hs hl hL

def isBlank (c : UInt8) : Bool := c == 32 || c == 9 || c == 10 || c == 13
/-- The tokens from a place on, behind those that are there; or the error and its place. The number: how many rounds at most. -/
def lexN (s : ByteArray) : Nat → Nat → List Tk → Except (Int × Nat) (List Tk)
  | 0, _, l => .ok l
  | f + 1, i, l =>
    if i < s.size then
      if isBlank (bAt s i) then lexN s f (i + 1) l
      else if isCom s i then lexN s f (i + lineN s i) l
      else match tokS s i with
        | .error e => .error (e, i)
        | .ok (t, j) => lexN s f j (l ++ [t])
    else .ok l
/-- The tokens of a text, or the error and its place. -/
def lexS (s : ByteArray) : Except (Int × Nat) (List Tk) :=
  if 65536 < s.size then .error (3, 0)
  else match lexN s (s.size + 1) 0 [] with
    | .error e => .error e
    | .ok l => .ok (l ++ [⟨7, ⟨#[]⟩, s.size⟩])
theorem com_pos {s : ByteArray} {i : Nat} (h : isCom s i = true) (hi : i < s.size) : 1 ≤ lineN s i := by
  have : bAt s i = 47 := by simp [isCom] at h; exact h.1
  rw [lineN_go hi (by rw [this]; decide)]
  omega
theorem lexN_more (s : ByteArray) : ∀ (f g i : Nat) (l : List Tk), s.size - i < f → s.size - i < g → lexN s f i l = lexN s g i l := by
  intro f
  induction f with
  | zero => intro g i l h; omega
  | succ f ih =>
    intro g i l hf hg
    obtain ⟨g, rfl⟩ : ∃ k, g = k + 1 := ⟨g - 1, by omega⟩
    simp only [lexN]
    split
    · rename_i hi
      split
      · exact ih g _ _ (by omega) (by omega)
      · split
        · rename_i hc
          have := com_pos hc hi
          exact ih g _ _ (by omega) (by omega)
        · split
          · rfl
          · rename_i t j ht
            have := tokS_le hi ht
            exact ih g _ _ (by omega) (by omega)
    · rfl
/-- One round. -/
theorem lexN_at (s : ByteArray) {i : Nat} (l : List Tk) (hi : i < s.size) : lexN s (s.size + 1) i l =
    if isBlank (bAt s i) then lexN s (s.size + 1) (i + 1) l
    else if isCom s i then lexN s (s.size + 1) (i + lineN s i) l
    else match tokS s i with
      | .error e => .error (e, i)
      | .ok (t, j) => lexN s (s.size + 1) j (l ++ [t]) := by
  rw [lexN, if_pos hi]
  split
  · exact lexN_more _ _ _ _ _ (by omega) (by omega)
  · split
    · rename_i hc
      have := com_pos hc hi
      exact lexN_more _ _ _ _ _ (by omega) (by omega)
    · split
      · rfl
      · rename_i t j ht
        have := tokS_le hi ht
        exact lexN_more _ _ _ _ _ (by omega) (by omega)
theorem lexN_end (s : ByteArray) {i : Nat} (l : List Tk) (hi : ¬ i < s.size) : lexN s (s.size + 1) i l = .ok l := by
  rw [lexN, if_neg hi]
end Go.Proofs.Ytejpmdlokmlmeaa
