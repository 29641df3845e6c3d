/- More of lex: comment, line, name, the braces, a string, a slash, and the throw. Conditions: the reader's four cells, places below a million. -/
import Derived.Test.YtejpmdlokmlmeaaLexA
import Derived.Deep.LoopGhost
set_option linter.unusedVariables false
set_option linter.unusedSimpArgs false
namespace Go.Proofs.Ytejpmdlokmlmeaa
open Go.RowKit

def isCom (s : ByteArray) (i : Nat) : Bool := bAt s i == 47 && bAt s (i + 1) == 47
theorem b_eq (c d : UInt8) (n : Int) (hn : (d.toNat : Int) = n) : ((c.toNat : Int) == n) = (c == d) := by
  subst hn
  rw [Bool.eq_iff_iff]
  simp only [beq_iff_eq]
  exact ⟨fun e => UInt8.toNat_inj.1 (by omega), fun e => by rw [e]⟩
theorem b_ne (c d : UInt8) (n : Int) (hn : (d.toNat : Int) = n) : ((c.toNat : Int) != n) = (c != d) := by
  rw [bne, b_eq c d n hn]
  rfl

set_option maxHeartbeats 400000 in
theorem comment_any {w : World} {b : Nat} {s : ByteArray} {at_ : Nat} {l : Value} {op : Int} (h : LR w b s at_ l op) (ha : at_ ≤ 1000000) (hs : s.size ≤ 1000000) :
    Calls Try.prog 38 #[.pointer (some ⟨b, 0, none⟩)] w fun e w' => e = .returned (.bool (isCom s at_)) ∧ ∃ n, w' = w.drewN n := by
  have H := Lib.hid (b_eq (bAt s (at_ + 1)) 47 47 rfl)
  by_cases h1 : bAt s at_ = 47
  · go_enter Try.func38, Try.ntmps38
    go_wp2_with fail
    refine (h.now ha hs).mono ?_
    rintro e w' ⟨rfl, n, rfl⟩
    rw [h1]
    go_wp2_with fail
    refine ((h.drewN n).now1 ha hs).mono ?_
    rintro e w' ⟨rfl, m, rfl⟩
    go_wp2_with fail
    go_ret
    exact ⟨ret_bool (by rw [H.out]; simp [isCom, h1]), _, rfl⟩
  · have k1 : (((bAt s at_).toNat : Int) == 47) = false := by rw [b_eq _ 47 47 rfl]; simpa using h1
    go_enter Try.func38, Try.ntmps38
    go_wp2_with fail
    refine (h.now ha hs).mono ?_
    rintro e w' ⟨rfl, n, rfl⟩
    go_wp2_with fail
    go_ret
    exact ⟨ret_bool (by simp [isCom, h1]), _, rfl⟩

/-- How many bytes up to a line's end. -/
def lineN (s : ByteArray) (i : Nat) : Nat := ((s.data.toList.drop i).takeWhile (· != 10)).length
theorem lineN_end {s : ByteArray} {i : Nat} (h : s.size ≤ i) : lineN s i = 0 := by
  have h' : s.data.toList.length ≤ i := by simpa using h
  simp [lineN, List.drop_eq_nil_of_le h']
theorem drop_bAt {s : ByteArray} {i : Nat} (h : i < s.size) : s.data.toList.drop i = bAt s i :: s.data.toList.drop (i + 1) := by
  have h' : i < s.data.toList.length := by simpa using h
  rw [List.drop_eq_getElem_cons h']
  simp [bAt, List.getElem?_eq_getElem h']
theorem lineN_stop {s : ByteArray} {i : Nat} (h : i < s.size) (h10 : bAt s i = 10) : lineN s i = 0 := by
  simp [lineN, drop_bAt h, h10]
theorem lineN_go {s : ByteArray} {i : Nat} (h : i < s.size) (h10 : bAt s i ≠ 10) : lineN s i = lineN s (i + 1) + 1 := by
  simp [lineN, drop_bAt h, h10]
theorem takeWhile_len {α : Type} (p : α → Bool) (l : List α) : (l.takeWhile p).length ≤ l.length := by
  induction l with
  | nil => simp
  | cons a l ih => simp only [List.takeWhile_cons]; split <;> simp <;> omega
theorem lineN_le (s : ByteArray) (i : Nat) (h : i ≤ s.size) : i + lineN s i ≤ s.size := by
  have h1 := takeWhile_len (· != 10) (s.data.toList.drop i)
  have h2 : (s.data.toList.drop i).length = s.size - i := by simp [List.length_drop]
  unfold lineN
  omega

set_option maxHeartbeats 1000000 in
theorem line_any {w : World} {b : Nat} {s : ByteArray} {at_ : Nat} {l : Value} {op : Int} (h : LR w b s at_ l op) (ha : at_ ≤ s.size) (hs : s.size ≤ 100000) :
    Calls Try.prog 39 #[.pointer (some ⟨b, 0, none⟩)] w fun e w' => e = .returned (.tuple #[]) ∧ Fr (· = b) w w' ∧ LR w' b s (at_ + lineN s at_) l op := by
  go_enter Try.func39, Try.ntmps39
  go_wp2_with fail
  go_loopg [] (s.size - at_) (fun g wr => ∃ k, g = s.size - k ∧ k ≤ s.size ∧ Fr (· = b) w wr ∧ LR wr b s k l op ∧ Aside (k + lineN s k = at_ + lineN s at_))
  case atStart => exact ⟨at_, rfl, ha, Fr.refl _ _, h, rfl⟩
  case round =>
    obtain ⟨k, hg, hk, hf, hr, hl⟩ := hrel
    have Hg := Lib.hid hg
    clear hg
    obtain ⟨c0, c1, c2, c3, f1, f2, f3⟩ := hr.cells
    by_cases hlt : k < s.size
    · have Hm := Lib.hid (fun n => (hr.drewN n).more_yes hlt)
      have hb := b_ne (bAt s k) 10 10 rfl
      have hi := bAt_in hlt
      by_cases h10 : bAt s k = 10
      · have hbb : (((bAt s k).toNat : Int) != 10) = false := by rw [hb]; simp [h10]
        have hX := Lib.hid (lineN_stop hlt h10)
        clear hb h10
        go_wp2_with fail
        go_quiet ((go_at_call 36; exact Calls.quiet_of (Hm.out _)))
        go_wp2
        go_end0
        refine ⟨rfl, hf.drewN _, ?_⟩
        have e : at_ + lineN s at_ = k := by have := hl.out; have := hX.out; omega
        rw [e]
        exact hr.drewN _
      · have hbb : (((bAt s k).toNat : Int) != 10) = true := by rw [hb]; simp [h10]
        have hX := Lib.hid (lineN_go hlt h10)
        clear hb h10
        go_wp2_with fail
        go_quiet ((go_at_call 36; exact Calls.quiet_of (Hm.out _)))
        go_wp2
        go_roundg (s.size - (k + 1))
        case measure => have := Hg.out; omega
        case rel =>
          refine ⟨k + 1, rfl, by omega, (hf.setCell (fun _ => rfl) _).drewN _, ?_, ?_⟩
          · exact (hr.drewN nq).setAt (k + 1)
          · have := hl.out; have := hX.out
            show k + 1 + lineN s (k + 1) = _
            omega
    · have Hm := Lib.hid (fun n => (hr.drewN n).more_no hlt)
      have hX := Lib.hid (lineN_end (s := s) (i := k) (by omega))
      go_wp2_with fail
      go_quiet ((go_at_call 36; exact Calls.quiet_of (Hm.out _)))
      go_wp2
      go_end0
      refine ⟨rfl, hf.drewN _, ?_⟩
      have e : at_ + lineN s at_ = k := by have := hl.out; have := hX.out; omega
      rw [e]
      exact hr.drewN _
end Go.Proofs.Ytejpmdlokmlmeaa
