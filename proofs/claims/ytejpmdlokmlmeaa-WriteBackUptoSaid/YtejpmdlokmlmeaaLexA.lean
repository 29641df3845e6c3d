/- The smallest functions of lex: what a byte is, the byte there, whether there is more, whether a comment begins. Conditions: the reader's four cells, places below a million. -/
import Derived.Test.YtejpmdlokmlmeaaBase
set_option linter.unusedVariables false
namespace Go.Proofs.Ytejpmdlokmlmeaa
open Go.RowKit

def isLet (c : UInt8) : Bool := (decide (97 ≤ c.toNat) && decide (c.toNat ≤ 122)) || (decide (65 ≤ c.toNat) && decide (c.toNat ≤ 90)) || c.toNat == 95
def isDig (c : UInt8) : Bool := decide (48 ≤ c.toNat) && decide (c.toNat ≤ 57)

set_option maxHeartbeats 400000 in
theorem letter_any (c : UInt8) (w : World) : Calls Try.prog 59 #[.int .u8 c.toNat] w fun e w' => e = .returned (.bool (isLet c)) ∧ w = w' := by
  unfold isLet
  generalize c.toNat = n
  go_enter Try.func59, Try.ntmps59
  go_wp2
  all_goals
    go_ret
    refine ⟨ret_bool ?_, rfl⟩
    rw [Bool.eq_iff_iff]
    simp
    omega

set_option maxHeartbeats 400000 in
theorem digit_any (c : UInt8) (w : World) : Calls Try.prog 73 #[.int .u8 c.toNat] w fun e w' => e = .returned (.bool (isDig c)) ∧ w = w' := by
  unfold isDig
  generalize c.toNat = n
  go_enter Try.func73, Try.ntmps73
  go_wp2
  all_goals
    go_ret
    refine ⟨ret_bool ?_, rfl⟩
    rw [Bool.eq_iff_iff]
    simp
    omega

/-- The reader's block: the text, where it is, the tokens so far, the open braces. -/
def LR (w : World) (b : Nat) (s : ByteArray) (at_ : Nat) (l : Value) (op : Int) : Prop :=
  w.heap[b]? = some (.cells #[.string s, .int .i64 at_, l, .int .i64 op] 97 (0, 0))
theorem LR.cells {w : World} {b : Nat} {s : ByteArray} {at_ : Nat} {l : Value} {op : Int} (h : LR w b s at_ l op) :
    w.cell? ⟨b, 0, none⟩ = some (.string s) ∧ w.cell? ⟨b, 1, none⟩ = some (.int .i64 at_) ∧ w.cell? ⟨b, 2, none⟩ = some l ∧ w.cell? ⟨b, 3, none⟩ = some (.int .i64 op) ∧
    w.frozen? ⟨b, 1, none⟩ = false ∧ w.frozen? ⟨b, 2, none⟩ = false ∧ w.frozen? ⟨b, 3, none⟩ = false := by
  unfold LR at h
  simp [World.cell?, World.frozen?, h]
theorem LR.opEq {w : World} {b : Nat} {s : ByteArray} {at_ : Nat} {l : Value} {op op' : Int} (h : LR w b s at_ l op) (e : op = op') : LR w b s at_ l op' := by rw [← e]; exact h
theorem LR.drewN {w : World} {b : Nat} {s : ByteArray} {at_ : Nat} {l : Value} {op : Int} (h : LR w b s at_ l op) (n : Nat) : LR (w.drewN n) b s at_ l op := h
theorem LR.fr {S : Nat → Prop} {w w' : World} {b : Nat} {s : ByteArray} {at_ : Nat} {l : Value} {op : Int} (h : LR w b s at_ l op) (hf : Fr S w w') (hs : ¬ S b) : LR w' b s at_ l op :=
  (hf.block b (lt_of_heap h) hs).trans h
theorem LR.setAt {w : World} {b : Nat} {s : ByteArray} {at_ : Nat} {l : Value} {op : Int} (h : LR w b s at_ l op) (n : Nat) : LR (w.setCell ⟨b, 1, none⟩ (.int .i64 n)) b s n l op := by
  unfold LR at h ⊢
  simp [World.setCell, Array.getElem?_modify, h]
theorem LR.setI {w : World} {b : Nat} {s : ByteArray} {at_ : Nat} {l : Value} {op : Int} (h : LR w b s at_ l op) (n : Int) (m : Nat) (hn : n = m) : LR (w.setCell ⟨b, 1, none⟩ (.int .i64 n)) b s m l op := by
  subst hn
  exact h.setAt m
theorem LR.setOp {w : World} {b : Nat} {s : ByteArray} {at_ : Nat} {l : Value} {op : Int} (h : LR w b s at_ l op) (n : Int) : LR (w.setCell ⟨b, 3, none⟩ (.int .i64 n)) b s at_ l n := by
  unfold LR at h ⊢
  simp [World.setCell, Array.getElem?_modify, h]
theorem LR.setL {w : World} {b : Nat} {s : ByteArray} {at_ : Nat} {l : Value} {op : Int} (h : LR w b s at_ l op) (v : Value) : LR (w.setCell ⟨b, 2, none⟩ v) b s at_ v op := by
  unfold LR at h ⊢
  simp [World.setCell, Array.getElem?_modify, h]

set_option maxHeartbeats 400000 in
theorem more_any {w : World} {b : Nat} {s : ByteArray} {at_ : Nat} {l : Value} {op : Int} (h : LR w b s at_ l op) :
    Calls Try.prog 36 #[.pointer (some ⟨b, 0, none⟩)] w fun e w' => e = .returned (.bool (decide (at_ < s.size))) ∧ ∃ n, w' = w.drewN n := by
  obtain ⟨c0, c1, -⟩ := h.cells
  clear h
  go_enter Try.func36, Try.ntmps36
  go_wp2
  go_quiet (fail)
  go_wp2
  go_ret
  refine ⟨?_, _, rfl⟩
  simp

theorem LR.more_yes {w : World} {b : Nat} {s : ByteArray} {at_ : Nat} {l : Value} {op : Int} (h : LR w b s at_ l op) (hlt : at_ < s.size) :
    Calls Try.prog 36 #[.pointer (some ⟨b, 0, none⟩)] w fun e w' => e = .returned (.bool true) ∧ ∃ n, w' = w.drewN n := by
  have := more_any h
  rwa [decide_eq_true hlt] at this
theorem LR.more_no {w : World} {b : Nat} {s : ByteArray} {at_ : Nat} {l : Value} {op : Int} (h : LR w b s at_ l op) (hlt : ¬ at_ < s.size) :
    Calls Try.prog 36 #[.pointer (some ⟨b, 0, none⟩)] w fun e w' => e = .returned (.bool false) ∧ ∃ n, w' = w.drewN n := by
  have := more_any h
  rwa [decide_eq_false hlt] at this

set_option maxHeartbeats 400000 in
theorem now_any {w : World} {b : Nat} {s : ByteArray} {at_ : Nat} {l : Value} {op : Int} (h : LR w b s at_ l op) (on : Nat) (ha : at_ ≤ 1000000) (ho : on ≤ 1000000) (hs : s.size ≤ 1000000) :
    Calls Try.prog 37 #[.pointer (some ⟨b, 0, none⟩), .int .i64 on] w fun e w' => e = .returned (.int .u8 (bAt s (at_ + on)).toNat) ∧ ∃ n, w' = w.drewN n := by
  obtain ⟨c0, c1, -⟩ := h.cells
  clear h
  have h0 : IntKind.i64.wrap ((at_:Int) + (on:Int)) = (at_:Int) + (on:Int) := IntWalk.i64_in _ (by omega)
  have h1 : 0 ≤ (at_:Int) + (on:Int) := by omega
  have h2 : ((at_:Int) + (on:Int)).toNat = at_ + on := by omega
  by_cases hlt : at_ + on < s.size
  · have H := Lib.hid (bAt_in hlt)
    go_enter Try.func37, Try.ntmps37
    go_wp2
    go_quiet (fail)
    go_wp2
    go_quiet (fail)
    go_wp2
    go_ret
    exact ⟨by rw [← H.out]; rfl, _, World.drewN_drewN _ _ _⟩
  · have H := Lib.hid (bAt_out (s := s) (i := at_ + on) (by omega))
    go_enter Try.func37, Try.ntmps37
    go_wp2
    go_quiet (fail)
    go_wp2
    go_ret
    exact ⟨by rw [H.out]; rfl, _, rfl⟩

theorem LR.now {w : World} {b : Nat} {s : ByteArray} {at_ : Nat} {l : Value} {op : Int} (h : LR w b s at_ l op) (ha : at_ ≤ 1000000) (hs : s.size ≤ 1000000) :
    Calls Try.prog 37 #[.pointer (some ⟨b, 0, none⟩), .int .i64 0] w fun e w' => e = .returned (.int .u8 (bAt s at_).toNat) ∧ ∃ n, w' = w.drewN n :=
  now_any h 0 ha (by omega) hs
theorem LR.now1 {w : World} {b : Nat} {s : ByteArray} {at_ : Nat} {l : Value} {op : Int} (h : LR w b s at_ l op) (ha : at_ ≤ 1000000) (hs : s.size ≤ 1000000) :
    Calls Try.prog 37 #[.pointer (some ⟨b, 0, none⟩), .int .i64 1] w fun e w' => e = .returned (.int .u8 (bAt s (at_ + 1)).toNat) ∧ ∃ n, w' = w.drewN n :=
  now_any h 1 ha (by omega) hs
end Go.Proofs.Ytejpmdlokmlmeaa
