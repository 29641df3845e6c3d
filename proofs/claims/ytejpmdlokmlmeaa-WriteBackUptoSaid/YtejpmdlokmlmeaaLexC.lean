/- More of lex: name, the braces, a slash, the throw. Conditions: the reader's four cells, places below a hundred thousand. -/
import Derived.Test.YtejpmdlokmlmeaaLexB
set_option linter.unusedVariables false
set_option linter.unusedSimpArgs false
namespace Go.Proofs.Ytejpmdlokmlmeaa
open Go.RowKit

def isNm (c : UInt8) : Bool := isLet c || isDig c
/-- How many letters and digits from a place on. -/
def nameN (s : ByteArray) (i : Nat) : Nat := ((s.data.toList.drop i).takeWhile isNm).length
theorem nameN_end {s : ByteArray} {i : Nat} (h : s.size ≤ i) : nameN s i = 0 := by
  have h' : s.data.toList.length ≤ i := by simpa using h
  simp [nameN, List.drop_eq_nil_of_le h']
theorem nameN_stop {s : ByteArray} {i : Nat} (hn : isNm (bAt s i) = false) : nameN s i = 0 := by
  by_cases h : i < s.size
  · simp [nameN, drop_bAt h, hn]
  · exact nameN_end (by omega)
theorem nameN_go {s : ByteArray} {i : Nat} (hn : isNm (bAt s i) = true) : nameN s i = nameN s (i + 1) + 1 := by
  by_cases h : i < s.size
  · simp [nameN, drop_bAt h, hn]
  · rw [bAt_out (by omega)] at hn
    exact absurd hn (by decide)
theorem isNm_lt {s : ByteArray} {i : Nat} (hn : isNm (bAt s i) = true) : i < s.size := by
  by_cases h : i < s.size
  · exact h
  · rw [bAt_out (by omega)] at hn
    exact absurd hn (by decide)
theorem nameN_le (s : ByteArray) (i : Nat) (h : i ≤ s.size) : i + nameN s i ≤ s.size := by
  have h1 := takeWhile_len isNm (s.data.toList.drop i)
  have h2 : (s.data.toList.drop i).length = s.size - i := by simp [List.length_drop]
  unfold nameN
  omega

set_option maxHeartbeats 1000000 in
theorem name_any {w : World} {b : Nat} {s : ByteArray} {at_ : Nat} {l : Value} {op : Int} (h : LR w b s at_ l op) (ha : at_ ≤ s.size) (hs : s.size ≤ 100000) :
    Calls Try.prog 60 #[.pointer (some ⟨b, 0, none⟩)] w fun e w' => e = .returned (.string (s.extract at_ (at_ + nameN s at_))) ∧ Fr (· = b) w w' ∧ LR w' b s (at_ + nameN s at_) l op := by
  obtain ⟨c0, c1, -⟩ := h.cells
  go_enter Try.func60, Try.ntmps60
  go_wp2_with fail
  clear c0 c1
  go_loopg [] (s.size - at_) (fun g wr => ∃ k, g = s.size - k ∧ at_ ≤ k ∧ k ≤ s.size ∧ Fr (· = b) w wr ∧ LR wr b s k l op ∧ Aside (k + nameN s k = at_ + nameN s at_))
  case atStart => exact ⟨at_, rfl, Nat.le_refl _, ha, Fr.refl _ _, h, rfl⟩
  case round =>
    obtain ⟨k, hg, hak, hk, hf, hr, hl⟩ := hrel
    have Hg := Lib.hid hg
    clear hg
    by_cases hn : isNm (bAt s k) = true
    · have hlt := isNm_lt hn
      have hX := Lib.hid (nameN_go hn)
      have Hn := Lib.hid hn
      clear hn
      go_wp2_with fail
      refine (hr.now (by omega) (by omega)).mono ?_
      rintro e w' ⟨rfl, n, rfl⟩
      go_wp2_with fail
      refine (letter_any _ _).mono ?_
      rintro e w' ⟨rfl, rfl⟩
      have fin : ∀ m, (∃ k', s.size - (k + 1) = s.size - k' ∧ at_ ≤ k' ∧ k' ≤ s.size ∧ Fr (· = b) w ((wr.drewN m).setCell ⟨b, 1, none⟩ (.int .i64 ((k + 1 : Nat) : Int))) ∧ LR ((wr.drewN m).setCell ⟨b, 1, none⟩ (.int .i64 ((k + 1 : Nat) : Int))) b s k' l op ∧ Aside (k' + nameN s k' = at_ + nameN s at_)) := by
        intro m
        have := hl.out
        have := hX.out
        exact ⟨k + 1, by omega, by omega, by omega, (hf.drewN m).setCell (fun _ => rfl) _, (hr.drewN m).setAt (k + 1), show k + 1 + nameN s (k + 1) = _ by omega⟩
      have Hfin := Lib.hid fin
      clear fin
      cases hL : isLet (bAt s k)
      · have hD : isDig (bAt s k) = true := by simpa [isNm, hL] using Hn.out
        clear hL
        go_wp2_with fail
        refine ((hr.drewN n).now (by omega) (by omega)).mono ?_
        rintro e w' ⟨rfl, n2, rfl⟩
        go_wp2_with fail
        refine (digit_any _ _).mono ?_
        rintro e w' ⟨rfl, rfl⟩
        rw [hD]
        clear hD
        obtain ⟨c0, c1, c2, c3, f1, f2, f3⟩ := hr.cells
        go_wp2_with fail
        go_roundg (s.size - (k + 1))
        case measure => have := Hg.out; omega
        case rel => exact Hfin.out _
      · clear hL
        obtain ⟨c0, c1, c2, c3, f1, f2, f3⟩ := hr.cells
        go_wp2_with fail
        go_roundg (s.size - (k + 1))
        case measure => have := Hg.out; omega
        case rel => exact Hfin.out _
    · have hn' : isNm (bAt s k) = false := by simpa using hn
      have hX := Lib.hid (nameN_stop hn')
      have hL : isLet (bAt s k) = false := by simp [isNm] at hn'; exact hn'.1
      have hD : isDig (bAt s k) = false := by simp [isNm] at hn'; exact hn'.2
      clear hn hn'
      go_wp2_with fail
      refine (hr.now (by omega) (by omega)).mono ?_
      rintro e w' ⟨rfl, n, rfl⟩
      go_wp2_with fail
      refine (letter_any _ _).mono ?_
      rintro e w' ⟨rfl, rfl⟩
      rw [hL]
      clear hL
      go_wp2_with fail
      refine ((hr.drewN n).now (by omega) (by omega)).mono ?_
      rintro e w' ⟨rfl, n2, rfl⟩
      go_wp2_with fail
      refine (digit_any _ _).mono ?_
      rintro e w' ⟨rfl, rfl⟩
      rw [hD]
      clear hD
      obtain ⟨c0, c1, c2, c3, f1, f2, f3⟩ := hr.cells
      go_wp2_with fail
      go_quiet (fail)
      go_wp2_with fail
      go_ret
      have e : at_ + nameN s at_ = k := by have := hl.out; have := hX.out; omega
      rw [e]
      exact ⟨rfl, (hf.drewN _).drewN _, (hr.drewN _).drewN _⟩

set_option maxHeartbeats 400000 in
theorem opens_any {w : World} {b : Nat} {s : ByteArray} {at_ : Nat} {l : Value} {op : Int} (h : LR w b s at_ l op) (ha : at_ ≤ s.size) (hs : s.size ≤ 100000) (ho : 0 ≤ op ∧ op ≤ 1000000) :
    Calls Try.prog 75 #[.pointer (some ⟨b, 0, none⟩)] w fun e w' => e = .returned (.tuple #[]) ∧ Fr (· = b) w w' ∧ LR w' b s (at_ + 1) l (op + 1) := by
  obtain ⟨c0, c1, c2, c3, f1, f2, f3⟩ := h.cells
  go_enter Try.func75, Try.ntmps75
  go_wp2_with fail
  go_end0
  refine ⟨rfl, ((Fr.refl (· = b) _).setCell (fun _ => rfl) _).setCell (fun _ => rfl) _, ?_⟩
  exact (h.setOp (op + 1)).setAt (at_ + 1)
set_option maxHeartbeats 400000 in
theorem closes_any {w : World} {b : Nat} {s : ByteArray} {at_ : Nat} {l : Value} {op : Int} (h : LR w b s at_ l op) (ha : at_ ≤ s.size) (hs : s.size ≤ 100000) (ho : 0 ≤ op ∧ op ≤ 1000000) :
    Calls Try.prog 76 #[.pointer (some ⟨b, 0, none⟩)] w fun e w' => e = .returned (.tuple #[]) ∧ Fr (· = b) w w' ∧ LR w' b s (at_ + 1) l (op - 1) := by
  obtain ⟨c0, c1, c2, c3, f1, f2, f3⟩ := h.cells
  go_enter Try.func76, Try.ntmps76
  go_wp2_with fail
  go_end0
  refine ⟨rfl, ((Fr.refl (· = b) _).setCell (fun _ => rfl) _).setCell (fun _ => rfl) _, ?_⟩
  exact (h.setOp (op - 1)).setAt (at_ + 1)

/-- What the lexer throws. -/
def lexPanic (e : Int) : List PanicEntry := [{ v := .iface 99 (.agg #[.int .i64 e]), recovered := false }]
set_option maxHeartbeats 400000 in
theorem no_any (e : Int) (w : World) : Calls Try.prog 61 #[.int .i64 e] w fun r w' => r = .panicked (lexPanic e) ∧ w = w' := by
  go_enter Try.func61, Try.ntmps61
  go_wp2_with fail
  exact ⟨rfl, rfl, rfl⟩

/-- Behind a slash that begins something within an action. -/
def slashN (s : ByteArray) (i : Nat) : Nat := if isCom s i then lineN s i else 1
set_option maxHeartbeats 400000 in
theorem slash_any {w : World} {b : Nat} {s : ByteArray} {at_ : Nat} {l : Value} {op : Int} (h : LR w b s at_ l op) (ha : at_ ≤ s.size) (hs : s.size ≤ 100000) :
    Calls Try.prog 78 #[.pointer (some ⟨b, 0, none⟩)] w fun e w' => e = .returned (.tuple #[]) ∧ Fr (· = b) w w' ∧ LR w' b s (at_ + slashN s at_) l op := by
  go_enter Try.func78, Try.ntmps78
  go_wp2_with fail
  refine (comment_any h (by omega) (by omega)).mono ?_
  rintro e w' ⟨rfl, n, rfl⟩
  cases hc : isCom s at_
  · have e1 := Lib.hid (show slashN s at_ = 1 by simp [slashN, hc])
    clear hc
    obtain ⟨c0, c1, c2, c3, f1, f2, f3⟩ := h.cells
    go_wp2_with fail
    go_end0
    exact ⟨rfl, ((Fr.refl (· = b) _).drewN _).setCell (fun _ => rfl) _, by rw [e1.out]; exact (h.drewN n).setAt (at_ + 1)⟩
  · have e1 := Lib.hid (show slashN s at_ = lineN s at_ by simp [slashN, hc])
    clear hc
    go_wp2_with fail
    refine (line_any (h.drewN n) ha hs).mono ?_
    rintro e w' ⟨rfl, hf, hr⟩
    go_wp2_with fail
    refine bodyPost_ret (results_none rfl _ _ _) rfl ⟨rfl, ((Fr.refl (· = b) _).drewN _).trans hf, by rw [e1.out]; exact hr⟩

/-- A string of an action, from the place behind its first quote on: how many bytes it takes with its last quote; none: it does not end as it must. -/
def quoteN : Nat → List UInt8 → Option Nat
  | 0, _ => none
  | _ + 1, [] => none
  | f + 1, c :: r => if c = 34 then some 1 else if c = 92 then (quoteN f r.tail).map (· + 2) else if c = 10 then none else (quoteN f r).map (· + 1)
/-- .. of a text, from a place on. -/
def quoteS (s : ByteArray) (i : Nat) : Option Nat := quoteN (s.size + 1) (s.data.toList.drop i)
theorem quoteN_more : ∀ (f g : Nat) (l : List UInt8), l.length < f → l.length < g → quoteN f l = quoteN g l := by
  intro f
  induction f with
  | zero => intro g l h; omega
  | succ f ih =>
    intro g l hf hg
    obtain ⟨g, rfl⟩ : ∃ k, g = k + 1 := ⟨g - 1, by omega⟩
    cases l with
    | nil => rfl
    | cons c r =>
      simp only [List.length_cons] at hf hg
      have h1 : r.tail.length ≤ r.length := by simp
      simp only [quoteN]
      rw [ih g r (by omega) (by omega), ih g r.tail (by omega) (by omega)]
theorem quoteS_of {s : ByteArray} {i f : Nat} (h : (s.data.toList.drop i).length < f) : quoteN f (s.data.toList.drop i) = quoteS s i :=
  quoteN_more _ _ _ h (by simp; omega)
theorem quoteS_end {s : ByteArray} {i : Nat} (h : s.size ≤ i) : quoteS s i = none := by
  have h' : s.data.toList.length ≤ i := by simpa using h
  unfold quoteS
  rw [List.drop_eq_nil_of_le h']
  rfl
theorem quoteS_at {s : ByteArray} {i : Nat} (h : i < s.size) : quoteS s i =
    if bAt s i = 34 then some 1 else if bAt s i = 92 then (quoteS s (i + 2)).map (· + 2) else if bAt s i = 10 then none else (quoteS s (i + 1)).map (· + 1) := by
  have hl : ∀ j, (s.data.toList.drop j).length = s.size - j := by simp
  rw [quoteS, drop_bAt h, quoteN, List.tail_drop, quoteS_of (by rw [hl]; omega), quoteS_of (by rw [hl]; omega)]
theorem quoteS_le {s : ByteArray} : ∀ (d i n : Nat), s.size - i = d → quoteS s i = some n → i + n ≤ s.size ∧ 1 ≤ n := by
  intro d
  induction d using Nat.strongRecOn with
  | _ d ih =>
    intro i n hd hq
    by_cases h : i < s.size
    · rw [quoteS_at h] at hq
      split at hq
      · injection hq with hq; omega
      · split at hq
        · obtain ⟨m, hm, rfl⟩ := Option.map_eq_some_iff.1 hq
          have := ih (s.size - (i + 2)) (by omega) (i + 2) m rfl hm
          omega
        · split at hq
          · exact absurd hq (by simp)
          · obtain ⟨m, hm, rfl⟩ := Option.map_eq_some_iff.1 hq
            have := ih (s.size - (i + 1)) (by omega) (i + 1) m rfl hm
            omega
    · rw [quoteS_end (by omega)] at hq
      exact absurd hq (by simp)
end Go.Proofs.Ytejpmdlokmlmeaa
