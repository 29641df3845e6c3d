/- The small functions of read: is, take, throw, must, name. Conditions: the reader's block over a row of tokens, at a place within. -/
import Derived.Test.YtejpmdlokmlmeaaReadA
set_option linter.unusedVariables false
set_option linter.unusedSimpArgs false
namespace Go.Proofs.Ytejpmdlokmlmeaa
open Go.RowKit

/-- Texts that are handed over: none, or some in a row. -/
def Strs (w : World) (tv : Value) (ts : List ByteArray) : Prop :=
  (ts = [] ∧ tv = .slice none 0 0) ∨ (0 < ts.length ∧ ts.length ≤ 1000 ∧ ∃ B c, tv = .slice (some ⟨B, 0, none⟩) ts.length c ∧ B < w.heap.size ∧ ∀ j, j < ts.length → w.cell? ⟨B, 0 + j, none⟩ = some (.string (ts.getD j ByteArray.empty)))
theorem Strs.nil (w : World) : Strs w (.slice none 0 0) [] := .inl ⟨rfl, rfl⟩
theorem Strs.fr {S : Nat → Prop} {w w' : World} {tv : Value} {ts : List ByteArray} (h : Strs w tv ts) (hf : Fr S w w') (hs : ∀ B n c, tv = .slice (some ⟨B, 0, none⟩) n c → ¬ S B) : Strs w' tv ts := by
  rcases h with h | ⟨h0, h1, B, c, hv, hB, hc⟩
  · exact .inl h
  · exact .inr ⟨h0, h1, B, c, hv, Nat.lt_of_lt_of_le hB hf.size, fun j hj => (hf.cell (p := ⟨B, 0 + j, none⟩) hB (hs B _ _ hv)).trans (hc j hj)⟩
def isK (k : Nat) (ts : List ByteArray) (l : List Tk) : Bool := (hd l).kind == k && (ts.isEmpty || Lib.containsS ts (hd l).text)
theorem TB.cell3 {w : World} {T : Nat} {k : Int} {x : ByteArray} {at_ : Nat} (h : TB w T k x at_) : w.frozen? ⟨T, 2, none⟩ = false := by unfold TB at h; simp [World.frozen?, h]

set_option maxRecDepth 100000 in
set_option maxHeartbeats 400000 in
theorem is_any {w : World} {r R cap pos : Nat} {cur : Array Value} {toks : List Tk} (h : RIn w r R cap cur toks pos) (k : Nat) {tv : Value} {ts : List ByteArray} (hts : Strs w tv ts) :
    Calls Try.prog 21 #[.pointer (some ⟨r, 0, none⟩), .int .u8 k, tv] w fun e w' => e = .returned (.bool (isK k ts (toks.drop pos))) ∧ Fr (fun _ => False) w w' := by
  by_cases hk : (hd (toks.drop pos)).kind = k
  · have hkk : (((hd (toks.drop pos)).kind : Int) == (k : Int)) = true := by rw [hk]; simp
    rcases hts with ⟨rfl, rfl⟩ | ⟨h0, h1, B, c, rfl, hB, hc⟩
    · have HR := Lib.hid (show isK k [] (toks.drop pos) = true by simp [isK, hk])
      clear hk
      go_enter Try.func21, Try.ntmps21
      go_wp2_with fail
      refine (next_any h).mono ?_
      rintro e w1 ⟨rfl, hf⟩
      go_wp2_with fail
      go_ret
      exact ⟨ret_bool HR.out.symm, hf.alloc _⟩
    · have HR := Lib.hid (show isK k ts (toks.drop pos) = Lib.containsS ts (hd (toks.drop pos)).text by
        have : ts.isEmpty = false := by cases ts with | nil => simp at h0 | cons => rfl
        simp [isK, hk, this])
      clear hk
      have hl0 : ((ts.length : Int) == 0) = false := by rw [beq_eq_false_iff_ne]; omega
      go_enter Try.func21, Try.ntmps21
      go_wp2_with fail
      refine (next_any h).mono ?_
      rintro e w1 ⟨rfl, hf⟩
      go_wp2_with fail
      refine (Try.slices_Contains_string B 0 ts.length c ts _ _ (Nat.le_refl _) (by omega) (fun j hj => ((hf.alloc _).cell (p := ⟨B, 0 + j, none⟩) hB id).trans (hc j hj))).mono ?_
      rintro e w2 ⟨rfl, rfl⟩
      go_wp2_with fail
      go_ret
      exact ⟨ret_bool (by rw [HR.out]), hf.alloc _⟩
  · have hkk : (((hd (toks.drop pos)).kind : Int) == (k : Int)) = false := by rw [beq_eq_false_iff_ne]; omega
    have HR := Lib.hid (show isK k ts (toks.drop pos) = false by simp [isK, hk])
    clear hk
    go_enter Try.func21, Try.ntmps21
    go_wp2_with fail
    refine (next_any h).mono ?_
    rintro e w1 ⟨rfl, hf⟩
    go_wp2_with fail
    go_ret
    exact ⟨ret_bool HR.out.symm, hf.alloc _⟩

theorem take_drop_tail {α : Type} {l : List α} {n : Nat} : l.drop (n + 1) = (l.drop n).tail := by rw [List.tail_drop]
/-- Whether there is a token behind the next one. -/
theorem isK_more {toks : List Tk} {pos k : Nat} {ts : List ByteArray} (hp : pos < toks.length) (hend : ∀ t, toks.getLast? = some t → t.kind = 7) (hk : k ≠ 7) (h : isK k ts (toks.drop pos) = true) : pos + 1 < toks.length := by
  rcases Nat.lt_or_ge (pos + 1) toks.length with h1 | h1
  · exact h1
  · exfalso
    have e : (hd (toks.drop pos)).kind = 7 := by
      rw [hd_drop hp]
      refine hend _ ?_
      rw [List.getLast?_eq_getElem?]
      rw [show toks.length - 1 = pos by omega, List.getElem?_eq_getElem hp]
    simp [isK, e] at h
    exact hk h.1.symm

set_option maxRecDepth 100000 in
set_option maxHeartbeats 400000 in
theorem take_any {w : World} {r R cap pos : Nat} {cur : Array Value} {toks : List Tk} (h : RIn w r R cap cur toks pos) (hend : ∀ t, toks.getLast? = some t → t.kind = 7) (k : Nat) (hk7 : k ≠ 7) {tv : Value} {ts : List ByteArray} (hts : Strs w tv ts) :
    Calls Try.prog 44 #[.pointer (some ⟨r, 0, none⟩), .int .u8 k, tv] w fun e w' => e = .returned (.bool (isK k ts (toks.drop pos))) ∧ Fr (· = r) w w' ∧ RIn w' r R cap cur toks (if isK k ts (toks.drop pos) then pos + 1 else pos) := by
  cases hq : isK k ts (toks.drop pos)
  · have HQ := Lib.hid hq
    clear hq
    go_enter Try.func44, Try.ntmps44
    go_wp2_with fail
    refine (is_any h k hts).mono ?_
    rintro e w1 ⟨rfl, hf⟩
    rw [HQ.out]
    have h1 := h.fr hf id id
    go_wp2_with fail
    go_ret
    exact ⟨rfl, hf.mono (fun _ _ => False.elim), by simpa using h1⟩
  · have hp1 := isK_more h.hp hend hk7 hq
    have HQ := Lib.hid hq
    have hl := h.hl
    clear hq
    go_enter Try.func44, Try.ntmps44
    go_wp2_with fail
    refine (is_any h k hts).mono ?_
    rintro e w1 ⟨rfl, hf⟩
    rw [HQ.out]
    have h1 := h.fr hf id id
    obtain ⟨c0, c1, f1⟩ := h1.cells
    go_wp2_with fail
    go_ret
    exact ⟨rfl, (hf.mono (T := (· = r)) (fun _ _ => False.elim)).setCell (p := ⟨r, 1, none⟩) (fun _ => rfl) _, by simpa using h1.setPos _ (pos + 1) (by omega) hp1⟩

theorem field_at (a b : Value) (n : Int) (w : World) : (Instr.field 103 (.agg #[a, b, .int .i64 n]) 2).run Try.prog w = .ok (.int .i64 n) w := by kernel_rfl
/-- What the reader throws at the next token. -/
def readPanic (e at_ : Int) : List PanicEntry := [{ v := .iface 32 (.agg #[.int .i64 e, .int .i64 at_]), recovered := false }]
set_option maxRecDepth 100000 in
set_option maxHeartbeats 400000 in
theorem throw_any {w : World} {r R cap pos : Nat} {cur : Array Value} {toks : List Tk} (h : RIn w r R cap cur toks pos) (n : Int) :
    Calls Try.prog 45 #[.pointer (some ⟨r, 0, none⟩), .int .i64 n] w fun e w' => e = .panicked (readPanic n (hd (toks.drop pos)).at_) ∧ Fr (fun _ => False) w w' := by
  have hfa := field_at (.int .u8 (hd (toks.drop pos)).kind) (.string (hd (toks.drop pos)).text) (hd (toks.drop pos)).at_
  go_enter Try.func45, Try.ntmps45
  go_wp2_with fail
  refine (next_any h).mono ?_
  rintro e w1 ⟨rfl, hf⟩
  go_wp2_with fail
  exact ⟨rfl, rfl, hf⟩

/-- How a reader's function ends: with a fault, or with a value and behind some tokens. -/
def mustS (k : Nat) (ts : List ByteArray) (l : List Tk) : Except (Int × Int) (ByteArray × List Tk) :=
  if isK k ts l then .ok ((hd l).text, l.tail) else .error (102, (hd l).at_)
def nameS (l : List Tk) : Except (Int × Int) (ByteArray × List Tk) := mustS 2 [] l

/-- A contract of a reader's function: what it gives, and where the reader stands then; the frame spares the reader's block. -/
def RPost {α : Type} (S : Nat → Prop) (w : World) (r R cap : Nat) (cur : Array Value) (toks : List Tk) (res : Except (Int × Int) (α × List Tk)) (V : α → Value → World → Prop) (e : Ending) (w' : World) : Prop :=
  Fr S w w' ∧ match res with
    | .error (n, a) => e = .panicked (readPanic n a)
    | .ok (x, l) => ∃ v pos, e = .returned v ∧ V x v w' ∧ RIn w' r R cap cur toks pos ∧ toks.drop pos = l
theorem RPost.bad {α : Type} {S : Nat → Prop} {w w' : World} {r R cap : Nat} {cur : Array Value} {toks : List Tk} {res : Except (Int × Int) (α × List Tk)} {V : α → Value → World → Prop} {e : Ending} {n a : Int} (h : res = .error (n, a)) (hf : Fr S w w') (he : e = .panicked (readPanic n a)) : RPost S w r R cap cur toks res V e w' := by
  unfold RPost; rw [h]; exact ⟨hf, he⟩
theorem RPost.good {α : Type} {S : Nat → Prop} {w w' : World} {r R cap pos : Nat} {cur : Array Value} {toks : List Tk} {res : Except (Int × Int) (α × List Tk)} {V : α → Value → World → Prop} {e : Ending} {x : α} {l : List Tk} {v : Value} (h : res = .ok (x, l)) (hf : Fr S w w') (he : e = .returned v)
    (hv : V x v w') (hr : RIn w' r R cap cur toks pos) (hl : toks.drop pos = l) : RPost S w r R cap cur toks res V e w' := by
  unfold RPost; rw [h]; exact ⟨hf, v, pos, he, hv, hr, hl⟩

set_option maxRecDepth 100000 in
set_option maxHeartbeats 400000 in
theorem must_any {w : World} {r R cap pos : Nat} {cur : Array Value} {toks : List Tk} (h : RIn w r R cap cur toks pos) (hend : ∀ t, toks.getLast? = some t → t.kind = 7) (k : Nat) (hk7 : k ≠ 7) {tv : Value} {ts : List ByteArray} (hts : Strs w tv ts) :
    Calls Try.prog 23 #[.pointer (some ⟨r, 0, none⟩), .int .u8 k, tv] w (RPost (· = r) w r R cap cur toks (mustS k ts (toks.drop pos)) (fun x v _ => v = .string x)) := by
  have hr0 := lt_of_heap h.rc
  cases hq : isK k ts (toks.drop pos)
  · have HR := Lib.hid (show mustS k ts (toks.drop pos) = .error (102, (hd (toks.drop pos)).at_) by simp [mustS, hq])
    have HQ := Lib.hid hq
    clear hq
    go_enter Try.func23, Try.ntmps23
    go_wp2_with fail
    refine (next_any h).mono ?_
    rintro e w1 ⟨rfl, hf⟩
    have h1 := h.fr hf id id
    have hts1 := hts.fr hf (fun _ _ _ _ => id)
    go_wp2_with fail
    have h2 := h1.alloc (.cells #[.int .u8 (hd (toks.drop pos)).kind, .string (hd (toks.drop pos)).text, .int .i64 (hd (toks.drop pos)).at_] 103)
    have hts2 := hts1.fr ((Fr.refl (fun _ => False) w1).alloc (.cells #[.int .u8 (hd (toks.drop pos)).kind, .string (hd (toks.drop pos)).text, .int .i64 (hd (toks.drop pos)).at_] 103)) (fun _ _ _ _ => id)
    have hf2 := hf.alloc (.cells #[.int .u8 (hd (toks.drop pos)).kind, .string (hd (toks.drop pos)).text, .int .i64 (hd (toks.drop pos)).at_] 103)
    clear h1 hts1 hf
    refine (take_any h2 hend k hk7 hts2).mono ?_
    rintro e w3 ⟨rfl, hf3, hr3⟩
    rw [HQ.out] at hr3 ⊢
    go_wp2_with fail
    refine (throw_any hr3 _).mono ?_
    rintro e w4 ⟨rfl, hf4⟩
    exact ⟨rfl, RPost.bad HR.out (((hf2.mono (fun _ _ => False.elim)).trans hf3).trans (hf4.mono (fun _ _ => False.elim))) rfl⟩
  · have HR := Lib.hid (show mustS k ts (toks.drop pos) = .ok ((hd (toks.drop pos)).text, (toks.drop pos).tail) by simp [mustS, hq])
    have HQ := Lib.hid hq
    clear hq
    go_enter Try.func23, Try.ntmps23
    go_wp2_with fail
    refine (next_any h).mono ?_
    rintro e w1 ⟨rfl, hf⟩
    have h1 := h.fr hf id id
    have hts1 := hts.fr hf (fun _ _ _ _ => id)
    have hT : TB (w1.alloc (.cells #[.int .u8 (hd (toks.drop pos)).kind, .string (hd (toks.drop pos)).text, .int .i64 (hd (toks.drop pos)).at_] 103)) w1.heap.size (hd (toks.drop pos)).kind (hd (toks.drop pos)).text (hd (toks.drop pos)).at_ := (MapKept.heap_alloc w1 _).1
    have hr1 : r < w1.heap.size := Nat.lt_of_lt_of_le hr0 hf.size
    go_wp2_with fail
    have h2 := h1.alloc (.cells #[.int .u8 (hd (toks.drop pos)).kind, .string (hd (toks.drop pos)).text, .int .i64 (hd (toks.drop pos)).at_] 103)
    have hts2 := hts1.fr ((Fr.refl (fun _ => False) w1).alloc (.cells #[.int .u8 (hd (toks.drop pos)).kind, .string (hd (toks.drop pos)).text, .int .i64 (hd (toks.drop pos)).at_] 103)) (fun _ _ _ _ => id)
    have hf2 := hf.alloc (.cells #[.int .u8 (hd (toks.drop pos)).kind, .string (hd (toks.drop pos)).text, .int .i64 (hd (toks.drop pos)).at_] 103)
    clear h1 hts1 hf
    refine (take_any h2 hend k hk7 hts2).mono ?_
    rintro e w3 ⟨rfl, hf3, hr3⟩
    rw [HQ.out] at hr3 ⊢
    have hT3 := hT.fr hf3 (by show ¬ w1.heap.size = r; omega)
    obtain ⟨t0, t1, t2, -, -⟩ := hT3.cells
    go_wp2_with fail
    refine bodyPost_ret (results_tmp rfl _ _ _) rfl (RPost.good HR.out ((hf2.mono (fun _ _ => False.elim)).trans hf3) rfl rfl hr3 (by simp [List.tail_drop]))

theorem name_tok {w : World} {r R cap pos : Nat} {cur : Array Value} {toks : List Tk} (h : RIn w r R cap cur toks pos) (hend : ∀ t, toks.getLast? = some t → t.kind = 7) :
    Calls Try.prog 43 #[.pointer (some ⟨r, 0, none⟩)] w (RPost (· = r) w r R cap cur toks (nameS (toks.drop pos)) (fun x v _ => v = .string x)) := by
  go_enter Try.func43, Try.ntmps43
  go_wp2_with fail
  refine (must_any h hend 2 (by decide) (Strs.nil w)).mono ?_
  rintro e w1 ⟨hf, hp⟩
  have hnS : mustS 2 [] (toks.drop pos) = nameS (toks.drop pos) := rfl
  rw [hnS] at hp
  cases hq : nameS (toks.drop pos) with
  | error na =>
    obtain ⟨n, a⟩ := na
    rw [hq] at hp
    simp only at hp
    subst hp
    have HQ := Lib.hid hq
    clear hq hnS
    exact ⟨rfl, RPost.bad HQ.out hf rfl⟩
  | ok xl =>
    obtain ⟨x, l⟩ := xl
    rw [hq] at hp
    obtain ⟨v, pos1, rfl, rfl, hr1, hl1⟩ := hp
    have HQ := Lib.hid hq
    have HL := Lib.hid hl1
    clear hq hnS hl1
    go_wp2_with fail
    refine bodyPost_ret (results_tmp rfl _ _ _) rfl (RPost.good HQ.out hf rfl rfl hr1 HL.out)
end Go.Proofs.Ytejpmdlokmlmeaa
