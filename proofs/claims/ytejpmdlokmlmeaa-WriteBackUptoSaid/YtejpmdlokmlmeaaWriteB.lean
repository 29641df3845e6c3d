/- The small functions of write: must, one, name. Condition: a text to be asked is as any. -/
import Derived.Test.YtejpmdlokmlmeaaWriteA
import Derived.Test.YtejpmdlokmlmeaaReadC
set_option linter.unusedVariables false
set_option linter.unusedSimpArgs false
namespace Go.Proofs.Ytejpmdlokmlmeaa
open Go.RowKit

/-- The variable that the library's search reads is there. -/
def HM (w : World) : Prop := ∃ mm, w.cell? ⟨0, 0, none⟩ = some (.int .i64 mm)
theorem HM.fr {S : Nat → Prop} {w w' : World} (h : HM w) (hf : Fr S w w') (h0 : ¬ S 0) : HM w' := by
  obtain ⟨mm, h⟩ := h
  exact ⟨mm, (hf.cell (p := ⟨0, 0, none⟩) (World.block_lt_of_cell? w _ h) h0).trans h⟩
theorem HM.alloc {w : World} (h : HM w) (o : Obj) : HM (w.alloc o) := h.fr ((Fr.refl (fun _ => False) w).alloc o) id
theorem HM.wf {w w' : World} {b : Nat} (h : HM w) (hf : Wf b w w') (hb : 0 < b) : HM w' := h.fr hf.low (by omega)

/-- What a text that may not be written panics with. -/
def writePanic : List PanicEntry := [{ v := .iface 52 (.agg #[]), recovered := false }]

set_option maxRecDepth 100000 in
set_option maxHeartbeats 400000 in
theorem must_yes {w : World} {N : Nat} {n : Int} (hN : w.heap.size = N) (hn : n = 1) :
    Calls Try.prog 29 #[.slice (some ⟨N, 0, none⟩) n.toNat n.toNat] (w.alloc (.cells #[.bool true] 4)) fun e w' => e = .returned (.tuple #[]) ∧ w' = w.alloc (.cells #[.bool true] 4) := by
  subst hN
  subst hn
  have hc : (w.alloc (.cells #[.bool true] 4)).cell? ⟨w.heap.size, 0, none⟩ = some (.bool true) := (Blk.new w #[.bool true] 4).cell 0 rfl
  generalize w.alloc (.cells #[.bool true] 4) = w1 at *
  generalize w.heap.size = N at *
  go_enter Try.func29, Try.ntmps29
  go_wp2
  go_loop [6] (fun i => ∃ k : Nat, k ≤ 1 ∧ i = .int .i64 k) (fun i => 1 - (intOf i).toNat)
  case atStart => exact ⟨0, by omega, rfl⟩
  case round =>
    obtain ⟨k, hk, rfl⟩ := hrel
    by_cases h : k < 1
    · obtain rfl : k = 0 := by omega
      go_wp2
      go_round
      case rel => exact ⟨1, by omega, by go_num⟩
      case measure => simp [intOf]
    · obtain rfl : k = 1 := by omega
      go_wp2
      go_end0
      exact ⟨rfl, rfl⟩
set_option maxRecDepth 100000 in
set_option maxHeartbeats 400000 in
theorem must_no {w : World} {N : Nat} {n : Int} (hN : w.heap.size = N) (hn : n = 1) :
    Calls Try.prog 29 #[.slice (some ⟨N, 0, none⟩) n.toNat n.toNat] (w.alloc (.cells #[.bool false] 4)) fun e w' => e = .panicked writePanic ∧ w' = w.alloc (.cells #[.bool false] 4) := by
  subst hN
  subst hn
  have hc : (w.alloc (.cells #[.bool false] 4)).cell? ⟨w.heap.size, 0, none⟩ = some (.bool false) := (Blk.new w #[.bool false] 4).cell 0 rfl
  generalize w.alloc (.cells #[.bool false] 4) = w1 at *
  generalize w.heap.size = N at *
  go_enter Try.func29, Try.ntmps29
  go_wp2
  go_loop [6] (fun i => ∃ k : Nat, k = 0 ∧ i = .int .i64 k) (fun i => 1 - (intOf i).toNat)
  case atStart => exact ⟨0, rfl, rfl⟩
  case round =>
    obtain ⟨k, rfl, rfl⟩ := hrel
    go_wp2
    exact ⟨rfl, rfl, rfl⟩
/-- Both in one. -/
theorem must_one {w : World} {N : Nat} {n : Int} (c : Bool) (hN : w.heap.size = N) (hn : n = 1) :
    Calls Try.prog 29 #[.slice (some ⟨N, 0, none⟩) n.toNat n.toNat] (w.alloc (.cells #[.bool c] 4)) fun e w' => (c = true ∧ e = .returned (.tuple #[]) ∨ c = false ∧ e = .panicked writePanic) ∧ w' = w.alloc (.cells #[.bool c] 4) := by
  cases c
  · exact (must_no hN hn).mono (fun e w' h => ⟨.inr ⟨rfl, h.1⟩, h.2⟩)
  · exact (must_yes hN hn).mono (fun e w' h => ⟨.inl ⟨rfl, h.1⟩, h.2⟩)

/-- Whether a text is one token of a kind, of this text. -/
def oneB (s : ByteArray) (k : Nat) (x : ByteArray) : Bool := match lexS s with
  | .ok [a, _] => a.kind == k && decide (a.text = x)
  | _ => false
def nameB (s : ByteArray) : Bool := oneB s 2 s
theorem tokS_err {s : ByteArray} {i : Nat} {n : Int} (h : tokS s i = .error n) : n ≠ 0 := by
  unfold tokS at h
  repeat' split at h
  all_goals first | (cases h; done) | (injection h with h; subst h; decide)
theorem lexN_err (s : ByteArray) : ∀ (f i : Nat) (l : List Tk) (n : Int) (j : Nat), lexN s f i l = .error (n, j) → n ≠ 0 := by
  intro f
  induction f with
  | zero => intro i l n j h; cases h
  | succ f ih =>
    intro i l n j h
    rw [lexN] at h
    split at h
    · split at h
      · exact ih _ _ _ _ h
      · split at h
        · exact ih _ _ _ _ h
        · split at h
          · rename_i e he
            cases h
            exact tokS_err he
          · exact ih _ _ _ _ h
    · cases h
theorem lexS_err {s : ByteArray} {n : Int} {i : Nat} (h : lexS s = .error (n, i)) : n ≠ 0 := by
  unfold lexS at h
  split at h
  · cases h; decide
  · split at h
    · rename_i e he
      cases h
      exact lexN_err _ _ _ _ _ _ he
    · cases h
theorem lexS_len {s : ByteArray} {l : List Tk} (h : lexS s = .ok l) : 0 < l.length := by
  unfold lexS at h
  split at h
  · cases h
  · split at h
    · cases h
    · cases h; simp

theorem own_tok {w : World} {base : Nat} {v : Value} {a c : Tk} (h : w.ownsRow base 103 3 v 2 (tkCells [a, c])) :
    ∃ g cap, v = .slice (some ⟨g, 0, none⟩) 2 cap ∧ w.cell? ⟨g, 0, none⟩ = some (.int .u8 a.kind) ∧ w.cell? ⟨g, 1, none⟩ = some (.string a.text) := by
  obtain ⟨h1, h2⟩ := h
  rcases h2 with ⟨-, h2⟩ | ⟨g, cap, cur, rfl, hg, hh, hn, hcap, hcs, ht⟩
  · omega
  · refine ⟨g, cap, rfl, ?_, ?_⟩
    · have e : (tkCells [a, c])[0]? = some (.int .u8 a.kind) := rfl
      rw [← ht, List.getElem?_take, if_pos (by omega)] at e
      simp only [World.cell?, hh]
      simpa using e
    · have e : (tkCells [a, c])[1]? = some (.string a.text) := rfl
      rw [← ht, List.getElem?_take, if_pos (by omega)] at e
      simp only [World.cell?, hh]
      simpa using e
theorem own_slice {w : World} {base e size n : Nat} {v : Value} {xs : List Value} (h : w.ownsRow base e size v n xs) : ∃ a c, v = .slice a n c := by
  obtain ⟨h1, h2⟩ := h
  rcases h2 with ⟨rfl, rfl⟩ | ⟨g, cap, cur, rfl, r⟩
  · exact ⟨_, _, rfl⟩
  · exact ⟨_, _, rfl⟩

set_option maxRecDepth 100000 in
set_option maxHeartbeats 1000000 in
theorem one_any {w : World} (hm : HM w) (s : ByteArray) (k : Nat) (x : ByteArray) :
    Calls Try.prog 58 #[.string s, .int .u8 k, .string x] w fun e w' => e = .returned (.bool (oneB s k x)) ∧ Fr (fun _ => False) w w' := by
  obtain ⟨mm, hm⟩ := hm
  cases hl : lexS s with
  | error ni =>
    obtain ⟨n, i⟩ := ni
    have hn := lexS_err hl
    have hn0 : (n == 0) = false := by rw [beq_eq_false_iff_ne]; exact hn
    have HO := Lib.hid (show oneB s k x = false by simp [oneB, hl])
    have HL := Lib.hid hl
    clear hl hn
    go_enter Try.func58, Try.ntmps58
    go_wp2_with fail
    refine (tokens_any w s hm).mono ?_
    rintro e w1 ⟨hf, hp⟩
    rw [HL.out] at hp
    simp only at hp
    subst hp
    go_wp2_with fail
    go_ret
    exact ⟨ret_bool HO.out.symm, hf.alloc _⟩
  | ok l =>
    have HL := Lib.hid hl
    by_cases h2 : l.length = 2
    · obtain ⟨a, c, rfl⟩ : ∃ a c, l = [a, c] := by
        match l, h2 with
        | [a, c], _ => exact ⟨a, c, rfl⟩
      by_cases hk : a.kind = k
      · have hkk : ((a.kind : Int) == (k : Int)) = true := by rw [hk]; simp
        have HO := Lib.hid (show oneB s k x = (a.text.toList == x.toList) by
          by_cases hx : a.text = x
          · simp [oneB, hl, hk, hx]
          · have : (a.text.toList == x.toList) = false := by rw [ByteArray.toList_eq x]; exact bstr_ne hx
            simp [oneB, hl, hk, hx, this])
        clear hl h2 hk
        go_enter Try.func58, Try.ntmps58
        go_wp2_with fail
        refine (tokens_any w s hm).mono ?_
        rintro e w1 ⟨hf, hp⟩
        rw [HL.out] at hp
        obtain ⟨v, rfl, ho⟩ := hp
        obtain ⟨g, cap, rfl, c0, c1⟩ := own_tok (own_fr ho ((Fr.refl (fun _ => False) w1).alloc (.cells #[.int .i64 0, .int .i64 0] 32)) (fun _ _ _ => id))
        go_wp2_with fail
        go_ret
        exact ⟨ret_bool HO.out.symm, hf.alloc _⟩
      · have hkk : ((a.kind : Int) == (k : Int)) = false := by rw [beq_eq_false_iff_ne]; omega
        have HO := Lib.hid (show oneB s k x = false by simp [oneB, hl, hk])
        clear hl h2 hk
        go_enter Try.func58, Try.ntmps58
        go_wp2_with fail
        refine (tokens_any w s hm).mono ?_
        rintro e w1 ⟨hf, hp⟩
        rw [HL.out] at hp
        obtain ⟨v, rfl, ho⟩ := hp
        obtain ⟨g, cap, rfl, c0, c1⟩ := own_tok (own_fr ho ((Fr.refl (fun _ => False) w1).alloc (.cells #[.int .i64 0, .int .i64 0] 32)) (fun _ _ _ => id))
        go_wp2_with fail
        go_ret
        exact ⟨ret_bool HO.out.symm, hf.alloc _⟩
    · have HO := Lib.hid (show oneB s k x = false by
        match l, h2 with
        | [], _ => simp [oneB, hl]
        | [a], _ => simp [oneB, hl]
        | a :: c :: d :: r, _ => simp [oneB, hl])
      have h2' : ((l.length : Int) == 2) = false := by rw [beq_eq_false_iff_ne]; omega
      clear hl h2
      go_enter Try.func58, Try.ntmps58
      go_wp2_with fail
      refine (tokens_any w s hm).mono ?_
      rintro e w1 ⟨hf, hp⟩
      rw [HL.out] at hp
      obtain ⟨v, rfl, ho⟩ := hp
      obtain ⟨ga, gc, rfl⟩ := own_slice ho
      go_wp2_with fail
      go_ret
      exact ⟨ret_bool HO.out.symm, hf.alloc _⟩
set_option maxRecDepth 100000 in
set_option maxHeartbeats 400000 in
theorem writeName_any {w : World} (hm : HM w) (s : ByteArray) :
    Calls Try.prog 55 #[.string s] w fun e w' => e = .returned (.bool (nameB s)) ∧ Fr (fun _ => False) w w' := by
  go_enter Try.func55, Try.ntmps55
  go_wp2_with fail
  refine (one_any hm s 2 s).mono ?_
  rintro e w1 ⟨rfl, hf⟩
  go_wp2_with fail
  go_ret
  exact ⟨rfl, hf⟩
end Go.Proofs.Ytejpmdlokmlmeaa
