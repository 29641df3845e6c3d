/- An action is read: the walk. Conditions: the reader's four cells, texts to a hundred thousand bytes. -/
import Derived.Test.YtejpmdlokmlmeaaLexE
set_option linter.unusedVariables false
set_option linter.unusedSimpArgs false
namespace Go.Proofs.Ytejpmdlokmlmeaa
open Go.RowKit

/-- What 'action' does from a place (of its first brace) on. -/
def ActPost (w : World) (b : Nat) (s : ByteArray) (i : Nat) (l : Value) (e : Ending) (w' : World) : Prop :=
  Fr (· = b) w w' ∧ match actS s 1 (i + 1) with
    | none => e = .panicked (lexPanic 101)
    | some n => e = .returned (.string (s.extract (i + 1) (i + n))) ∧ LR w' b s (i + 1 + n) l 0
theorem ActPost.none_ {w w' : World} {b : Nat} {s : ByteArray} {i : Nat} {l : Value} {e : Ending} (h : actS s 1 (i + 1) = none) (hf : Fr (· = b) w w') (he : e = .panicked (lexPanic 101)) : ActPost w b s i l e w' := by
  unfold ActPost; rw [h]; exact ⟨hf, he⟩
theorem ActPost.some_ {w w' : World} {b : Nat} {s : ByteArray} {i n : Nat} {l : Value} {e : Ending} (h : actS s 1 (i + 1) = some n) (hf : Fr (· = b) w w') (he : e = .returned (.string (s.extract (i + 1) (i + n)))) (hr : LR w' b s (i + 1 + n) l 0) : ActPost w b s i l e w' := by
  unfold ActPost; rw [h]; exact ⟨hf, he, hr⟩
/-- The table of what a byte of an action does. -/
def does (b : Nat) : Array MapEntry := #[{ key := .int .u8 123, val := .func (.func 75) #[.pointer (some ⟨b, 0, none⟩)] #[], born := 0 }, { key := .int .u8 125, val := .func (.func 76) #[.pointer (some ⟨b, 0, none⟩)] #[], born := 1 },
  { key := .int .u8 34, val := .func (.func 77) #[.pointer (some ⟨b, 0, none⟩)] #[], born := 2 }, { key := .int .u8 47, val := .func (.func 78) #[.pointer (some ⟨b, 0, none⟩)] #[], born := 3 }]
theorem does_run {w : World} {m b : Nat} (hb : w.heap[m]? = some (.map (does b) 4)) (c : UInt8) :
    (c = 123 → ∀ n, (Instr.lookup 131 (.map (some m)) (.int .u8 c.toNat) true).run Try.prog (w.drewN n) = .ok (.tuple #[.func (.func 75) #[.pointer (some ⟨b, 0, none⟩)] #[], .bool true]) (w.drewN n)) ∧
    (c = 125 → ∀ n, (Instr.lookup 131 (.map (some m)) (.int .u8 c.toNat) true).run Try.prog (w.drewN n) = .ok (.tuple #[.func (.func 76) #[.pointer (some ⟨b, 0, none⟩)] #[], .bool true]) (w.drewN n)) ∧
    (c = 34 → ∀ n, (Instr.lookup 131 (.map (some m)) (.int .u8 c.toNat) true).run Try.prog (w.drewN n) = .ok (.tuple #[.func (.func 77) #[.pointer (some ⟨b, 0, none⟩)] #[], .bool true]) (w.drewN n)) ∧
    (c = 47 → ∀ n, (Instr.lookup 131 (.map (some m)) (.int .u8 c.toNat) true).run Try.prog (w.drewN n) = .ok (.tuple #[.func (.func 78) #[.pointer (some ⟨b, 0, none⟩)] #[], .bool true]) (w.drewN n)) ∧
    (c ≠ 123 → c ≠ 125 → c ≠ 34 → c ≠ 47 → ∀ n, (Instr.lookup 131 (.map (some m)) (.int .u8 c.toNat) true).run Try.prog (w.drewN n) = .ok (.tuple #[.nilFunc, .bool false]) (w.drewN n)) := by
  have hb' : ∀ n, (w.drewN n).heap[m]? = some (.map (does b) 4) := fun n => hb
  refine ⟨?_, ?_, ?_, ?_, ?_⟩
  · rintro rfl n
    exact run_lookup_byte _ _ 0 _ Try.underlying131 Try.underlying5 (hb' n) (by simp [does, Instr.findNow, Instr.sameNow])
  · rintro rfl n
    exact run_lookup_byte _ _ 1 _ Try.underlying131 Try.underlying5 (hb' n) (by simp [does, Instr.findNow, Instr.sameNow])
  · rintro rfl n
    exact run_lookup_byte _ _ 2 _ Try.underlying131 Try.underlying5 (hb' n) (by simp [does, Instr.findNow, Instr.sameNow])
  · rintro rfl n
    exact run_lookup_byte _ _ 3 _ Try.underlying131 Try.underlying5 (hb' n) (by simp [does, Instr.findNow, Instr.sameNow])
  · intro h1 h2 h3 h4 n
    have q1 : ((c.toNat : Int) == 123) = false := by rw [b_eq c 123 123 rfl]; simpa using h1
    have q2 : ((c.toNat : Int) == 125) = false := by rw [b_eq c 125 125 rfl]; simpa using h2
    have q3 : ((c.toNat : Int) == 34) = false := by rw [b_eq c 34 34 rfl]; simpa using h3
    have q4 : ((c.toNat : Int) == 47) = false := by rw [b_eq c 47 47 rfl]; simpa using h4
    exact run_lookup_none _ _ _ Try.underlying131 Try.underlying5 (fun _ => by kernel_rfl) (hb' n) (by simp [does, Instr.findNow, Instr.sameNow, q1, q2, q3, q4])

set_option maxRecDepth 100000 in
set_option maxHeartbeats 2000000 in
theorem action_any {w : World} {b : Nat} {s : ByteArray} {at_ : Nat} {l : Value} (h : LR w b s at_ l 0) (ha : at_ < s.size) (hs : s.size ≤ 100000) :
    Calls Try.prog 63 #[.pointer (some ⟨b, 0, none⟩)] w (ActPost w b s at_ l) := by
  have hmf : ∀ (fn : Fn) (first cap : Array Value) (w : World), (Instr.makeFunc fn first cap).run Try.prog w = .ok (.func fn first cap) w := fun _ _ _ _ => rfl
  have hmm := @run_makeMap Try.prog
  have hA : ∀ o, LR (w.alloc o) b s at_ l 0 := fun o => h.fr ((Fr.refl (fun _ => False) w).alloc o) id
  have hA1 := fun o => (hA o).cells.2.1
  go_enter Try.func63, Try.ntmps63
  go_wp2_with (with_reducible refine wpList_insert_new _ rfl _ _ _ _ _ _ rfl Try.underlying131 Try.underlying5 _ _ _ rfl rfl rfl ?_)
  refine (opens_any (hA _) (by omega) hs (by omega)).mono ?_
  rintro e w1 ⟨rfl, hf1, hr1⟩
  have hbw : b < w.heap.size := lt_of_heap h
  have hm1 : w1.heap[w.heap.size]? = some (.map (does b) 4) := (hf1.block w.heap.size (by simp) (by omega)).trans (MapKept.heap_alloc w _).1
  have hF1 : Fr (· = b) w w1 := ((Fr.refl _ w).alloc _).trans hf1
  clear hf1 hA hA1 hmm hmf
  go_wp2_with fail
  go_loopg [] (s.size + 1 - (at_ + 1)) (fun g wr => ∃ k d : Nat, g = s.size + 1 - k ∧ k ≤ s.size ∧ d ≤ k ∧ at_ + 1 ≤ k ∧ (d = 0 → at_ + 2 ≤ k) ∧ Fr (· = b) w wr ∧ LR wr b s k l d ∧ wr.heap[w.heap.size]? = some (.map (does b) 4) ∧
      Aside (actS s 1 (at_ + 1) = (actS s d k).map (· + (k - (at_ + 1)))))
  case atStart => exact ⟨at_ + 1, 1, rfl, by omega, by omega, Nat.le_refl _, by omega, hF1, hr1, hm1, show actS s 1 (at_ + 1) = (actS s 1 (at_ + 1)).map _ by cases actS s 1 (at_ + 1) <;> simp⟩
  case round =>
    clear hr1 hm1 hF1 h
    obtain ⟨k, d, hg, hk, hdk, hak, hd0, hf, hr, hm, hl⟩ := hrel
    have Hg := Lib.hid hg
    have Hm := Lib.hid hm
    clear hg hm
    cases d with
    | zero =>
      have h2 : at_ + 2 ≤ k := hd0 rfl
      obtain ⟨c0, c1, c2, c3, f1, f2, f3⟩ := hr.cells
      have Hq := Lib.hid (show actS s 1 (at_ + 1) = some (k - (at_ + 1)) by rw [hl.out, actS_zero]; simp)
      have x1 : IntKind.i64.wrap ((k : Int) - 1) = (k : Int) - 1 := IntWalk.i64_in _ (by omega)
      have x2 : ((at_ : Int) + 1).toNat = at_ + 1 := by omega
      have x3 : (0 : Int) ≤ (at_ : Int) + 1 := by omega
      have x4 : (at_ : Int) + 1 ≤ (k : Int) - 1 := by omega
      have x5 : (k : Int) - 1 ≤ (s.size : Int) := by omega
      have x6 : ((k : Int) - 1).toNat = k - 1 := by omega
      go_wp2_with fail
      go_quiet (fail)
      go_wp2_with fail
      go_ret
      exact ActPost.some_ Hq.out (hf.drewN _) (by rw [show at_ + (k - (at_ + 1)) = k - 1 by omega]; rfl) (by rw [show at_ + 1 + (k - (at_ + 1)) = k by omega]; exact hr.drewN _)
    | succ d =>
      have hop : (0 : Int) < (d : Int) + 1 := by omega
      by_cases hlt : k < s.size
      · have HA := Lib.hid (actS_at (d := d) hlt)
        obtain ⟨D1, D2, D3, D4, D5⟩ := does_run Hm.out (bAt s k)
        obtain ⟨c0, c1, c2, c3, f1, f2, f3⟩ := hr.cells
        go_wp2_with fail
        refine (hr.more_yes hlt).mono ?_
        rintro e w2 ⟨rfl, n1, rfl⟩
        go_wp2_with fail
        refine ((hr.drewN n1).now (by omega) (by omega)).mono ?_
        rintro e w2 ⟨rfl, n2, rfl⟩
        by_cases q1 : bAt s k = 123
        · have D := D1 q1
          have HA1 := Lib.hid (show actS s (d + 1) k = (actS s (d + 2) (k + 1)).map (· + 1) by rw [HA.out, if_pos q1])
          clear D1 D2 D3 D4 D5 HA q1
          go_wp2_with fail
          refine (opens_any (hr.drewN _) (by omega) hs (by omega)).mono ?_
          rintro e w3 ⟨rfl, hf3, hr3⟩
          have hm3 : w3.heap[w.heap.size]? = some (.map (does b) 4) := (hf3.block _ (lt_of_heap Hm.out) (by show ¬ w.heap.size = b; omega)).trans Hm.out
          have hF3 : Fr (· = b) w w3 := (hf.drewN _).trans hf3
          go_wp2_with fail
          go_roundg (s.size + 1 - (k + 1))
          case measure => have := Hg.out; omega
          case rel =>
            refine ⟨k + 1, d + 2, rfl, by omega, by omega, by omega, by omega, hF3, hr3.opEq (by push_cast; omega), hm3, ?_⟩
            show actS s 1 (at_ + 1) = _
            rw [hl.out, HA1.out]
            cases actS s (d + 2) (k + 1) with
            | none => rfl
            | some m => simp; omega
        · by_cases q2 : bAt s k = 125
          · have D := D2 q2
            have HA1 := Lib.hid (show actS s (d + 1) k = (actS s d (k + 1)).map (· + 1) by rw [HA.out, if_neg q1, if_pos q2])
            clear D1 D2 D3 D4 D5 HA q1 q2
            go_wp2_with fail
            refine (closes_any (hr.drewN _) (by omega) hs (by omega)).mono ?_
            rintro e w3 ⟨rfl, hf3, hr3⟩
            have hm3 : w3.heap[w.heap.size]? = some (.map (does b) 4) := (hf3.block _ (lt_of_heap Hm.out) (by show ¬ w.heap.size = b; omega)).trans Hm.out
            have hF3 : Fr (· = b) w w3 := (hf.drewN _).trans hf3
            go_wp2_with fail
            go_roundg (s.size + 1 - (k + 1))
            case measure => have := Hg.out; omega
            case rel =>
              refine ⟨k + 1, d, rfl, by omega, by omega, by omega, by omega, hF3, hr3.opEq (by push_cast; omega), hm3, ?_⟩
              show actS s 1 (at_ + 1) = _
              rw [hl.out, HA1.out]
              cases actS s (d) (k + 1) with
              | none => rfl
              | some m => simp; omega
          · by_cases q3 : bAt s k = 34
            · have D := D3 q3
              have HA1 := Lib.hid (show actS s (d + 1) k = (quoteS s (k + 1)).bind fun n => (actS s (d + 1) (k + 1 + n)).map (· + (n + 1)) by rw [HA.out, if_neg q1, if_neg q2, if_pos q3])
              clear D1 D2 D3 D4 D5 HA q1 q2 q3
              go_wp2_with fail
              refine (quoted_any (hr.drewN _) hlt hs).mono ?_
              rintro e w3 ⟨hf3, hq3⟩
              have hF3 : Fr (· = b) w w3 := (hf.drewN _).trans hf3
              have hm3 : w3.heap[w.heap.size]? = some (.map (does b) 4) := (hf3.block _ (lt_of_heap Hm.out) (by show ¬ w.heap.size = b; omega)).trans Hm.out
              cases hq : quoteS s (k + 1) with
              | none =>
                rw [hq] at hq3
                simp only at hq3
                subst hq3
                have Hq := Lib.hid hq
                clear hq
                exact ⟨rfl, ActPost.none_ (by rw [hl.out, HA1.out, Hq.out]; rfl) hF3 rfl⟩
              | some m =>
                rw [hq] at hq3
                obtain ⟨rfl, hr3⟩ := hq3
                have hle := quoteS_le _ _ _ rfl hq
                have Hq := Lib.hid hq
                clear hq
                go_wp2_with fail
                go_roundg (s.size + 1 - (k + 1 + m))
                case measure => have := Hg.out; omega
                case rel =>
                  refine ⟨k + 1 + m, d + 1, rfl, by omega, by omega, by omega, by omega, hF3, hr3.opEq (by push_cast; omega), hm3, ?_⟩
                  show actS s 1 (at_ + 1) = _
                  rw [hl.out, HA1.out, Hq.out]
                  show Option.map _ ((actS s (d + 1) (k + 1 + m)).map _) = _
                  cases actS s (d + 1) (k + 1 + m) with
                  | none => rfl
                  | some m => simp; omega
            · by_cases q4 : bAt s k = 47
              · have D := D4 q4
                have s1 := slashN_le s k hlt
                have s2 := slashN_pos s k hlt q4
                have HA1 := Lib.hid (show actS s (d + 1) k = (actS s (d + 1) (k + slashN s k)).map (· + slashN s k) by rw [HA.out, if_neg q1, if_neg q2, if_neg q3, if_pos q4])
                clear D1 D2 D3 D4 D5 HA q1 q2 q3 q4
                go_wp2_with fail
                refine (slash_any (hr.drewN _) (by omega) hs).mono ?_
                rintro e w3 ⟨rfl, hf3, hr3⟩
                have hm3 : w3.heap[w.heap.size]? = some (.map (does b) 4) := (hf3.block _ (lt_of_heap Hm.out) (by show ¬ w.heap.size = b; omega)).trans Hm.out
                have hF3 : Fr (· = b) w w3 := (hf.drewN _).trans hf3
                go_wp2_with fail
                go_roundg (s.size + 1 - (k + slashN s k))
                case measure => have := Hg.out; omega
                case rel =>
                  refine ⟨k + slashN s k, d + 1, rfl, by omega, by omega, by omega, by omega, hF3, hr3.opEq (by push_cast; omega), hm3, ?_⟩
                  show actS s 1 (at_ + 1) = _
                  rw [hl.out, HA1.out]
                  cases actS s (d + 1) (k + slashN s k) with
                  | none => rfl
                  | some m => simp; omega
              · have D := D5 q1 q2 q3 q4
                have HA1 := Lib.hid (show actS s (d + 1) k = (actS s (d + 1) (k + 1)).map (· + 1) by rw [HA.out, if_neg q1, if_neg q2, if_neg q3, if_neg q4])
                clear D1 D2 D3 D4 D5 HA q1 q2 q3 q4
                go_wp2_with fail
                go_roundg (s.size + 1 - (k + 1))
                case measure => have := Hg.out; omega
                case rel =>
                  refine ⟨k + 1, d + 1, rfl, by omega, by omega, by omega, by omega, (hf.drewN _).setCell (fun _ => rfl) _, ((hr.drewN _).setI _ (k + 1) (by omega)).opEq (by push_cast; omega), ?_, ?_⟩
                  · have := Hm.out
                    rw [Below.heap_setCell _ _ _ _ (show w.heap.size ≠ b by omega)]
                    exact this
                  show actS s 1 (at_ + 1) = _
                  rw [hl.out, HA1.out]
                  cases actS s (d + 1) (k + 1) with
                  | none => rfl
                  | some m => simp; omega
      · obtain ⟨c0, c1, c2, c3, f1, f2, f3⟩ := hr.cells
        have Hq := Lib.hid (show actS s 1 (at_ + 1) = none by rw [hl.out, actS_end (by omega)]; rfl)
        go_wp2_with fail
        refine (hr.more_no hlt).mono ?_
        rintro e w2 ⟨rfl, n1, rfl⟩
        go_wp2_with fail
        refine (no_any _ _).mono ?_
        rintro e w' ⟨rfl, rfl⟩
        exact ⟨rfl, ActPost.none_ Hq.out (hf.drewN _) rfl⟩
end Go.Proofs.Ytejpmdlokmlmeaa
