/- A string of an action is gone over, or the throw. Conditions: the reader's four cells, texts to a hundred thousand bytes. -/
import Derived.Test.YtejpmdlokmlmeaaLexC
set_option linter.unusedVariables false
set_option linter.unusedSimpArgs false
namespace Go.Proofs.Ytejpmdlokmlmeaa
open Go.RowKit

/-- What 'quoted' does from a place (of the first quote) on. -/
def QuotePost (w : World) (b : Nat) (s : ByteArray) (i : Nat) (l : Value) (op : Int) (e : Ending) (w' : World) : Prop :=
  Fr (· = b) w w' ∧ match quoteS s (i + 1) with
    | none => e = .panicked (lexPanic 101)
    | some n => e = .returned (.tuple #[]) ∧ LR w' b s (i + 1 + n) l op
theorem QuotePost.none_ {w w' : World} {b : Nat} {s : ByteArray} {i : Nat} {l : Value} {op : Int} {e : Ending} (h : quoteS s (i + 1) = none) (hf : Fr (· = b) w w') (he : e = .panicked (lexPanic 101)) : QuotePost w b s i l op e w' := by
  unfold QuotePost; rw [h]; exact ⟨hf, he⟩
theorem QuotePost.some_ {w w' : World} {b : Nat} {s : ByteArray} {i n : Nat} {l : Value} {op : Int} {e : Ending} (h : quoteS s (i + 1) = some n) (hf : Fr (· = b) w w') (he : e = .returned (.tuple #[])) (hr : LR w' b s (i + 1 + n) l op) : QuotePost w b s i l op e w' := by
  unfold QuotePost; rw [h]; exact ⟨hf, he, hr⟩

set_option maxHeartbeats 2000000 in
theorem quoted_any {w : World} {b : Nat} {s : ByteArray} {at_ : Nat} {l : Value} {op : Int} (h : LR w b s at_ l op) (ha : at_ < s.size) (hs : s.size ≤ 100000) :
    Calls Try.prog 77 #[.pointer (some ⟨b, 0, none⟩)] w (QuotePost w b s at_ l op) := by
  obtain ⟨c0, c1, c2, c3, f1, f2, f3⟩ := h.cells
  go_enter Try.func77, Try.ntmps77
  go_wp2_with fail
  clear c0 c1 c2 c3 f1 f2 f3
  go_loopg [] (s.size + 1 - (at_ + 1)) (fun g wr => ∃ k, g = s.size + 1 - k ∧ k ≤ s.size + 1 ∧ Fr (· = b) w wr ∧ LR wr b s k l op ∧ Aside (at_ + 1 ≤ k ∧ quoteS s (at_ + 1) = (quoteS s k).map (· + (k - (at_ + 1)))))
  case atStart => exact ⟨at_ + 1, rfl, by omega, (Fr.refl (· = b) _).setCell (fun _ => rfl) _, h.setAt (at_ + 1), Nat.le_refl _, by simp⟩
  case round =>
    obtain ⟨k, hg, hk, hf, hr, hl⟩ := hrel
    have Hg := Lib.hid hg
    clear hg
    go_wp2_with fail
    refine (hr.now (by omega) (by omega)).mono ?_
    rintro e w' ⟨rfl, n, rfl⟩
    by_cases hlt : k < s.size
    · have HQ := Lib.hid (quoteS_at hlt)
      by_cases c34 : bAt s k = 34
      · rw [c34]
        have hq : quoteS s (at_ + 1) = some (1 + (k - (at_ + 1))) := by rw [hl.out.2, HQ.out, if_pos c34]; rfl
        have hk' : k + 1 = at_ + 1 + (1 + (k - (at_ + 1))) := by have := hl.out.1; omega
        have Hq := Lib.hid hq
        have Hk := Lib.hid hk'
        clear hq hk' c34
        obtain ⟨c0, c1, c2, c3, f1, f2, f3⟩ := hr.cells
        go_wp2_with fail
        go_end0
        exact QuotePost.some_ Hq.out ((hf.drewN _).setCell (fun _ => rfl) _) rfl (by rw [← Hk.out]; exact (hr.drewN _).setI _ (k + 1) (by omega))
      · have k34 : (((bAt s k).toNat : Int) != 34) = true := by rw [b_ne _ 34 34 rfl]; simpa using c34
        have HQ2 := Lib.hid (show quoteS s k = if bAt s k = 92 then (quoteS s (k + 2)).map (· + 2) else if bAt s k = 10 then none else (quoteS s (k + 1)).map (· + 1) by rw [HQ.out, if_neg c34])
        clear HQ c34
        go_wp2_with fail
        refine ((hr.drewN n).now (by omega) (by omega)).mono ?_
        rintro e w' ⟨rfl, n2, rfl⟩
        by_cases c92 : bAt s k = 92
        · rw [c92]
          have HQ3 := Lib.hid (show quoteS s k = (quoteS s (k + 2)).map (· + 2) by rw [HQ2.out, if_pos c92])
          clear k34 c92 HQ2
          obtain ⟨c0, c1, c2, c3, f1, f2, f3⟩ := hr.cells
          go_wp2_with fail
          clear c0 c1 c2 c3 f1 f2 f3
          have hr2 := fun m => (hr.drewN m).setI (k + 1) (k + 1) (by omega)
          have Hr2 := Lib.hid hr2
          have Hf2 := Lib.hid (fun m => (hf.drewN m).setCell (p := ⟨b, 1, none⟩) (fun _ => rfl) (.int .i64 ((k : Int) + 1)))
          clear hr2
          by_cases hlt2 : k + 1 < s.size
          · refine ((Hr2.out _).more_yes hlt2).mono ?_
            rintro e w' ⟨rfl, n3, rfl⟩
            obtain ⟨c0, c1, c2, c3, f1, f2, f3⟩ := (Hr2.out (n + n2)).cells
            go_wp2_with fail
            go_roundg (s.size + 1 - (k + 2))
            case measure => have := Hg.out; omega
            case rel =>
              refine ⟨k + 2, rfl, by omega, ((Hf2.out _).drewN _).setCell (fun _ => rfl) _, ((Hr2.out _).drewN _).setI _ (k + 2) (by omega), ?_⟩
              obtain ⟨h1, h2⟩ := hl.out
              refine ⟨by omega, ?_⟩
              rw [h2, HQ3.out]
              cases quoteS s (k + 2) with
              | none => rfl
              | some m => simp; omega
          · refine ((Hr2.out _).more_no hlt2).mono ?_
            rintro e w' ⟨rfl, n3, rfl⟩
            go_wp2_with fail
            refine (no_any _ _).mono ?_
            rintro e w' ⟨rfl, rfl⟩
            exact ⟨rfl, QuotePost.none_ (by rw [hl.out.2, HQ3.out, quoteS_end (by omega)]; rfl) ((Hf2.out _).drewN _) rfl⟩
        · have k92 : (((bAt s k).toNat : Int) == 92) = false := by rw [b_eq _ 92 92 rfl]; simpa using c92
          have HQ3 := Lib.hid (show quoteS s k = if bAt s k = 10 then none else (quoteS s (k + 1)).map (· + 1) by rw [HQ2.out, if_neg c92])
          clear HQ2 c92
          go_wp2_with fail
          refine ((hr.drewN _).now (by omega) (by omega)).mono ?_
          rintro e w' ⟨rfl, n3, rfl⟩
          by_cases c10 : bAt s k = 10
          · rw [c10]
            have Hq := Lib.hid (show quoteS s (at_ + 1) = none by rw [hl.out.2, HQ3.out, if_pos c10]; rfl)
            clear k34 k92 c10 HQ3
            go_wp2_with fail
            refine (no_any _ _).mono ?_
            rintro e w' ⟨rfl, rfl⟩
            exact ⟨rfl, QuotePost.none_ Hq.out (hf.drewN _) rfl⟩
          · have k10 : (((bAt s k).toNat : Int) == 10) = false := by rw [b_eq _ 10 10 rfl]; simpa using c10
            have HQ4 := Lib.hid (show quoteS s k = (quoteS s (k + 1)).map (· + 1) by rw [HQ3.out, if_neg c10])
            clear HQ3 c10
            go_wp2_with fail
            refine ((hr.drewN _).more_yes hlt).mono ?_
            rintro e w' ⟨rfl, n4, rfl⟩
            obtain ⟨c0, c1, c2, c3, f1, f2, f3⟩ := hr.cells
            go_wp2_with fail
            go_roundg (s.size + 1 - (k + 1))
            case measure => have := Hg.out; omega
            case rel =>
              refine ⟨k + 1, rfl, by omega, (hf.drewN _).setCell (fun _ => rfl) _, (hr.drewN _).setI _ (k + 1) (by omega), ?_⟩
              obtain ⟨h1, h2⟩ := hl.out
              refine ⟨by omega, ?_⟩
              rw [h2, HQ4.out]
              cases quoteS s (k + 1) with
              | none => rfl
              | some m => simp; omega
    · have hb : bAt s k = 0 := bAt_out (by omega)
      rw [hb]
      have Hq := Lib.hid (show quoteS s (at_ + 1) = none by rw [hl.out.2, quoteS_end (by omega)]; rfl)
      clear hb
      have hb := Lib.hid (show bAt s k = 0 from bAt_out (by omega))
      go_wp2_with fail
      refine ((hr.drewN n).now (by omega) (by omega)).mono ?_
      rintro e w' ⟨rfl, n2, rfl⟩
      rw [hb.out]
      go_wp2_with fail
      refine ((hr.drewN _).now (by omega) (by omega)).mono ?_
      rintro e w' ⟨rfl, n3, rfl⟩
      rw [hb.out]
      go_wp2_with fail
      refine ((hr.drewN _).more_no hlt).mono ?_
      rintro e w' ⟨rfl, n4, rfl⟩
      go_wp2_with fail
      refine (no_any _ _).mono ?_
      rintro e w' ⟨rfl, rfl⟩
      exact ⟨rfl, QuotePost.none_ Hq.out (hf.drewN _) rfl⟩
end Go.Proofs.Ytejpmdlokmlmeaa
