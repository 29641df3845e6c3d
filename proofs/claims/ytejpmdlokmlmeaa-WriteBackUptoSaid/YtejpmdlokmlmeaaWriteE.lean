/- Parts in brackets are written, whatever writes a part: the walk. Conditions: the bytes are at most 2^40; the part's contract. -/
import Derived.Test.YtejpmdlokmlmeaaWriteD
set_option linter.unusedVariables false
set_option linter.unusedSimpArgs false
namespace Go.Proofs.Ytejpmdlokmlmeaa
open Go.RowKit

/-- So many parts, each behind a bracket or a comma. -/
def moreOut (out : Nat → List UInt8) : Nat → List UInt8
  | 0 => []
  | k + 1 => moreOut out k ++ ((if k = 0 then [40] else [44, 32]) ++ out k)
def rowOut (n : Nat) (out : Nat → List UInt8) : List UInt8 := if n = 0 then [] else moreOut out n ++ [41]
def okTo (ok : Nat → Bool) : Nat → Bool
  | 0 => true
  | k + 1 => okTo ok k && ok k
theorem moreOut_mono (out : Nat → List UInt8) : ∀ (n k : Nat), k ≤ n → (moreOut out k).length ≤ (moreOut out n).length := by
  intro n
  induction n with
  | zero => intro k h; obtain rfl : k = 0 := by omega
            exact Nat.le_refl _
  | succ n ih =>
    intro k h
    by_cases e : k = n + 1
    · subst e; exact Nat.le_refl _
    · have := ih k (by omega)
      rw [moreOut, List.length_append]
      omega
theorem okTo_bad {ok : Nat → Bool} : ∀ {n k : Nat}, k < n → ok k = false → okTo ok n = false := by
  intro n
  induction n with
  | zero => intro k h; omega
  | succ n ih =>
    intro k h hk
    by_cases e : k = n
    · subst e; simp [okTo, hk]
    · simp [okTo, ih (by omega : k < n) hk]
/-- The contract of what writes a part. -/
structure PartW (b : Nat) (K : Nat) (caps : Array Value) (Inv : World → Prop) (n : Nat) (ok : Nat → Bool) (out : Nat → List UInt8) : Prop where
  call : ∀ {w : World} {acc : List UInt8} {i : Nat} {z : Int}, z = (i : Int) → Inv w → WB w b acc → i < n → acc.length + (out i).length ≤ 1099511627776 → Calls Try.prog K (#[.int .i64 z] ++ caps) w (WPost b acc w (ok i) (out i))
  step : ∀ {w w' : World}, Inv w → Wf b w w' → Inv w'
  eg : ∀ args w, (callFunc K args).run Try.prog w = .ok (.enter K args) w

set_option maxRecDepth 100000 in
set_option maxHeartbeats 2000000 in
theorem row_any {w : World} {b K n : Nat} {caps : Array Value} {acc : List UInt8} {Inv : World → Prop} {ok : Nat → Bool} {out : Nat → List UInt8} (h : WB w b acc) (H : PartW b K caps Inv n ok out) (hi : Inv w) (hn : n ≤ 1099511627776) (hlen : acc.length + (rowOut n out).length ≤ 1099511627776) :
    Calls Try.prog 32 #[.pointer (some ⟨b, 0, none⟩), .int .i64 n, .func (.func K) #[] caps] w (WPost b acc w (okTo ok n) (rowOut n out)) := by
  have eg := H.eg
  have hb0 := h.lt
  go_enter Try.func32, Try.ntmps32
  go_wp2_with fail
  go_loopw [6, 8] (fun u i wr => ∃ k : Nat, k ≤ n ∧ i = .int .i64 k ∧ Wf b w wr ∧ WB wr b (acc ++ moreOut out k) ∧ Inv wr ∧ Aside (okTo ok k = true)) (fun u i wr => n - (intOf i).toNat)
  case atStart => exact ⟨0, Nat.zero_le _, rfl, Wf.refl b w, by simpa [moreOut] using h, hi, rfl⟩
  case round =>
    obtain ⟨k, hk, rfl, hf, hr, hI, hA⟩ := hrel
    clear h hi
    by_cases hlt : k < n
    · have hm := moreOut_mono out n (k + 1) hlt
      have hmo : (moreOut out (k + 1)).length = (moreOut out k).length + ((if k = 0 then [40] else [44, 32] : List UInt8).length + (out k).length) := by rw [moreOut, List.length_append, List.length_append]
      have hro : (moreOut out n).length ≤ (rowOut n out).length := by
        unfold rowOut
        rw [if_neg (by omega)]
        simp
      have hX := Lib.hid (fun (h : ok k = false) => okTo_bad hlt h)
      by_cases hk0 : k = 0
      · subst hk0
        have hmo' : (moreOut out (0 + 1)).length = (moreOut out 0).length + (1 + (out 0).length) := hmo
        clear hmo
        go_wp2_with fail
        refine WPost.call (put_any (hr.alloc _) (SRow.lit wr [⟨#[40]⟩] (n := 1) rfl rfl rfl hr.lt) (by simp) (by rw [List.length_append]; simp [outS]; omega)) (fun w' h => by have := h.out; cases this) ?_
        intro w4 _ hf4 hr4
        have hf5 : Wf b wr w4 := ((Wf.refl b wr).alloc _).trans hf4
        have hI4 := H.step hI hf5
        clear hI hf4 hr
        go_wp2_with fail
        refine WPost.call (H.call rfl hI4 hr4 hlt (by simp only [List.length_append]; simp [outS]; omega)) ?_ ?_
        · intro w6 hq hf6
          exact ⟨rfl, WPost.bad (hX.out hq.out) (hf.trans (hf5.trans hf6)) rfl⟩
        intro w6 hq hf6 hr6
        have hI6 := H.step hI4 hf6
        go_wp2_with fail
        go_roundw
        case rel =>
          refine ⟨0 + 1, by omega, by go_num, hf.trans (hf5.trans hf6), ?_, hI6, ?_⟩
          · simpa [moreOut, outS] using hr6
          · show _ = _
            rw [okTo, hA.out, hq.out]; rfl
        case measure => simp [intOf]; omega
      · have hmo' : (moreOut out (k + 1)).length = (moreOut out k).length + (2 + (out k).length) := by rw [hmo, if_neg hk0]; rfl
        have hk1 : ((k : Int) == 0) = false := by rw [beq_eq_false_iff_ne]; omega
        clear hmo
        go_wp2_with fail
        refine WPost.call (put_any (hr.alloc _) (SRow.lit wr [⟨#[44, 32]⟩] (n := 1) rfl rfl rfl hr.lt) (by simp) (by rw [List.length_append]; simp [outS]; omega)) (fun w' h => by have := h.out; cases this) ?_
        intro w4 _ hf4 hr4
        have hf5 : Wf b wr w4 := ((Wf.refl b wr).alloc _).trans hf4
        have hI4 := H.step hI hf5
        clear hI hf4 hr
        go_wp2_with fail
        refine WPost.call (H.call rfl hI4 hr4 hlt (by simp only [List.length_append]; simp [outS]; omega)) ?_ ?_
        · intro w6 hq hf6
          exact ⟨rfl, WPost.bad (hX.out hq.out) (hf.trans (hf5.trans hf6)) rfl⟩
        intro w6 hq hf6 hr6
        have hI6 := H.step hI4 hf6
        go_wp2_with fail
        go_roundw
        case rel =>
          refine ⟨k + 1, by omega, by go_num, hf.trans (hf5.trans hf6), ?_, hI6, ?_⟩
          · simpa [moreOut, outS, hk0] using hr6
          · show _ = _
            rw [okTo, hA.out, hq.out]; rfl
        case measure => simp [intOf]; omega
    · obtain rfl : k = n := by omega
      clear hlt
      by_cases h0 : k = 0
      · subst h0
        go_wp2_with fail
        go_end0
        exact WPost.good hA.out hf rfl (by simpa [rowOut, moreOut] using hr)
      · have hro : (rowOut k out).length = (moreOut out k).length + 1 := by unfold rowOut; rw [if_neg h0]; simp
        have h1 : (0 : Int) < k := by omega
        go_wp2_with fail
        refine WPost.call (put_any (hr.alloc _) (SRow.lit wr [⟨#[41]⟩] (n := 1) rfl rfl rfl hr.lt) (by simp) (by rw [List.length_append]; simp [outS]; omega)) (fun w' h => by have := h.out; cases this) ?_
        intro w4 _ hf4 hr4
        have hf5 : Wf b wr w4 := ((Wf.refl b wr).alloc _).trans hf4
        go_wp2_with fail
        go_end0
        exact WPost.good hA.out (hf.trans hf5) rfl (by simpa [rowOut, outS, h0] using hr4)
end Go.Proofs.Ytejpmdlokmlmeaa
