/- Names are written: the walk. Condition: the bytes are at most 2^40. -/
import Derived.Test.YtejpmdlokmlmeaaWriteC
set_option linter.unusedVariables false
set_option linter.unusedSimpArgs false
namespace Go.Proofs.Ytejpmdlokmlmeaa
open Go.RowKit

def namesOut (ahead : ByteArray) (ls : List ByteArray) : List UInt8 := ls.flatMap (fun s => ahead.data.toList ++ s.data.toList)
theorem namesOut_append (ahead : ByteArray) (a c : List ByteArray) : namesOut ahead (a ++ c) = namesOut ahead a ++ namesOut ahead c := by simp [namesOut]
theorem namesOut_one (ahead x : ByteArray) : namesOut ahead [x] = ahead.data.toList ++ x.data.toList := by simp [namesOut]
theorem take_snoc_getD {α : Type} (l : List α) (k : Nat) (d : α) (h : k < l.length) : l.take (k + 1) = l.take k ++ [l.getD k d] := by
  rw [List.take_succ_eq_append_getElem h]; simp [List.getD_eq_getElem?_getD, h]
theorem all_getD {α : Type} {p : α → Bool} {l : List α} {k : Nat} (d : α) (h : k < l.length) (hp : p (l.getD k d) = false) : l.all p = false := by
  have : l.getD k d ∈ l := by
    rw [List.getD_eq_getElem?_getD, List.getElem?_eq_getElem h]
    exact List.getElem_mem h
  rw [Bool.eq_false_iff]
  intro e
  rw [List.all_eq_true] at e
  rw [e _ this] at hp
  cases hp

set_option maxRecDepth 100000 in
set_option maxHeartbeats 2000000 in
theorem names_any {w : World} {b : Nat} {acc : List UInt8} (hm : HM w) (hb : 0 < b) (h : WB w b acc) (ahead : ByteArray) {lv : Value} {ls : List ByteArray} (hls : SRow b w lv ls) (h0 : ls.length ≤ 1099511627776) (hlen : acc.length + (namesOut ahead ls).length ≤ 1099511627776) :
    Calls Try.prog 30 #[.pointer (some ⟨b, 0, none⟩), .string ahead, lv] w (WPost b acc w (ls.all nameB) (namesOut ahead ls)) := by
  obtain ⟨ta, tc, rfl, -⟩ := hls.now.cells
  go_enter Try.func30, Try.ntmps30
  go_wp2_with fail
  go_loopw [7, 10] (fun u i wr => ∃ k : Nat, k ≤ ls.length ∧ i = .int .i64 k ∧ Wf b w wr ∧ WB wr b (acc ++ namesOut ahead (ls.take k)) ∧ Aside ((ls.take k).all nameB = true)) (fun u i wr => ls.length - (intOf i).toNat)
  case atStart => exact ⟨0, Nat.zero_le _, rfl, Wf.refl b w, by simpa [namesOut] using h, rfl⟩
  case round =>
    obtain ⟨k, hk, rfl, hf, hr, hA⟩ := hrel
    clear h
    by_cases hlt : k < ls.length
    · obtain ⟨ta', tc', hv, hc⟩ := (hls.wf hf).now.cells
      injection hv with hv1 hv2 hv3
      subst hv1
      obtain ⟨kb, off, rfl, hcell⟩ := hc k hlt
      clear hc hv2 hv3
      have hT0 := take_snoc_getD ls k ByteArray.empty hlt
      have hX0 : nameB (ls.getD k ByteArray.empty) = false → ls.all nameB = false := all_getD _ hlt
      generalize ls.getD k ByteArray.empty = x at *
      have hT := Lib.hid hT0
      have hX := Lib.hid hX0
      clear hT0 hX0
      have hO : (namesOut ahead (ls.take k)).length + (ahead.size + x.size) ≤ (namesOut ahead ls).length := by
        have e : ls = ls.take (k + 1) ++ ls.drop (k + 1) := (List.take_append_drop _ _).symm
        have e2 : (namesOut ahead ls).length = (namesOut ahead (ls.take (k + 1))).length + (namesOut ahead (ls.drop (k + 1))).length := by rw [← List.length_append, ← namesOut_append, ← e]
        rw [e2, hT.out, namesOut_append, List.length_append, namesOut_one, List.length_append]
        have : ahead.data.toList.length = ahead.size := by simp
        have : x.data.toList.length = x.size := by simp
        omega
      go_wp2_with fail
      refine (writeName_any (hm.wf hf hb) x).mono ?_
      rintro e w1 ⟨rfl, hf1⟩
      obtain ⟨c, hc⟩ : ∃ c, c = nameB x := ⟨_, rfl⟩
      rw [← hc]
      have Hc := Lib.hid hc
      clear hc
      go_wp2_with fail
      refine (must_one c (n := 1) rfl rfl).mono ?_
      rintro e w2 ⟨he, rfl⟩
      have hf2 : Wf b wr (w1.alloc (.cells #[.bool c] 4)) := (Wf.still hf1).alloc _
      have hr2 := (hr.still hf1).alloc (.cells #[.bool c] 4)
      clear hf1
      rcases he with ⟨rfl, rfl⟩ | ⟨rfl, rfl⟩
      · generalize w1.alloc (.cells #[.bool true] 4) = w2 at *
        go_wp2_with fail
        refine WPost.call (put_any (hr2.alloc _) (SRow.lit w2 [ahead, x] (n := 2) rfl rfl rfl hr2.lt) (by simp) (by rw [List.length_append]; simp [outS]; omega)) (fun w' h => by have := h.out; cases this) ?_
        intro w4 _ hf4 hr4
        go_wp2_with fail
        go_roundw
        case rel =>
          refine ⟨k + 1, by omega, by go_num, hf.trans ((hf2.alloc _).trans hf4), ?_, ?_⟩
          · rw [hT.out, namesOut_append, namesOut_one]
            simpa [outS] using hr4
          · show _ = _
            rw [hT.out, List.all_append, hA.out]
            simp [← Hc.out]
        case measure => simp [intOf]; omega
      · exact ⟨rfl, WPost.bad (hX.out Hc.out.symm) (hf.trans hf2) rfl⟩
    · obtain rfl : k = ls.length := by omega
      go_wp2_with fail
      go_end0
      exact WPost.good (by rw [← hA.out, List.take_length]) hf rfl (by rw [List.take_length] at hr; exact hr)
end Go.Proofs.Ytejpmdlokmlmeaa
