/- Texts are put, names are written: the walks. Condition: the bytes are at most 2^40. -/
import Derived.Test.YtejpmdlokmlmeaaWriteB
set_option linter.unusedVariables false
set_option linter.unusedSimpArgs false
namespace Go.Proofs.Ytejpmdlokmlmeaa
open Go.RowKit

/-- The bytes of texts in a row. -/
def outS (ts : List ByteArray) : List UInt8 := ts.flatMap (·.data.toList)
theorem outS_nil : outS [] = [] := rfl
theorem outS_cons (x : ByteArray) (ts : List ByteArray) : outS (x :: ts) = x.data.toList ++ outS ts := by simp [outS]
theorem outS_append (a c : List ByteArray) : outS (a ++ c) = outS a ++ outS c := by simp [outS]
/-- Texts in a row, whatever a writer does. -/
def SRow (b : Nat) (w : World) (tv : Value) (ts : List ByteArray) : Prop := ∀ w', Wf b w w' → RRow w' (fun _ => True) 1 EStr tv ts
theorem SRow.wf {b : Nat} {w w' : World} {tv : Value} {ts : List ByteArray} (h : SRow b w tv ts) (hf : Wf b w w') : SRow b w' tv ts := fun w'' hf' => h w'' (hf.trans hf')
theorem SRow.now {b : Nat} {w : World} {tv : Value} {ts : List ByteArray} (h : SRow b w tv ts) : RRow w (fun _ => True) 1 EStr tv ts := h w (Wf.refl b w)
/-- A row that lies ahead of the writer. -/
theorem SRow.low {b : Nat} {w : World} {P : Nat → Prop} {tv : Value} {ts : List ByteArray} (h : RRow w P 1 EStr tv ts) (hP : ∀ k, P k → k < w.heap.size → k < b) : SRow b w tv ts :=
  fun w' hf => (h.fr hf.low (fun k hk hlt e => by have := hP k hk hlt; omega) (fun _ _ h => h)).mono (fun _ _ _ => trivial) (fun _ _ h => h)
theorem SRow.nil (b : Nat) (w : World) (c : Nat) : SRow b w (.slice none 0 c) [] := fun w' _ => ⟨none, c, fun _ => [], rfl, by simp, fun j hj => by simp at hj, by simp⟩
theorem RRow.cells {w : World} {P : Nat → Prop} {tv : Value} {ts : List ByteArray} (h : RRow w P 1 EStr tv ts) :
    ∃ a c, tv = .slice a ts.length c ∧ ∀ j, j < ts.length → ∃ k off, a = some ⟨k, off, none⟩ ∧ w.cell? ⟨k, off + j, none⟩ = some (.string (ts.getD j ByteArray.empty)) := by
  obtain ⟨a, c, css, hv, hl, hr, he⟩ := h
  refine ⟨a, c, hv, fun j hj => ?_⟩
  obtain ⟨k, off, ha, -, -, hlen, hc⟩ := hr j hj
  have hx : ts[j]? = some (ts.getD j ByteArray.empty) := by simp [List.getD_eq_getElem?_getD, hj]
  have h1 := he j _ hx
  unfold EStr at h1
  refine ⟨k, off, ha, ?_⟩
  have := hc 0 (.string (ts.getD j ByteArray.empty)) (by rw [h1]; rfl)
  rwa [Nat.mul_one, Nat.add_zero] at this
/-- A row that is laid anew. -/
theorem SRow.lit {b : Nat} (w : World) (ts : List ByteArray) {cs : Array Value} (hcs : cs.toList = ts.map .string) {n : Int} (hn : n = ts.length) {N : Nat} (hN : w.heap.size = N) (hb : b < w.heap.size) :
    SRow b (w.alloc (.cells cs 9)) (.slice (some ⟨N, 0, none⟩) n.toNat n.toNat) ts := by
  subst hN
  subst hn
  intro w' hf
  have hk := hf.keep (MapKept.heap_alloc w (.cells cs 9)).1 (by decide) (by omega)
  refine ⟨_, _, fun j => [.string (ts.getD j ByteArray.empty)], rfl, by simp, fun j hj => ⟨_, 0, rfl, trivial, lt_of_heap hk, rfl, fun i u hu => ?_⟩, fun j x hx => ?_⟩
  · have hj' : j < ts.length := by simpa using hj
    have e : cs[j]? = some (.string (ts.getD j ByteArray.empty)) := by
      rw [← Array.getElem?_toList, hcs]
      simp [hj']
    cases i with
    | zero =>
      have hu' : u = .string (ts.getD j ByteArray.empty) := by simpa using hu.symm
      subst hu'
      rw [Nat.mul_one, Nat.zero_add, Nat.add_zero]
      exact (show Blk w' w.heap.size cs 9 from hk).cell j e
    | succ i => simp at hu
  · have : ts.getD j ByteArray.empty = x := by rw [List.getD_eq_getElem?_getD, hx]; rfl
    show [Value.string (ts.getD j ByteArray.empty)] = [Value.string x]
    rw [this]

/-- How a writing function ends. -/
def WPost (b : Nat) (acc : List UInt8) (w : World) (ok : Bool) (out : List UInt8) (e : Ending) (w' : World) : Prop :=
  Wf b w w' ∧ (ok = true → e = .returned (.tuple #[]) ∧ WB w' b (acc ++ out)) ∧ (ok = false → e = .panicked writePanic)
theorem WPost.good {b : Nat} {acc out : List UInt8} {w w' : World} {ok : Bool} {e : Ending} (h : ok = true) (hf : Wf b w w') (he : e = .returned (.tuple #[])) (hw : WB w' b (acc ++ out)) : WPost b acc w ok out e w' :=
  ⟨hf, fun _ => ⟨he, hw⟩, fun h' => (by rw [h] at h'; cases h')⟩
theorem WPost.bad {b : Nat} {acc out : List UInt8} {w w' : World} {ok : Bool} {e : Ending} (h : ok = false) (hf : Wf b w w') (he : e = .panicked writePanic) : WPost b acc w ok out e w' :=
  ⟨hf, fun h' => (by rw [h] at h'; cases h'), fun _ => he⟩
theorem WPost.call {b : Nat} {acc out : List UInt8} {w1 : World} {ok : Bool} {P : Program} {f : Nat} {args : Array Value} {M : Ending → World → Prop} (hc : Calls P f args w1 (WPost b acc w1 ok out))
    (bad : ∀ w', Hid (ok = false) → Wf b w1 w' → M (.panicked writePanic) w') (good : ∀ w', Hid (ok = true) → Wf b w1 w' → WB w' b (acc ++ out) → M (.returned (.tuple #[])) w') : Calls P f args w1 M :=
  hc.mono (fun e w' hp => by
    obtain ⟨hf, h1, h2⟩ := hp
    cases hq : ok with
    | false =>
      have := h2 hq
      subst this
      exact bad w' (Lib.hid hq) hf
    | true =>
      obtain ⟨rfl, hw⟩ := h1 hq
      exact good w' (Lib.hid hq) hf hw)

set_option maxRecDepth 100000 in
set_option maxHeartbeats 1000000 in
theorem put_any {w : World} {b : Nat} {acc : List UInt8} (h : WB w b acc) {tv : Value} {ts : List ByteArray} (hts : SRow b w tv ts) (h0 : ts.length ≤ 1099511627776) (hlen : acc.length + (outS ts).length ≤ 1099511627776) :
    Calls Try.prog 16 #[.pointer (some ⟨b, 0, none⟩), tv] w (WPost b acc w true (outS ts)) := by
  obtain ⟨ta, tc, rfl, -⟩ := hts.now.cells
  go_enter Try.func16, Try.ntmps16
  go_wp2_with fail
  go_loopw [5, 8] (fun u i wr => ∃ k : Nat, k ≤ ts.length ∧ i = .int .i64 k ∧ Wf b w wr ∧ WB wr b (acc ++ outS (ts.take k))) (fun u i wr => ts.length - (intOf i).toNat)
  case atStart => exact ⟨0, Nat.zero_le _, rfl, Wf.refl b w, by simpa [outS] using h⟩
  case round =>
    obtain ⟨k, hk, rfl, hf, hr⟩ := hrel
    clear h
    by_cases hlt : k < ts.length
    · obtain ⟨ta', tc', hv, hc⟩ := (hts.wf hf).now.cells
      injection hv with hv1 hv2 hv3
      subst hv1
      obtain ⟨kb, off, rfl, hcell⟩ := hc k hlt
      clear hc hv2 hv3
      have hT0 : ts.take (k + 1) = ts.take k ++ [ts.getD k ByteArray.empty] := by
        rw [List.take_succ_eq_append_getElem hlt]; simp [List.getD_eq_getElem?_getD, hlt]
      generalize ts.getD k ByteArray.empty = x at *
      have hT := Lib.hid hT0
      clear hT0
      have hO : (outS (ts.take k)).length + x.size ≤ (outS ts).length := by
        have e : ts = ts.take (k + 1) ++ ts.drop (k + 1) := (List.take_append_drop _ _).symm
        have e2 : (outS ts).length = (outS (ts.take (k + 1))).length + (outS (ts.drop (k + 1))).length := by rw [← List.length_append, ← outS_append, ← e]
        rw [e2, hT.out, outS_append, List.length_append]
        have : (outS [x]).length = x.size := by simp [outS]
        omega
      go_wp2_with fail
      refine (writeString_any hr x (by rw [List.length_append]; omega)).mono ?_
      rintro e w1 ⟨rfl, hr1, hf1⟩
      go_wp2_with fail
      go_roundw
      case rel => exact ⟨k + 1, by omega, by go_num, hf.trans hf1, by rw [hT.out, outS_append]; simpa [outS] using hr1⟩
      case measure => simp [intOf]; omega
    · obtain rfl : k = ts.length := by omega
      go_wp2_with fail
      go_end0
      exact WPost.good rfl hf rfl (by rw [List.take_length] at hr; exact hr)
end Go.Proofs.Ytejpmdlokmlmeaa
