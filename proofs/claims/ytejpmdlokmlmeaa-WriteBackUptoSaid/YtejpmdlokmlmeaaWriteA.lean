/- The builder within a writer: what it holds, and the walks of its three functions. Condition: the bytes are at most 2^40. -/
import Derived.Test.YtejpmdlokmlmeaaLexM
import Derived.Shelf.Strings.BuilderF
set_option linter.unusedVariables false
set_option linter.unusedSimpArgs false
namespace Go.Proofs.Ytejpmdlokmlmeaa
open Go.RowKit

/-- A block of bytes. -/
def IsU8 (w : World) (k : Nat) : Prop := ∃ cur fz, w.heap[k]? = some (.cells cur 5 fz)
/-- All that was is as it was, but for the writer's block and blocks of bytes behind it. -/
def Wf (b : Nat) (w w' : World) : Prop := Fr (fun k => k = b ∨ (b ≤ k ∧ IsU8 w k)) w w'
namespace Wf
variable {b : Nat} {w w' w'' : World}
theorem refl (b : Nat) (w : World) : Wf b w w := Fr.refl _ w
theorem trans (h : Wf b w w') (k : Wf b w' w'') : Wf b w w'' :=
  ⟨k.os.trans h.os, k.tape.trans h.tape, k.output.trans h.output, Nat.le_trans h.size k.size, fun i hi hs => by
    have e := h.block i hi hs
    refine (k.block i (Nat.lt_of_lt_of_le hi h.size) (fun hk => hs ?_)).trans e
    rcases hk with hk | ⟨hk, cur, fz, hu⟩
    · exact .inl hk
    · exact .inr ⟨hk, cur, fz, by rw [← e]; exact hu⟩⟩
theorem still (h : Fr (fun _ => False) w w') : Wf b w w' := h.mono (fun _ _ => False.elim)
theorem alloc (h : Wf b w w') (o : Obj) : Wf b w (w'.alloc o) := Fr.alloc h o
theorem drewN (h : Wf b w w') (n : Nat) : Wf b w (w'.drewN n) := Fr.drewN h n
theorem drew (h : Wf b w w') : Wf b w w'.drew := Fr.drew h
theorem size (h : Wf b w w') : w.heap.size ≤ w'.heap.size := Fr.size h
/-- A block that is none of bytes stays. -/
theorem keep (h : Wf b w w') {T : Nat} {cs : Array Value} {ty : TypeId} {fz : Nat × Nat} (hT : w.heap[T]? = some (.cells cs ty fz)) (hty : ty ≠ 5) (hb : T ≠ b) : w'.heap[T]? = some (.cells cs ty fz) :=
  (Fr.block h T (lt_of_heap hT) (fun e => by
    rcases e with e | ⟨-, cur, fz', hu⟩
    · exact hb e
    · rw [hT] at hu; injection hu with hu; injection hu with _ hu _; exact hty hu)).trans hT
/-- What lay ahead of the writer stays. -/
theorem low (h : Wf b w w') : Fr (fun k => b ≤ k) w w' := h.mono (fun k _ e => by rcases e with e | e; exact Nat.le_of_eq e.symm; exact e.1)
theorem of_below (h : Below w.heap.size w w') : Wf b w w' := Fr.of_below h
end Wf

/-- A writer: its block, its bytes. -/
def WB (w : World) (b : Nat) (acc : List UInt8) : Prop := Lib.IsBuilderF 60 5 b b (Lib.byteCells acc) w
theorem WB.at_ {w : World} {b : Nat} {acc : List UInt8} (h : WB w b acc) : ∃ p, (p = .pointer none ∨ p = .pointer (some ⟨b, 0, none⟩)) ∧ Lib.BuilderAtF 60 5 b b p (Lib.byteCells acc) w := by
  rcases h with h | h
  · exact ⟨_, .inl rfl, h⟩
  · exact ⟨_, .inr rfl, h⟩
theorem WB.of {w : World} {b : Nat} {acc : List UInt8} {p : Value} (hp : p = .pointer none ∨ p = .pointer (some ⟨b, 0, none⟩)) (h : Lib.BuilderAtF 60 5 b b p (Lib.byteCells acc) w) : WB w b acc := by
  rcases hp with rfl | rfl
  · exact .inl h
  · exact .inr h
theorem WB.lt {w : World} {b : Nat} {acc : List UInt8} (h : WB w b acc) : b < w.heap.size := by
  obtain ⟨p, -, h⟩ := h.at_
  exact h.lt
theorem ownF_fr {S : Nat → Prop} {w w' : World} {base e size n : Nat} {v : Value} {xs : List Value} (h : w.ownsRowF base e size v n xs) (hf : Fr S w w') (hs : ∀ k, v.ownBlock = some k → ¬ S k) : w'.ownsRowF base e size v n xs := by
  obtain ⟨h1, h2⟩ := h
  refine ⟨h1, ?_⟩
  rcases h2 with h2 | ⟨g, cap, cur, fz, rfl, hg, hh, r⟩
  · exact .inl h2
  · exact .inr ⟨g, cap, cur, fz, rfl, hg, (hf.block g (lt_of_heap hh) (hs g rfl)).trans hh, r⟩
/-- A writer stands where its block and blocks of bytes stay. -/
theorem WB.fr {S : Nat → Prop} {w w' : World} {b : Nat} {acc : List UInt8} (h : WB w b acc) (hf : Fr S w w') (hb : ¬ S b) (hs : ∀ k, b ≤ k → IsU8 w k → ¬ S k) : WB w' b acc := by
  obtain ⟨p, hp, hB, v, hbk, hown, hne⟩ := h.at_
  refine WB.of hp ⟨hB, v, (hf.block b (lt_of_heap hbk) hb).trans hbk, ownF_fr hown hf (fun k hk => ?_), hne⟩
  rcases hown.2 with ⟨rfl, _⟩ | ⟨g, cap, cur, fz, rfl, hg, hh, _⟩
  · simp [Value.ownBlock] at hk
  · have : g = k := by simpa [Value.ownBlock] using hk
    subst this
    exact hs g hg ⟨cur, fz, hh⟩
theorem WB.alloc {w : World} {b : Nat} {acc : List UInt8} (h : WB w b acc) (o : Obj) : WB (w.alloc o) b acc := h.fr ((Fr.refl (fun _ => False) w).alloc o) id (fun _ _ _ => id)
theorem WB.still {w w' : World} {b : Nat} {acc : List UInt8} (h : WB w b acc) (hf : Fr (fun _ => False) w w') : WB w' b acc := h.fr hf id (fun _ _ _ => id)
theorem WB.drew {w : World} {b : Nat} {acc : List UInt8} (h : WB w b acc) : WB w.drew b acc := h
theorem WB.drewN {w : World} {b : Nat} {acc : List UInt8} (h : WB w b acc) (n : Nat) : WB (w.drewN n) b acc := h
/-- A store to a block that is none of bytes. -/
theorem WB.far {w : World} {b : Nat} {acc : List UInt8} (h : WB w b acc) {p : Addr} (hp : p.block ≠ b) (hu : ¬ IsU8 w p.block) (u : Value) : WB (w.setCell p u) b acc :=
  h.fr ((Fr.refl (· = p.block) w).setCell (fun _ => rfl) u) (fun e => hp e.symm) (fun k _ hk e => hu (e ▸ hk))
/-- A new one. -/
theorem WB.new (w : World) : WB (w.alloc (.cells #[.pointer none, .slice none 0 0] 60)) w.heap.size [] :=
  .inl ⟨Nat.le_refl _, _, (MapKept.heap_alloc w _).1, ⟨rfl, .inl ⟨rfl, rfl⟩⟩, by simp [Value.ownBlock]⟩

theorem Try.infoByte : (Try.prog.info? 5).map (fun i => (i.zero, i.size, i.bytes)) = some (some (.int .u8 0), 1, 1) := by kernel_rfl
theorem Try.sizeBuilder : (Try.prog.info? 58).map (fun i => i.size) = some 2 := by kernel_rfl
theorem Try.liesWriter : liesAt Try.prog Try.prog.depth 60 (2 / Try.prog.cellsOf 60) 0 58 1 = true := by kernel_rfl

set_option maxHeartbeats 1000000 in
set_option maxRecDepth 100000 in
theorem check_used (b : Nat) (w : World) (h0 : w.cell? ⟨b, 0, none⟩ = some (.pointer (some ⟨b, 0, none⟩))) :
    Calls Try.prog 56 #[.pointer (some ⟨b, 0, none⟩)] w fun e w' => e = .returned (.tuple #[]) ∧ w' = w := by
  obtain ⟨j, hj, _⟩ := Option.map_eq_some_iff.1 Try.sizeBuilder
  go_enter Try.func56, Try.ntmps56
  go_wp2
  rw [Lib.run_neq_ptr_same w _ Try.underlying55 hj]
  go_wp2
  go_end0
  exact ⟨rfl, rfl⟩
set_option maxHeartbeats 1000000 in
set_option maxRecDepth 100000 in
theorem check_fresh (b : Nat) (w : World) (h0 : w.cell? ⟨b, 0, none⟩ = some (.pointer none)) (hsh : w.shape? b = some (60, 2)) (hfz : w.frozen? ⟨b, 0, none⟩ = false) :
    Calls Try.prog 56 #[.pointer (some ⟨b, 0, none⟩)] w fun e w' => e = .returned (.tuple #[]) ∧ w' = w.setCell ⟨b, 0, none⟩ (.pointer (some ⟨b, 0, none⟩)) := by
  obtain ⟨j, hj, hjs⟩ := Option.map_eq_some_iff.1 Try.sizeBuilder
  go_enter Try.func56, Try.ntmps56
  go_wp2
  rw [Lib.run_to_unsafe w ⟨b, 0, none⟩ Try.underlying55 Try.underlying128 hj (by rw [hjs]; decide) hsh (Nat.zero_lt_succ 1)]
  simp only [Result.andThen]
  rw [Oper.upon_value]
  go_wp2
  rw [run_callFunc_extern Try.func71 (by kernel_rfl) (by kernel_rfl) (by kernel_rfl) (e := Extern.AbiNoEscape.same) (by kernel_rfl)]
  rw [Lib.run_noEscape]
  simp only [Result.andThen]
  rw [Oper.upon_value]
  go_wp2
  rw [Lib.run_from_unsafe w ⟨b, 0, none⟩ Try.underlying128 Try.underlying55 hj hsh Try.liesWriter]
  simp only [Result.andThen]
  rw [Oper.upon_value]
  go_wp2
  go_end0
  exact ⟨rfl, rfl⟩
theorem check_any {w : World} {b : Nat} {acc : List UInt8} (h : WB w b acc) :
    Calls Try.prog 56 #[.pointer (some ⟨b, 0, none⟩)] w fun e w' => e = .returned (.tuple #[]) ∧ Lib.BuilderAtF 60 5 b b (.pointer (some ⟨b, 0, none⟩)) (Lib.byteCells acc) w' ∧ Fr (· = b) w w' := by
  rcases h with h | h
  · refine (check_fresh b w h.cell0 h.shape h.frozen0).mono ?_
    rintro e w' ⟨rfl, rfl⟩
    exact ⟨rfl, h.used _, (Fr.refl (· = b) w).setCell (p := ⟨b, 0, none⟩) (fun _ => rfl) _⟩
  · refine (check_used b w h.cell0).mono ?_
    rintro e w' ⟨rfl, rfl⟩
    exact ⟨rfl, h, Fr.refl _ _⟩

set_option maxHeartbeats 2000000 in
set_option maxRecDepth 100000 in
theorem writeString_any {w : World} {b : Nat} {acc : List UInt8} (h : WB w b acc) (s : ByteArray) (hlen : acc.length + s.size ≤ 1099511627776) :
    Calls Try.prog 31 #[.pointer (some ⟨b, 0, none⟩), .string s] w fun e w' => e = .returned (.tuple #[.int .i64 s.size, .nilIface]) ∧ WB w' b (acc ++ s.data.toList) ∧ Wf b w w' := by
  obtain ⟨i0, hi, hz0, hz1, hz2⟩ := info_parts Try.infoByte
  have hbl := h.lt
  go_enter Try.func31, Try.ntmps31
  go_wp2_with fail
  refine (check_any h).mono ?_
  rintro e w1 ⟨rfl, h1, hf1⟩
  obtain ⟨hB, v, hbk, hown, hne⟩ := h1
  rw [Lib.byteCells_length] at hown
  have c0 : w1.cell? ⟨b, 0, none⟩ = some (.pointer (some ⟨b, 0, none⟩)) := by rw [Lib.cell_of_heap hbk]; rfl
  have c1 : w1.cell? ⟨b, 1, none⟩ = some v := by rw [Lib.cell_of_heap hbk]; rfl
  have hsz := hf1.size
  go_wp2_with (at_builtin; refine Lib.wpList_append_own_stringF _ rfl _ _ 56 9 rfl b 5 i0 Try.underlying56 Try.underlying9 hi hz0 hz1 hz2 _ _ _ rfl hown s rfl ?c3 ?c4 ?c5 ?_)
  case c3 => unfold maxLen; omega
  case c4 => omega
  case c5 => omega
  intro v' w2 hown' hgrow _
  have hlt : b < w1.heap.size := lt_of_heap hbk
  have hb2 : w2.heap[b]? = some (.cells #[.pointer (some ⟨b, 0, none⟩), v] 60 (0, 0)) := by
    rw [hgrow.block b hlt (fun e => hne e.symm)]
    exact hbk
  have d0 : w2.cell? ⟨b, 0, none⟩ = some (.pointer (some ⟨b, 0, none⟩)) := by rw [Lib.cell_of_heap hb2]; rfl
  have d1 : w2.cell? ⟨b, 1, none⟩ = some v := by rw [Lib.cell_of_heap hb2]; rfl
  have f1 : w2.frozen? ⟨b, 1, none⟩ = false := Lib.frozen_of_heap hb2 1
  obtain ⟨ao, n', cap, rfl⟩ : ∃ ao n' cap, v' = .slice ao n' cap := by
    rcases hown'.2 with ⟨hv, _⟩ | ⟨g, cap, cur, fz, hv, _⟩
    · exact ⟨_, _, _, hv⟩
    · exact ⟨_, _, _, hv⟩
  go_wp2
  go_ret2
  refine ⟨rfl, ?_, ?_⟩
  · refine .inr (Lib.BuilderAtF.put (T := 60) (e := 5) hB hb2 ?_ (by decide))
    rw [Lib.byteCells_append, ← Lib.strCells_eq, List.length_append, Lib.byteCells_length, Lib.strCells_length]
    exact hown'
  · have hf2 : Wf b w1 w2 := (Fr.refl _ w1).grown hgrow (fun k hk _ => .inr (by
      rcases hown.2 with ⟨rfl, _⟩ | ⟨g, cap, cur, fz, rfl, hg, hh, _⟩
      · simp [Value.ownBlock] at hk
      · have : g = k := by simpa [Value.ownBlock] using hk
        subst this
        exact ⟨hg, cur, fz, hh⟩))
    exact (Wf.trans (hf1.mono (fun _ _ e => .inl e)) hf2).setCell (p := ⟨b, 1, none⟩) (fun _ => .inl rfl) _

set_option maxHeartbeats 1000000 in
set_option maxRecDepth 100000 in
theorem builder_string {w : World} {b : Nat} {acc : List UInt8} (h : WB w b acc) (h0 : acc ≠ []) :
    Calls Try.prog 18 #[.pointer (some ⟨b, 0, none⟩)] w fun e w' => e = .returned (.string ⟨acc.toArray⟩) ∧ Wf b w w' := by
  obtain ⟨p, hp, hB, v, hbk, hown, hne⟩ := h.at_
  have hl0 : acc.length ≠ 0 := by simpa using h0
  rw [Lib.byteCells_length] at hown
  obtain ⟨g, cap, cur, fz, rfl, hbg, hg, hfz, hnc, hcm, hcs, htake⟩ : ∃ g cap cur fz, v = .slice (some ⟨g, 0, none⟩) acc.length cap ∧ b ≤ g ∧ w.heap[g]? = some (.cells cur 5 fz) ∧ fz.2 ≤ acc.length * 1 ∧ acc.length ≤ cap ∧ cap ≤ maxLen ∧ cur.size = cap * 1 ∧ cur.toList.take (acc.length * 1) = Lib.byteCells acc := by
    rcases hown.2 with ⟨_, hz⟩ | ⟨g, cap, cur, fz, hv, r⟩
    · exact absurd hz hl0
    · exact ⟨g, cap, cur, fz, hv, r⟩
  have c1 : w.drew.cell? ⟨b, 1, none⟩ = some (.slice (some ⟨g, 0, none⟩) acc.length cap) := by
    have : w.drew.heap[b]? = some (.cells #[p, .slice (some ⟨g, 0, none⟩) acc.length cap] 60 (0, 0)) := hbk
    rw [Lib.cell_of_heap this]; rfl
  have hSD : (Builtin.unsafeSliceData_ #[56] 92 #[.slice (some ⟨g, 0, none⟩) acc.length cap]).run Try.prog w.drew = .ok (.pointer (some ⟨g, 0, none⟩)) w.drew :=
    Lib.run_unsafeSliceData_row _ _ _ _ _ _ (by omega)
  have hUS : (Builtin.unsafeString_ #[92, 3] 9 #[.pointer (some ⟨g, 0, none⟩), .int .i64 acc.length]).run Try.prog w.drew = .ok (.string ⟨acc.toArray⟩) (w.drew.freeze ⟨g, 0, none⟩ acc.length) := by
    refine Lib.run_unsafeString_row w.drew 92 3 9 5 Try.underlying92 (by kernel_rfl) g cur.size (by have hg' : w.drew.heap[g]? = some (.cells cur 5 fz) := hg; simp [World.shape?, hg']) acc h0 (by omega) (by unfold maxLen at hcm; omega) ?_
    intro j x hx
    have := hown.cells (g := g) rfl j (.int .u8 x.toNat) (by simp [Lib.byteCells, hx])
    exact this
  have hfr : Fr (fun k => k = b ∨ (b ≤ k ∧ IsU8 w k)) w (w.drew.freeze ⟨g, 0, none⟩ acc.length) := by
    unfold World.freeze
    split
    · exact (Fr.refl _ w).drew
    · exact ⟨rfl, rfl, rfl, by simp, fun k hk hn => by
        have hkg : g ≠ k := by
          rintro rfl
          exact hn (.inr ⟨hbg, cur, fz, hg⟩)
        simp only [Array.getElem?_modify]
        rw [if_neg hkg]
        rfl⟩
  clear hcm hcs htake hnc hfz hg hbk hown hne
  go_enter Try.func18, Try.ntmps18
  go_wp2
  go_region
  all_goals (go_wp2; go_ret; exact ⟨rfl, hfr⟩)
end Go.Proofs.Ytejpmdlokmlmeaa
