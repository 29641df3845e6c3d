/- The small functions of read: the next token, whether it is such a one. Conditions: the reader's block over a row of tokens, at a place within. -/
import Derived.Test.YtejpmdlokmlmeaaLexM
import Derived.StillTailTactics
set_option linter.unusedVariables false
set_option linter.unusedSimpArgs false
namespace Go.Proofs.Ytejpmdlokmlmeaa
open Go.RowKit

/-- A reader r over tokens that lie in block R, at a place. -/
structure RIn (w : World) (r R cap : Nat) (cur : Array Value) (toks : List Tk) (pos : Nat) : Prop where
  rc : w.heap[r]? = some (.cells #[.slice (some ⟨R, 0, none⟩) toks.length cap, .int .i64 pos] 72 (0, 0))
  rb : w.heap[R]? = some (.cells cur 103 (0, 0))
  hc : cur.toList.take (toks.length * 3) = tkCells toks
  ne : R ≠ r
  hp : pos < toks.length
  hl : toks.length ≤ 100000
theorem tkCells_get {l : List Tk} {j : Nat} (h : j < l.length) : (tkCells l)[j * 3]? = some (.int .u8 l[j].kind) ∧ (tkCells l)[j * 3 + 1]? = some (.string l[j].text) ∧ (tkCells l)[j * 3 + 2]? = some (.int .i64 l[j].at_) := by
  induction l generalizing j with
  | nil => simp at h
  | cons t l ih =>
    have e : tkCells (t :: l) = .int .u8 t.kind :: .string t.text :: .int .i64 t.at_ :: tkCells l := rfl
    cases j with
    | zero => rw [e]; simp
    | succ j =>
      have h' : j < l.length := by simpa using h
      have := ih h'
      rw [e, show (j + 1) * 3 = j * 3 + 1 + 1 + 1 by omega]
      simpa using this
namespace RIn
variable {w w' : World} {r R cap pos : Nat} {cur : Array Value} {toks : List Tk}
theorem fr {S : Nat → Prop} (h : RIn w r R cap cur toks pos) (hf : Fr S w w') (h1 : ¬ S r) (h2 : ¬ S R) : RIn w' r R cap cur toks pos :=
  ⟨(hf.block _ (lt_of_heap h.rc) h1).trans h.rc, (hf.block _ (lt_of_heap h.rb) h2).trans h.rb, h.hc, h.ne, h.hp, h.hl⟩
theorem drewN (h : RIn w r R cap cur toks pos) (n : Nat) : RIn (w.drewN n) r R cap cur toks pos := ⟨h.rc, h.rb, h.hc, h.ne, h.hp, h.hl⟩
theorem alloc (h : RIn w r R cap cur toks pos) (o : Obj) : RIn (w.alloc o) r R cap cur toks pos := h.fr ((Fr.refl (fun _ => False) w).alloc o) id id
theorem far (h : RIn w r R cap cur toks pos) {p : Addr} (h1 : p.block ≠ r) (h2 : p.block ≠ R) (u : Value) : RIn (w.setCell p u) r R cap cur toks pos :=
  ⟨(Below.heap_setCell w p u r (Ne.symm h1)).trans h.rc, (Below.heap_setCell w p u R (Ne.symm h2)).trans h.rb, h.hc, h.ne, h.hp, h.hl⟩
theorem setPos (h : RIn w r R cap cur toks pos) (n : Int) (m : Nat) (hn : n = m) (hm : m < toks.length) : RIn (w.setCell ⟨r, 1, none⟩ (.int .i64 n)) r R cap cur toks m := by
  subst hn
  refine ⟨?_, (Below.heap_setCell w _ _ R h.ne).trans h.rb, h.hc, h.ne, hm, h.hl⟩
  have := h.rc
  simp [World.setCell, Array.getElem?_modify, this]
theorem cells (h : RIn w r R cap cur toks pos) : w.cell? ⟨r, 0, none⟩ = some (.slice (some ⟨R, 0, none⟩) toks.length cap) ∧ w.cell? ⟨r, 1, none⟩ = some (.int .i64 pos) ∧ w.frozen? ⟨r, 1, none⟩ = false := by
  have := h.rc
  simp [World.cell?, World.frozen?, this]
theorem tok (h : RIn w r R cap cur toks pos) : w.cell? ⟨R, pos * 3, none⟩ = some (.int .u8 (toks[pos]'h.hp).kind) ∧ w.cell? ⟨R, pos * 3 + 1, none⟩ = some (.string (toks[pos]'h.hp).text) ∧ w.cell? ⟨R, pos * 3 + 2, none⟩ = some (.int .i64 (toks[pos]'h.hp).at_) := by
  have hc := h.hc
  have hlt := h.hp
  have hb := h.rb
  have e : ∀ i u, i < toks.length * 3 → (tkCells toks)[i]? = some u → w.cell? ⟨R, i, none⟩ = some u := by
    intro i u hi hu
    rw [← hc, List.getElem?_take, if_pos hi] at hu
    simp only [World.cell?, hb]
    simpa using hu
  obtain ⟨t0, t1, t2⟩ := tkCells_get hlt
  exact ⟨e _ _ (by omega) t0, e _ _ (by omega) t1, e _ _ (by omega) t2⟩
end RIn
/-- The next token. -/
def hd (l : List Tk) : Tk := l.headD ⟨7, ⟨#[]⟩, 0⟩
theorem hd_drop {toks : List Tk} {pos : Nat} (h : pos < toks.length) : hd (toks.drop pos) = toks[pos] := by
  rw [List.drop_eq_getElem_cons h]; rfl

set_option maxRecDepth 100000 in
set_option maxHeartbeats 400000 in
theorem next_any {w : World} {r R cap pos : Nat} {cur : Array Value} {toks : List Tk} (h : RIn w r R cap cur toks pos) :
    Calls Try.prog 41 #[.pointer (some ⟨r, 0, none⟩)] w fun e w' => e = .returned (.agg #[.int .u8 (hd (toks.drop pos)).kind, .string (hd (toks.drop pos)).text, .int .i64 (hd (toks.drop pos)).at_]) ∧ Fr (fun _ => False) w w' := by
  obtain ⟨c0, c1, f1⟩ := h.cells
  obtain ⟨t0, t1, t2⟩ := h.tok
  have HD := Lib.hid (hd_drop h.hp)
  have h1 : (0 : Int) ≤ (pos : Int) := by omega
  have h2 : (pos : Int) < (toks.length : Int) := by have := h.hp; omega
  have h3 := lt_of_heap h.rc
  have h4 := lt_of_heap h.rb
  go_enter Try.func41, Try.ntmps41
  go_wp2_with fail
  have hW := h.alloc (.cells #[.int .u8 0, .string ⟨#[]⟩, .int .i64 0] 103)
  have hT : TB (w.alloc (.cells #[.int .u8 0, .string ⟨#[]⟩, .int .i64 0] 103)) w.heap.size 0 ⟨#[]⟩ 0 := (MapKept.heap_alloc w _).1
  have hF : Fr (fun k => w.heap.size ≤ k) w (w.alloc (.cells #[.int .u8 0, .string ⟨#[]⟩, .int .i64 0] 103)) := (Fr.refl _ w).alloc _
  clear c0 c1 f1 t0 t1 t2
  generalize w.alloc (.cells #[.int .u8 0, .string ⟨#[]⟩, .int .i64 0] 103) = w1 at *
  obtain ⟨T, hTe⟩ : ∃ T, T = w.heap.size := ⟨_, rfl⟩
  rw [← hTe] at hT hF h3 h4 ⊢
  have hTe' : w.heap.size ≤ T := by omega
  clear hTe
  obtain ⟨c0, c1, f1⟩ := hW.cells
  obtain ⟨t0, t1, t2⟩ := hW.tok
  obtain ⟨b0, b1, b2, g0, g1⟩ := hT.cells
  have g2 : w1.frozen? ⟨T, 2, none⟩ = false := by unfold TB at hT; simp [World.frozen?, hT]
  go_still_tail 10, (by kernel_rfl)
  change wpList _ _ _ _ _ w1.drew
  go_wp2_with fail
  refine bodyPost_ret (v := .agg #[.int .u8 (toks[pos]'h.hp).kind, .string (toks[pos]'h.hp).text, .int .i64 (toks[pos]'h.hp).at_]) (by simp [results, Try.results41, go_sem, b0, b1, b2]) rfl ⟨by rw [HD.out], ?_⟩
  exact ((((hF.setCell (fun _ => Nat.le_refl _) _).setCell (fun _ => Nat.le_refl _) _).setCell (fun _ => Nat.le_refl _) _).drew).mono (fun k hk e => by have e' : T ≤ k := e; omega)
end Go.Proofs.Ytejpmdlokmlmeaa
