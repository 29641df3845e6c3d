/- A word is read, with words in brackets behind it: what it gives, in plain Lean, and the walk. Conditions: the reader's block over a row of tokens, at a place within. -/
import Derived.Test.YtejpmdlokmlmeaaReadE
import Derived.Deep.RegionHeld3
set_option linter.unusedVariables false
set_option linter.unusedSimpArgs false
namespace Go.Proofs.Ytejpmdlokmlmeaa
open Go.RowKit

section
variable {α : Type} {part : List Tk → RE (α × List Tk)}
theorem moreN_len (hp : ∀ {l x l'}, part l = .ok (x, l') → l'.length ≤ l.length) {b : ByteArray} : ∀ {n : Nat} {l l' : List Tk} {xs : List α}, moreN b part n l = .ok (xs, l') → l'.length ≤ l.length := by
  intro n
  induction n with
  | zero => intro l l' xs h; cases h; exact Nat.le_refl _
  | succ n ih =>
    intro l l' xs h
    rw [moreN] at h
    split at h
    · cases hq : part l.tail with
      | error e => rw [hq] at h; cases h
      | ok xl =>
        obtain ⟨x, l1⟩ := xl
        rw [hq, exOk] at h
        cases hr : moreN b part n l1 with
        | error e => simp only [hr, exErr] at h; cases h
        | ok yl =>
          obtain ⟨ys, l2⟩ := yl
          simp only [hr, exOk] at h
          cases h
          have := hp hq
          have := ih hr
          simp at *
          omega
    · cases h; exact Nat.le_refl _
theorem listS_len (hp : ∀ {l x l'}, part l = .ok (x, l') → l'.length ≤ l.length) {b : ByteArray} {l l' : List Tk} {xs : List α} (h : listS b part l = .ok (xs, l')) : l'.length ≤ l.length := by
  unfold listS at h
  cases hq : part l with
  | error e => rw [hq] at h; cases h
  | ok xl =>
    obtain ⟨x, l1⟩ := xl
    rw [hq, exOk] at h
    cases hr : moreN b part l1.length l1 with
    | error e => simp only [hr, exErr] at h; cases h
    | ok yl =>
      obtain ⟨ys, l2⟩ := yl
      simp only [hr, exOk] at h
      cases h
      have := hp hq
      have := moreN_len hp hr
      omega
theorem givenS_len (hp : ∀ {l x l'}, part l = .ok (x, l') → l'.length ≤ l.length) {l l' : List Tk} {xs : List α} (h : givenS part l = .ok (xs, l')) : l'.length ≤ l.length := by
  unfold givenS at h
  split at h
  · cases hq : listS ⟨#[44]⟩ part l.tail with
    | error e => rw [hq] at h; cases h
    | ok xl =>
      obtain ⟨x, l1⟩ := xl
      rw [hq, exOk] at h
      cases hr : mustS 6 [⟨#[41]⟩] l1 with
      | error e => simp only [hr, exErr] at h; cases h
      | ok yl =>
        obtain ⟨ys, l2⟩ := yl
        simp only [hr, exOk] at h
        cases h
        have := listS_len hp hq
        have := mustS_len hr
        simp at *
        omega
  · cases h; exact Nat.le_refl _
end
theorem nameS_len {l l' : List Tk} {x : ByteArray} (h : nameS l = .ok (x, l')) : l'.length < l.length := by
  unfold nameS mustS at h
  split at h
  · rename_i hk
    cases h
    cases l with
    | nil => simp [isK, hd] at hk
    | cons t l => simp
  · cases h
/-- A word; n levels may still lie within it. -/
def wordN : Nat → List Tk → RE (GWord × List Tk)
  | 0, l => if isK 2 [] l then .error (103, (hd l).at_) else .error (102, (hd l).at_)
  | n + 1, l => do
    let (x, l1) ← nameS l
    let (ws, l2) ← givenS (wordN n) l1
    .ok (.mk x ws (hd l).at_, l2)
theorem wordN_len : ∀ {n : Nat} {l l' : List Tk} {x : GWord}, wordN n l = .ok (x, l') → l'.length < l.length := by
  intro n
  induction n with
  | zero => intro l l' x h; rw [wordN] at h; split at h <;> cases h
  | succ n ih =>
    intro l l' x h
    rw [wordN] at h
    cases hq : nameS l with
    | error e => rw [hq] at h; cases h
    | ok xl =>
      obtain ⟨x, l1⟩ := xl
      rw [hq, exOk] at h
      cases hr : givenS (wordN n) l1 with
      | error e => simp only [hr, exErr] at h; cases h
      | ok yl =>
        obtain ⟨ys, l2⟩ := yl
        simp only [hr, exOk] at h
        cases h
        have := nameS_len hq
        have := givenS_len (fun h => Nat.le_of_lt (ih h)) hr
        omega

/-- What stands while a word's own words are read. -/
def WInv (w0 : World) (r R cap : Nat) (cur : Array Value) (toks : List Tk) (B T : Nat) (nm : ByteArray) (at0 deep : Int) (w : World) (p : Nat) (xs : List GWord) : Prop :=
  Mk w0 w r R cap cur toks p ∧ Blk w B #[.pointer (some ⟨r, 0, none⟩)] 68 ∧ Blk w (B + 1) #[.int .i64 deep] 3 ∧ Blk w (B + 1 + 1) #[.string ⟨#[]⟩, .slice none 0 0, .int .i64 0] 50 ∧ w0.heap.size = B ∧ B + 2 < T ∧ xs.length ≤ p ∧
    ∃ v, Blk w T #[.string nm, v, .int .i64 at0] 50 ∧ Own w (T + 1) 50 3 (RWord w) v xs
theorem WInv.step {w0 w w' : World} {r R cap B T p p' : Nat} {cur : Array Value} {toks : List Tk} {nm : ByteArray} {at0 deep : Int} {xs : List GWord} (h : WInv w0 r R cap cur toks B T nm at0 deep w p xs) (hf : Fr (· = r) w w') (hr : RIn w' r R cap cur toks p') (hp : p ≤ p') :
    WInv w0 r R cap cur toks B T nm at0 deep w' p' xs := by
  obtain ⟨h1, h2, h3, h4, h5, h6, h7, v, h8, h9⟩ := h
  have hr0 := h1.r0
  exact ⟨h1.step hf hr, h2.fr hf (by show ¬ B = r; omega), h3.fr hf (by show ¬ B + 1 = r; omega), h4.fr hf (by show ¬ B + 1 + 1 = r; omega), h5, h6, by omega, v, h8.fr hf (by show ¬ T = r; omega), h9.fr elemWord hf (fun k hk _ e => by have e' : k = r := e; omega)⟩

theorem Try.infoWord : (Try.prog.info? 50).map (fun i => (i.zero, i.size, i.bytes)) = some (some (.agg #[.string ⟨#[]⟩, .slice none 0 0, .int .i64 0]), 3, 48) := by kernel_rfl
theorem grown_set {w w' : World} {row : Option Nat} (h : w.grownBy w' row) {g : Nat} (hg : row = some g ∨ w.heap.size ≤ g) (j : Nat) (u : Value) : w.grownBy (w'.setCell ⟨g, j, none⟩ u) row :=
  ⟨h.os, h.tape, h.output, by simpa [World.setCell] using h.size, fun k hk hne => by
    have : k ≠ g := by
      rintro rfl
      rcases hg with e | e
      · exact hne e.symm
      · omega
    rw [Below.heap_setCell _ _ _ _ this]; exact h.block k hk hne⟩
/-- The last of the row, written anew. -/
theorem own_last {w : World} {base e g n cap : Nat} {xs : List Value} {a b c a' b' c' : Value} (h : w.ownsRow base e 3 (.slice (some ⟨g, 0, none⟩) (n + 1) cap) (n + 1) (xs ++ [a, b, c])) (hl : xs.length = n * 3) :
    (((w.setCell ⟨g, n * 3, none⟩ a').setCell ⟨g, n * 3 + 1, none⟩ b').setCell ⟨g, n * 3 + 2, none⟩ c').ownsRow base e 3 (.slice (some ⟨g, 0, none⟩) (n + 1) cap) (n + 1) (xs ++ [a', b', c']) := by
  have h1 := (((h.stored (n * 3) a').1.stored (n * 3 + 1) b').1.stored (n * 3 + 2) c').1
  have e : (((xs ++ [a, b, c]).set (n * 3) a').set (n * 3 + 1) b').set (n * 3 + 2) c' = xs ++ [a', b', c'] := by
    rw [← hl]
    simp [List.set_append]
  rw [e] at h1
  exact h1

theorem own_last_cells {w : World} {base e g n cap : Nat} {xs : List Value} {a b c : Value} (h : w.ownsRow base e 3 (.slice (some ⟨g, 0, none⟩) (n + 1) cap) (n + 1) (xs ++ [a, b, c])) (hl : xs.length = n * 3) :
    w.cell? ⟨g, n * 3, none⟩ = some a ∧ w.cell? ⟨g, n * 3 + 1, none⟩ = some b ∧ w.cell? ⟨g, n * 3 + 2, none⟩ = some c ∧ w.frozen? ⟨g, n * 3, none⟩ = false ∧ w.frozen? ⟨g, n * 3 + 1, none⟩ = false ∧ w.frozen? ⟨g, n * 3 + 2, none⟩ = false := by
  refine ⟨?_, ?_, ?_, h.frozenAt _, h.frozenAt _, h.frozenAt _⟩
  · rw [h.cellAt (n * 3) (by omega), ← hl]; simp
  · rw [h.cellAt (n * 3 + 1) (by omega), ← hl]; simp
  · rw [h.cellAt (n * 3 + 2) (by omega), ← hl]; simp
theorem RWord.form {w : World} {P : Nat → Prop} {x : GWord} {cs : List Value} (h : RWord w P x cs) : ∃ n a m c k, cs = [.string n, .slice a m c, .int .i64 k] := by
  cases h with
  | mk css hl hr he => exact ⟨_, _, _, _, _, rfl⟩

def WordHyp (r R cap : Nat) (cur : Array Value) (toks : List Tk) (n : Nat) : Prop := ∀ {w : World} {pos : Nat} (deep : Int), RIn w r R cap cur toks pos → deep + n = 61 → 0 ≤ deep →
    Calls Try.prog 66 #[.pointer (some ⟨r, 0, none⟩), .int .i64 deep] w (RPost (· = r) w r R cap cur toks (wordN n (toks.drop pos)) (fun x v w' => RAgg (RWord w' (w.heap.size ≤ ·) x) v))

theorem setCell_comm (w : World) {p q : Addr} (h : p.block ≠ q.block) (u v : Value) : (w.setCell p u).setCell q v = (w.setCell q v).setCell p u := by
  unfold World.setCell
  simp only
  congr 1
  apply Array.ext_getElem?
  intro i
  simp only [Array.getElem?_modify]
  by_cases h1 : p.block = i
  · by_cases h2 : q.block = i
    · exact absurd (h1.trans h2.symm) h
    · simp [h1, h2]
  · simp [h1]
/-- What stands when a word's own word has been read, the row not yet written. -/
structure WAft (w0 w : World) (r R cap : Nat) (cur : Array Value) (toks : List Tk) (B T : Nat) (nm : ByteArray) (at0 deep : Int) (n p : Nat) (xs : List GWord) (va : Option Addr) (vc : Nat) (w9 : World) (H p8 : Nat) (l8 : List Tk) (x8 : GWord) (n8 : ByteArray) (a8 : Option Addr) (m8 c8 : Nat) (k8 : Int) : Prop where
  rd : Mk w0 w9 r R cap cur toks p8
  tb : Blk w9 T #[.string nm, .slice va xs.length vc, .int .i64 at0] 50
  b0 : Blk w9 B #[.pointer (some ⟨r, 0, none⟩)] 68
  b1 : Blk w9 (B + 1) #[.int .i64 deep] 3
  db : Blk w9 (B + 1 + 1) #[.string ⟨#[]⟩, .slice none 0 0, .int .i64 0] 50
  fr : Fr (fun k => k = r ∨ w0.heap.size ≤ k) w w9
  hH : w9.heap.size = H
  hTH : T + 1 ≤ H
  hw : wordN n (toks.drop p) = .ok (x8, l8)
  hl : toks.drop p8 = l8
  hvb : ∀ i, (Value.slice va xs.length vc).ownBlock = some i → T + 1 ≤ i
  hB : w0.heap.size = B
  hBT : B + 2 < T
  hxp : xs.length ≤ p
  hpl : p < toks.length
  hl5 : toks.length ≤ 100000
  own : ∃ L : List (List Value), w9.ownsRow (T + 1) 50 3 (.slice va xs.length vc) xs.length L.flatten ∧ ∀ {w4 : World} {gg cap : Nat}, w4.ownsRow (T + 1) 50 3 (.slice (some ⟨gg, 0, none⟩) (xs.length + 1) cap) (xs.length + 1) (L.flatten ++ [.string n8, .slice a8 m8 c8, .int .i64 k8]) →
    w9.grownBy w4 (Value.slice va xs.length vc).ownBlock → ((Value.slice va xs.length vc).ownBlock = some gg ∨ gg = w9.heap.size) → Own w4 (T + 1) 50 3 (RWord w4) (.slice (some ⟨gg, 0, none⟩) (xs.length + 1) cap) (xs ++ [x8])
/-- Behind the append: whatever the order of the two stores. -/
def WEnd (w0 w : World) (r R cap : Nat) (cur : Array Value) (toks : List Tk) (B T : Nat) (nm : ByteArray) (at0 deep : Int) (n p : Nat) (xs : List GWord) (x8 : GWord) (l8 : List Tk) (w10 : World) (gg cp : Nat) (n8 : ByteArray) (a8 : Option Addr) (m8 c8 : Nat) (k8 : Int) : Prop :=
  ∀ W, (W = (((w10.setCell ⟨gg, xs.length * 3, none⟩ (.string n8)).setCell ⟨gg, xs.length * 3 + 1, none⟩ (.slice a8 m8 c8)).setCell ⟨gg, xs.length * 3 + 2, none⟩ (.int .i64 k8)).setCell ⟨T, 1, none⟩ (.slice (some ⟨gg, 0, none⟩) (xs.length + 1) cp) ∨
        W = (((w10.setCell ⟨T, 1, none⟩ (.slice (some ⟨gg, 0, none⟩) (xs.length + 1) cp)).setCell ⟨gg, xs.length * 3, none⟩ (.string n8)).setCell ⟨gg, xs.length * 3 + 1, none⟩ (.slice a8 m8 c8)).setCell ⟨gg, xs.length * 3 + 2, none⟩ (.int .i64 k8)) →
    LPost (fun k => k = r ∨ w0.heap.size ≤ k) (WInv w0 r R cap cur toks B T nm at0 deep) toks w xs (oneS (wordN n) (toks.drop p)) (.returned (.tuple #[])) W
section
variable {w0 w : World} {r R cap : Nat} {cur : Array Value} {toks : List Tk} {B T : Nat} {nm : ByteArray} {at0 deep : Int} {n p : Nat} {xs : List GWord} {va : Option Addr} {vc : Nat} {w9 : World} {H p8 : Nat} {l8 : List Tk} {x8 : GWord} {n8 : ByteArray} {a8 : Option Addr} {m8 c8 : Nat} {k8 : Int}
theorem WAft.fin (h : WAft w0 w r R cap cur toks B T nm at0 deep n p xs va vc w9 H p8 l8 x8 n8 a8 m8 c8 k8) {w10 : World} {gg cp : Nat} {L : List (List Value)} (hlf : L.flatten.length = xs.length * 3)
    (hfin : ∀ {w4 : World} {gg cap : Nat}, w4.ownsRow (T + 1) 50 3 (.slice (some ⟨gg, 0, none⟩) (xs.length + 1) cap) (xs.length + 1) (L.flatten ++ [.string n8, .slice a8 m8 c8, .int .i64 k8]) →
      w9.grownBy w4 (Value.slice va xs.length vc).ownBlock → ((Value.slice va xs.length vc).ownBlock = some gg ∨ gg = w9.heap.size) → Own w4 (T + 1) 50 3 (RWord w4) (.slice (some ⟨gg, 0, none⟩) (xs.length + 1) cap) (xs ++ [x8]))
    (hown1 : w10.ownsRow (T + 1) 50 3 (.slice (some ⟨gg, 0, none⟩) (xs.length + 1) cp) (xs.length + 1) (L.flatten ++ [.string ⟨#[]⟩, .slice none 0 0, .int .i64 0])) (hgrow : w9.grownBy w10 (Value.slice va xs.length vc).ownBlock) (hat : (Value.slice va xs.length vc).ownBlock = some gg ∨ gg = H) :
    WEnd w0 w r R cap cur toks B T nm at0 deep n p xs x8 l8 w10 gg cp n8 a8 m8 c8 k8 := by
  have h1 := h.hTH; have h2 := h.hB; have h3 := h.hBT
  rw [← h.hH] at hat
  have hor : (Value.slice va xs.length vc).ownBlock = some gg ∨ w9.heap.size ≤ gg := hat.imp id (fun e => Nat.le_of_eq e.symm)
  have hgT : gg ≠ T := by
    have := h.hH
    rcases hat with e | e
    · have := h.hvb gg e; omega
    · omega
  have hgr := grown_set (grown_set (grown_set hgrow hor (xs.length * 3) (.string n8)) hor (xs.length * 3 + 1) (.slice a8 m8 c8)) hor (xs.length * 3 + 2) (.int .i64 k8)
  obtain ⟨g1, g2, g3, g4⟩ := grown_all' elemWord h.rd h.tb (by omega) hgr h.hvb 1 (.slice (some ⟨gg, 0, none⟩) (xs.length + 1) cp) rfl (hfin (own_last hown1 hlf) hgr hat)
  have hp8 : xs.length + 1 ≤ p8 := by
    have e1 := wordN_len h.hw
    have e2 := g1.rin.hp
    rw [← h.hl] at e1
    simp at e1
    have := h.hxp
    omega
  intro W hW
  have hW' : W = (((w10.setCell ⟨gg, xs.length * 3, none⟩ (.string n8)).setCell ⟨gg, xs.length * 3 + 1, none⟩ (.slice a8 m8 c8)).setCell ⟨gg, xs.length * 3 + 2, none⟩ (.int .i64 k8)).setCell ⟨T, 1, none⟩ (.slice (some ⟨gg, 0, none⟩) (xs.length + 1) cp) := by
    rcases hW with e | e
    · exact e
    · rw [e, setCell_comm w10 (p := ⟨T, 1, none⟩) (q := ⟨gg, xs.length * 3, none⟩) (Ne.symm hgT), setCell_comm _ (p := ⟨T, 1, none⟩) (q := ⟨gg, xs.length * 3 + 1, none⟩) (Ne.symm hgT), setCell_comm _ (p := ⟨T, 1, none⟩) (q := ⟨gg, xs.length * 3 + 2, none⟩) (Ne.symm hgT)]
  subst hW'
  refine LPost.good (by unfold oneS; rw [h.hw, exOk]) ?_ rfl h.hl ⟨g1, g4 h.b0 (by omega), g4 h.b1 (by omega), g4 h.db (by omega), h2, h3, by simpa using hp8, _, g2, by simpa using g3⟩
  refine ((h.fr.grown hgr (fun k hk _ => .inr (by have := h.hvb k hk; omega)))).setCell (fun _ => .inr (by show w0.heap.size ≤ T; omega)) _
/-- The word's state, its row written out. -/
structure WPre (w0 w : World) (r R cap : Nat) (cur : Array Value) (toks : List Tk) (B T : Nat) (nm : ByteArray) (at0 deep : Int) (p : Nat) (xs : List GWord) (va : Option Addr) (vc : Nat) : Prop where
  rd : Mk w0 w r R cap cur toks p
  b0 : Blk w B #[.pointer (some ⟨r, 0, none⟩)] 68
  b1 : Blk w (B + 1) #[.int .i64 deep] 3
  db : Blk w (B + 1 + 1) #[.string ⟨#[]⟩, .slice none 0 0, .int .i64 0] 50
  hB : w0.heap.size = B
  hBT : B + 2 < T
  hxp : xs.length ≤ p
  tb : Blk w T #[.string nm, .slice va xs.length vc, .int .i64 at0] 50
  own : Own w (T + 1) 50 3 (RWord w) (.slice va xs.length vc) xs
theorem waft {wc w8 : World} (h : WPre w0 w r R cap cur toks B T nm at0 deep p xs va vc) (hc : Fr (fun _ => False) w wc) (hf8 : Fr (· = r) wc w8) (hr8 : RIn w8 r R cap cur toks p8) (hw : Hid (wordN n (toks.drop p) = .ok (x8, l8))) (hl : Hid (toks.drop p8 = l8))
    (hx : RWord w8 (wc.heap.size ≤ ·) x8 [.string n8, .slice a8 m8 c8, .int .i64 k8]) (h9 : Fr (fun _ => False) w8 w9) (hH : w9.heap.size = H) :
    WAft w0 w r R cap cur toks B T nm at0 deep n p xs va vc w9 H p8 l8 x8 n8 a8 m8 c8 k8 := by
  have hr0 := h.rd.r0; have h2 := h.hB; have h3 := h.hBT; have hTl := h.tb.lt
  have hs1 := hc.size; have hs2 := hf8.size; have hs3 := h9.size
  have hOc := h.own.fr elemWord hc (fun _ _ _ => id)
  obtain ⟨L, -, ho9, hfin⟩ := Own.snoc elemWord hOc hf8 (fun k hk _ e => by have e' : k = r := e; omega) (by omega) hx rfl h9
  refine ⟨((h.rd.still hc).step hf8 hr8).still h9, ((h.tb.fr hc id).fr hf8 (by show ¬ T = r; omega)).fr h9 id, ((h.b0.fr hc id).fr hf8 (by show ¬ B = r; omega)).fr h9 id, ((h.b1.fr hc id).fr hf8 (by show ¬ B + 1 = r; omega)).fr h9 id, ((h.db.fr hc id).fr hf8 (by show ¬ B + 1 + 1 = r; omega)).fr h9 id,
    ((hc.mono (fun _ _ => False.elim)).trans (hf8.mono (fun _ _ e => .inl e))).trans (h9.mono (fun _ _ => False.elim)), hH, by omega, hw.out, hl.out, fun i hi => (h.own.blk i hi).1, h2, h3, h.hxp, h.rd.rin.hp, h.rd.rin.hl, L, ho9, hfin⟩
theorem wstep {i0 : TypeInfo} {z : Value} (hA : WAft w0 w r R cap cur toks B T nm at0 deep n p xs va vc w9 H p8 l8 x8 n8 a8 m8 c8 k8) (hi0 : Try.prog.info? 50 = some i0) (hz0 : i0.zero = some z) (hz1 : i0.size = 3) (hz2 : i0.bytes = 48) (hzs : z.cells.size = 3)
    {ops : Array Oper} {o : Oper} {a : Act} {K : Act → World → Prop} {Q : Exit → Act → World → Prop} {E : Prop} (hgd : o.guard = none) (s x : Operand)
    (ho : o.op = .call { callee := .builtin .append, args := #[s, x], argTypes := #[45, 45] }) (hs : a.eval s = .slice va xs.length vc) (N : Nat) (hx : a.eval x = .slice (some ⟨N, 0, none⟩) 1 1)
    (hN : ∀ j u, [Value.string ⟨#[]⟩, .slice none 0 0, .int .i64 0][j]? = some u → w9.cell? ((⟨N, 0, none⟩ : Addr).add j) = some u)
    (h : ∀ gg cp w10, Hid (WEnd w0 w r R cap cur toks B T nm at0 deep n p xs x8 l8 w10 gg cp n8 a8 m8 c8 k8) → (w10.cell? ⟨gg, xs.length * 3, none⟩ = some (.string ⟨#[]⟩) ∧ w10.cell? ⟨gg, xs.length * 3 + 1, none⟩ = some (.slice none 0 0) ∧ w10.cell? ⟨gg, xs.length * 3 + 2, none⟩ = some (.int .i64 0) ∧ w10.frozen? ⟨gg, xs.length * 3, none⟩ = false ∧ w10.frozen? ⟨gg, xs.length * 3 + 1, none⟩ = false ∧ w10.frozen? ⟨gg, xs.length * 3 + 2, none⟩ = false) →
      w10.cell? ⟨T, 1, none⟩ = some (.slice va xs.length vc) → w10.frozen? ⟨T, 1, none⟩ = false → (T + 1 ≤ gg ∧ w10.cell? ⟨B, 0, none⟩ = some (.pointer (some ⟨r, 0, none⟩)) ∧ w10.cell? ⟨B + 1, 0, none⟩ = some (.int .i64 deep)) → K (a.put o.dst (.slice (some ⟨gg, 0, none⟩) (xs.length + 1) cp)) w10) :
    if Region.wanted o (yielded ops a.tmps) = true then Oper.wp Try.prog o a w9 K Q else E := by
  have q1 := hA.hxp; have q2 := hA.hpl; have q3 := hA.hl5; have q4 := hA.hH; have q5 := hA.hTH
  obtain ⟨L, ho9, hfin⟩ := hA.own
  refine step_append_lies _ hgd s x _ ho (T + 1) 50 i0 z 3 48 Try.underlying45 hi0 hz0 hz1 hz2 hzs (by omega) (.slice va xs.length vc) xs.length L.flatten hs ho9 ⟨N, 0, none⟩ 1 1 [.string ⟨#[]⟩, .slice none 0 0, .int .i64 0] hx rfl hN (by simp [Value.oneCell']) (by omega) (by unfold maxLen; omega) (by omega) (by omega) H q4 ?_
  intro gg cp w10 hown1 hgrow hat hlt
  have hgT : T + 1 ≤ gg := by
    rcases hat with e | e
    · have := hA.hvb gg e; omega
    · omega
  have q6 := hA.hBT
  exact h gg cp w10 (hA.fin ho9.1 hfin hown1 hgrow hat) (own_last_cells hown1 ho9.1) ((hA.tb.grown hgrow (fun e => by have := hA.hvb T e.symm; omega)).cell 1 rfl) ((hA.tb.grown hgrow (fun e => by have := hA.hvb T e.symm; omega)).frozen 1) ⟨hgT, (hA.b0.grown hgrow (fun e => by have := hA.hvb B e.symm; omega)).cell 0 rfl, (hA.b1.grown hgrow (fun e => by have := hA.hvb _ e.symm; omega)).cell 0 rfl⟩
end

end Go.Proofs.Ytejpmdlokmlmeaa
