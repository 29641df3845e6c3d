/- A token is read: the walk. Conditions: the reader's four cells, texts to a hundred thousand bytes. -/
import Derived.Test.YtejpmdlokmlmeaaLexG
import Derived.Deep.RegionHeld3
import Derived.Deep.AppendLies
import Derived.Deep.RegionLaw
set_option linter.unusedVariables false
set_option linter.unusedSimpArgs false
namespace Go.Proofs.Ytejpmdlokmlmeaa
open Go.RowKit

/-- The block of the token that is made. -/
def TB (w : World) (T : Nat) (k : Int) (x : ByteArray) (at_ : Nat) : Prop := w.heap[T]? = some (.cells #[.int .u8 k, .string x, .int .i64 at_] 103 (0, 0))
namespace TB
variable {w w' : World} {T : Nat} {k : Int} {x : ByteArray} {at_ : Nat}
theorem cells (h : TB w T k x at_) : w.cell? ⟨T, 0, none⟩ = some (.int .u8 k) ∧ w.cell? ⟨T, 1, none⟩ = some (.string x) ∧ w.cell? ⟨T, 2, none⟩ = some (.int .i64 at_) ∧ w.frozen? ⟨T, 0, none⟩ = false ∧ w.frozen? ⟨T, 1, none⟩ = false := by
  unfold TB at h
  simp [World.cell?, World.frozen?, h]
theorem drewN (h : TB w T k x at_) (n : Nat) : TB (w.drewN n) T k x at_ := h
theorem fr {S : Nat → Prop} (h : TB w T k x at_) (hf : Fr S w w') (hs : ¬ S T) : TB w' T k x at_ := (hf.block T (lt_of_heap h) hs).trans h
theorem set0 (h : TB w T k x at_) (k' : Int) : TB (w.setCell ⟨T, 0, none⟩ (.int .u8 k')) T k' x at_ := by
  unfold TB at h ⊢
  simp [World.setCell, Array.getElem?_modify, h]
theorem set1 (h : TB w T k x at_) (x' : ByteArray) : TB (w.setCell ⟨T, 1, none⟩ (.string x')) T k x' at_ := by
  unfold TB at h ⊢
  simp [World.setCell, Array.getElem?_modify, h]
theorem far (h : TB w T k x at_) {p : Addr} (hp : p.block ≠ T) (u : Value) : TB (w.setCell p u) T k x at_ := (Below.heap_setCell w p u T (Ne.symm hp)).trans h
end TB
theorem LR.far {w : World} {b : Nat} {s : ByteArray} {at_ : Nat} {l : Value} {op : Int} (h : LR w b s at_ l op) {p : Addr} (hp : p.block ≠ b) (u : Value) : LR (w.setCell p u) b s at_ l op := (Below.heap_setCell w p u b (Ne.symm hp)).trans h
theorem own_fr {S : Nat → Prop} {w w' : World} {base e size n : Nat} {v : Value} {xs : List Value} (h : w.ownsRow base e size v n xs) (hf : Fr S w w') (hs : ∀ k, base ≤ k → k < w.heap.size → ¬ S k) : w'.ownsRow base e size v n xs := by
  obtain ⟨h1, h2⟩ := h
  refine ⟨h1, ?_⟩
  rcases h2 with h2 | ⟨g, cap, cur, rfl, hg, hh, r⟩
  · exact .inl h2
  · exact .inr ⟨g, cap, cur, rfl, hg, (hf.block g (lt_of_heap hh) (hs g hg (lt_of_heap hh))).trans hh, r⟩

theorem own_far {w : World} {base e size n : Nat} {v : Value} {xs : List Value} (h : w.ownsRow base e size v n xs) {p : Addr} (hp : ∀ k, v.ownBlock = some k → k ≠ p.block) (u : Value) : (w.setCell p u).ownsRow base e size v n xs := by
  obtain ⟨h1, h2⟩ := h
  refine ⟨h1, ?_⟩
  rcases h2 with h2 | ⟨g, cap, cur, rfl, hg, hh, r⟩
  · exact .inl h2
  · exact .inr ⟨g, cap, cur, rfl, hg, (Below.heap_setCell w p u g (hp g rfl)).trans hh, r⟩
theorem own_lt {w : World} {base e size n : Nat} {v : Value} {xs : List Value} (h : w.ownsRow base e size v n xs) : ∀ k, v.ownBlock = some k → base ≤ k ∧ k < w.heap.size := by
  intro k hk
  rcases h.2 with ⟨rfl, _⟩ | ⟨g, cap, cur, rfl, hg, hh, r⟩
  · simp [Value.ownBlock] at hk
  · have : g = k := by simpa [Value.ownBlock] using hk
    subst this
    exact ⟨hg, lt_of_heap hh⟩

theorem LR.grown {w w' : World} {b : Nat} {s : ByteArray} {at_ : Nat} {l : Value} {op : Int} {row : Option Nat} (h : LR w b s at_ l op) (hg : w.grownBy w' row) (hr : ∀ k, row = some k → k ≠ b) : LR w' b s at_ l op :=
  (hg.block b (lt_of_heap h) (fun e => hr b e.symm rfl)).trans h
theorem LR.alloc {w : World} {b : Nat} {s : ByteArray} {at_ : Nat} {l : Value} {op : Int} (h : LR w b s at_ l op) (o : Obj) : LR (w.alloc o) b s at_ l op := h.fr ((Fr.refl (fun _ => False) w).alloc o) id
/-- What stands when a token is made: the reader, the row of the tokens so far, the token. -/
structure TokIn (w0 w : World) (b base : Nat) (s : ByteArray) (at_ : Nat) (v : Value) (l : List Tk) (T : Nat) (k : Int) (x : ByteArray) (at0 : Nat) : Prop where
  lr : LR w b s at_ v 0
  own : w.ownsRow base 103 3 v l.length (tkCells l)
  tb : TB w T k x at0
  fr : Fr (fun k => k = b ∨ base ≤ k) w0 w
  row : ∀ k, v.ownBlock = some k → k < T
  bb : b < base
  bT : base ≤ T
theorem TokIn.start {w : World} {b base : Nat} {s : ByteArray} {at_ : Nat} {v : Value} {l : List Tk} (h : LR w b s at_ v 0) (ho : w.ownsRow base 103 3 v l.length (tkCells l)) (hb : b < base) (hB : base ≤ w.heap.size) :
    TokIn w (w.alloc (.cells #[.int .u8 0, .string ⟨#[]⟩, .int .i64 at_] 103)) b base s at_ v l w.heap.size 0 ⟨#[]⟩ at_ :=
  ⟨h.fr ((Fr.refl (fun _ => False) w).alloc _) id, own_fr ho ((Fr.refl (fun _ => False) w).alloc _) (fun _ _ _ => id), (MapKept.heap_alloc w _).1, (Fr.refl _ w).alloc _, fun k hk => (own_lt ho k hk).2, hb, hB⟩
namespace TokIn
variable {w0 w w' : World} {b base : Nat} {s : ByteArray} {at_ at' : Nat} {v : Value} {l : List Tk} {T : Nat} {k : Int} {x : ByteArray} {at0 : Nat}
theorem drewN (h : TokIn w0 w b base s at_ v l T k x at0) (n : Nat) : TokIn w0 (w.drewN n) b base s at_ v l T k x at0 := ⟨h.lr, h.own, h.tb, h.fr.drewN n, h.row, h.bb, h.bT⟩
/-- Behind what writes the reader's block alone. -/
theorem step (h : TokIn w0 w b base s at_ v l T k x at0) (hf : Fr (· = b) w w') (hr : LR w' b s at' v 0) : TokIn w0 w' b base s at' v l T k x at0 :=
  ⟨hr, own_fr h.own hf (fun i hi _ e => by have e' : i = b := e; have := h.bb; omega), h.tb.fr hf (fun e => by have e' : T = b := e; have := h.bb; have := h.bT; omega), h.fr.trans (hf.mono (fun _ _ e => .inl e)), h.row, h.bb, h.bT⟩
theorem set0 (h : TokIn w0 w b base s at_ v l T k x at0) (k' : Int) : TokIn w0 (w.setCell ⟨T, 0, none⟩ (.int .u8 k')) b base s at_ v l T k' x at0 :=
  ⟨h.lr.far (by have := h.bb; have := h.bT; simp; omega) _, own_far h.own (fun j hj => by have := h.row j hj; simp; omega) _, h.tb.set0 k', h.fr.setCell (fun _ => .inr h.bT) _, h.row, h.bb, h.bT⟩
theorem set1 (h : TokIn w0 w b base s at_ v l T k x at0) (x' : ByteArray) : TokIn w0 (w.setCell ⟨T, 1, none⟩ (.string x')) b base s at_ v l T k x' at0 :=
  ⟨h.lr.far (by have := h.bb; have := h.bT; simp; omega) _, own_far h.own (fun j hj => by have := h.row j hj; simp; omega) _, h.tb.set1 x', h.fr.setCell (fun _ => .inr h.bT) _, h.row, h.bb, h.bT⟩
theorem alloc (h : TokIn w0 w b base s at_ v l T k x at0) (o : Obj) : TokIn w0 (w.alloc o) b base s at_ v l T k x at0 :=
  ⟨h.lr.alloc o, own_fr h.own ((Fr.refl (fun _ => False) w).alloc o) (fun _ _ _ => id), h.tb.fr ((Fr.refl (fun _ => False) w).alloc o) id, h.fr.alloc o, h.row, h.bb, h.bT⟩
theorem setAt (h : TokIn w0 w b base s at_ v l T k x at0) (n : Int) (m : Nat) (hn : n = m) : TokIn w0 (w.setCell ⟨b, 1, none⟩ (.int .i64 n)) b base s m v l T k x at0 :=
  h.step ((Fr.refl (· = b) w).setCell (fun _ => rfl) _) (h.lr.setI n m hn)
end TokIn

theorem TokIn.fin {w0 w w4 : World} {b base : Nat} {s : ByteArray} {i j : Nat} {v : Value} {l : List Tk} {T k : Nat} {x : ByteArray} {at0 gg cap : Nat} {o : Obj} (h : TokIn w0 w b base s j v l T k x at0)
    (hown : w4.ownsRow base 103 3 (.slice (some ⟨gg, 0, none⟩) (l.length + 1) cap) (l.length + 1) (tkCells l ++ [.int .u8 k, .string x, .int .i64 at0])) (hg : ((w.alloc o).drew).grownBy w4 v.ownBlock) (ht : tokS s i = .ok (⟨k, x, at0⟩, j)) :
    TokPost w0 b base s i l (.returned (.tuple #[])) (w4.setCell ⟨b, 2, none⟩ (.slice (some ⟨gg, 0, none⟩) (l.length + 1) cap)) := by
  have hb := h.bb
  have hvb : ∀ k, v.ownBlock = some k → k ≠ b := fun k hk => by have := (own_lt h.own k hk).1; omega
  have h1 : LR ((w.alloc o).drew) b s j v 0 := h.lr.alloc o
  refine TokPost.good ht (((((h.fr.alloc o).drew).grown hg ?_)).setCell (fun _ => .inl rfl) _) rfl ((h1.grown hg hvb).setL _) ?_
  · intro k hk _
    exact .inr (own_lt h.own k hk).1
  · have := own_far hown (p := ⟨b, 2, none⟩) (fun k hk => by have := (own_lt hown k hk).1; simp; omega) (.slice (some ⟨gg, 0, none⟩) (l.length + 1) cap)
    rw [show tkCells (l ++ [⟨k, x, at0⟩]) = tkCells l ++ [.int .u8 k, .string x, .int .i64 at0] by simp [tkCells, Tk.cells]]
    exact this
theorem min_ext {s : ByteArray} {i j : Nat} (h : j ≤ s.size) : min j s.size - i = j - i := by omega

set_option maxRecDepth 100000 in
set_option maxHeartbeats 2000000 in
theorem token_letter {w : World} {b base : Nat} {s : ByteArray} {at_ : Nat} {v : Value} {l : List Tk} (h : LR w b s at_ v 0) (ho : w.ownsRow base 103 3 v l.length (tkCells l)) (hb : b < base) (hB : base ≤ w.heap.size)
    (ha : at_ < s.size) (hs : s.size ≤ 100000) (hl : l.length ≤ 100000) (hL : isLet (bAt s at_) = true) :
    Calls Try.prog 40 #[.pointer (some ⟨b, 0, none⟩)] w (TokPost w b base s at_ l) := by
  obtain ⟨c0, c1, c2, c3, f1, f2, f3⟩ := h.cells
  have hS := TokIn.start h ho hb hB
  obtain ⟨i0, hi0, hz0, hz1, hz2⟩ := info_parts Try.infoTok
  have hsz : min (at_ + nameN s at_) s.size - at_ = nameN s at_ := by have := nameN_le s at_ (by omega); omega
  by_cases h40 : 40 < nameN s at_
  · have HT := Lib.hid (show tokS s at_ = .error 101 by unfold tokS; rw [if_pos hL, if_pos h40])
    have h40' : (40 : Int) < (nameN s at_ : Int) := by omega
    clear h40
    go_enter Try.func40, Try.ntmps40
    go_wp2_with fail
    clear c0 c1 c2 c3 f1 f2 f3
    refine (hS.lr.now (by omega) (by omega)).mono ?_
    rintro e w1 ⟨rfl, n1, rfl⟩
    go_wp2_with fail
    refine (letter_any _ _).mono ?_
    rintro e w' ⟨rfl, rfl⟩
    rw [hL]
    go_wp2_with fail
    refine (name_any (hS.drewN n1).lr (by omega) hs).mono ?_
    rintro e w2 ⟨rfl, hf2, hr2⟩
    have hS2 := (hS.drewN n1).step hf2 hr2
    generalize w.heap.size = T at *
    obtain ⟨t0, t1, t2, tf0, tf1⟩ := hS2.tb.cells
    clear hS
    go_wp2_with fail
    refine (no_any _ _).mono ?_
    rintro e w' ⟨rfl, rfl⟩
    exact ⟨rfl, TokPost.bad HT.out ((hS2.set0 2).set1 (s.extract at_ (at_ + nameN s at_))).fr rfl⟩
  have HT := Lib.hid (show tokS s at_ = .ok (⟨2, s.extract at_ (at_ + nameN s at_), at_⟩, at_ + nameN s at_) by unfold tokS; rw [if_pos hL, if_neg h40])
  have h40' : ¬ (40 : Int) < (nameN s at_ : Int) := by omega
  clear h40
  go_enter Try.func40, Try.ntmps40
  go_wp2_with fail
  clear c0 c1 c2 c3 f1 f2 f3
  refine (hS.lr.now (by omega) (by omega)).mono ?_
  rintro e w1 ⟨rfl, n1, rfl⟩
  go_wp2_with fail
  refine (letter_any _ _).mono ?_
  rintro e w' ⟨rfl, rfl⟩
  rw [hL]
  go_wp2_with fail
  refine (name_any (hS.drewN n1).lr (by omega) hs).mono ?_
  rintro e w2 ⟨rfl, hf2, hr2⟩
  have hS2 := (hS.drewN n1).step hf2 hr2
  generalize w.heap.size = T at *
  obtain ⟨t0, t1, t2, tf0, tf1⟩ := hS2.tb.cells
  clear hS
  go_wp2_with fail
  have hS3 := (hS2.set0 2).set1 (s.extract at_ (at_ + nameN s at_))
  clear t0 t1 t2 tf0 tf1 hS2 hf2 hr2
  generalize (w2.setCell ⟨T, 0, none⟩ (.int .u8 2)).setCell ⟨T, 1, none⟩ (.string (s.extract at_ (at_ + nameN s at_))) = w3 at *
  obtain ⟨t0, t1, t2, tf0, tf1⟩ := hS3.tb.cells
  obtain ⟨c0, c1, c2, c3, f1, f2, f3⟩ := hS3.lr.cells
  have hTl := lt_of_heap hS3.tb
  have hbl := lt_of_heap hS3.lr
  have hown := hS3.own
  have hbs := hS3.bT
  have hlb : l.length + 1 ≤ maxLen := by unfold maxLen; omega
  have hA : ∀ o, LR ((w3.alloc o).drew) b s (at_ + nameN s at_) v 0 := fun o => hS3.lr.alloc o
  have hvb : ∀ k, v.ownBlock = some k → k ≠ b := fun k hk => by have := (own_lt hown k hk).1; omega
  go_region_law
    ((refine step_append_lies _ (by rfl) _ _ _ (by rfl) base 103 i0 _ 3 32 Try.underlying65 hi0 hz0 hz1 hz2 rfl (by omega) v l.length (tkCells l) (by rfl) ((own_fr hown ((Fr.refl (fun _ => False) w3).alloc _) (fun _ _ _ => id)).drew)
        ⟨w3.heap.size, 0, none⟩ 1 1 [.int .u8 2, .string (s.extract at_ (at_ + nameN s at_)), .int .i64 at_] (by rfl) (by rfl) (World.news_of_block (cs := #[.int .u8 2, .string (s.extract at_ (at_ + nameN s at_)), .int .i64 at_]) (t := 103) (fr := (0, 0)) (heap_alloc_new w3 _)) (by simp [Value.oneCell'])
        (by omega) hlb (by omega) (by simp; omega) (w3.heap.size + 1) (by simp) ?_; intro gg cap w4 hown1 hgrow hat hlt; have hr4 := (hA _).grown hgrow hvb; obtain ⟨-, -, d2, -, -, g2, -⟩ := hr4.cells))
  all_goals
    go_end0
    exact TokIn.fin hS3 hown1 hgrow HT.out
end Go.Proofs.Ytejpmdlokmlmeaa
