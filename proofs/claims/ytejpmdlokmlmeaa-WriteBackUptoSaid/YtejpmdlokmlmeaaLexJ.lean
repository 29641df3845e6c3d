/- A token is read: actions, signs, and what is none. Conditions: the reader's four cells, texts to a hundred thousand bytes. -/
import Derived.Test.YtejpmdlokmlmeaaLexI
set_option linter.unusedVariables false
set_option linter.unusedSimpArgs false
namespace Go.Proofs.Ytejpmdlokmlmeaa
open Go.RowKit

set_option maxRecDepth 100000 in
set_option maxHeartbeats 2000000 in
theorem token_noAction {w : World} {b base : Nat} {s : ByteArray} {at_ : Nat} {v : Value} {l : List Tk} (h : LR w b s at_ v 0) (ho : w.ownsRow base 103 3 v l.length (tkCells l)) (hb : b < base) (hB : base ≤ w.heap.size)
    (ha : at_ < s.size) (hs : s.size ≤ 100000) (hl : l.length ≤ 100000) (hL : isLet (bAt s at_) = false) (h37 : bAt s at_ ≠ 37) (h123 : bAt s at_ = 123) (hq : actS s 1 (at_ + 1) = none) :
    Calls Try.prog 40 #[.pointer (some ⟨b, 0, none⟩)] w (TokPost w b base s at_ l) := by
  obtain ⟨c0, c1, c2, c3, f1, f2, f3⟩ := h.cells
  have hS := TokIn.start h ho hb hB
  obtain ⟨i0, hi0, hz0, hz1, hz2⟩ := info_parts Try.infoTok
  have HT := Lib.hid (show tokS s at_ = .error 101 by unfold tokS; rw [if_neg (by rw [hL]; decide), if_neg (fun h => h37 h.1), if_neg h37, if_pos h123, hq])
  have H123 := Lib.hid h123
  have Hq := Lib.hid hq
  have N37 := Lib.hid (show (((bAt s at_).toNat : Int) == 37) = false by rw [b_eq _ 37 37 rfl]; simpa using h37)
  clear h37 h123 hq
  go_enter Try.func40, Try.ntmps40
  go_wp2_with fail
  clear c0 c1 c2 c3 f1 f2 f3
  refine (hS.lr.now (by omega) (by omega)).mono ?_
  rintro e w1 ⟨rfl, n1, rfl⟩
  go_wp2_with fail
  refine (letter_any _ _).mono ?_
  rintro e w' ⟨rfl, rfl⟩
  rw [hL]
  have hS1 := hS.drewN n1
  clear hS
  generalize (w.alloc (.cells #[.int .u8 0, .string ⟨#[]⟩, .int .i64 at_] 103)).drewN n1 = w1 at *
  generalize w.heap.size = T at *
  have k37 := N37.out
  have k123 : (((bAt s at_).toNat : Int) == 123) = true := by rw [b_eq _ 123 123 rfl, H123.out]; rfl
  go_wp2_with fail
  clear k37 k123
  refine (action_any hS1.lr ha hs).mono ?_
  rintro e w2 ⟨hf2, hp2⟩
  rw [Hq.out] at hp2
  simp only at hp2
  subst hp2
  exact ⟨rfl, TokPost.bad HT.out (hS1.fr.trans (hf2.mono (fun _ _ e => .inl e))) rfl⟩
set_option maxRecDepth 100000 in
set_option maxHeartbeats 2000000 in
theorem token_action {w : World} {b base : Nat} {s : ByteArray} {at_ : Nat} {v : Value} {l : List Tk} (h : LR w b s at_ v 0) (ho : w.ownsRow base 103 3 v l.length (tkCells l)) (hb : b < base) (hB : base ≤ w.heap.size)
    (ha : at_ < s.size) (hs : s.size ≤ 100000) (hl : l.length ≤ 100000) (hL : isLet (bAt s at_) = false) (h37 : bAt s at_ ≠ 37) (h123 : bAt s at_ = 123) {n : Nat} (hq : actS s 1 (at_ + 1) = some n) :
    Calls Try.prog 40 #[.pointer (some ⟨b, 0, none⟩)] w (TokPost w b base s at_ l) := by
  obtain ⟨c0, c1, c2, c3, f1, f2, f3⟩ := h.cells
  have hS := TokIn.start h ho hb hB
  obtain ⟨i0, hi0, hz0, hz1, hz2⟩ := info_parts Try.infoTok
  have HT := Lib.hid (show tokS s at_ = .ok (⟨9, s.extract (at_ + 1) (at_ + n), at_⟩, at_ + 1 + n) by unfold tokS; rw [if_neg (by rw [hL]; decide), if_neg (fun h => h37 h.1), if_neg h37, if_pos h123, hq])
  have H123 := Lib.hid h123
  have Hq := Lib.hid hq
  have N37 := Lib.hid (show (((bAt s at_).toNat : Int) == 37) = false by rw [b_eq _ 37 37 rfl]; simpa using h37)
  clear h37 h123 hq
  go_enter Try.func40, Try.ntmps40
  go_wp2_with fail
  clear c0 c1 c2 c3 f1 f2 f3
  refine (hS.lr.now (by omega) (by omega)).mono ?_
  rintro e w1 ⟨rfl, n1, rfl⟩
  go_wp2_with fail
  refine (letter_any _ _).mono ?_
  rintro e w' ⟨rfl, rfl⟩
  rw [hL]
  have hS1 := hS.drewN n1
  clear hS
  generalize (w.alloc (.cells #[.int .u8 0, .string ⟨#[]⟩, .int .i64 at_] 103)).drewN n1 = w1 at *
  generalize w.heap.size = T at *
  have k37 := N37.out
  have k123 : (((bAt s at_).toNat : Int) == 123) = true := by rw [b_eq _ 123 123 rfl, H123.out]; rfl
  go_wp2_with fail
  clear k37 k123
  refine (action_any hS1.lr ha hs).mono ?_
  rintro e w2 ⟨hf2, hp2⟩
  rw [Hq.out] at hp2
  obtain ⟨rfl, hr2⟩ := hp2
  have hS4 := hS1.step hf2 hr2
  clear hS1 hf2 hr2
  generalize hX : s.extract (at_ + 1) (at_ + n) = X at *
  clear hX
  obtain ⟨t0, t1, t2, tf0, tf1⟩ := hS4.tb.cells
  have hS5 := (hS4.set0 9).set1 X
  go_wp2_with fail
  clear t0 t1 t2 tf0 tf1 hS4
  generalize (w2.setCell ⟨T, 0, none⟩ (.int .u8 9)).setCell ⟨T, 1, none⟩ (.string X) = w3 at *
  obtain ⟨t0, t1, t2, tf0, tf1⟩ := hS5.tb.cells
  obtain ⟨c0, c1, c2, c3, f1, f2, f3⟩ := hS5.lr.cells
  have hTl := lt_of_heap hS5.tb
  have hbl := lt_of_heap hS5.lr
  have hown := hS5.own
  have hbs := hS5.bT
  have hlb : l.length + 1 ≤ maxLen := by unfold maxLen; omega
  have hA : ∀ o, LR ((w3.alloc o).drew) b s (at_ + 1 + n) v 0 := fun o => hS5.lr.alloc o
  have hvb : ∀ k, v.ownBlock = some k → k ≠ b := fun k hk => by have := (own_lt hown k hk).1; omega
  go_region_law
    ((refine step_append_lies _ (by rfl) _ _ _ (by rfl) base 103 i0 _ 3 32 Try.underlying65 hi0 hz0 hz1 hz2 rfl (by omega) v l.length (tkCells l) (by rfl) ((own_fr hown ((Fr.refl (fun _ => False) w3).alloc _) (fun _ _ _ => id)).drew)
        ⟨w3.heap.size, 0, none⟩ 1 1 [.int .u8 9, .string (X), .int .i64 at_] (by rfl) (by rfl) (World.news_of_block (cs := #[.int .u8 9, .string (X), .int .i64 at_]) (t := 103) (fr := (0, 0)) (heap_alloc_new w3 _)) (by simp [Value.oneCell'])
        (by omega) hlb (by omega) (by simp; omega) (w3.heap.size + 1) (by simp) ?_; intro gg cap w4 hown1 hgrow hat hlt; have hr4 := (hA _).grown hgrow hvb; obtain ⟨-, -, d2, -, -, g2, -⟩ := hr4.cells))
  all_goals
    go_end0
    exact TokIn.fin hS5 hown1 hgrow HT.out
theorem indexByte_signs (c : UInt8) (w : World) : Calls Try.prog 64 #[.string ⟨#[58, 59, 124, 40, 41, 44, 60, 62]⟩, .int .u8 c.toNat] w fun e w' => e = .returned (.int .i64 (Lib.indexByte signsText c)) ∧ w = w' := by
  refine (Try.strings_IndexByte _ _ w).mono ?_
  rintro e w' ⟨rfl, rfl⟩
  exact ⟨ret_int (by simp [signsText]), rfl⟩
theorem conv_one (W : World) (c : UInt8) (g : Nat) (hg : W.heap.size = g) :
    (convert 56 9 (.slice (some ⟨g, 0, none⟩) 1 1)).run Try.prog (W.alloc (.cells #[.int .u8 c.toNat] 5)).drew = .ok (.string ⟨#[c]⟩) (W.alloc (.cells #[.int .u8 c.toNat] 5)).drew := by
  subst hg
  refine run_convert_bytes_back _ _ _ 5 ⟨W.heap.size, 0, none⟩ 1 [c] Try.underlying56 Try.underlying5 Try.underlying9 ?_
  intro j hj
  have : j = 0 := by simpa using hj
  subst this
  have hb : ((W.alloc (.cells #[.int .u8 c.toNat] 5)).drew).heap[W.heap.size]? = some (.cells #[.int .u8 c.toNat] 5 (0, 0)) := (MapKept.heap_alloc W _).1
  have := World.news_of_block hb 0 (.int .u8 c.toNat) (by simp)
  simpa using this
set_option maxRecDepth 100000 in
set_option maxHeartbeats 2000000 in
theorem token_none {w : World} {b base : Nat} {s : ByteArray} {at_ : Nat} {v : Value} {l : List Tk} (h : LR w b s at_ v 0) (ho : w.ownsRow base 103 3 v l.length (tkCells l)) (hb : b < base) (hB : base ≤ w.heap.size)
    (ha : at_ < s.size) (hs : s.size ≤ 100000) (hl : l.length ≤ 100000) (hL : isLet (bAt s at_) = false) (h37 : bAt s at_ ≠ 37) (h123 : bAt s at_ ≠ 123) (hq : ¬ 0 ≤ Lib.indexByte signsText (bAt s at_)) :
    Calls Try.prog 40 #[.pointer (some ⟨b, 0, none⟩)] w (TokPost w b base s at_ l) := by
  obtain ⟨c0, c1, c2, c3, f1, f2, f3⟩ := h.cells
  have hS := TokIn.start h ho hb hB
  obtain ⟨i0, hi0, hz0, hz1, hz2⟩ := info_parts Try.infoTok
  have HT := Lib.hid (show tokS s at_ = .error 100 by unfold tokS; rw [if_neg (by rw [hL]; decide), if_neg (fun h => h37 h.1), if_neg h37, if_neg h123, if_neg hq])
  have N37 := Lib.hid (show (((bAt s at_).toNat : Int) == 37) = false by rw [b_eq _ 37 37 rfl]; simpa using h37)
  have N123 := Lib.hid (show (((bAt s at_).toNat : Int) == 123) = false by rw [b_eq _ 123 123 rfl]; simpa using h123)
  clear h37 h123
  go_enter Try.func40, Try.ntmps40
  go_wp2_with fail
  clear c0 c1 c2 c3 f1 f2 f3
  refine (hS.lr.now (by omega) (by omega)).mono ?_
  rintro e w1 ⟨rfl, n1, rfl⟩
  go_wp2_with fail
  refine (letter_any _ _).mono ?_
  rintro e w' ⟨rfl, rfl⟩
  rw [hL]
  have hS1 := hS.drewN n1
  clear hS
  generalize (w.alloc (.cells #[.int .u8 0, .string ⟨#[]⟩, .int .i64 at_] 103)).drewN n1 = w1 at *
  generalize w.heap.size = T at *
  have k37 := N37.out
  have k123 := N123.out
  go_wp2_with fail
  clear k37 k123
  refine (indexByte_signs _ _).mono ?_
  rintro e w2 ⟨rfl, rfl⟩
  go_wp2_with fail
  refine (no_any _ _).mono ?_
  rintro e w' ⟨rfl, rfl⟩
  exact ⟨rfl, TokPost.bad HT.out hS1.fr rfl⟩
set_option maxRecDepth 100000 in
set_option maxHeartbeats 2000000 in
theorem token_sign {w : World} {b base : Nat} {s : ByteArray} {at_ : Nat} {v : Value} {l : List Tk} (h : LR w b s at_ v 0) (ho : w.ownsRow base 103 3 v l.length (tkCells l)) (hb : b < base) (hB : base ≤ w.heap.size)
    (ha : at_ < s.size) (hs : s.size ≤ 100000) (hl : l.length ≤ 100000) (hL : isLet (bAt s at_) = false) (h37 : bAt s at_ ≠ 37) (h123 : bAt s at_ ≠ 123) (hq : 0 ≤ Lib.indexByte signsText (bAt s at_)) :
    Calls Try.prog 40 #[.pointer (some ⟨b, 0, none⟩)] w (TokPost w b base s at_ l) := by
  obtain ⟨c0, c1, c2, c3, f1, f2, f3⟩ := h.cells
  have hS := TokIn.start h ho hb hB
  obtain ⟨i0, hi0, hz0, hz1, hz2⟩ := info_parts Try.infoTok
  have HT := Lib.hid (show tokS s at_ = .ok (⟨6, ⟨#[bAt s at_]⟩, at_⟩, at_ + 1) by unfold tokS; rw [if_neg (by rw [hL]; decide), if_neg (fun h => h37 h.1), if_neg h37, if_neg h123, if_pos hq])
  have N37 := Lib.hid (show (((bAt s at_).toNat : Int) == 37) = false by rw [b_eq _ 37 37 rfl]; simpa using h37)
  have N123 := Lib.hid (show (((bAt s at_).toNat : Int) == 123) = false by rw [b_eq _ 123 123 rfl]; simpa using h123)
  clear h37 h123
  go_enter Try.func40, Try.ntmps40
  go_wp2_with fail
  clear c0 c1 c2 c3 f1 f2 f3
  refine (hS.lr.now (by omega) (by omega)).mono ?_
  rintro e w1 ⟨rfl, n1, rfl⟩
  go_wp2_with fail
  refine (letter_any _ _).mono ?_
  rintro e w' ⟨rfl, rfl⟩
  rw [hL]
  have hS1 := hS.drewN n1
  clear hS
  generalize (w.alloc (.cells #[.int .u8 0, .string ⟨#[]⟩, .int .i64 at_] 103)).drewN n1 = w1 at *
  generalize w.heap.size = T at *
  have k37 := N37.out
  have k123 := N123.out
  go_wp2_with fail
  clear k37 k123
  refine (indexByte_signs _ _).mono ?_
  rintro e w2 ⟨rfl, rfl⟩
  obtain ⟨t0, t1, t2, tf0, tf1⟩ := hS1.tb.cells
  have hc1 := conv_one w1 (bAt s at_) w1.heap.size rfl
  have hc2 := conv_one (w1.setCell ⟨T, 0, none⟩ (.int .u8 6)) (bAt s at_) w1.heap.size (by simp)
  have hTl := lt_of_heap hS1.tb
  go_wp2_with fail
  go_region
  have hS3 := (((hS1.set0 6).set1 ⟨#[bAt s at_]⟩).alloc (.cells #[.int .u8 (bAt s at_).toNat] 5)).drewN 1
  have hS4 := hS3.setAt ((at_ : Int) + 1) (at_ + 1) (by omega)
  clear t0 t1 t2 tf0 tf1 hc1 hc2 hTl hS1
  change Exit.then _ _ Exit.normal _ ((((w1.setCell ⟨T, 0, none⟩ (.int .u8 6)).setCell ⟨T, 1, none⟩ (.string ⟨#[bAt s at_]⟩)).alloc (.cells #[.int .u8 (bAt s at_).toNat] 5)).drewN 1)
  generalize (((w1.setCell ⟨T, 0, none⟩ (.int .u8 6)).setCell ⟨T, 1, none⟩ (.string ⟨#[bAt s at_]⟩)).alloc (.cells #[.int .u8 (bAt s at_).toNat] 5)).drewN 1 = w5 at *
  obtain ⟨c0, c1, c2, c3, f1, f2, f3⟩ := hS3.lr.cells
  go_wp2_with fail
  clear c0 c1 c2 c3 f1 f2 f3 hS3
  generalize w5.setCell ⟨b, 1, none⟩ (.int .i64 ((at_ : Int) + 1)) = w3 at *
  obtain ⟨t0, t1, t2, tf0, tf1⟩ := hS4.tb.cells
  obtain ⟨c0, c1, c2, c3, f1, f2, f3⟩ := hS4.lr.cells
  have hTl := lt_of_heap hS4.tb
  have hbl := lt_of_heap hS4.lr
  have hown := hS4.own
  have hbs := hS4.bT
  have hlb : l.length + 1 ≤ maxLen := by unfold maxLen; omega
  have hA : ∀ o, LR ((w3.alloc o).drew) b s (at_ + 1) v 0 := fun o => hS4.lr.alloc o
  have hvb : ∀ k, v.ownBlock = some k → k ≠ b := fun k hk => by have := (own_lt hown k hk).1; omega
  go_region_law
    ((refine step_append_lies _ (by rfl) _ _ _ (by rfl) base 103 i0 _ 3 32 Try.underlying65 hi0 hz0 hz1 hz2 rfl (by omega) v l.length (tkCells l) (by rfl) ((own_fr hown ((Fr.refl (fun _ => False) w3).alloc _) (fun _ _ _ => id)).drew)
        ⟨w3.heap.size, 0, none⟩ 1 1 [.int .u8 6, .string (⟨#[bAt s at_]⟩), .int .i64 at_] (by rfl) (by rfl) (World.news_of_block (cs := #[.int .u8 6, .string (⟨#[bAt s at_]⟩), .int .i64 at_]) (t := 103) (fr := (0, 0)) (heap_alloc_new w3 _)) (by simp [Value.oneCell'])
        (by omega) hlb (by omega) (by simp; omega) (w3.heap.size + 1) (by simp) ?_; intro gg cap w4 hown1 hgrow hat hlt; have hr4 := (hA _).grown hgrow hvb; obtain ⟨-, -, d2, -, -, g2, -⟩ := hr4.cells))
  all_goals
    go_end0
    exact TokIn.fin hS4 hown1 hgrow HT.out
end Go.Proofs.Ytejpmdlokmlmeaa
