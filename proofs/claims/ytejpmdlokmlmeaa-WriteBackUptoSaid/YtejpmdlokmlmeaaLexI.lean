/- A token is read: the other ways. Conditions: the reader's four cells, texts to a hundred thousand bytes. -/
import Derived.Test.YtejpmdlokmlmeaaLexH
set_option linter.unusedVariables false
set_option linter.unusedSimpArgs false
namespace Go.Proofs.Ytejpmdlokmlmeaa
open Go.RowKit

set_option maxRecDepth 100000 in
set_option maxHeartbeats 2000000 in
theorem token_mark {w : World} {b base : Nat} {s : ByteArray} {at_ : Nat} {v : Value} {l : List Tk} (h : LR w b s at_ v 0) (ho : w.ownsRow base 103 3 v l.length (tkCells l)) (hb : b < base) (hB : base ≤ w.heap.size)
    (ha : at_ < s.size) (hs : s.size ≤ 100000) (hl : l.length ≤ 100000) (hL : isLet (bAt s at_) = false) (h1 : bAt s at_ = 37) (h2 : bAt s (at_ + 1) = 37) :
    Calls Try.prog 40 #[.pointer (some ⟨b, 0, none⟩)] w (TokPost w b base s at_ l) := by
  obtain ⟨c0, c1, c2, c3, f1, f2, f3⟩ := h.cells
  have hS := TokIn.start h ho hb hB
  obtain ⟨i0, hi0, hz0, hz1, hz2⟩ := info_parts Try.infoTok
  have HT := Lib.hid (show tokS s at_ = .ok (⟨6, ⟨#[37, 37]⟩, at_⟩, at_ + 2) by unfold tokS; rw [if_neg (by rw [hL]; decide), if_pos ⟨h1, h2⟩])
  have H1 := Lib.hid h1
  have H2 := Lib.hid h2
  clear h1 h2
  go_enter Try.func40, Try.ntmps40
  go_wp2_with fail
  clear c0 c1 c2 c3 f1 f2 f3
  refine (hS.lr.now (by omega) (by omega)).mono ?_
  rintro e w1 ⟨rfl, n1, rfl⟩
  go_wp2_with fail
  refine (letter_any _ _).mono ?_
  rintro e w' ⟨rfl, rfl⟩
  rw [hL]
  have hS1 := hS.drewN n1
  clear hS
  generalize (w.alloc (.cells #[.int .u8 0, .string ⟨#[]⟩, .int .i64 at_] 103)).drewN n1 = w1 at *
  generalize w.heap.size = T at *
  rw [H1.out]
  go_wp2_with fail
  refine (hS1.lr.now1 (by omega) (by omega)).mono ?_
  rintro e w2 ⟨rfl, n2, rfl⟩
  rw [H2.out]
  have hS2 := hS1.drewN n2
  clear hS1
  generalize w1.drewN n2 = w2 at *
  obtain ⟨t0, t1, t2, tf0, tf1⟩ := hS2.tb.cells
  have hS2' := (hS2.set0 6).set1 ⟨#[37, 37]⟩
  have hS3 := hS2'.setAt ((at_ : Int) + 2) (at_ + 2) (by omega)
  obtain ⟨c0, c1, c2, c3, f1, f2, f3⟩ := hS2'.lr.cells
  go_wp2_with fail
  clear t0 t1 t2 tf0 tf1 hS2 hS2' c0 c1 c2 c3 f1 f2 f3
  generalize ((w2.setCell ⟨T, 0, none⟩ (.int .u8 6)).setCell ⟨T, 1, none⟩ (.string ⟨#[37, 37]⟩)).setCell ⟨b, 1, none⟩ (.int .i64 ((at_ : Int) + 2)) = w3 at *
  obtain ⟨t0, t1, t2, tf0, tf1⟩ := hS3.tb.cells
  obtain ⟨c0, c1, c2, c3, f1, f2, f3⟩ := hS3.lr.cells
  have hTl := lt_of_heap hS3.tb
  have hbl := lt_of_heap hS3.lr
  have hown := hS3.own
  have hbs := hS3.bT
  have hlb : l.length + 1 ≤ maxLen := by unfold maxLen; omega
  have hA : ∀ o, LR ((w3.alloc o).drew) b s (at_ + 2) v 0 := fun o => hS3.lr.alloc o
  have hvb : ∀ k, v.ownBlock = some k → k ≠ b := fun k hk => by have := (own_lt hown k hk).1; omega
  go_region_law
    ((refine step_append_lies _ (by rfl) _ _ _ (by rfl) base 103 i0 _ 3 32 Try.underlying65 hi0 hz0 hz1 hz2 rfl (by omega) v l.length (tkCells l) (by rfl) ((own_fr hown ((Fr.refl (fun _ => False) w3).alloc _) (fun _ _ _ => id)).drew)
        ⟨w3.heap.size, 0, none⟩ 1 1 [.int .u8 6, .string (⟨#[37, 37]⟩), .int .i64 at_] (by rfl) (by rfl) (World.news_of_block (cs := #[.int .u8 6, .string (⟨#[37, 37]⟩), .int .i64 at_]) (t := 103) (fr := (0, 0)) (heap_alloc_new w3 _)) (by simp [Value.oneCell'])
        (by omega) hlb (by omega) (by simp; omega) (w3.heap.size + 1) (by simp) ?_; intro gg cap w4 hown1 hgrow hat hlt; have hr4 := (hA _).grown hgrow hvb; obtain ⟨-, -, d2, -, -, g2, -⟩ := hr4.cells))
  all_goals
    go_end0
    exact TokIn.fin hS3 hown1 hgrow HT.out
theorem contains_word {X : ByteArray} {c : Bool} {w : World} {m : Int} (hc : Lib.contains wordsText (32 :: X.data.toList ++ [32]) = c) (hm : w.cell? ⟨0, 0, none⟩ = some (.int .i64 m)) :
    Calls Try.prog 62 #[.string ⟨#[32, 116, 111, 107, 101, 110, 32, 116, 121, 112, 101, 32, 108, 101, 102, 116, 32, 114, 105, 103, 104, 116, 32, 110, 111, 110, 97, 115, 115, 111, 99, 32, 115, 116, 97, 114, 116, 32, 112, 114, 101, 99, 32]⟩, .string (⟨#[32]⟩ ++ X ++ ⟨#[32]⟩)] w
      fun e w' => e = .returned (.bool c) ∧ w = w' := by
  refine (Try.strings_Contains _ _ m w (by decide) hm).mono ?_
  rintro e w' ⟨rfl, rfl⟩
  refine ⟨ret_bool ?_, rfl⟩
  rw [← hc]
  congr 1
theorem toList_data (X : ByteArray) : X.toList = [] ↔ X.data.toList = [] := by
  rw [ByteArray.toList_eq]

set_option maxRecDepth 100000 in
set_option maxHeartbeats 2000000 in
theorem token_word {w : World} {b base : Nat} {s : ByteArray} {at_ : Nat} {v : Value} {l : List Tk} (h : LR w b s at_ v 0) (ho : w.ownsRow base 103 3 v l.length (tkCells l)) (hb : b < base) (hB : base ≤ w.heap.size)
    (ha : at_ < s.size) (hs : s.size ≤ 100000) (hl : l.length ≤ 100000) (hL : isLet (bAt s at_) = false) {mm : Int} (hm : w.cell? ⟨0, 0, none⟩ = some (.int .i64 mm)) (h0 : 0 < b) (h1 : bAt s at_ = 37) (h2 : bAt s (at_ + 1) ≠ 37) (hw : isWordT (s.extract (at_ + 1) (at_ + 1 + nameN s (at_ + 1))) = true) :
    Calls Try.prog 40 #[.pointer (some ⟨b, 0, none⟩)] w (TokPost w b base s at_ l) := by
  obtain ⟨c0, c1, c2, c3, f1, f2, f3⟩ := h.cells
  have hS := TokIn.start h ho hb hB
  obtain ⟨i0, hi0, hz0, hz1, hz2⟩ := info_parts Try.infoTok
  have HT := Lib.hid (show tokS s at_ = .ok (⟨1, s.extract (at_ + 1) (at_ + 1 + nameN s (at_ + 1)), at_⟩, at_ + 1 + nameN s (at_ + 1)) by unfold tokS; rw [if_neg (by rw [hL]; decide), if_neg (fun h => h2 h.2), if_pos h1, if_pos hw])
  have H1 := Lib.hid h1
  have H2 := Lib.hid (show (((bAt s (at_ + 1)).toNat : Int) == 37) = false by rw [b_eq _ 37 37 rfl]; simpa using h2)
  have Hm := Lib.hid hm
  clear h1 h2 hm
  go_enter Try.func40, Try.ntmps40
  go_wp2_with fail
  clear c0 c1 c2 c3 f1 f2 f3
  refine (hS.lr.now (by omega) (by omega)).mono ?_
  rintro e w1 ⟨rfl, n1, rfl⟩
  go_wp2_with fail
  refine (letter_any _ _).mono ?_
  rintro e w' ⟨rfl, rfl⟩
  rw [hL]
  have hS1 := hS.drewN n1
  clear hS
  generalize (w.alloc (.cells #[.int .u8 0, .string ⟨#[]⟩, .int .i64 at_] 103)).drewN n1 = w1 at *
  generalize w.heap.size = T at *
  rw [H1.out]
  go_wp2_with fail
  refine (hS1.lr.now1 (by omega) (by omega)).mono ?_
  rintro e w2 ⟨rfl, n2, rfl⟩
  have hS2 := hS1.drewN n2
  clear hS1
  generalize w1.drewN n2 = w2 at *
  obtain ⟨c0, c1, c2, c3, f1, f2, f3⟩ := hS2.lr.cells
  have k37 := H2.out
  go_wp2_with fail
  have hS3 := hS2.setAt ((at_ : Int) + 1) (at_ + 1) (by omega)
  clear c0 c1 c2 c3 f1 f2 f3 k37
  refine (name_any hS3.lr (by omega) hs).mono ?_
  rintro e w4 ⟨rfl, hf4, hr4⟩
  have hS4 := hS3.step hf4 hr4
  clear hS3 hS2 hf4 hr4
  have hnl := nameN_le s (at_ + 1) (by omega)
  generalize hX : s.extract (at_ + 1) (at_ + 1 + nameN s (at_ + 1)) = X at *
  have HX := Lib.hid hX
  clear hX
  obtain ⟨t0, t1, t2, tf0, tf1⟩ := hS4.tb.cells
  have hS5 := (hS4.set0 1).set1 X
  have hxe : ¬ X.data.toList = [] := by
    intro e
    simp [isWordT, e] at hw
  have hwc : Lib.contains wordsText (32 :: X.data.toList ++ [32]) = true := by
    simp [isWordT] at hw
    simpa using hw.2
  clear hw
  have hxl : X.size ≤ 100000 := by rw [← HX.out]; simp; omega
  have hne : ¬ X.toList = [] := by rw [toList_data]; exact hxe
  have hne2 : X.toList.isEmpty = false := by simpa using hne
  go_wp2_with fail
  have hm5 := (hS5.fr.cell (p := ⟨0, 0, none⟩) (Nat.lt_of_lt_of_le h0 (Nat.le_of_lt (lt_of_heap h))) (by simp; omega)).trans Hm.out
  refine (contains_word hwc hm5).mono ?_
  rintro e w6 ⟨rfl, rfl⟩
  go_wp2_with fail
  clear t0 t1 t2 tf0 tf1 hS4
  generalize (w4.setCell ⟨T, 0, none⟩ (.int .u8 1)).setCell ⟨T, 1, none⟩ (.string X) = w3 at *
  obtain ⟨t0, t1, t2, tf0, tf1⟩ := hS5.tb.cells
  obtain ⟨c0, c1, c2, c3, f1, f2, f3⟩ := hS5.lr.cells
  have hTl := lt_of_heap hS5.tb
  have hbl := lt_of_heap hS5.lr
  have hown := hS5.own
  have hbs := hS5.bT
  have hlb : l.length + 1 ≤ maxLen := by unfold maxLen; omega
  have hA : ∀ o, LR ((w3.alloc o).drew) b s (at_ + 1 + nameN s (at_ + 1)) v 0 := fun o => hS5.lr.alloc o
  have hvb : ∀ k, v.ownBlock = some k → k ≠ b := fun k hk => by have := (own_lt hown k hk).1; omega
  go_region_law
    ((refine step_append_lies _ (by rfl) _ _ _ (by rfl) base 103 i0 _ 3 32 Try.underlying65 hi0 hz0 hz1 hz2 rfl (by omega) v l.length (tkCells l) (by rfl) ((own_fr hown ((Fr.refl (fun _ => False) w3).alloc _) (fun _ _ _ => id)).drew)
        ⟨w3.heap.size, 0, none⟩ 1 1 [.int .u8 1, .string (X), .int .i64 at_] (by rfl) (by rfl) (World.news_of_block (cs := #[.int .u8 1, .string (X), .int .i64 at_]) (t := 103) (fr := (0, 0)) (heap_alloc_new w3 _)) (by simp [Value.oneCell'])
        (by omega) hlb (by omega) (by simp; omega) (w3.heap.size + 1) (by simp) ?_; intro gg cap w4 hown1 hgrow hat hlt; have hr4 := (hA _).grown hgrow hvb; obtain ⟨-, -, d2, -, -, g2, -⟩ := hr4.cells))
  all_goals
    go_end0
    exact TokIn.fin hS5 hown1 hgrow HT.out
set_option maxRecDepth 100000 in
set_option maxHeartbeats 2000000 in
theorem token_noWord {w : World} {b base : Nat} {s : ByteArray} {at_ : Nat} {v : Value} {l : List Tk} (h : LR w b s at_ v 0) (ho : w.ownsRow base 103 3 v l.length (tkCells l)) (hb : b < base) (hB : base ≤ w.heap.size)
    (ha : at_ < s.size) (hs : s.size ≤ 100000) (hl : l.length ≤ 100000) (hL : isLet (bAt s at_) = false) {mm : Int} (hm : w.cell? ⟨0, 0, none⟩ = some (.int .i64 mm)) (h0 : 0 < b) (h1 : bAt s at_ = 37) (h2 : bAt s (at_ + 1) ≠ 37) (hw : isWordT (s.extract (at_ + 1) (at_ + 1 + nameN s (at_ + 1))) = false) :
    Calls Try.prog 40 #[.pointer (some ⟨b, 0, none⟩)] w (TokPost w b base s at_ l) := by
  obtain ⟨c0, c1, c2, c3, f1, f2, f3⟩ := h.cells
  have hS := TokIn.start h ho hb hB
  obtain ⟨i0, hi0, hz0, hz1, hz2⟩ := info_parts Try.infoTok
  have HT := Lib.hid (show tokS s at_ = .error 101 by unfold tokS; rw [if_neg (by rw [hL]; decide), if_neg (fun h => h2 h.2), if_pos h1, if_neg (by rw [hw]; decide)])
  have H1 := Lib.hid h1
  have H2 := Lib.hid (show (((bAt s (at_ + 1)).toNat : Int) == 37) = false by rw [b_eq _ 37 37 rfl]; simpa using h2)
  have Hm := Lib.hid hm
  clear h1 h2 hm
  go_enter Try.func40, Try.ntmps40
  go_wp2_with fail
  clear c0 c1 c2 c3 f1 f2 f3
  refine (hS.lr.now (by omega) (by omega)).mono ?_
  rintro e w1 ⟨rfl, n1, rfl⟩
  go_wp2_with fail
  refine (letter_any _ _).mono ?_
  rintro e w' ⟨rfl, rfl⟩
  rw [hL]
  have hS1 := hS.drewN n1
  clear hS
  generalize (w.alloc (.cells #[.int .u8 0, .string ⟨#[]⟩, .int .i64 at_] 103)).drewN n1 = w1 at *
  generalize w.heap.size = T at *
  rw [H1.out]
  go_wp2_with fail
  refine (hS1.lr.now1 (by omega) (by omega)).mono ?_
  rintro e w2 ⟨rfl, n2, rfl⟩
  have hS2 := hS1.drewN n2
  clear hS1
  generalize w1.drewN n2 = w2 at *
  obtain ⟨c0, c1, c2, c3, f1, f2, f3⟩ := hS2.lr.cells
  have k37 := H2.out
  go_wp2_with fail
  have hS3 := hS2.setAt ((at_ : Int) + 1) (at_ + 1) (by omega)
  clear c0 c1 c2 c3 f1 f2 f3 k37
  refine (name_any hS3.lr (by omega) hs).mono ?_
  rintro e w4 ⟨rfl, hf4, hr4⟩
  have hS4 := hS3.step hf4 hr4
  clear hS3 hS2 hf4 hr4
  have hnl := nameN_le s (at_ + 1) (by omega)
  generalize hX : s.extract (at_ + 1) (at_ + 1 + nameN s (at_ + 1)) = X at *
  have HX := Lib.hid hX
  clear hX
  obtain ⟨t0, t1, t2, tf0, tf1⟩ := hS4.tb.cells
  have hS5 := (hS4.set0 1).set1 X
  by_cases hxe : X.data.toList = []
  · have hne : X.toList = [] := by rw [toList_data]; exact hxe
    go_wp2_with fail
    refine (no_any _ _).mono ?_
    rintro e w' ⟨rfl, rfl⟩
    exact ⟨rfl, TokPost.bad HT.out hS5.fr rfl⟩
  · have hwc : Lib.contains wordsText (32 :: X.data.toList ++ [32]) = false := by
      simp [isWordT] at hw
      simpa using hw (by simpa using hxe)
    clear hw
    have hxl : X.size ≤ 100000 := by rw [← HX.out]; simp; omega
    have hne : ¬ X.toList = [] := by rw [toList_data]; exact hxe
    have hne2 : X.toList.isEmpty = false := by simpa using hne
    go_wp2_with fail
    have hm5 := (hS5.fr.cell (p := ⟨0, 0, none⟩) (Nat.lt_of_lt_of_le h0 (Nat.le_of_lt (lt_of_heap h))) (by simp; omega)).trans Hm.out
    refine (contains_word hwc hm5).mono ?_
    rintro e w6 ⟨rfl, rfl⟩
    go_wp2_with fail
    refine (no_any _ _).mono ?_
    rintro e w' ⟨rfl, rfl⟩
    exact ⟨rfl, TokPost.bad HT.out hS5.fr rfl⟩
end Go.Proofs.Ytejpmdlokmlmeaa
