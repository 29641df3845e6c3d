/- The kit's copies of rows of words, alternatives, rules, declarations: each from a part's copy. Conditions: the rows have at most 2^40 parts. -/
import Derived.Test.YtejpmdlokmlmeaaKitA
import Derived.Test.YtejpmdlokmlmeaaWriteJ
set_option linter.unusedVariables false
set_option linter.unusedSimpArgs false
namespace Go.Proofs.Ytejpmdlokmlmeaa
open Go.RowKit

theorem getD_mem {α : Type} {l : List α} {k : Nat} (d : α) (h : k < l.length) : l.getD k d ∈ l := by
  rw [List.getD_eq_getElem?_getD, List.getElem?_eq_getElem h]
  exact List.getElem_mem h

set_option maxRecDepth 100000 in
set_option maxHeartbeats 1000000 in
theorem copyWords_of {w : World} {v : Value} {xs : List GWord} (hel : ∀ x, x ∈ xs → ∀ {w' : World} {cs : List Value}, RWord w' Any x cs → Calls Try.prog 94 #[.agg ⟨cs⟩] w' (CElt RWord w' x)) (h : RRow w Any 3 (RWord w Any) v xs) (hn : xs.length ≤ 1099511627776) :
    Calls Try.prog 92 #[v] w (CRow RWord 3 w xs) := by
  obtain ⟨va, vc, rfl⟩ := h.form
  obtain ⟨i0, hi0, hz0, hz1, hz2⟩ := info_parts Try.infoWord
  have Hel := Lib.hid (fun x (hx : x ∈ xs) (w' : World) (cs : List Value) (h : RWord w' Any x cs) => hel x hx h)
  clear hel
  go_enter Try.func92, Try.ntmps92
  go_wp2_with fail
  go_loopw [3, 4, 5] (fun o i u wr => ∃ k : Nat, k ≤ xs.length ∧ i = .int .i64 k ∧ Fr (fun _ => False) w wr ∧ Own wr w.heap.size 50 3 (EN RWord wr) o (xs.take k)) (fun o i u wr => xs.length - (intOf i).toNat)
  case atStart => exact ⟨0, Nat.zero_le _, rfl, Fr.refl _ w, by rw [List.take_zero]; exact Own.nil⟩
  case round =>
    obtain ⟨k, hk, rfl, hf, hO⟩ := hrel
    by_cases hlt : k < xs.length
    · have h' : RRow wr Any 3 (RWord wr Any) (.slice va xs.length vc) xs := h.fr (E' := RWord wr Any) hf (fun _ _ _ => id) (fun x cs h => elemWord.fr h hf (fun _ _ _ => id))
      obtain ⟨kb, off, vc', cs, hv, -, -, -, hE, hc⟩ := h'.get hlt noWord
      injection hv with hv1 hv2 hv3
      subst hv1
      clear hv2 hv3 h'
      have hT0 := take_snoc_getD xs k noWord hlt
      have hM0 := getD_mem noWord hlt
      generalize xs.getD k noWord = x at *
      obtain ⟨ys, hys⟩ : ∃ ys, ys = xs.take k := ⟨_, rfl⟩
      rw [← hys] at hO hT0
      have hyk : ys.length ≤ k := by rw [hys]; simp; omega
      have HT := Lib.hid hT0
      have HM := Lib.hid hM0
      clear hT0 hM0 hys
      obtain ⟨n1, a1, m1, c1, k1, rfl⟩ := hE.form
      have q0 := hc 0 _ rfl
      have q1 := hc 1 _ rfl
      have q2 := hc 2 _ rfl
      rw [Nat.add_zero] at q0
      clear hc
      have hB := hf.size
      go_wp2_with fail
      refine (Hel.out x HM.out wr _ hE).mono ?_
      rintro e w2 ⟨cs2, rfl, hx2, hf2⟩
      obtain ⟨n2, a2, m2, c2, k2, rfl⟩ := hx2.form
      have hb := Blk.new w2 #[.string n2, .slice a2 m2 c2, .int .i64 k2] 50
      have r0 := hb.cell 0 rfl
      have r1 := hb.cell 1 rfl
      have r2 := hb.cell 2 rfl
      obtain ⟨L, hL, ho, hfin⟩ := Own.snoc (elemN elemWord) hO hf2 (fun _ _ _ => id) hB hx2 rfl (((Fr.refl (fun _ => False) w2).alloc (.cells #[.string n2, .slice a2 m2 c2, .int .i64 k2] 50)).alloc (.cells #[.string n2, .slice a2 m2 c2, .int .i64 k2] 50))
      have hvb := fun i hi => (hO.blk i hi).1
      have hs2 := hf2.size
      clear hb q0 q1 q2
      go_wp2_with (at_builtin; refine wpList_append_lies _ rfl _ _ _ rfl w.heap.size 50 i0 _ 3 48 Try.underlying45 hi0 hz0 hz1 hz2 rfl (by omega) _ ys.length L.flatten rfl ho ⟨w2.heap.size + 1, 0, none⟩ 1 1 [.string n2, .slice a2 m2 c2, .int .i64 k2] rfl rfl (World.news_of_block (cs := #[.string n2, .slice a2 m2 c2, .int .i64 k2]) (t := 50) (fr := (0, 0)) (by have := heap_alloc_new (w2.alloc (.cells #[.string n2, .slice a2 m2 c2, .int .i64 k2] 50)) (.cells #[.string n2, .slice a2 m2 c2, .int .i64 k2] 50); rwa [show (w2.alloc (.cells #[.string n2, .slice a2 m2 c2, .int .i64 k2] 50)).heap.size = w2.heap.size + 1 by simp] at this)) (by simp [Value.oneCell']) (by omega) (by unfold maxLen; omega) (by omega) (by simp; omega) (w2.heap.size + 1 + 1) (by simp) ?_)
      intro gg cp w4 hown hgrow hat hlt4
      go_wp2_with fail
      go_roundw
      case rel =>
        refine ⟨k + 1, by omega, by go_num, (((hf.trans hf2).alloc _).alloc _).grown hgrow (fun i hi hlt => by have := hvb i hi; omega), ?_⟩
        rw [HT.out]
        exact hfin hown hgrow (by simpa using hat)
      case measure => simp [intOf]; omega
    · obtain rfl : k = xs.length := by omega
      rw [List.take_length] at hO
      go_wp2_with fail
      go_ret
      exact ⟨_, rfl, hO.allN elemWord (by decide), hf⟩

set_option maxRecDepth 100000 in
set_option maxHeartbeats 1000000 in
theorem copyAlts_of {w : World} {v : Value} {xs : List GAlt} (hel : ∀ x, x ∈ xs → ∀ {w' : World} {cs : List Value}, RAlt w' Any x cs → Calls Try.prog 87 #[.agg ⟨cs⟩] w' (CElt RAlt w' x)) (h : RRow w Any 6 (RAlt w Any) v xs) (hn : xs.length ≤ 1099511627776) :
    Calls Try.prog 83 #[v] w (CRow RAlt 6 w xs) := by
  obtain ⟨va, vc, rfl⟩ := h.form
  obtain ⟨i0, hi0, hz0, hz1, hz2⟩ := info_parts Try.infoAlt
  have Hel := Lib.hid (fun x (hx : x ∈ xs) (w' : World) (cs : List Value) (h : RAlt w' Any x cs) => hel x hx h)
  clear hel
  go_enter Try.func83, Try.ntmps83
  go_wp2_with fail
  go_loopw [3, 4, 5] (fun o i u wr => ∃ k : Nat, k ≤ xs.length ∧ i = .int .i64 k ∧ Fr (fun _ => False) w wr ∧ Own wr w.heap.size 47 6 (EN RAlt wr) o (xs.take k)) (fun o i u wr => xs.length - (intOf i).toNat)
  case atStart => exact ⟨0, Nat.zero_le _, rfl, Fr.refl _ w, by rw [List.take_zero]; exact Own.nil⟩
  case round =>
    obtain ⟨k, hk, rfl, hf, hO⟩ := hrel
    by_cases hlt : k < xs.length
    · have h' : RRow wr Any 6 (RAlt wr Any) (.slice va xs.length vc) xs := h.fr (E' := RAlt wr Any) hf (fun _ _ _ => id) (fun x cs h => elemAlt.fr h hf (fun _ _ _ => id))
      obtain ⟨kb, off, vc', cs, hv, -, -, -, hE, hc⟩ := h'.get hlt noAlt
      injection hv with hv1 hv2 hv3
      subst hv1
      clear hv2 hv3 h'
      have hT0 := take_snoc_getD xs k noAlt hlt
      have hM0 := getD_mem noAlt hlt
      generalize xs.getD k noAlt = x at *
      obtain ⟨ys, hys⟩ : ∃ ys, ys = xs.take k := ⟨_, rfl⟩
      rw [← hys] at hO hT0
      have hyk : ys.length ≤ k := by rw [hys]; simp; omega
      have HT := Lib.hid hT0
      have HM := Lib.hid hM0
      clear hT0 hM0 hys
      obtain ⟨a1, m1, c1, p1, b1, s1, k1, j1, rfl⟩ := hE.form
      have q0 := hc 0 _ rfl
      have q1 := hc 1 _ rfl
      have q2 := hc 2 _ rfl
      have q3 := hc 3 _ rfl
      have q4 := hc 4 _ rfl
      have q5 := hc 5 _ rfl
      rw [Nat.add_zero] at q0
      clear hc
      have hB := hf.size
      go_wp2_with fail
      refine (Hel.out x HM.out wr _ hE).mono ?_
      rintro e w2 ⟨cs2, rfl, hx2, hf2⟩
      obtain ⟨a2, m2, c2, p2, b2, s2, k2, j2, rfl⟩ := hx2.form
      have hb := Blk.new w2 #[.slice a2 m2 c2, .string p2, .bool b2, .string s2, .int .i64 k2, .int .i64 j2] 47
      have r0 := hb.cell 0 rfl
      have r1 := hb.cell 1 rfl
      have r2 := hb.cell 2 rfl
      have r3 := hb.cell 3 rfl
      have r4 := hb.cell 4 rfl
      have r5 := hb.cell 5 rfl
      obtain ⟨L, hL, ho, hfin⟩ := Own.snoc (elemN elemAlt) hO hf2 (fun _ _ _ => id) hB hx2 rfl (((Fr.refl (fun _ => False) w2).alloc (.cells #[.slice a2 m2 c2, .string p2, .bool b2, .string s2, .int .i64 k2, .int .i64 j2] 47)).alloc (.cells #[.slice a2 m2 c2, .string p2, .bool b2, .string s2, .int .i64 k2, .int .i64 j2] 47))
      have hvb := fun i hi => (hO.blk i hi).1
      have hs2 := hf2.size
      clear hb q0 q1 q2 q3 q4 q5
      go_wp2_with (at_builtin; refine wpList_append_lies _ rfl _ _ _ rfl w.heap.size 47 i0 _ 6 80 Try.underlying42 hi0 hz0 hz1 hz2 rfl (by omega) _ ys.length L.flatten rfl ho ⟨w2.heap.size + 1, 0, none⟩ 1 1 [.slice a2 m2 c2, .string p2, .bool b2, .string s2, .int .i64 k2, .int .i64 j2] rfl rfl (World.news_of_block (cs := #[.slice a2 m2 c2, .string p2, .bool b2, .string s2, .int .i64 k2, .int .i64 j2]) (t := 47) (fr := (0, 0)) (by have := heap_alloc_new (w2.alloc (.cells #[.slice a2 m2 c2, .string p2, .bool b2, .string s2, .int .i64 k2, .int .i64 j2] 47)) (.cells #[.slice a2 m2 c2, .string p2, .bool b2, .string s2, .int .i64 k2, .int .i64 j2] 47); rwa [show (w2.alloc (.cells #[.slice a2 m2 c2, .string p2, .bool b2, .string s2, .int .i64 k2, .int .i64 j2] 47)).heap.size = w2.heap.size + 1 by simp] at this)) (by simp [Value.oneCell']) (by omega) (by unfold maxLen; omega) (by omega) (by simp; omega) (w2.heap.size + 1 + 1) (by simp) ?_)
      intro gg cp w4 hown hgrow hat hlt4
      go_wp2_with fail
      go_roundw
      case rel =>
        refine ⟨k + 1, by omega, by go_num, (((hf.trans hf2).alloc _).alloc _).grown hgrow (fun i hi hlt => by have := hvb i hi; omega), ?_⟩
        rw [HT.out]
        exact hfin hown hgrow (by simpa using hat)
      case measure => simp [intOf]; omega
    · obtain rfl : k = xs.length := by omega
      rw [List.take_length] at hO
      go_wp2_with fail
      go_ret
      exact ⟨_, rfl, hO.allN elemAlt (by decide), hf⟩

set_option maxRecDepth 100000 in
set_option maxHeartbeats 1000000 in
theorem copyRules_of {w : World} {v : Value} {xs : List GRule} (hel : ∀ x, x ∈ xs → ∀ {w' : World} {cs : List Value}, RRule w' Any x cs → Calls Try.prog 70 #[.agg ⟨cs⟩] w' (CElt RRule w' x)) (h : RRow w Any 4 (RRule w Any) v xs) (hn : xs.length ≤ 1099511627776) :
    Calls Try.prog 54 #[v] w (CRow RRule 4 w xs) := by
  obtain ⟨va, vc, rfl⟩ := h.form
  obtain ⟨i0, hi0, hz0, hz1, hz2⟩ := info_parts Try.infoRule
  have Hel := Lib.hid (fun x (hx : x ∈ xs) (w' : World) (cs : List Value) (h : RRule w' Any x cs) => hel x hx h)
  clear hel
  go_enter Try.func54, Try.ntmps54
  go_wp2_with fail
  go_loopw [3, 4, 5] (fun o i u wr => ∃ k : Nat, k ≤ xs.length ∧ i = .int .i64 k ∧ Fr (fun _ => False) w wr ∧ Own wr w.heap.size 44 4 (EN RRule wr) o (xs.take k)) (fun o i u wr => xs.length - (intOf i).toNat)
  case atStart => exact ⟨0, Nat.zero_le _, rfl, Fr.refl _ w, by rw [List.take_zero]; exact Own.nil⟩
  case round =>
    obtain ⟨k, hk, rfl, hf, hO⟩ := hrel
    by_cases hlt : k < xs.length
    · have h' : RRow wr Any 4 (RRule wr Any) (.slice va xs.length vc) xs := h.fr (E' := RRule wr Any) hf (fun _ _ _ => id) (fun x cs h => elemRule.fr h hf (fun _ _ _ => id))
      obtain ⟨kb, off, vc', cs, hv, -, -, -, hE, hc⟩ := h'.get hlt noRule
      injection hv with hv1 hv2 hv3
      subst hv1
      clear hv2 hv3 h'
      have hT0 := take_snoc_getD xs k noRule hlt
      have hM0 := getD_mem noRule hlt
      generalize xs.getD k noRule = x at *
      obtain ⟨ys, hys⟩ : ∃ ys, ys = xs.take k := ⟨_, rfl⟩
      rw [← hys] at hO hT0
      have hyk : ys.length ≤ k := by rw [hys]; simp; omega
      have HT := Lib.hid hT0
      have HM := Lib.hid hM0
      clear hT0 hM0 hys
      obtain ⟨n1, a1, m1, c1, b1, l1, f1, k1, rfl⟩ := hE.form
      have q0 := hc 0 _ rfl
      have q1 := hc 1 _ rfl
      have q2 := hc 2 _ rfl
      have q3 := hc 3 _ rfl
      rw [Nat.add_zero] at q0
      clear hc
      have hB := hf.size
      go_wp2_with fail
      refine (Hel.out x HM.out wr _ hE).mono ?_
      rintro e w2 ⟨cs2, rfl, hx2, hf2⟩
      obtain ⟨n2, a2, m2, c2, b2, l2, f2, k2, rfl⟩ := hx2.form
      have hb := Blk.new w2 #[.string n2, .slice a2 m2 c2, .slice b2 l2 f2, .int .i64 k2] 44
      have r0 := hb.cell 0 rfl
      have r1 := hb.cell 1 rfl
      have r2 := hb.cell 2 rfl
      have r3 := hb.cell 3 rfl
      obtain ⟨L, hL, ho, hfin⟩ := Own.snoc (elemN elemRule) hO hf2 (fun _ _ _ => id) hB hx2 rfl (((Fr.refl (fun _ => False) w2).alloc (.cells #[.string n2, .slice a2 m2 c2, .slice b2 l2 f2, .int .i64 k2] 44)).alloc (.cells #[.string n2, .slice a2 m2 c2, .slice b2 l2 f2, .int .i64 k2] 44))
      have hvb := fun i hi => (hO.blk i hi).1
      have hs2 := hf2.size
      clear hb q0 q1 q2 q3
      go_wp2_with (at_builtin; refine wpList_append_lies _ rfl _ _ _ rfl w.heap.size 44 i0 _ 4 72 Try.underlying23 hi0 hz0 hz1 hz2 rfl (by omega) _ ys.length L.flatten rfl ho ⟨w2.heap.size + 1, 0, none⟩ 1 1 [.string n2, .slice a2 m2 c2, .slice b2 l2 f2, .int .i64 k2] rfl rfl (World.news_of_block (cs := #[.string n2, .slice a2 m2 c2, .slice b2 l2 f2, .int .i64 k2]) (t := 44) (fr := (0, 0)) (by have := heap_alloc_new (w2.alloc (.cells #[.string n2, .slice a2 m2 c2, .slice b2 l2 f2, .int .i64 k2] 44)) (.cells #[.string n2, .slice a2 m2 c2, .slice b2 l2 f2, .int .i64 k2] 44); rwa [show (w2.alloc (.cells #[.string n2, .slice a2 m2 c2, .slice b2 l2 f2, .int .i64 k2] 44)).heap.size = w2.heap.size + 1 by simp] at this)) (by simp [Value.oneCell']) (by omega) (by unfold maxLen; omega) (by omega) (by simp; omega) (w2.heap.size + 1 + 1) (by simp) ?_)
      intro gg cp w4 hown hgrow hat hlt4
      go_wp2_with fail
      go_roundw
      case rel =>
        refine ⟨k + 1, by omega, by go_num, (((hf.trans hf2).alloc _).alloc _).grown hgrow (fun i hi hlt => by have := hvb i hi; omega), ?_⟩
        rw [HT.out]
        exact hfin hown hgrow (by simpa using hat)
      case measure => simp [intOf]; omega
    · obtain rfl : k = xs.length := by omega
      rw [List.take_length] at hO
      go_wp2_with fail
      go_ret
      exact ⟨_, rfl, hO.allN elemRule (by decide), hf⟩

set_option maxRecDepth 100000 in
set_option maxHeartbeats 1000000 in
theorem copyDecls_of {w : World} {v : Value} {xs : List GDecl} (hel : ∀ x, x ∈ xs → ∀ {w' : World} {cs : List Value}, RDecl w' Any x cs → Calls Try.prog 69 #[.agg ⟨cs⟩] w' (CElt RDecl w' x)) (h : RRow w Any 4 (RDecl w Any) v xs) (hn : xs.length ≤ 1099511627776) :
    Calls Try.prog 53 #[v] w (CRow RDecl 4 w xs) := by
  obtain ⟨va, vc, rfl⟩ := h.form
  obtain ⟨i0, hi0, hz0, hz1, hz2⟩ := info_parts Try.infoDecl
  have Hel := Lib.hid (fun x (hx : x ∈ xs) (w' : World) (cs : List Value) (h : RDecl w' Any x cs) => hel x hx h)
  clear hel
  go_enter Try.func53, Try.ntmps53
  go_wp2_with fail
  go_loopw [3, 4, 5] (fun o i u wr => ∃ k : Nat, k ≤ xs.length ∧ i = .int .i64 k ∧ Fr (fun _ => False) w wr ∧ Own wr w.heap.size 41 4 (EN RDecl wr) o (xs.take k)) (fun o i u wr => xs.length - (intOf i).toNat)
  case atStart => exact ⟨0, Nat.zero_le _, rfl, Fr.refl _ w, by rw [List.take_zero]; exact Own.nil⟩
  case round =>
    obtain ⟨k, hk, rfl, hf, hO⟩ := hrel
    by_cases hlt : k < xs.length
    · have h' : RRow wr Any 4 (RDecl wr Any) (.slice va xs.length vc) xs := h.fr (E' := RDecl wr Any) hf (fun _ _ _ => id) (fun x cs h => elemDecl.fr h hf (fun _ _ _ => id))
      obtain ⟨kb, off, vc', cs, hv, -, -, -, hE, hc⟩ := h'.get hlt noDecl
      injection hv with hv1 hv2 hv3
      subst hv1
      clear hv2 hv3 h'
      have hT0 := take_snoc_getD xs k noDecl hlt
      have hM0 := getD_mem noDecl hlt
      generalize xs.getD k noDecl = x at *
      obtain ⟨ys, hys⟩ : ∃ ys, ys = xs.take k := ⟨_, rfl⟩
      rw [← hys] at hO hT0
      have hyk : ys.length ≤ k := by rw [hys]; simp; omega
      have HT := Lib.hid hT0
      have HM := Lib.hid hM0
      clear hT0 hM0 hys
      obtain ⟨n1, y1, a1, m1, c1, k1, rfl⟩ := hE.form
      have q0 := hc 0 _ rfl
      have q1 := hc 1 _ rfl
      have q2 := hc 2 _ rfl
      have q3 := hc 3 _ rfl
      rw [Nat.add_zero] at q0
      clear hc
      have hB := hf.size
      go_wp2_with fail
      refine (Hel.out x HM.out wr _ hE).mono ?_
      rintro e w2 ⟨cs2, rfl, hx2, hf2⟩
      obtain ⟨n2, y2, a2, m2, c2, k2, rfl⟩ := hx2.form
      have hb := Blk.new w2 #[.string n2, .string y2, .slice a2 m2 c2, .int .i64 k2] 41
      have r0 := hb.cell 0 rfl
      have r1 := hb.cell 1 rfl
      have r2 := hb.cell 2 rfl
      have r3 := hb.cell 3 rfl
      obtain ⟨L, hL, ho, hfin⟩ := Own.snoc (elemN elemDecl) hO hf2 (fun _ _ _ => id) hB hx2 rfl (((Fr.refl (fun _ => False) w2).alloc (.cells #[.string n2, .string y2, .slice a2 m2 c2, .int .i64 k2] 41)).alloc (.cells #[.string n2, .string y2, .slice a2 m2 c2, .int .i64 k2] 41))
      have hvb := fun i hi => (hO.blk i hi).1
      have hs2 := hf2.size
      clear hb q0 q1 q2 q3
      go_wp2_with (at_builtin; refine wpList_append_lies _ rfl _ _ _ rfl w.heap.size 41 i0 _ 4 64 Try.underlying22 hi0 hz0 hz1 hz2 rfl (by omega) _ ys.length L.flatten rfl ho ⟨w2.heap.size + 1, 0, none⟩ 1 1 [.string n2, .string y2, .slice a2 m2 c2, .int .i64 k2] rfl rfl (World.news_of_block (cs := #[.string n2, .string y2, .slice a2 m2 c2, .int .i64 k2]) (t := 41) (fr := (0, 0)) (by have := heap_alloc_new (w2.alloc (.cells #[.string n2, .string y2, .slice a2 m2 c2, .int .i64 k2] 41)) (.cells #[.string n2, .string y2, .slice a2 m2 c2, .int .i64 k2] 41); rwa [show (w2.alloc (.cells #[.string n2, .string y2, .slice a2 m2 c2, .int .i64 k2] 41)).heap.size = w2.heap.size + 1 by simp] at this)) (by simp [Value.oneCell']) (by omega) (by unfold maxLen; omega) (by omega) (by simp; omega) (w2.heap.size + 1 + 1) (by simp) ?_)
      intro gg cp w4 hown hgrow hat hlt4
      go_wp2_with fail
      go_roundw
      case rel =>
        refine ⟨k + 1, by omega, by go_num, (((hf.trans hf2).alloc _).alloc _).grown hgrow (fun i hi hlt => by have := hvb i hi; omega), ?_⟩
        rw [HT.out]
        exact hfin hown hgrow (by simpa using hat)
      case measure => simp [intOf]; omega
    · obtain rfl : k = xs.length := by omega
      rw [List.take_length] at hO
      go_wp2_with fail
      go_ret
      exact ⟨_, rfl, hO.allN elemDecl (by decide), hf⟩
end Go.Proofs.Ytejpmdlokmlmeaa
