/- The closure that reads a word's own words: one region that draws its order. Conditions: the word's state. -/
import Derived.Test.YtejpmdlokmlmeaaReadF
import Derived.Test.YtejpmdlokmlmeaaOrdE
set_option linter.unusedVariables false
set_option linter.unusedSimpArgs false
namespace Go.Proofs.Ytejpmdlokmlmeaa
open Go.RowKit

set_option maxRecDepth 100000 in
set_option maxHeartbeats 0 in
theorem word_part {w0 : World} {r R cap n B T : Nat} {cur : Array Value} {toks : List Tk} {nm : ByteArray} {at0 deep : Int} (IH : WordHyp r R cap cur toks n) (hd : deep + 1 + n = 61) (h0 : 0 ≤ deep) {w : World} {p : Nat} {xs : List GWord} (h : WInv w0 r R cap cur toks B T nm at0 deep w p xs) :
    Calls Try.prog 80 #[.pointer (some ⟨T, 0, none⟩), .pointer (some ⟨B, 0, none⟩), .pointer (some ⟨B + 1, 0, none⟩)] w
      (LPost (fun k => k = r ∨ w0.heap.size ≤ k) (WInv w0 r R cap cur toks B T nm at0 deep) toks w xs (oneS (wordN n) (toks.drop p))) := by
  obtain ⟨i0, hi0, hz0, hz1, hz2⟩ := info_parts Try.infoWord
  obtain ⟨hM, hB0, hB1, hD, hB, hBT, hxp, v, hT, hO⟩ := h
  have hwr : IntKind.i64.wrap (deep + 1) = deep + 1 := IntWalk.i64_in _ (by omega)
  obtain ⟨va, vc, hve⟩ := (hO.all elemWord (by decide)).form
  subst hve
  have b0 := hB0.cell 0 rfl
  have b1 := hB1.cell 0 rfl
  have t0 := hT.cell 1 rfl
  have b0' := (hB0.alloc (.cells #[.string ⟨#[]⟩, .slice none 0 0, .int .i64 0] 50)).cell 0 rfl
  have b1' := (hB1.alloc (.cells #[.string ⟨#[]⟩, .slice none 0 0, .int .i64 0] 50)).cell 0 rfl
  have t0' := (hT.alloc (.cells #[.string ⟨#[]⟩, .slice none 0 0, .int .i64 0] 50)).cell 1 rfl
  have hix : (xs.length : Int) < xs.length + 1 := by omega
  have hr0 := hM.r0
  have HTr := Lib.hid (show ¬ T = r by omega)
  have HE := Lib.hid (fun (m a : Int) (h : wordN n (toks.drop p) = .error (m, a)) => show oneS (wordN n) (toks.drop p) = .error (m, a) by unfold oneS; rw [h, exErr])
  have HR := Lib.hid (show RIn w.drew r R cap cur toks p ∧ RIn (w.alloc (.cells #[.string ⟨#[]⟩, .slice none 0 0, .int .i64 0] 50)).drew r R cap cur toks p from ⟨hM.drew.rin, (hM.alloc (.cells #[.string ⟨#[]⟩, .slice none 0 0, .int .i64 0] 50)).drew.rin⟩)
  have HN := Lib.hid (show Blk (w.alloc (.cells #[.string ⟨#[]⟩, .slice none 0 0, .int .i64 0] 50)).drew w.heap.size #[.string ⟨#[]⟩, .slice none 0 0, .int .i64 0] 50 ∧ ¬ w.heap.size = r from ⟨Blk.new w #[.string ⟨#[]⟩, .slice none 0 0, .int .i64 0] 50, by have := hB0.lt; have := hT.lt; omega⟩)
  have HT := Lib.hid (show Blk w.drew T #[.string nm, .slice va xs.length vc, .int .i64 at0] 50 ∧ Blk (w.alloc (.cells #[.string ⟨#[]⟩, .slice none 0 0, .int .i64 0] 50)).drew T #[.string nm, .slice va xs.length vc, .int .i64 at0] 50 from ⟨hT, hT.alloc (.cells #[.string ⟨#[]⟩, .slice none 0 0, .int .i64 0] 50)⟩)
  have HP := Lib.hid (WPre.mk hM hB0 hB1 hD hB hBT hxp hT hO)
  have HX := Lib.hid (And.intro hd h0)
  clear hM hB0 hB1 hD hB hBT hxp hT hO hr0 hd h0
  go_enter Try.func80, Try.ntmps80
  have hS0 : (fun w' : World => w'.cell? ⟨T, 1, none⟩ = some (.slice va xs.length vc) ∧ w'.cell? ⟨B, 0, none⟩ = some (.pointer (some ⟨r, 0, none⟩)) ∧ w'.cell? ⟨B + 1, 0, none⟩ = some (.int .i64 deep)) w.drew := ⟨t0, b0, b1⟩
  refine wp_region_E (S := fun w' : World => w'.cell? ⟨T, 1, none⟩ = some (.slice va xs.length vc) ∧ w'.cell? ⟨B, 0, none⟩ = some (.pointer (some ⟨r, 0, none⟩)) ∧ w'.cell? ⟨B + 1, 0, none⟩ = some (.int .i64 deep)) (e := 12) (by kernel_rfl) ?_
  refine wpAnyE_take (i := 0) (v := ?_) rfl (by kernel_rfl) (by kernel_rfl) (by kernel_rfl) (fun _ _ _ h => h) (by decide) rfl (by kernel_rfl) (by kernel_rfl) (Or.inl ⟨by rfl, ?_⟩) hS0 ?_
  rotate_left
  · intro w hSw
    obtain ⟨s1, s2, s3⟩ := hSw
    go_simp
    try with_reducible rfl
  try simp only [Act.put, List.setIfInBounds_toArray, List.set_cons_zero, List.set_cons_succ]
  refine wpAnyE_take (i := 1) (v := ?_) rfl (by kernel_rfl) (by kernel_rfl) (by kernel_rfl) (fun _ _ _ h => h) (by decide) rfl (by kernel_rfl) (by kernel_rfl) (Or.inl ⟨by rfl, ?_⟩) hS0 ?_
  rotate_left
  · intro w hSw
    obtain ⟨s1, s2, s3⟩ := hSw
    go_simp
    try with_reducible rfl
  try simp only [Act.put, List.setIfInBounds_toArray, List.set_cons_zero, List.set_cons_succ]
  refine wpAnyE_take (i := 2) (v := ?_) rfl (by kernel_rfl) (by kernel_rfl) (by kernel_rfl) (fun _ _ _ h => h) (by decide) rfl (by kernel_rfl) (by kernel_rfl) (Or.inl ⟨by rfl, ?_⟩) hS0 ?_
  rotate_left
  · intro w hSw
    obtain ⟨s1, s2, s3⟩ := hSw
    go_simp
    try with_reducible rfl
  try simp only [Act.put, List.setIfInBounds_toArray, List.set_cons_zero, List.set_cons_succ]
  refine wpAnyE_take (i := 3) (v := ?_) rfl (by kernel_rfl) (by kernel_rfl) (by kernel_rfl) (fun _ _ _ h => h) (by decide) rfl (by kernel_rfl) (by kernel_rfl) (Or.inl ⟨by rfl, ?_⟩) hS0 ?_
  rotate_left
  · intro w hSw
    obtain ⟨s1, s2, s3⟩ := hSw
    go_simp
    try with_reducible rfl
  try simp only [Act.put, List.setIfInBounds_toArray, List.set_cons_zero, List.set_cons_succ]
  refine wpAnyE_take (i := 4) (v := ?_) rfl (by kernel_rfl) (by kernel_rfl) (by kernel_rfl) (fun _ _ _ h => h) (by decide) rfl (by kernel_rfl) (by kernel_rfl) (Or.inl ⟨by rfl, ?_⟩) hS0 ?_
  rotate_left
  · intro w hSw
    obtain ⟨s1, s2, s3⟩ := hSw
    go_simp
    try with_reducible rfl
  try simp only [Act.put, List.setIfInBounds_toArray, List.set_cons_zero, List.set_cons_succ]
  refine wpAnyE_take (i := 6) (v := ?_) rfl (by kernel_rfl) (by kernel_rfl) (by kernel_rfl) (fun _ _ _ h => h) (by decide) rfl (by kernel_rfl) (by kernel_rfl) (Or.inl ⟨by rfl, ?_⟩) hS0 ?_
  rotate_left
  · intro w hSw
    obtain ⟨s1, s2, s3⟩ := hSw
    go_simp
    try with_reducible rfl
  try simp only [Act.put, List.setIfInBounds_toArray, List.set_cons_zero, List.set_cons_succ]
  have HS := Lib.hid (show ∀ w8, Fr (· = r) w.drew w8 → w8.cell? ⟨T, 1, none⟩ = some (.slice va xs.length vc) ∧ w8.cell? ⟨B, 0, none⟩ = some (.pointer (some ⟨r, 0, none⟩)) ∧ w8.cell? ⟨B + 1, 0, none⟩ = some (.int .i64 deep) from fun w8 hf =>
    have hp := HP.out
    have h1 := hp.rd.r0
    have h2 := hp.hB
    ⟨(hp.tb.fr ((Fr.refl (· = r) w).drew.trans hf) HTr.out).cell 1 rfl, (hp.b0.fr ((Fr.refl (· = r) w).drew.trans hf) (by show ¬ B = r; omega)).cell 0 rfl, (hp.b1.fr ((Fr.refl (· = r) w).drew.trans hf) (by show ¬ B + 1 = r; omega)).cell 0 rfl⟩)
  refine wpAnyE_all (rs := [5, 7]) (by kernel_rfl) (by simp) ?_
  intro j hj
  rcases List.mem_cons.1 hj with rfl | hj
  · refine wpOp_step rfl (fun K hK => ?_)
    go_simp
    refine RPost.call (IH (deep + 1) HR.out.1 (by have := HX.out; omega) (by have := HX.out; omega)) (fun w8 m a H4 hf8 => ⟨rfl, LPost.bad (HE.out _ _ H4.out) ((Fr.refl _ w).drew.trans (hf8.mono (fun k _ e => .inl e))) rfl⟩) ?_
    intro w8 x8 l8 v8 p8 H4 hf8 hv8 hr8 H5
    obtain ⟨cs8, rfl, hw8⟩ := hv8
    obtain ⟨n8, a8, m8, c8, k8, rfl⟩ := hw8.form
    refine hK _ _ ⟨fun _ => HS.out w8 hf8, ?_⟩
    clear hK K
    try simp only [Act.put, List.setIfInBounds_toArray, List.set_cons_zero, List.set_cons_succ]
    refine wpAnyE_all (rs := [7]) (by kernel_rfl) (by simp) ?_
    intro j hj
    rcases List.mem_singleton.1 hj with rfl
    refine wpOp_step rfl (fun K hK => ?_)
    go_simp
    refine hK _ _ ⟨fun _ => HS.out _ (hf8.alloc (.cells #[.string ⟨#[]⟩, .slice none 0 0, .int .i64 0] 50)), ?_⟩
    clear hK K
    try simp only [Act.put, List.setIfInBounds_toArray, List.set_cons_zero, List.set_cons_succ]
    refine wpAnyE_all (rs := [8]) (by kernel_rfl) (by simp) ?_
    intro j hj
    rcases List.mem_singleton.1 hj with rfl
    refine wpOp_step rfl (fun K hK => ?_)
    have HA := Lib.hid (waft HP.out (Fr.refl (fun _ => False) w).drew hf8 hr8 H4 H5 hw8 ((Fr.refl (fun _ => False) w8).alloc (.cells #[.string ⟨#[]⟩, .slice none 0 0, .int .i64 0] 50)) (H := w8.heap.size + 1) (by simp))
    refine wstep HA.out hi0 hz0 hz1 hz2 rfl (by rfl) _ _ (by rfl) (by rfl) _ (by rfl) (World.news_of_block (heap_alloc_new w8 (.cells #[.string ⟨#[]⟩, .slice none 0 0, .int .i64 0] 50))) ?_
    intro gg cp w10 HW hq t2 t3 hc
    obtain ⟨q0, q1, q2, q3, q4, q5⟩ := hq
    refine hK _ _ ⟨fun _ => ⟨t2, hc.2⟩, ?_⟩
    clear hK K
    try simp only [Act.put, List.setIfInBounds_toArray, List.set_cons_zero, List.set_cons_succ]
    refine wpAnyE_take (i := 11) (v := ?_) rfl (by kernel_rfl) (by kernel_rfl) (by kernel_rfl) (fun _ _ _ h => h) (by decide) rfl (by kernel_rfl) (by kernel_rfl) (Or.inl ⟨by rfl, ?_⟩) ⟨t2, hc.2⟩ ?_
    rotate_left
    · intro w hSw
      go_simp
      try with_reducible rfl
    try simp only [Act.put, List.setIfInBounds_toArray, List.set_cons_zero, List.set_cons_succ]
    have hgT := hc.1
    have hS10 : (fun w' : World => w'.cell? ⟨T, 1, none⟩ = some (.slice va xs.length vc) ∧ w'.cell? ⟨B, 0, none⟩ = some (.pointer (some ⟨r, 0, none⟩)) ∧ w'.cell? ⟨B + 1, 0, none⟩ = some (.int .i64 deep)) (((w10.setCell ⟨gg, xs.length * 3, none⟩ (.string n8)).setCell ⟨gg, xs.length * 3 + 1, none⟩ (.slice a8 m8 c8)).setCell ⟨gg, xs.length * 3 + 2, none⟩ (.int .i64 k8)) := by
      have hbt := HP.out.hBT
      have hf := (((Fr.refl (· = gg) w10).setCell (p := ⟨gg, xs.length * 3, none⟩) (fun _ => rfl) (.string n8)).setCell (p := ⟨gg, xs.length * 3 + 1, none⟩) (fun _ => rfl) (.slice a8 m8 c8)).setCell (p := ⟨gg, xs.length * 3 + 2, none⟩) (fun _ => rfl) (.int .i64 k8)
      exact ⟨(hf.cell (p := ⟨T, 1, none⟩) (World.block_lt_of_cell? w10 _ t2) (by show ¬ T = gg; omega)).trans t2, (hf.cell (p := ⟨B, 0, none⟩) (World.block_lt_of_cell? w10 _ hc.2.1) (by show ¬ B = gg; omega)).trans hc.2.1, (hf.cell (p := ⟨B + 1, 0, none⟩) (World.block_lt_of_cell? w10 _ hc.2.2) (by show ¬ B + 1 = gg; omega)).trans hc.2.2⟩
    refine wpAnyE_all (rs := [9, 12]) (by kernel_rfl) (by simp) ?_
    intro j hj
    rcases List.mem_cons.1 hj with rfl | hj
    · refine wpOp_step rfl (fun K hK => ?_)
      go_simp
      refine hK _ _ ⟨fun _ => ⟨t2, hc.2⟩, ?_⟩
      clear hK K
      try simp only [Act.put, List.setIfInBounds_toArray, List.set_cons_zero, List.set_cons_succ]
      refine wpAnyE_all (rs := [10, 12]) (by kernel_rfl) (by simp) ?_
      intro j hj
      rcases List.mem_cons.1 hj with rfl | hj
      · refine wpOp_step rfl (fun K hK => ?_)
        go_simp
        refine hK _ _ ⟨fun _ => hS10, ?_⟩
        clear hK K
        try simp only [Act.put, List.setIfInBounds_toArray, List.set_cons_zero, List.set_cons_succ]
        refine wpAnyE_all (rs := [12]) (by kernel_rfl) (by simp) ?_
        intro j hj
        rcases List.mem_singleton.1 hj with rfl
        refine wpOp_step rfl (fun K hK => ?_)
        go_simp
        refine hK _ _ ⟨fun h => (Bool.false_ne_true (h.symm.trans (by kernel_rfl))).elim, ?_⟩
        clear hK K
        try simp only [Act.put, List.setIfInBounds_toArray, List.set_cons_zero, List.set_cons_succ]
        refine wpAnyE_done (by kernel_rfl) ?_ _
        go_end0
        exact HW.out _ (.inl rfl)
        
      · rcases List.mem_singleton.1 hj with rfl
        refine wpOp_step rfl (fun K hK => ?_)
        go_simp
        refine hK _ _ ⟨fun h => (Bool.false_ne_true (h.symm.trans (by kernel_rfl))).elim, ?_⟩
        clear hK K
        try simp only [Act.put, List.setIfInBounds_toArray, List.set_cons_zero, List.set_cons_succ]
        refine wpAnyE_all (rs := [10]) (by kernel_rfl) (by simp) ?_
        intro j hj
        rcases List.mem_singleton.1 hj with rfl
        refine wpOp_step rfl (fun K hK => ?_)
        go_simp
        refine hK _ _ ⟨fun h => (Bool.false_ne_true (h.symm.trans (by kernel_rfl))).elim, ?_⟩
        clear hK K
        try simp only [Act.put, List.setIfInBounds_toArray, List.set_cons_zero, List.set_cons_succ]
        refine wpAnyE_done (by kernel_rfl) ?_ _
        go_end0
        exact HW.out _ (.inr rfl)
        
    · rcases List.mem_singleton.1 hj with rfl
      refine wpOp_step rfl (fun K hK => ?_)
      go_simp
      refine hK _ _ ⟨fun h => (Bool.false_ne_true (h.symm.trans (by kernel_rfl))).elim, ?_⟩
      clear hK K
      try simp only [Act.put, List.setIfInBounds_toArray, List.set_cons_zero, List.set_cons_succ]
      refine wpAnyE_all (rs := [9]) (by kernel_rfl) (by simp) ?_
      intro j hj
      rcases List.mem_singleton.1 hj with rfl
      refine wpOp_step rfl (fun K hK => ?_)
      go_simp
      refine hK _ _ ⟨fun h => (Bool.false_ne_true (h.symm.trans (by kernel_rfl))).elim, ?_⟩
      clear hK K
      try simp only [Act.put, List.setIfInBounds_toArray, List.set_cons_zero, List.set_cons_succ]
      refine wpAnyE_all (rs := [10]) (by kernel_rfl) (by simp) ?_
      intro j hj
      rcases List.mem_singleton.1 hj with rfl
      refine wpOp_step rfl (fun K hK => ?_)
      go_simp
      refine hK _ _ ⟨fun h => (Bool.false_ne_true (h.symm.trans (by kernel_rfl))).elim, ?_⟩
      clear hK K
      try simp only [Act.put, List.setIfInBounds_toArray, List.set_cons_zero, List.set_cons_succ]
      refine wpAnyE_done (by kernel_rfl) ?_ _
      go_end0
      exact HW.out _ (.inr rfl)
      
  · rcases List.mem_singleton.1 hj with rfl
    refine wpOp_step rfl (fun K hK => ?_)
    go_simp
    refine hK _ _ ⟨fun _ => ⟨t0', b0', b1'⟩, ?_⟩
    clear hK K
    try simp only [Act.put, List.setIfInBounds_toArray, List.set_cons_zero, List.set_cons_succ]
    refine wpAnyE_all (rs := [5]) (by kernel_rfl) (by simp) ?_
    intro j hj
    rcases List.mem_singleton.1 hj with rfl
    refine wpOp_step rfl (fun K hK => ?_)
    go_simp
    refine RPost.call (IH (deep + 1) HR.out.2 (by have := HX.out; omega) (by have := HX.out; omega)) (fun w8 m a H4 hf8 => ⟨rfl, LPost.bad (HE.out _ _ H4.out) (((Fr.refl _ w).alloc (.cells #[.string ⟨#[]⟩, .slice none 0 0, .int .i64 0] 50)).drew.trans (hf8.mono (fun k _ e => .inl e))) rfl⟩) ?_
    intro w8 x8 l8 v8 p8 H4 hf8 hv8 hr8 H5
    obtain ⟨cs8, rfl, hw8⟩ := hv8
    obtain ⟨n8, a8, m8, c8, k8, rfl⟩ := hw8.form
    refine hK _ _ ⟨fun _ => HS.out w8 (((Fr.refl (· = r) w.drew).alloc (.cells #[.string ⟨#[]⟩, .slice none 0 0, .int .i64 0] 50)).trans hf8), ?_⟩
    clear hK K
    try simp only [Act.put, List.setIfInBounds_toArray, List.set_cons_zero, List.set_cons_succ]
    refine wpAnyE_all (rs := [8]) (by kernel_rfl) (by simp) ?_
    intro j hj
    rcases List.mem_singleton.1 hj with rfl
    refine wpOp_step rfl (fun K hK => ?_)
    have HA := Lib.hid (waft HP.out ((Fr.refl (fun _ => False) w).alloc (.cells #[.string ⟨#[]⟩, .slice none 0 0, .int .i64 0] 50)).drew hf8 hr8 H4 H5 hw8 (Fr.refl (fun _ => False) w8) rfl)
    refine wstep HA.out hi0 hz0 hz1 hz2 rfl (by rfl) _ _ (by rfl) (by rfl) _ (by rfl) (World.news_of_block (show w8.heap[w.heap.size]? = _ from HN.out.1.fr hf8 HN.out.2)) ?_
    intro gg cp w10 HW hq t2 t3 hc
    obtain ⟨q0, q1, q2, q3, q4, q5⟩ := hq
    refine hK _ _ ⟨fun _ => ⟨t2, hc.2⟩, ?_⟩
    clear hK K
    try simp only [Act.put, List.setIfInBounds_toArray, List.set_cons_zero, List.set_cons_succ]
    refine wpAnyE_take (i := 11) (v := ?_) rfl (by kernel_rfl) (by kernel_rfl) (by kernel_rfl) (fun _ _ _ h => h) (by decide) rfl (by kernel_rfl) (by kernel_rfl) (Or.inl ⟨by rfl, ?_⟩) ⟨t2, hc.2⟩ ?_
    rotate_left
    · intro w hSw
      go_simp
      try with_reducible rfl
    try simp only [Act.put, List.setIfInBounds_toArray, List.set_cons_zero, List.set_cons_succ]
    have hgT := hc.1
    have hS10 : (fun w' : World => w'.cell? ⟨T, 1, none⟩ = some (.slice va xs.length vc) ∧ w'.cell? ⟨B, 0, none⟩ = some (.pointer (some ⟨r, 0, none⟩)) ∧ w'.cell? ⟨B + 1, 0, none⟩ = some (.int .i64 deep)) (((w10.setCell ⟨gg, xs.length * 3, none⟩ (.string n8)).setCell ⟨gg, xs.length * 3 + 1, none⟩ (.slice a8 m8 c8)).setCell ⟨gg, xs.length * 3 + 2, none⟩ (.int .i64 k8)) := by
      have hbt := HP.out.hBT
      have hf := (((Fr.refl (· = gg) w10).setCell (p := ⟨gg, xs.length * 3, none⟩) (fun _ => rfl) (.string n8)).setCell (p := ⟨gg, xs.length * 3 + 1, none⟩) (fun _ => rfl) (.slice a8 m8 c8)).setCell (p := ⟨gg, xs.length * 3 + 2, none⟩) (fun _ => rfl) (.int .i64 k8)
      exact ⟨(hf.cell (p := ⟨T, 1, none⟩) (World.block_lt_of_cell? w10 _ t2) (by show ¬ T = gg; omega)).trans t2, (hf.cell (p := ⟨B, 0, none⟩) (World.block_lt_of_cell? w10 _ hc.2.1) (by show ¬ B = gg; omega)).trans hc.2.1, (hf.cell (p := ⟨B + 1, 0, none⟩) (World.block_lt_of_cell? w10 _ hc.2.2) (by show ¬ B + 1 = gg; omega)).trans hc.2.2⟩
    refine wpAnyE_all (rs := [9, 12]) (by kernel_rfl) (by simp) ?_
    intro j hj
    rcases List.mem_cons.1 hj with rfl | hj
    · refine wpOp_step rfl (fun K hK => ?_)
      go_simp
      refine hK _ _ ⟨fun _ => ⟨t2, hc.2⟩, ?_⟩
      clear hK K
      try simp only [Act.put, List.setIfInBounds_toArray, List.set_cons_zero, List.set_cons_succ]
      refine wpAnyE_all (rs := [10, 12]) (by kernel_rfl) (by simp) ?_
      intro j hj
      rcases List.mem_cons.1 hj with rfl | hj
      · refine wpOp_step rfl (fun K hK => ?_)
        go_simp
        refine hK _ _ ⟨fun _ => hS10, ?_⟩
        clear hK K
        try simp only [Act.put, List.setIfInBounds_toArray, List.set_cons_zero, List.set_cons_succ]
        refine wpAnyE_all (rs := [12]) (by kernel_rfl) (by simp) ?_
        intro j hj
        rcases List.mem_singleton.1 hj with rfl
        refine wpOp_step rfl (fun K hK => ?_)
        go_simp
        refine hK _ _ ⟨fun h => (Bool.false_ne_true (h.symm.trans (by kernel_rfl))).elim, ?_⟩
        clear hK K
        try simp only [Act.put, List.setIfInBounds_toArray, List.set_cons_zero, List.set_cons_succ]
        refine wpAnyE_done (by kernel_rfl) ?_ _
        go_end0
        exact HW.out _ (.inl rfl)
        
      · rcases List.mem_singleton.1 hj with rfl
        refine wpOp_step rfl (fun K hK => ?_)
        go_simp
        refine hK _ _ ⟨fun h => (Bool.false_ne_true (h.symm.trans (by kernel_rfl))).elim, ?_⟩
        clear hK K
        try simp only [Act.put, List.setIfInBounds_toArray, List.set_cons_zero, List.set_cons_succ]
        refine wpAnyE_all (rs := [10]) (by kernel_rfl) (by simp) ?_
        intro j hj
        rcases List.mem_singleton.1 hj with rfl
        refine wpOp_step rfl (fun K hK => ?_)
        go_simp
        refine hK _ _ ⟨fun h => (Bool.false_ne_true (h.symm.trans (by kernel_rfl))).elim, ?_⟩
        clear hK K
        try simp only [Act.put, List.setIfInBounds_toArray, List.set_cons_zero, List.set_cons_succ]
        refine wpAnyE_done (by kernel_rfl) ?_ _
        go_end0
        exact HW.out _ (.inr rfl)
        
    · rcases List.mem_singleton.1 hj with rfl
      refine wpOp_step rfl (fun K hK => ?_)
      go_simp
      refine hK _ _ ⟨fun h => (Bool.false_ne_true (h.symm.trans (by kernel_rfl))).elim, ?_⟩
      clear hK K
      try simp only [Act.put, List.setIfInBounds_toArray, List.set_cons_zero, List.set_cons_succ]
      refine wpAnyE_all (rs := [9]) (by kernel_rfl) (by simp) ?_
      intro j hj
      rcases List.mem_singleton.1 hj with rfl
      refine wpOp_step rfl (fun K hK => ?_)
      go_simp
      refine hK _ _ ⟨fun h => (Bool.false_ne_true (h.symm.trans (by kernel_rfl))).elim, ?_⟩
      clear hK K
      try simp only [Act.put, List.setIfInBounds_toArray, List.set_cons_zero, List.set_cons_succ]
      refine wpAnyE_all (rs := [10]) (by kernel_rfl) (by simp) ?_
      intro j hj
      rcases List.mem_singleton.1 hj with rfl
      refine wpOp_step rfl (fun K hK => ?_)
      go_simp
      refine hK _ _ ⟨fun h => (Bool.false_ne_true (h.symm.trans (by kernel_rfl))).elim, ?_⟩
      clear hK K
      try simp only [Act.put, List.setIfInBounds_toArray, List.set_cons_zero, List.set_cons_succ]
      refine wpAnyE_done (by kernel_rfl) ?_ _
      go_end0
      exact HW.out _ (.inr rfl)
      
end Go.Proofs.Ytejpmdlokmlmeaa
