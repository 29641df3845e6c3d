/- A word is read: the walk. Conditions: the reader's block over a row of tokens, at a place within. -/
import Derived.Test.YtejpmdlokmlmeaaReadG
set_option linter.unusedVariables false
set_option linter.unusedSimpArgs false
namespace Go.Proofs.Ytejpmdlokmlmeaa
open Go.RowKit

theorem nameS_no {l : List Tk} (h : isK 2 [] l = false) : nameS l = .error (102, (hd l).at_) := by simp [nameS, mustS, h]
theorem makeFunc_run (fn : Fn) (first cap : Array Value) (w : World) : (Instr.makeFunc fn first cap).run Try.prog w = .ok (.func fn first cap) w := rfl

theorem word_part_ok {w0 : World} {r R cap m B T : Nat} {cur : Array Value} {toks : List Tk} {nm : ByteArray} {at0 deep : Int} (IH : WordHyp r R cap cur toks m) (hd : deep + 1 + m = 61) (h0 : 0 ≤ deep) :
    PartOk r R cap cur toks 80 #[.pointer (some ⟨T, 0, none⟩), .pointer (some ⟨B, 0, none⟩), .pointer (some ⟨B + 1, 0, none⟩)] (fun k => k = r ∨ w0.heap.size ≤ k) (WInv w0 r R cap cur toks B T nm at0 deep) (wordN m) :=
  ⟨fun h _ => word_part IH hd h0 h, fun h => h.1.rin, fun h hf hr hp => h.step hf hr hp, fun h => Nat.le_of_lt (wordN_len h), .inl rfl, fun args w => by kernel_rfl⟩
set_option maxRecDepth 100000 in
set_option maxHeartbeats 1000000 in
theorem word_step {r R cap : Nat} {cur : Array Value} {toks : List Tk} (hend : ∀ t, toks.getLast? = some t → t.kind = 7) (n : Nat) (IH : ∀ m, n = m + 1 → WordHyp r R cap cur toks m) : WordHyp r R cap cur toks n := by
  intro w pos deep h hd0 h0
  have hf1 := field_at
  have hM := (((Mk.start h).alloc (.cells #[.pointer (some ⟨r, 0, none⟩)] 68)).alloc (.cells #[.int .i64 deep] 3)).alloc (.cells #[.string ⟨#[]⟩, .slice none 0 0, .int .i64 0] 50)
  have hB0 := ((Blk.new w #[.pointer (some ⟨r, 0, none⟩)] 68).alloc (.cells #[.int .i64 deep] 3)).alloc (.cells #[.string ⟨#[]⟩, .slice none 0 0, .int .i64 0] 50)
  have hB1 := (Blk.new (w.alloc (.cells #[.pointer (some ⟨r, 0, none⟩)] 68)) #[.int .i64 deep] 3).alloc (.cells #[.string ⟨#[]⟩, .slice none 0 0, .int .i64 0] 50)
  have hD := Blk.new ((w.alloc (.cells #[.pointer (some ⟨r, 0, none⟩)] 68)).alloc (.cells #[.int .i64 deep] 3)) #[.string ⟨#[]⟩, .slice none 0 0, .int .i64 0] 50
  rw [show (w.alloc (.cells #[.pointer (some ⟨r, 0, none⟩)] 68)).heap.size = w.heap.size + 1 by simp] at hB1
  rw [show ((w.alloc (.cells #[.pointer (some ⟨r, 0, none⟩)] 68)).alloc (.cells #[.int .i64 deep] 3)).heap.size = w.heap.size + 1 + 1 by simp] at hD
  go_enter Try.func66, Try.ntmps66
  go_wp2_with fail
  clear h
  generalize ((w.alloc (.cells #[.pointer (some ⟨r, 0, none⟩)] 68)).alloc (.cells #[.int .i64 deep] 3)).alloc (.cells #[.string ⟨#[]⟩, .slice none 0 0, .int .i64 0] 50) = w1 at *
  refine (next_any hM.rin).mono ?_
  rintro e w2 ⟨rfl, hf⟩
  have hM2 := hM.still hf
  have hB02 := hB0.fr hf id
  have hB12 := hB1.fr hf id
  have hD2 := hD.fr hf id
  clear hM hB0 hB1 hD hf
  go_upto_region 2 with fail
  have hM3 := hM2.alloc (.cells #[.string ⟨#[]⟩, .slice none 0 0, .int .i64 (hd (toks.drop pos)).at_] 50)
  have hB03 := hB02.alloc (.cells #[.string ⟨#[]⟩, .slice none 0 0, .int .i64 (hd (toks.drop pos)).at_] 50)
  have hB13 := hB12.alloc (.cells #[.string ⟨#[]⟩, .slice none 0 0, .int .i64 (hd (toks.drop pos)).at_] 50)
  have hD3 := hD2.alloc (.cells #[.string ⟨#[]⟩, .slice none 0 0, .int .i64 (hd (toks.drop pos)).at_] 50)
  have hT3 := Blk.new w2 #[.string ⟨#[]⟩, .slice none 0 0, .int .i64 (hd (toks.drop pos)).at_] 50
  have hDT := hD2.lt
  have hO3 : Own (w2.alloc (.cells #[.string ⟨#[]⟩, .slice none 0 0, .int .i64 (hd (toks.drop pos)).at_] 50)) (w2.heap.size + 1) 50 3 (RWord (w2.alloc (.cells #[.string ⟨#[]⟩, .slice none 0 0, .int .i64 (hd (toks.drop pos)).at_] 50))) (.slice none 0 0) [] := Own.nil
  generalize w2.alloc (.cells #[.string ⟨#[]⟩, .slice none 0 0, .int .i64 (hd (toks.drop pos)).at_] 50) = w3 at *
  clear hM2 hB02 hB12 hD2 hf1
  generalize w2.heap.size = T at *
  have hr0 := hM3.r0
  have x0 := hB03.cell 0 rfl
  have x1 := hB13.cell 0 rfl
  cases hq : isK 2 [] (toks.drop pos)
  · -- no name
    have HW := Lib.hid (show wordN n (toks.drop pos) = .error (102, (hd (toks.drop pos)).at_) by
      cases n with
      | zero => rw [wordN, if_neg (by rw [hq]; decide)]
      | succ n => rw [wordN, nameS_no hq, exErr])
    have HN := Lib.hid (nameS_no hq)
    have HQ := Lib.hid hq
    clear hq
    go_wp2_with fail
    refine (is_any hM3.rin 2 (Strs.nil _)).mono ?_
    rintro e w4 ⟨rfl, hf4⟩
    rw [HQ.out]
    have hM4 := hM3.still hf4
    have x2 := (hB03.fr hf4 id).cell 0 rfl
    go_wp2_with fail
    refine RPost.call (name_tok hM4.rin hend) ?_ ?_
    · intro w5 m a H5 hf5
      have e5 := H5.out
      rw [HN.out] at e5
      injection e5 with e5
      exact ⟨rfl, RPost.bad (HW.out.trans (by rw [← e5])) (hM4.fin.trans hf5) rfl⟩
    intro w5 x5 l5 v5 p5 H5
    have e5 := H5.out
    rw [HN.out] at e5
    cases e5
  by_cases hdeep : 60 < deep
  · have hn : n = 0 := by omega
    subst hn
    have HW := Lib.hid (show wordN 0 (toks.drop pos) = .error (103, (hd (toks.drop pos)).at_) by rw [wordN, if_pos hq])
    have HQ := Lib.hid hq
    clear hq
    go_wp2_with fail
    refine (is_any hM3.rin 2 (Strs.nil _)).mono ?_
    rintro e w4 ⟨rfl, hf4⟩
    rw [HQ.out]
    have hM4 := hM3.still hf4
    have x2 := (hB03.fr hf4 id).cell 0 rfl
    have x3 := (hB13.fr hf4 id).cell 0 rfl
    go_wp2_with fail
    refine (throw_any hM4.rin _).mono ?_
    rintro e w5 ⟨rfl, hf5⟩
    exact ⟨rfl, RPost.bad HW.out (hM4.fin.trans (hf5.mono (fun _ _ => False.elim))) rfl⟩
  obtain ⟨m, rfl⟩ : ∃ m, n = m + 1 := ⟨n - 1, by omega⟩
  have IHm : WordHyp r R cap cur toks m := by intro w pos deep h1 h2 h3; exact IH m rfl deep h1 h2 h3
  have HW := Lib.hid (show wordN (m + 1) (toks.drop pos) = (do let (ws, l2) ← givenS (wordN m) (toks.drop pos).tail; .ok (.mk (hd (toks.drop pos)).text ws (hd (toks.drop pos)).at_, l2)) by rw [wordN, nameS_yes hq]; rfl)
  have HQ := Lib.hid hq
  have HY := Lib.hid (nameS_yes hq)
  clear hq
  go_wp2_with fail
  refine (is_any hM3.rin 2 (Strs.nil _)).mono ?_
  rintro e w4 ⟨rfl, hf4⟩
  rw [HQ.out]
  have hM4 := hM3.still hf4
  have hB04 := hB03.fr hf4 id
  have hB14 := hB13.fr hf4 id
  have hD4 := hD3.fr hf4 id
  have hT4 := hT3.fr hf4 id
  have hO4 := hO3.fr elemWord hf4 (fun _ _ _ => id)
  clear hM3 hB03 hB13 hD3 hT3 hO3 hf4 x0 x1
  have x0 := hB04.cell 0 rfl
  have x1 := hB14.cell 0 rfl
  go_wp2_with fail
  refine RPost.call (name_tok hM4.rin hend) ?_ ?_
  · intro w5 m a H5
    have e5 := H5.out
    rw [HY.out] at e5
    cases e5
  intro w5 x5 l5 v5 p5 H5 hf5 hv5 hr5 H6
  subst hv5
  have e5 := H5.out
  rw [HY.out] at e5
  injection e5 with e5
  injection e5 with e5 e6
  subst e5
  subst e6
  have hM5 := (hM4.step hf5 hr5).far (p := ⟨T, 0, none⟩) (by show w.heap.size ≤ T; omega) (.string (hd (toks.drop pos)).text)
  have hB05 := (hB04.fr hf5 (by show ¬ w.heap.size = r; omega)).far (p := ⟨T, 0, none⟩) (by show T ≠ w.heap.size; omega) (.string (hd (toks.drop pos)).text)
  have hB15 := (hB14.fr hf5 (by show ¬ w.heap.size + 1 = r; omega)).far (p := ⟨T, 0, none⟩) (by show T ≠ w.heap.size + 1; omega) (.string (hd (toks.drop pos)).text)
  have hD5 := (hD4.fr hf5 (by show ¬ w.heap.size + 1 + 1 = r; omega)).far (p := ⟨T, 0, none⟩) (by show T ≠ w.heap.size + 1 + 1; omega) (.string (hd (toks.drop pos)).text)
  have hT5 := (hT4.fr hf5 (by show ¬ T = r; omega)).set 0 (.string (hd (toks.drop pos)).text) rfl
  have hO5 := (hO4.fr elemWord hf5 (fun k hk _ e => by have e' : k = r := e; omega)).far elemWord (p := ⟨T, 0, none⟩) (by show T < T + 1; omega) (.string (hd (toks.drop pos)).text)
  have y0 := (hT4.fr hf5 (by show ¬ T = r; omega)).cell 0 rfl
  have y1 := (hT4.fr hf5 (by show ¬ T = r; omega)).frozen 0
  have y2 := (hB04.fr hf5 (by show ¬ w.heap.size = r; omega)).cell 0 rfl
  have hmf := makeFunc_run
  clear hM4 hB04 hB14 hD4 hT4 hO4 hf5 hr5 x0 x1
  go_wp2_with fail
  clear y0 y1 y2
  generalize w5.setCell ⟨T, 0, none⟩ (.string (hd (toks.drop pos)).text) = w6 at *
  refine LPost.call (given_any (word_part_ok (w0 := w) IHm (by omega) h0) ⟨hM5, hB05, hB15, hD5, rfl, by omega, by simp, _, hT5, hO5⟩ (by simp) hend) ?_ ?_
  · intro w7 m a H7 hf7
    refine ⟨rfl, RPost.bad ?_ (hM5.fr.trans (hf7.mono (fun k hk e => e)) |>.mono (fun k hk e => by rcases e with e | e; exact e; omega)) rfl⟩
    rw [HW.out, ← H6.out, H7.out, exErr]
  intro w7 ws l7 p7 H7 hf7 hi7 H8
  obtain ⟨hM7, hB07, hB17, hD7, -, hBT7, -, v7, hT7, hO7⟩ := hi7
  have HD := Lib.hid (show wordN (m + 1) (toks.drop pos) = .ok (.mk (hd (toks.drop pos)).text ws (hd (toks.drop pos)).at_, l7) by rw [HW.out, ← H6.out, H7.out, exOk])
  rw [List.nil_append] at hO7
  have hR := hO7.all elemWord (by decide)
  obtain ⟨sa, sc, hv⟩ := hR.form
  subst hv
  have a0 := hT7.cell 0 rfl
  have a1 := hT7.cell 1 rfl
  have a2 := hT7.cell 2 rfl
  have d0 := hD7.cell 0 rfl
  have d1 := hD7.cell 1 rfl
  have d2 := hD7.cell 2 rfl
  have e0 := hD7.frozen 0
  have e1 := hD7.frozen 1
  have e2 := hD7.frozen 2
  have hMF := ((hM7.far (p := ⟨w.heap.size + 1 + 1, 0, none⟩) (by show w.heap.size ≤ w.heap.size + 1 + 1; omega) (.string (hd (toks.drop pos)).text)).far (p := ⟨w.heap.size + 1 + 1, 1, none⟩) (by show w.heap.size ≤ w.heap.size + 1 + 1; omega) (.slice sa ws.length sc)).far (p := ⟨w.heap.size + 1 + 1, 2, none⟩) (by show w.heap.size ≤ w.heap.size + 1 + 1; omega) (.int .i64 (hd (toks.drop pos)).at_)
  have hFF := (((Fr.refl (· = w.heap.size + 1 + 1) w7).setCell (p := ⟨w.heap.size + 1 + 1, 0, none⟩) (fun _ => rfl) (.string (hd (toks.drop pos)).text)).setCell (p := ⟨w.heap.size + 1 + 1, 1, none⟩) (fun _ => rfl) (.slice sa ws.length sc)).setCell (p := ⟨w.heap.size + 1 + 1, 2, none⟩) (fun _ => rfl) (.int .i64 (hd (toks.drop pos)).at_)
  have hRF := (hR.fr hFF (fun k hk _ e => by have e' : k = w.heap.size + 1 + 1 := e; omega) (fun x cs h => elemWord.fr h hFF (fun k hk _ e => by have e' : k = w.heap.size + 1 + 1 := e; omega))).mono (Q := (w.heap.size ≤ ·)) (E' := RWord _ (w.heap.size ≤ ·)) (fun k hk _ => by omega) (fun x cs h => elemWord.mono h (fun k hk _ => by omega))
  have hDF := ((hD7.set 0 (.string (hd (toks.drop pos)).text) rfl).set 1 (.slice sa ws.length sc) rfl).set 2 (.int .i64 (hd (toks.drop pos)).at_) rfl
  go_wp2_with fail
  have f0 := hDF.cell 0 rfl
  have f1 := hDF.cell 1 rfl
  have f2 := hDF.cell 2 rfl
  refine bodyPost_ret (v := .agg #[.string (hd (toks.drop pos)).text, .slice sa ws.length sc, .int .i64 (hd (toks.drop pos)).at_]) (by simp [results, Try.results66, go_sem, f0, f1, f2]) rfl (RPost.good HD.out hMF.fin rfl ?_ hMF.rin H8.out)
  exact ⟨_, rfl, RWord.row.2 ⟨_, rfl, hRF⟩⟩
theorem word_any {r R cap : Nat} {cur : Array Value} {toks : List Tk} (hend : ∀ t, toks.getLast? = some t → t.kind = 7) (n : Nat) : WordHyp r R cap cur toks n := by
  induction n with
  | zero => exact word_step hend 0 (fun m h => by omega)
  | succ n ih => exact word_step hend (n + 1) (fun m h => by have : m = n := by omega
                                                             subst this; intro w pos deep h1 h2 h3; exact ih deep h1 h2 h3)
end Go.Proofs.Ytejpmdlokmlmeaa
