/- What a rule's closures read: a parameter, an alternative. Conditions: the reader's block over a row of tokens, at a place within. -/
import Derived.Test.YtejpmdlokmlmeaaReadI
set_option linter.unusedVariables false
set_option linter.unusedSimpArgs false
namespace Go.Proofs.Ytejpmdlokmlmeaa
open Go.RowKit

theorem Try.infoAlt : (Try.prog.info? 47).map (fun i => (i.zero, i.size, i.bytes)) = some (some (.agg #[.slice none 0 0, .string ⟨#[]⟩, .bool false, .string ⟨#[]⟩, .int .i64 0, .int .i64 0]), 6, 80) := by kernel_rfl

/-- What stands while a rule's parameters are read. -/
def PInv (w0 : World) (r R cap : Nat) (cur : Array Value) (toks : List Tk) (N D T : Nat) (nm : ByteArray) (at0 : Int) (w : World) (p : Nat) (xs : List ByteArray) : Prop :=
  Mk w0 w r R cap cur toks p ∧ Blk w N #[.pointer (some ⟨r, 0, none⟩)] 68 ∧ Blk w D #[.string ⟨#[]⟩, .slice none 0 0, .slice none 0 0, .int .i64 0] 44 ∧ w0.heap.size ≤ N ∧ w0.heap.size ≤ D ∧ N < T ∧ D < T ∧ xs.length ≤ p ∧
    ∃ v, Blk w T #[.string nm, v, .slice none 0 0, .int .i64 at0] 44 ∧ Own w (T + 1) 9 1 (EStrs w) v xs
theorem PInv.step {w0 w w' : World} {r R cap N D T p p' : Nat} {cur : Array Value} {toks : List Tk} {nm : ByteArray} {at0 : Int} {xs : List ByteArray} (h : PInv w0 r R cap cur toks N D T nm at0 w p xs) (hf : Fr (· = r) w w') (hr : RIn w' r R cap cur toks p') (hp : p ≤ p') :
    PInv w0 r R cap cur toks N D T nm at0 w' p' xs := by
  obtain ⟨h1, h2, h3, h4, h5, h6, h7, h8, v, h9, h10⟩ := h
  have hr0 := h1.r0
  exact ⟨h1.step hf hr, h2.fr hf (by show ¬ N = r; omega), h3.fr hf (by show ¬ D = r; omega), h4, h5, h6, h7, by omega, v, h9.fr hf (by show ¬ T = r; omega), h10.fr elemStr hf (fun k hk _ e => by have e' : k = r := e; omega)⟩

set_option maxRecDepth 100000 in
set_option maxHeartbeats 2000000 in
theorem param_part {w0 : World} {r R cap N D T : Nat} {cur : Array Value} {toks : List Tk} {nm : ByteArray} {at0 : Int} (hend : ∀ t, toks.getLast? = some t → t.kind = 7) {w : World} {p : Nat} {xs : List ByteArray} (h : PInv w0 r R cap cur toks N D T nm at0 w p xs) :
    Calls Try.prog 47 #[.pointer (some ⟨T, 0, none⟩), .pointer (some ⟨N, 0, none⟩)] w
      (LPost (fun k => k = r ∨ w0.heap.size ≤ k) (PInv w0 r R cap cur toks N D T nm at0) toks w xs (oneS nameS (toks.drop p))) := by
  obtain ⟨i0, hi0, hz0, hz1, hz2⟩ := info_parts Try.infoStr
  obtain ⟨hM, hN, hD, hN0, hD0, hNT, hDT, hxp, v, hT, hO⟩ := h
  have hMd := hM.drew
  have hTd : Blk w.drew T _ _ := hT
  have hDd : Blk w.drew D _ _ := hD
  have hNd : Blk w.drew N _ _ := hN
  have hOd : Own w.drew (T + 1) 9 1 (EStrs w.drew) v xs := hO.fr elemStr (Fr.refl (fun _ => False) w).drew (fun _ _ _ => id)
  have hvb : ∀ i, v.ownBlock = some i → T + 1 ≤ i := fun i hi => (hO.blk i hi).1
  have hTl := hT.lt
  have hpl := hM.rin.hp
  have hl5 := hM.rin.hl
  have hr0 := hM.r0
  have t0 := hT.cell 1 rfl
  have n0 := hN.cell 0 rfl
  have HE := Lib.hid (fun (m a : Int) (h : nameS (toks.drop p) = .error (m, a)) => show oneS nameS (toks.drop p) = .error (m, a) by unfold oneS; rw [h, exErr])
  have HP := Lib.hid (And.intro hM (And.intro hN hD))
  clear hM hN hD hT hO
  go_enter Try.func47, Try.ntmps47
  go_region_law (first
    | (go_simp
       go_at_call 43
       refine RPost.call (name_tok hMd.rin hend) (fun w8 n a H4 hf8 => ⟨rfl, LPost.bad (HE.out _ _ H4.out) ((Fr.refl _ w).drew.trans (hf8.mono (fun k _ e => .inl e))) rfl⟩) ?_
       intro w8 x l8 v8 p8 H4 hf8 hv8 hr8 H5
       subst hv8
       have hM8 := hMd.step hf8 hr8
       have hD8 := hDd.fr hf8 (by show ¬ D = r; omega)
       have hN8 := hNd.fr hf8 (by show ¬ N = r; omega)
       have hT8 := hTd.fr hf8 (by show ¬ T = r; omega)
       have ta := hT8.cell 1 rfl
       have hT8l := hT8.lt
       have tb := (hT8.alloc (.cells #[.string x] 9)).cell 1 rfl
       have nb := hN8.cell 0 rfl
       obtain ⟨L, hL, ho8, hfin⟩ := Own.snoc elemStr hOd hf8 (fun k hk _ e => by have e' : k = r := e; omega) (by have : T < w.drew.heap.size := hTl; omega) (x := x) (c := [.string x]) rfl rfl ((Fr.refl (fun _ => False) w8).alloc (.cells #[.string x] 9)))
    | (refine step_append_lies _ (by rfl) _ _ _ (by rfl) (T + 1) 9 i0 _ 1 16 Try.underlying39 hi0 hz0 hz1 hz2 rfl (by omega) v xs.length L.flatten (by rfl) ho8 ⟨w8.heap.size, 0, none⟩ 1 1 [.string x] (by rfl) (by rfl)
        (World.news_of_block (cs := #[.string x]) (t := 9) (fr := (0, 0)) (heap_alloc_new w8 _)) (by simp [Value.oneCell']) (by omega) (by unfold maxLen; omega) (by omega) (by simp; omega) (w8.heap.size + 1) (by simp) ?_
       intro gg cp w9 hown1 hgrow hat hlt
       have hG := grown_all' elemStr (hM8.alloc _) (hT8.alloc _) (by omega) hgrow hvb 1 (.slice (some ⟨gg, 0, none⟩) (xs.length + 1) cp) rfl (hfin hown1 hgrow (by simpa using hat))
       have t2 := ((hT8.alloc _).grown hgrow (fun e => by have := hvb T e.symm; omega)).cell 1 rfl
       have t3 := ((hT8.alloc _).grown hgrow (fun e => by have := hvb T e.symm; omega)).frozen 1
       have hFR : Fr (fun k => k = r ∨ w0.heap.size ≤ k) w w9 := ((((Fr.refl _ w).drew.trans (hf8.mono (fun k _ e => .inl e))).alloc _).grown hgrow (fun k hk _ => .inr (by have := hvb k hk; omega)))))
  all_goals
    go_wp2_with fail
    go_end0
    obtain ⟨g1, g2, g3, g4⟩ := hG
    have hlen : l8.length < (toks.drop p).length := nameS_len H4.out
    have hp8 : p < p8 := by
      rw [← H5.out] at hlen
      simp at hlen
      omega
    exact LPost.good (by unfold oneS; rw [H4.out, exOk]) (hFR.setCell (p := ⟨T, 1, none⟩) (fun _ => .inr (by show w0.heap.size ≤ T; omega)) _) rfl H5.out ⟨g1, g4 (hN8.alloc _) (by omega), g4 (hD8.alloc _) (by omega), hN0, hD0, hNT, hDT, by simp; omega, _, g2, g3⟩
end Go.Proofs.Ytejpmdlokmlmeaa
