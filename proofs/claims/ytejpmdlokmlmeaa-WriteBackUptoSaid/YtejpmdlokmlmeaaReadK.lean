/- What a rule's closure reads: an alternative. Conditions: the reader's block over a row of tokens, at a place within. -/
import Derived.Test.YtejpmdlokmlmeaaReadJ
set_option linter.unusedVariables false
set_option linter.unusedSimpArgs false
namespace Go.Proofs.Ytejpmdlokmlmeaa
open Go.RowKit

/-- Behind an append to a row of parts that lies behind a base, and the storing of the row. -/
theorem grown_base {α : Type} {E : World → (Nat → Prop) → α → List Value → Prop} {w0 w9 w' : World} {r R cap pos : Nat} {cur : Array Value} {toks : List Tk} {T base e sz : Nat} {cs cs' : Array Value} {ty : TypeId} {v' : Value} {xs' : List α} {row : Option Nat}
    (hE : Elem E) (hM : Mk w0 w9 r R cap cur toks pos) (hT : Blk w9 T cs ty) (h0 : w0.heap.size ≤ T) (hTb : T < base) (hg : w9.grownBy w' row) (hrow : ∀ k, row = some k → base ≤ k) (i : Nat) (u : Value) (hcs : cs.setIfInBounds i u = cs')
    (hO : Own w' base e sz (E w') v' xs') :
    Mk w0 (w'.setCell ⟨T, i, none⟩ u) r R cap cur toks pos ∧ Blk (w'.setCell ⟨T, i, none⟩ u) T cs' ty ∧ Own (w'.setCell ⟨T, i, none⟩ u) base e sz (E (w'.setCell ⟨T, i, none⟩ u)) v' xs' ∧
      (∀ {D : Nat} {ds : Array Value} {dy : TypeId}, Blk w9 D ds dy → D < base → D ≠ T → Blk (w'.setCell ⟨T, i, none⟩ u) D ds dy) ∧
      (∀ {β : Type} {P : Nat → Prop} {s : Nat} {F : β → List Value → Prop} {pv : Value} {ps : List β}, RRow w9 P s F pv ps → (∀ k, P k → k < base ∧ k ≠ T) → RRow (w'.setCell ⟨T, i, none⟩ u) P s F pv ps) :=
  ⟨(hM.grown hg (fun k hk => by have := hrow k hk; omega)).far (by show w0.heap.size ≤ T; omega) u, (hT.grown hg (fun e => by have := hrow T e.symm; omega)).set i u hcs, hO.far hE (by show T < base; omega) u,
    fun hD hDb hDT => (hD.grown hg (fun e => by have := hrow _ e.symm; omega)).far (by show T ≠ _; omega) u,
    fun hR hP => hR.fr (((Fr.refl (fun k => base ≤ k ∨ k = T) w9).grown hg (fun k hk _ => .inl (hrow k hk))).setCell (p := ⟨T, i, none⟩) (fun _ => .inr rfl) u) (fun k hk _ e => by have := hP k hk; rcases e with e | e <;> omega) (fun _ _ h => h)⟩
theorem RAlt.form {w : World} {P : Nat → Prop} {x : GAlt} {cs : List Value} (h : RAlt w P x cs) : ∃ a m c p b s k j, cs = [.slice a m c, .string p, .bool b, .string s, .int .i64 k, .int .i64 j] := by
  obtain ⟨v, rfl, hr⟩ := h
  obtain ⟨a, c, rfl⟩ := hr.form
  exact ⟨_, _, _, _, _, _, _, _, rfl⟩

/-- What stands while a rule's alternatives are read. -/
def QInv (w0 : World) (r R cap : Nat) (cur : Array Value) (toks : List Tk) (N D T B : Nat) (nm : ByteArray) (pv : Value) (ps : List ByteArray) (at0 : Int) (w : World) (p : Nat) (xs : List GAlt) : Prop :=
  Mk w0 w r R cap cur toks p ∧ Blk w N #[.pointer (some ⟨r, 0, none⟩)] 68 ∧ Blk w D #[.string ⟨#[]⟩, .slice none 0 0, .slice none 0 0, .int .i64 0] 44 ∧ w0.heap.size ≤ N ∧ w0.heap.size ≤ D ∧ N < T ∧ D < T ∧ T < B ∧ B ≤ w.heap.size ∧
    RRow w (fun k => T + 1 ≤ k ∧ k < B) 1 EStr pv ps ∧ ∃ v, Blk w T #[.string nm, pv, v, .int .i64 at0] 44 ∧ Own w B 47 6 (RAlt w) v xs
theorem QInv.step {w0 w w' : World} {r R cap N D T B p p' : Nat} {cur : Array Value} {toks : List Tk} {nm : ByteArray} {pv : Value} {ps : List ByteArray} {at0 : Int} {xs : List GAlt} (h : QInv w0 r R cap cur toks N D T B nm pv ps at0 w p xs) (hf : Fr (· = r) w w') (hr : RIn w' r R cap cur toks p') (hp : p ≤ p') :
    QInv w0 r R cap cur toks N D T B nm pv ps at0 w' p' xs := by
  obtain ⟨h1, h2, h3, h4, h5, h6, h7, h8, h9, h11, v, h12, h13⟩ := h
  have hr0 := h1.r0
  have hs := hf.size
  exact ⟨h1.step hf hr, h2.fr hf (by show ¬ N = r; omega), h3.fr hf (by show ¬ D = r; omega), h4, h5, h6, h7, h8, by omega, h11.fr hf (fun k hk _ e => by have e' : k = r := e; omega) (fun _ _ h => h), v, h12.fr hf (by show ¬ T = r; omega), h13.fr elemAlt hf (fun k hk _ e => by have e' : k = r := e; omega)⟩

set_option maxRecDepth 100000 in
set_option maxHeartbeats 4000000 in
theorem alt_part {w0 : World} {r R cap N D T B : Nat} {cur : Array Value} {toks : List Tk} {nm : ByteArray} {pv : Value} {ps : List ByteArray} {at0 : Int} (hend : ∀ t, toks.getLast? = some t → t.kind = 7) {w : World} {p : Nat} {xs : List GAlt} (h : QInv w0 r R cap cur toks N D T B nm pv ps at0 w p xs) (hxp : xs.length ≤ p) :
    Calls Try.prog 49 #[.pointer (some ⟨T, 0, none⟩), .pointer (some ⟨N, 0, none⟩)] w
      (LPost (fun k => k = r ∨ w0.heap.size ≤ k) (QInv w0 r R cap cur toks N D T B nm pv ps at0) toks w xs (oneS altS (toks.drop p))) := by
  obtain ⟨i0, hi0, hz0, hz1, hz2⟩ := info_parts Try.infoAlt
  obtain ⟨hM, hN, hD, hN0, hD0, hNT, hDT, hTB, hBw, hPR, v, hT, hO⟩ := h
  have hMd := hM.drew
  have hTd : Blk w.drew T _ _ := hT
  have hDd : Blk w.drew D _ _ := hD
  have hNd : Blk w.drew N _ _ := hN
  have hPd : RRow w.drew (fun k => T + 1 ≤ k ∧ k < B) 1 EStr pv ps := hPR.fr (Fr.refl (fun _ => False) w).drew (fun _ _ _ => id) (fun _ _ h => h)
  have hOd : Own w.drew B 47 6 (RAlt w.drew) v xs := hO.fr elemAlt (Fr.refl (fun _ => False) w).drew (fun _ _ _ => id)
  have hvb : ∀ i, v.ownBlock = some i → B ≤ i := fun i hi => (hO.blk i hi).1
  have hTl := hT.lt
  have hpl := hM.rin.hp
  have hl5 := hM.rin.hl
  have hr0 := hM.r0
  have t0 := hT.cell 2 rfl
  have n0 := hN.cell 0 rfl
  have HE := Lib.hid (fun (m a : Int) (h : altS (toks.drop p) = .error (m, a)) => show oneS altS (toks.drop p) = .error (m, a) by unfold oneS; rw [h, exErr])
  clear hM hN hD hT hO hPR
  go_enter Try.func49, Try.ntmps49
  go_region_law (first
    | (go_simp
       go_at_call 50
       refine RPost.call (alt_any hMd.rin hend) (fun w8 n a H4 hf8 => ⟨rfl, LPost.bad (HE.out _ _ H4.out) ((Fr.refl _ w).drew.trans (hf8.mono (fun k _ e => .inl e))) rfl⟩) ?_
       intro w8 x l8 v8 p8 H4 hf8 hv8 hr8 H5
       obtain ⟨cs8, rfl, hx8⟩ := hv8
       obtain ⟨a8, m8, c8, b8, d8, s8, k8, j8, rfl⟩ := hx8.form
       have hM8 := hMd.step hf8 hr8
       have hD8 := hDd.fr hf8 (by show ¬ D = r; omega)
       have hN8 := hNd.fr hf8 (by show ¬ N = r; omega)
       have hT8 := hTd.fr hf8 (by show ¬ T = r; omega)
       have hP8 := hPd.fr hf8 (fun k hk _ e => by have e' : k = r := e; omega) (fun _ _ h => h)
       have ta := hT8.cell 2 rfl
       have hT8l := hT8.lt
       have tb := (hT8.alloc (.cells #[.slice a8 m8 c8, .string b8, .bool d8, .string s8, .int .i64 k8, .int .i64 j8] 47)).cell 2 rfl
       have hs8 := hf8.size
       have hsd : w.drew.heap.size = w.heap.size := rfl
       have hB8 : B ≤ w8.heap.size := by omega
       clear hsd
       obtain ⟨L, hL, ho8, hfin⟩ := Own.snoc elemAlt hOd hf8 (fun k hk _ e => by have e' : k = r := e; omega) hBw hx8 rfl ((Fr.refl (fun _ => False) w8).alloc (.cells #[.slice a8 m8 c8, .string b8, .bool d8, .string s8, .int .i64 k8, .int .i64 j8] 47)))
    | (refine step_append_lies _ (by rfl) _ _ _ (by rfl) B 47 i0 _ 6 80 Try.underlying42 hi0 hz0 hz1 hz2 rfl (by omega) v xs.length L.flatten (by rfl) ho8 ⟨w8.heap.size, 0, none⟩ 1 1 [.slice a8 m8 c8, .string b8, .bool d8, .string s8, .int .i64 k8, .int .i64 j8] (by rfl) (by rfl)
        (World.news_of_block (cs := #[.slice a8 m8 c8, .string b8, .bool d8, .string s8, .int .i64 k8, .int .i64 j8]) (t := 47) (fr := (0, 0)) (heap_alloc_new w8 _)) (by simp [Value.oneCell']) (by omega) (by unfold maxLen; omega) (by omega) (by simp; omega) (w8.heap.size + 1) (by simp) ?_
       intro gg cp w9 hown1 hgrow hat hlt
       have hG := grown_base elemAlt (hM8.alloc _) (hT8.alloc _) (by omega) hTB hgrow hvb 2 (.slice (some ⟨gg, 0, none⟩) (xs.length + 1) cp) rfl (hfin hown1 hgrow (by simpa using hat))
       have t2 := ((hT8.alloc _).grown hgrow (fun e => by have := hvb T e.symm; omega)).cell 2 rfl
       have t3 := ((hT8.alloc _).grown hgrow (fun e => by have := hvb T e.symm; omega)).frozen 2
       have hsz9 := hgrow.size
       have hFR : Fr (fun k => k = r ∨ w0.heap.size ≤ k) w w9 := ((((Fr.refl _ w).drew.trans (hf8.mono (fun k _ e => .inl e))).alloc _).grown hgrow (fun k hk _ => .inr (by have := hvb k hk; omega)))))
  all_goals
    go_wp2_with fail
    go_end0
    obtain ⟨g1, g2, g3, g4, g5⟩ := hG
    refine LPost.good (by unfold oneS; rw [H4.out, exOk]) (hFR.setCell (p := ⟨T, 2, none⟩) (fun _ => .inr (by show w0.heap.size ≤ T; omega)) _) rfl H5.out ⟨g1, g4 (hN8.alloc _) (by omega) (by omega), g4 (hD8.alloc _) (by omega) (by omega), hN0, hD0, hNT, hDT, hTB, ?_, ?_, _, g2, g3⟩
    · have e : (w8.alloc (.cells #[.slice a8 m8 c8, .string b8, .bool d8, .string s8, .int .i64 k8, .int .i64 j8] 47)).heap.size = w8.heap.size + 1 := by simp
      have e2 : ∀ (W : World) (q : Addr) (z : Value), (W.setCell q z).heap.size = W.heap.size := fun W q z => by simp [World.setCell]
      rw [e2]
      omega
    · exact g5 (hP8.fr ((Fr.refl (fun _ => False) w8).alloc _) (fun _ _ _ => id) (fun _ _ h => h)) (fun k hk => by omega)
end Go.Proofs.Ytejpmdlokmlmeaa
