/- A declaration is read: what it gives, in plain Lean, and the walk. Conditions: the reader's block over a row of tokens, at a place within. -/
import Derived.Test.YtejpmdlokmlmeaaReadC
import Derived.Deep.CutRange
import Derived.Deep.CutBlock
set_option linter.unusedVariables false
set_option linter.unusedSimpArgs false
namespace Go.Proofs.Ytejpmdlokmlmeaa
open Go.RowKit

abbrev sDirs : List ByteArray := [⟨#[116, 111, 107, 101, 110]⟩, ⟨#[116, 121, 112, 101]⟩, ⟨#[108, 101, 102, 116]⟩, ⟨#[114, 105, 103, 104, 116]⟩, ⟨#[110, 111, 110, 97, 115, 115, 111, 99]⟩, ⟨#[115, 116, 97, 114, 116]⟩]
abbrev RE := Except (Int × Int)
/-- The names in a row, as many as there are. -/
def namesR : List Tk → List ByteArray × List Tk
  | [] => ([], [])
  | t :: l => if t.kind = 2 then (t.text :: (namesR l).1, (namesR l).2) else ([], t :: l)
/-- The type that a declaration names. -/
def typeS (k : ByteArray) (l : List Tk) : RE (ByteArray × List Tk) :=
  if k = ⟨#[116, 121, 112, 101]⟩ ∨ (k = ⟨#[116, 111, 107, 101, 110]⟩ ∧ isK 6 [⟨#[60]⟩] l = true) then do
    let (_, l1) ← mustS 6 [⟨#[60]⟩] l
    let (t, l2) ← nameS l1
    let (_, l3) ← mustS 6 [⟨#[62]⟩] l2
    .ok (t, l3)
  else .ok (⟨#[]⟩, l)
def declS (l : List Tk) : RE (GDecl × List Tk) := do
  let (k, l1) ← mustS 1 sDirs l
  let (t, l2) ← typeS k l1
  let (n, l3) ← nameS l2
  let (_, l5) ← mustS 6 [⟨#[59]⟩] (namesR l3).2
  .ok (⟨k, t, n :: (namesR l3).1, (hd l).at_⟩, l5)

theorem isK2 (l : List Tk) : isK 2 [] l = ((hd l).kind == 2) := by simp [isK]
theorem namesR_yes {l : List Tk} (h : isK 2 [] l = true) : namesR l = ((hd l).text :: (namesR l.tail).1, (namesR l.tail).2) := by
  rw [isK2] at h
  cases l with
  | nil => simp [hd] at h
  | cons t l => have h' : t.kind = 2 := by simpa [hd] using h
                simp [namesR, h', hd]
theorem namesR_no {l : List Tk} (h : isK 2 [] l = false) : namesR l = ([], l) := by
  rw [isK2] at h
  cases l with
  | nil => rfl
  | cons t l => have h' : ¬ t.kind = 2 := by simpa [hd] using h
                simp [namesR, h']
theorem nameS_yes {l : List Tk} (h : isK 2 [] l = true) : nameS l = .ok ((hd l).text, l.tail) := by simp [nameS, mustS, h]

theorem Try.infoStr : (Try.prog.info? 9).map (fun i => (i.zero, i.size, i.bytes)) = some (some (.string ⟨#[]⟩), 1, 16) := by kernel_rfl
theorem Strs.lit (w : World) (ts : List ByteArray) (h0 : 0 < ts.length) (h1 : ts.length ≤ 1000) {cs : Array Value} (hcs : cs.toList = ts.map .string) {n : Nat} (hn : n = ts.length) (c : Int) :
    Strs (w.alloc (.cells cs 9)) (.slice (some ⟨w.heap.size, 0, none⟩) n n) ts := by
  subst hn
  refine .inr ⟨h0, h1, _, _, rfl, by simp, fun j hj => ?_⟩
  have e : cs[j]? = some (.string (ts.getD j ByteArray.empty)) := by
    rw [← Array.getElem?_toList, hcs]
    simp [hj]
  rw [Nat.zero_add]
  exact (Blk.new w cs 9).cell j e

theorem fr_alloc {S : Nat → Prop} {w w' : World} {o : Obj} (h : Fr S (w.alloc o) w') : Fr S w w' := ((Fr.refl S w).alloc o).trans h
section
variable {w : World} {r R cap pos B : Nat} {cur cs : Array Value} {toks : List Tk}
theorem must_lit (h : RIn w r R cap cur toks pos) (hend : ∀ t, toks.getLast? = some t → t.kind = 7) (k : Nat) (hk7 : k ≠ 7) {ts : List ByteArray} {n : Int} (hB : w.heap.size = B) (h0 : 0 < ts.length) (h1 : ts.length ≤ 1000) (hcs : cs.toList = ts.map .string) (hn : n = ts.length) :
    Calls Try.prog 23 #[.pointer (some ⟨r, 0, none⟩), .int .u8 k, .slice (some ⟨B, 0, none⟩) n.toNat n.toNat] (w.alloc (.cells cs 9)) (RPost (· = r) w r R cap cur toks (mustS k ts (toks.drop pos)) (fun x v _ => v = .string x)) := by
  subst hB
  subst hn
  refine (must_any (h.alloc _) hend k hk7 (Strs.lit w ts h0 h1 hcs rfl 0)).mono ?_
  rintro e w' ⟨hf, hp⟩
  exact ⟨fr_alloc hf, hp⟩
theorem is_lit (h : RIn w r R cap cur toks pos) (k : Nat) {ts : List ByteArray} {n : Int} (hB : w.heap.size = B) (h0 : 0 < ts.length) (h1 : ts.length ≤ 1000) (hcs : cs.toList = ts.map .string) (hn : n = ts.length) :
    Calls Try.prog 21 #[.pointer (some ⟨r, 0, none⟩), .int .u8 k, .slice (some ⟨B, 0, none⟩) n.toNat n.toNat] (w.alloc (.cells cs 9)) fun e w' => e = .returned (.bool (isK k ts (toks.drop pos))) ∧ Fr (fun _ => False) w w' := by
  subst hB
  subst hn
  refine (is_any (h.alloc _) k (Strs.lit w ts h0 h1 hcs rfl 0)).mono ?_
  rintro e w' ⟨he, hf⟩
  exact ⟨he, fr_alloc hf⟩
theorem take_lit (h : RIn w r R cap cur toks pos) (hend : ∀ t, toks.getLast? = some t → t.kind = 7) (k : Nat) (hk7 : k ≠ 7) {ts : List ByteArray} {n : Int} (hB : w.heap.size = B) (h0 : 0 < ts.length) (h1 : ts.length ≤ 1000) (hcs : cs.toList = ts.map .string) (hn : n = ts.length) :
    Calls Try.prog 44 #[.pointer (some ⟨r, 0, none⟩), .int .u8 k, .slice (some ⟨B, 0, none⟩) n.toNat n.toNat] (w.alloc (.cells cs 9)) fun e w' => e = .returned (.bool (isK k ts (toks.drop pos))) ∧ Fr (· = r) w w' ∧ RIn w' r R cap cur toks (if isK k ts (toks.drop pos) then pos + 1 else pos) := by
  subst hB
  subst hn
  refine (take_any (h.alloc _) hend k hk7 (Strs.lit w ts h0 h1 hcs rfl 0)).mono ?_
  rintro e w' ⟨he, hf, hr⟩
  exact ⟨he, fr_alloc hf, hr⟩
end

set_option maxRecDepth 100000 in
set_option maxHeartbeats 1000000 in
theorem decl_any {w : World} {r R cap pos : Nat} {cur : Array Value} {toks : List Tk} (h : RIn w r R cap cur toks pos) (hend : ∀ t, toks.getLast? = some t → t.kind = 7) :
    Calls Try.prog 22 #[.pointer (some ⟨r, 0, none⟩)] w (RPost (· = r) w r R cap cur toks (declS (toks.drop pos)) (fun x v w' => RAgg (RDecl w' (w.heap.size ≤ ·) x) v)) := by
  have hM := Mk.start h
  have hf1 := field_at
  go_enter Try.func22, Try.ntmps22
  go_wp2_with fail
  have hM1 := hM.alloc (.cells #[.string ⟨#[]⟩, .string ⟨#[]⟩, .slice none 0 0, .int .i64 0] 41)
  have hD := Blk.new w #[.string ⟨#[]⟩, .string ⟨#[]⟩, .slice none 0 0, .int .i64 0] 41
  obtain ⟨D, hDe⟩ : ∃ D, D = w.heap.size := ⟨_, rfl⟩
  rw [← hDe] at hD ⊢
  generalize w.alloc (.cells #[.string ⟨#[]⟩, .string ⟨#[]⟩, .slice none 0 0, .int .i64 0] 41) = w1 at *
  clear hM h
  refine (next_any hM1.rin).mono ?_
  rintro e w2 ⟨rfl, hf⟩
  have hM2 := hM1.still hf
  have hD2 := hD.fr hf id
  clear hM1 hD hf
  go_wp2_with fail
  have hM3 := hM2.alloc (.cells #[.string ⟨#[]⟩, .string ⟨#[]⟩, .slice none 0 0, .int .i64 (hd (toks.drop pos)).at_] 41)
  have hD3 := hD2.alloc (.cells #[.string ⟨#[]⟩, .string ⟨#[]⟩, .slice none 0 0, .int .i64 (hd (toks.drop pos)).at_] 41)
  have hT3 := Blk.new w2 #[.string ⟨#[]⟩, .string ⟨#[]⟩, .slice none 0 0, .int .i64 (hd (toks.drop pos)).at_] 41
  have hDT := hD2.lt
  have hB3 : (w2.alloc (.cells #[.string ⟨#[]⟩, .string ⟨#[]⟩, .slice none 0 0, .int .i64 (hd (toks.drop pos)).at_] 41)).heap.size = w2.heap.size + 1 := by simp
  generalize w2.alloc (.cells #[.string ⟨#[]⟩, .string ⟨#[]⟩, .slice none 0 0, .int .i64 (hd (toks.drop pos)).at_] 41) = w3 at *
  clear hM2 hD2 hf1
  generalize w2.heap.size = T at *
  obtain ⟨at0, ha0⟩ : ∃ a, a = (hd (toks.drop pos)).at_ := ⟨_, rfl⟩
  rw [← ha0] at hT3 ⊢
  have Ha0 := Lib.hid ha0
  clear ha0
  have hrD := hM3.r0
  refine RPost.call (must_lit hM3.rin hend 1 (by decide) (ts := sDirs) (n := 6) hB3 (by decide) (by decide) rfl rfl) ?_ ?_
  · intro w4 n a H1 hf4
    refine ⟨rfl, RPost.bad ?_ (hM3.fr.trans (hf4.mono (fun _ _ e => .inl e)) |> fun h => h.mono (fun k hk e => by rcases e with e | e; exact e; omega)) rfl⟩
    simp only [declS, H1.out]
    rfl
  intro w4 k l1 vk p4 H1 hf4 hvk hr4 H2
  subst hvk
  have hM4 := hM3.step hf4 hr4
  have hD4 := hD3.fr hf4 (by show ¬ D = r; omega)
  have hT4 := hT3.fr hf4 (by show ¬ T = r; omega)
  clear hM3 hD3 hT3 hf4 hr4
  have t0 := hT4.cell 0 rfl
  have t1 := hT4.frozen 0
  go_upto_region 3 with fail
  have hM5 := hM4.far (p := ⟨T, 0, none⟩) (by show w.heap.size ≤ T; omega) (.string k)
  have hD5 := hD4.far (p := ⟨T, 0, none⟩) (by show T ≠ D; omega) (.string k)
  have hT5 := hT4.set 0 (.string k) rfl
  clear hM4 hD4 hT4 t0 t1
  generalize w4.setCell ⟨T, 0, none⟩ (.string k) = w5 at *
  obtain ⟨c, hc⟩ : ∃ c : Bool, c = decide (k = ⟨#[116, 121, 112, 101]⟩ ∨ (k = ⟨#[116, 111, 107, 101, 110]⟩ ∧ isK 6 [⟨#[60]⟩] l1 = true)) := ⟨_, rfl⟩
  have t0 := hT5.cell 0 rfl
  go_cut [28] from 14 to 28 (fun b wx => b = .bool c ∧ Fr (fun _ => False) w5 wx)
  case first =>
    by_cases hk1 : k = ⟨#[116, 121, 112, 101]⟩
    · have hc' := Lib.hid (show c = true by rw [hc]; simp [hk1])
      have b1 := bstr_eq hk1
      clear hc hk1
      go_wp2_with fail
      go_meet
      exact ⟨congrArg Value.bool hc'.out.symm, Fr.refl _ _⟩
    · have b1 := bstr_ne hk1
      by_cases hk2 : k = ⟨#[116, 111, 107, 101, 110]⟩
      · have hc' := Lib.hid (show c = isK 6 [⟨#[60]⟩] l1 by rw [hc]; simp [hk2])
        have b2 := bstr_eq hk2
        clear hc hk1 hk2
        go_wp2_with fail
        refine (is_lit hM5.rin 6 (ts := [⟨#[60]⟩]) (n := 1) rfl (by decide) (by decide) rfl rfl).mono ?_
        rintro e w6 ⟨rfl, hf6⟩
        rw [H2.out, ← hc'.out]
        cases c
        · go_wp2_with fail
          go_meet
          exact ⟨rfl, hf6⟩
        · go_wp2_with fail
          go_meet
          exact ⟨rfl, hf6⟩
      · have hc' := Lib.hid (show c = false by rw [hc]; simp [hk1, hk2])
        have b2 := bstr_ne hk2
        clear hc hk1 hk2
        go_wp2_with fail
        go_meet
        exact ⟨congrArg Value.bool hc'.out.symm, Fr.refl _ _⟩
  case rest =>
    obtain ⟨rfl, hf6⟩ := hcut
    have hM6 := hM5.still hf6
    have hD6 := hD5.fr hf6 id
    have hT6 := hT5.fr hf6 id
    clear hM5 hD5 hT5 hf6 t0
    generalize wc = w6 at *
    have Hc := Lib.hid hc
    clear hc
    go_upto_if 28 with fail
    go_cut [] from 29 to 37 (fun wx => ∃ t l2 p6, Aside (typeS k l1 = .ok (t, l2)) ∧ Mk w wx r R cap cur toks p6 ∧ Aside (toks.drop p6 = l2) ∧ Blk wx D #[.string ⟨#[]⟩, .string ⟨#[]⟩, .slice none 0 0, .int .i64 0] 41 ∧ Blk wx T #[.string k, .string t, .slice none 0 0, .int .i64 at0] 41)
    case first =>
      cases c
      · go_wp2_with fail
        go_meet
        exact ⟨⟨#[]⟩, l1, p4, (by show _ = _; unfold typeS; rw [if_neg (of_decide_eq_false Hc.out.symm)]), hM6, H2.out, hD6, hT6⟩
      · go_wp2_with fail
        refine RPost.call (must_lit hM6.rin hend 6 (by decide) (ts := [⟨#[60]⟩]) (n := 1) rfl (by decide) (by decide) rfl rfl) ?_ ?_
        · intro w7 n a H3 hf7
          refine ⟨rfl, RPost.bad ?_ (hM6.fin.trans hf7) rfl⟩
          rw [H2.out] at H3
          simp only [declS, H1.out, typeS, if_pos (of_decide_eq_true Hc.out.symm), H3.out, exOk, exErr]
        intro w7 x7 l7 v7 p7 H3 hf7 hv7 hr7 H4
        subst hv7
        rw [H2.out] at H3
        have hM7 := hM6.step hf7 hr7
        have hD7 := hD6.fr hf7 (by show ¬ D = r; omega)
        have hT7 := hT6.fr hf7 (by show ¬ T = r; omega)
        clear hM6 hD6 hT6 hf7 hr7
        go_wp2_with fail
        refine RPost.call (name_tok hM7.rin hend) ?_ ?_
        · intro w8 n a H5 hf8
          refine ⟨rfl, RPost.bad ?_ (hM7.fin.trans hf8) rfl⟩
          rw [H4.out] at H5
          simp only [declS, H1.out, typeS, if_pos (of_decide_eq_true Hc.out.symm), H3.out, H5.out, exOk, exErr]
        intro w8 x8 l8 v8 p8 H5 hf8 hv8 hr8 H6
        subst hv8
        rw [H4.out] at H5
        have hM8 := hM7.step hf8 hr8
        have hD8 := hD7.fr hf8 (by show ¬ D = r; omega)
        have hT8 := hT7.fr hf8 (by show ¬ T = r; omega)
        clear hM7 hD7 hT7 hf8 hr8
        have t0 := hT8.cell 1 rfl
        have t1 := hT8.frozen 1
        go_wp2_with fail
        have hM9 := hM8.far (p := ⟨T, 1, none⟩) (by show w.heap.size ≤ T; omega) (.string x8)
        have hD9 := hD8.far (p := ⟨T, 1, none⟩) (by show T ≠ D; omega) (.string x8)
        have hT9 := hT8.set 1 (.string x8) rfl
        clear hM8 hD8 hT8 t0 t1
        have hB9 : (w8.setCell ⟨T, 1, none⟩ (.string x8)).heap.size = w8.heap.size := by simp
        generalize w8.setCell ⟨T, 1, none⟩ (.string x8) = w9 at *
        refine RPost.call (must_lit hM9.rin hend 6 (by decide) (ts := [⟨#[62]⟩]) (n := 1) hB9 (by decide) (by decide) rfl rfl) ?_ ?_
        · intro w10 n a H7 hf10
          refine ⟨rfl, RPost.bad ?_ (hM9.fin.trans hf10) rfl⟩
          rw [H6.out] at H7
          simp only [declS, H1.out, typeS, if_pos (of_decide_eq_true Hc.out.symm), H3.out, H5.out, H7.out, exOk, exErr]
        intro w10 x10 l10 v10 p10 H7 hf10 hv10 hr10 H8
        rw [H6.out] at H7
        go_wp2_with fail
        go_meet
        exact ⟨x8, l10, p10, (by show _ = _; simp only [typeS, if_pos (of_decide_eq_true Hc.out.symm), H3.out, H5.out, H7.out, exOk, exErr]), hM9.step hf10 hr10, H8.out, hD9.fr hf10 (by show ¬ D = r; omega), hT9.fr hf10 (by show ¬ T = r; omega)⟩
    case rest =>
      obtain ⟨t, l2, p6', HT, hM7, H3, hD7, hT7⟩ := hcut
      clear hM6 hD6 hT6 Hc
      have Hdec : Hid (declS (toks.drop pos) = (do let (n, l3) ← nameS l2; let (_, l5) ← mustS 6 [⟨#[59]⟩] (namesR l3).2; .ok (⟨k, t, n :: (namesR l3).1, (hd (toks.drop pos)).at_⟩, l5))) := by
        show _ = _
        simp only [declS, H1.out, HT.out, exOk]
      obtain ⟨i0, hi0, hz0, hz1, hz2⟩ := info_parts Try.infoStr
      have hO7 : Own wc (T + 1) 9 1 (EStrs wc) (.slice none 0 0) [] := Own.nil
      generalize wc = w7 at *
      have hMd := hM7.drew
      have hTd : Blk w7.drew T _ _ := hT7
      have hDd : Blk w7.drew D _ _ := hD7
      have hOd : Own w7.drew (T + 1) 9 1 (EStrs w7.drew) (.slice none 0 0) [] := hO7.fr elemStr (Fr.refl (fun _ => False) w7).drew (fun _ _ _ => id)
      have hTl := hT7.lt
      have t0 := hT7.cell 2 rfl
      go_upto_region 7 with fail
      go_cut [] from 38 to 44 (fun wx => ∃ v n l8 p8, Aside (nameS l2 = .ok (n, l8)) ∧ Mk w wx r R cap cur toks p8 ∧ Aside (toks.drop p8 = l8) ∧ Blk wx D #[.string ⟨#[]⟩, .string ⟨#[]⟩, .slice none 0 0, .int .i64 0] 41 ∧ Blk wx T #[.string k, .string t, v, .int .i64 at0] 41 ∧ Own wx (T + 1) 9 1 (EStrs wx) v [n])
      case first =>
        go_region_law (first
          | (go_simp
             go_at_call 43
             refine RPost.call (name_tok hMd.rin hend) (fun w8 n a H4 hf8 => ⟨rfl, RPost.bad (by rw [H3.out] at H4; rw [Hdec.out, H4.out]; rfl) (hMd.fin.trans hf8) rfl⟩) ?_
             intro w8 n l8 v8 p8 H4 hf8 hv8 hr8 H5
             subst hv8
             have hM8 := hMd.step hf8 hr8
             have hD8 := hDd.fr hf8 (by show ¬ D = r; omega)
             have hT8 := hTd.fr hf8 (by show ¬ T = r; omega)
             have ta := hT8.cell 2 rfl
             have hT8l := hT8.lt
             have tb := (hT8.alloc (.cells #[.string n] 9)).cell 2 rfl
             obtain ⟨L, hL, ho8, hfin⟩ := Own.snoc elemStr hOd hf8 (fun k hk _ e => by have e' : k = r := e; omega) (by have : T < w7.drew.heap.size := hTl; omega) (x := n) (c := [.string n]) rfl rfl ((Fr.refl (fun _ => False) w8).alloc (.cells #[.string n] 9)))
          | (refine step_append_lies _ (by rfl) _ _ _ (by rfl) (T + 1) 9 i0 _ 1 16 Try.underlying39 hi0 hz0 hz1 hz2 rfl (by omega) (.slice none 0 0) 0 L.flatten (by rfl) ho8 ⟨w8.heap.size, 0, none⟩ 1 1 [.string n] (by rfl) (by rfl)
              (World.news_of_block (cs := #[.string n]) (t := 9) (fr := (0, 0)) (heap_alloc_new w8 _)) (by simp [Value.oneCell']) (by omega) (by decide) (by omega) (by simp; omega) (w8.heap.size + 1) (by simp) ?_
             intro gg cp w9 hown1 hgrow hat hlt
             have hG := grown_all elemStr hM8 hT8 hD8 hDT (by omega) hgrow (by simp [Value.ownBlock]) 2 (.slice (some ⟨gg, 0, none⟩) 1 cp) rfl (hfin hown1 hgrow (by simpa using hat))
             have t2 := ((hT8.alloc _).grown hgrow (by simp [Value.ownBlock])).cell 2 rfl
             have t3 := ((hT8.alloc _).grown hgrow (by simp [Value.ownBlock])).frozen 2))
        all_goals
          go_wp2_with fail
          go_meet
          obtain ⟨g1, g2, g3, g4⟩ := hG
          exact ⟨_, n, l8, p8, (by show _ = _; rw [H3.out] at H4; exact H4.out), g1, H5.out, g3, g2, g4⟩
      case rest =>
        obtain ⟨v, n, l8, p8, H4, hM8, H5, hD8, hT8, hO8⟩ := hcut
        clear hM7 hD7 hT7 hO7 hMd hTd hDd hOd hTl t0
        generalize wc = w8 at *
        have Hend : Hid (∀ a l5, mustS 6 [⟨#[59]⟩] (namesR l8).2 = .ok (a, l5) → declS (toks.drop pos) = .ok (⟨k, t, n :: (namesR l8).1, at0⟩, l5)) := by
          intro a l5 h5
          rw [Hdec.out, H4.out, exOk]
          simp only [h5, exOk, Ha0.out]
        have Hbad : Hid (∀ m a, mustS 6 [⟨#[59]⟩] (namesR l8).2 = .error (m, a) → declS (toks.drop pos) = .error (m, a)) := by
          intro m a h5
          rw [Hdec.out, H4.out, exOk]
          simp only [h5, exErr]
        clear Hdec
        go_wp2_with fail
        go_loopg [] (toks.length - p8) (fun g wr => ∃ v ns p, g = toks.length - p ∧ Mk w wr r R cap cur toks p ∧ Blk wr D #[.string ⟨#[]⟩, .string ⟨#[]⟩, .slice none 0 0, .int .i64 0] 41 ∧ Blk wr T #[.string k, .string t, v, .int .i64 at0] 41 ∧ Own wr (T + 1) 9 1 (EStrs wr) v ns ∧ ns.length ≤ p + 1 ∧ Aside (ns ++ (namesR (toks.drop p)).1 = n :: (namesR l8).1) ∧ Aside ((namesR (toks.drop p)).2 = (namesR l8).2))
        case atStart => exact ⟨v, [n], p8, rfl, hM8, hD8, hT8, hO8, by simp, (by show _ = _; rw [H5.out]; rfl), (by show _ = _; rw [H5.out])⟩
        case round =>
          clear hM8 hD8 hT8 hO8
          obtain ⟨v, ns, p, hg, hM, hD, hT, hO, hlen, hA, hB⟩ := hrel
          have Hg := Lib.hid hg
          clear hg
          go_wp2_with fail
          refine (is_any hM.rin 2 (Strs.nil _)).mono ?_
          rintro e w9 ⟨rfl, hf9⟩
          have hM9 := hM.still hf9
          have hD9 := hD.fr hf9 id
          have hT9 := hT.fr hf9 id
          have hO9 := hO.fr elemStr hf9 (fun _ _ _ => id)
          clear hM hD hT hO hf9
          cases hq : isK 2 [] (toks.drop p)
          · have HN := Lib.hid (namesR_no hq)
            clear hq
            go_wp2_with fail
            refine RPost.call (must_lit hM9.rin hend 6 (by decide) (ts := [⟨#[59]⟩]) (n := 1) rfl (by decide) (by decide) rfl rfl) ?_ ?_
            · intro w10 m a H6 hf10
              refine ⟨rfl, RPost.bad (Hbad.out _ _ ?_) (hM9.fin.trans hf10) rfl⟩
              rw [← hB.out, HN.out]
              exact H6.out
            intro w10 x10 l10 v10 p10 H6 hf10 hv10 hr10 H7
            have HD := Lib.hid (Hend.out x10 l10 (by rw [← hB.out, HN.out]; exact H6.out))
            have hns : ns = n :: (namesR l8).1 := by have := hA.out; rw [HN.out] at this; simpa using this
            have HNS := Lib.hid hns
            clear hns
            have hM10 := hM9.step hf10 hr10
            have hD10 := hD9.fr hf10 (by show ¬ D = r; omega)
            have hT10 := hT9.fr hf10 (by show ¬ T = r; omega)
            have hO10 := hO9.fr elemStr hf10 (fun k hk _ e => by have e' : k = r := e; omega)
            clear hM9 hD9 hT9 hO9 hf10 hr10
            rw [hDe] at hD10
            have a0 := hT10.cell 0 rfl
            have a1 := hT10.cell 1 rfl
            have a2 := hT10.cell 2 rfl
            have a3 := hT10.cell 3 rfl
            have d0 := hD10.cell 0 rfl
            have d1 := hD10.cell 1 rfl
            have d2 := hD10.cell 2 rfl
            have d3 := hD10.cell 3 rfl
            have e0 := hD10.frozen 0
            have e1 := hD10.frozen 1
            have e2 := hD10.frozen 2
            have e3 := hD10.frozen 3
            have hR := hO10.all elemStr (by decide)
            obtain ⟨sa, sc, hv⟩ := hR.form
            subst hv
            have hMF := (((hM10.far (p := ⟨w.heap.size, 0, none⟩) (Nat.le_refl _) (.string k)).far (p := ⟨w.heap.size, 1, none⟩) (Nat.le_refl _) (.string t)).far (p := ⟨w.heap.size, 2, none⟩) (Nat.le_refl _) (.slice sa ns.length sc)).far (p := ⟨w.heap.size, 3, none⟩) (Nat.le_refl _) (.int .i64 at0)
            have hRF : RRow _ (w.heap.size ≤ ·) 1 EStr (.slice sa ns.length sc) ns := (hR.fr (((((Fr.refl (· = D) w10).setCell (p := ⟨w.heap.size, 0, none⟩) (fun _ => by show w.heap.size = D; omega) (.string k)).setCell (p := ⟨w.heap.size, 1, none⟩) (fun _ => by show w.heap.size = D; omega) (.string t)).setCell (p := ⟨w.heap.size, 2, none⟩) (fun _ => by show w.heap.size = D; omega) (.slice sa ns.length sc)).setCell (p := ⟨w.heap.size, 3, none⟩) (fun _ => by show w.heap.size = D; omega) (.int .i64 at0)) (fun k hk _ e => by have e' : k = D := e; omega) (fun _ _ h => h)).mono (fun k hk _ => by omega) (fun _ _ h => h)
            have hDF := (((hD10.set 0 (.string k) rfl).set 1 (.string t) rfl).set 2 (.slice sa ns.length sc) rfl).set 3 (.int .i64 at0) rfl
            go_wp2_with fail
            have f0 := hDF.cell 0 rfl
            have f1 := hDF.cell 1 rfl
            have f2 := hDF.cell 2 rfl
            have f3 := hDF.cell 3 rfl
            refine bodyPost_ret (v := .agg #[.string k, .string t, .slice sa ns.length sc, .int .i64 at0]) (by simp [results, Try.results22, go_sem, f0, f1, f2, f3]) rfl (RPost.good HD.out hMF.fin rfl ?_ hMF.rin H7.out)
            rw [← HNS.out]
            exact ⟨_, rfl, _, rfl, hRF⟩
          · have HN := Lib.hid (namesR_yes hq)
            have HY := Lib.hid (nameS_yes hq)
            clear hq
            go_wp2_with fail
            have hMd := hM9.drew
            have hTd : Blk w9.drew T _ _ := hT9
            have hDd : Blk w9.drew D _ _ := hD9
            have hOd : Own w9.drew (T + 1) 9 1 (EStrs w9.drew) v ns := hO9.fr elemStr (Fr.refl (fun _ => False) w9).drew (fun _ _ _ => id)
            have hvb : ∀ i, v.ownBlock = some i → T + 1 ≤ i := fun i hi => (hO9.blk i hi).1
            have hTl := hT9.lt
            have hpl := hM9.rin.hp
            have hl5 := hM9.rin.hl
            have t0 := hT9.cell 2 rfl
            go_region_law (first
              | (go_simp
                 go_at_call 43
                 refine RPost.call (name_tok hMd.rin hend) (fun w8 m a H4 hf8 => by have := H4.out; rw [HY.out] at this; cases this) ?_
                 intro w11 x l11 v11 p11 H6 hf11 hv11 hr11 H7
                 subst hv11
                 have hM11 := hMd.step hf11 hr11
                 have hD11 := hDd.fr hf11 (by show ¬ D = r; omega)
                 have hT11 := hTd.fr hf11 (by show ¬ T = r; omega)
                 have ta := hT11.cell 2 rfl
                 have hT11l := hT11.lt
                 have tb := (hT11.alloc (.cells #[.string x] 9)).cell 2 rfl
                 obtain ⟨L, hL, ho11, hfin⟩ := Own.snoc elemStr hOd hf11 (fun k hk _ e => by have e' : k = r := e; omega) (by have : T < w9.drew.heap.size := hTl; omega) (x := x) (c := [.string x]) rfl rfl ((Fr.refl (fun _ => False) w11).alloc (.cells #[.string x] 9)))
              | (refine step_append_lies _ (by rfl) _ _ _ (by rfl) (T + 1) 9 i0 _ 1 16 Try.underlying39 hi0 hz0 hz1 hz2 rfl (by omega) v ns.length L.flatten (by rfl) ho11 ⟨w11.heap.size, 0, none⟩ 1 1 [.string x] (by rfl) (by rfl)
                  (World.news_of_block (cs := #[.string x]) (t := 9) (fr := (0, 0)) (heap_alloc_new w11 _)) (by simp [Value.oneCell']) (by omega) (by unfold maxLen; omega) (by omega) (by simp; omega) (w11.heap.size + 1) (by simp) ?_
                 intro gg cp w12 hown1 hgrow hat hlt
                 have hG := grown_all elemStr hM11 hT11 hD11 hDT (by omega) hgrow hvb 2 (.slice (some ⟨gg, 0, none⟩) (ns.length + 1) cp) rfl (hfin hown1 hgrow (by simpa using hat))
                 have t2 := ((hT11.alloc _).grown hgrow (fun e => by have := hvb T e.symm; omega)).cell 2 rfl
                 have t3 := ((hT11.alloc _).grown hgrow (fun e => by have := hvb T e.symm; omega)).frozen 2))
            all_goals
              obtain ⟨g1, g2, g3, g4⟩ := hG
              have hxl : x = (hd (toks.drop p)).text ∧ l11 = (toks.drop p).tail := by have := H6.out; rw [HY.out] at this; injection this with this; injection this with e1 e2; exact ⟨e1.symm, e2.symm⟩
              have hp11 : toks.length - p11 + 1 = toks.length - p := by
                have h1 : (toks.drop p11).length = (toks.drop p).tail.length := by rw [H7.out, hxl.2]
                simp at h1; omega
              go_wp2_with fail
              go_roundg (toks.length - p11)
              case measure => have := Hg.out; omega
              case rel =>
                refine ⟨_, ns ++ [x], p11, rfl, g1, g3, g2, g4, by simp; omega, ?_, ?_⟩
                · show _ = _
                  rw [← hA.out, H7.out, HN.out, hxl.1, hxl.2]; simp
                · show _ = _
                  rw [← hB.out, H7.out, HN.out, hxl.2]
end Go.Proofs.Ytejpmdlokmlmeaa
