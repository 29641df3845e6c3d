/- An alternative is read: what it gives, in plain Lean, and the walk. Conditions: the reader's block over a row of tokens, at a place within. -/
import Derived.Test.YtejpmdlokmlmeaaReadH
import Derived.Deep.CutRange
import Derived.Deep.CutBlock
set_option linter.unusedVariables false
set_option linter.unusedSimpArgs false
namespace Go.Proofs.Ytejpmdlokmlmeaa
open Go.RowKit

/-- Words, as many as there are. -/
def wordsN : Nat → List Tk → RE (List GWord × List Tk)
  | 0, l => .ok ([], l)
  | n + 1, l => if isK 2 [] l then do
      let (x, l1) ← wordN 61 l
      let (xs, l2) ← wordsN n l1
      .ok (x :: xs, l2)
    else .ok ([], l)
def precS (l : List Tk) : RE (ByteArray × List Tk) := if isK 1 [⟨#[112, 114, 101, 99]⟩] l then nameS l.tail else .ok (⟨#[]⟩, l)
/-- An action, or none. -/
def actR (ws : List GWord) (p : ByteArray) (at0 : Int) (l : List Tk) : GAlt × List Tk :=
  if isK 9 [] l then (⟨ws, p, true, (hd l).text, wrap64 ((hd l).at_ + 1), at0⟩, l.tail) else (⟨ws, p, false, ⟨#[]⟩, 0, at0⟩, l)
def altS (l : List Tk) : RE (GAlt × List Tk) := do
  let (ws, l1) ← wordsN l.length l
  let (p, l2) ← precS l1
  .ok (actR ws p (hd l).at_ l2)

theorem wordsN_len : ∀ {n : Nat} {l l' : List Tk} {xs : List GWord}, wordsN n l = .ok (xs, l') → l'.length ≤ l.length := by
  intro n
  induction n with
  | zero => intro l l' xs h; cases h; exact Nat.le_refl _
  | succ n ih =>
    intro l l' xs h
    rw [wordsN] at h
    split at h
    · cases hq : wordN 61 l with
      | error e => rw [hq] at h; cases h
      | ok xl =>
        obtain ⟨x, l1⟩ := xl
        rw [hq, exOk] at h
        cases hr : wordsN n l1 with
        | error e => simp only [hr, exErr] at h; cases h
        | ok yl =>
          obtain ⟨ys, l2⟩ := yl
          simp only [hr, exOk] at h
          cases h
          have := wordN_len hq
          have := ih hr
          omega
    · cases h; exact Nat.le_refl _
theorem precS_len {l l' : List Tk} {x : ByteArray} (h : precS l = .ok (x, l')) : l'.length ≤ l.length := by
  unfold precS at h
  split at h
  · have := nameS_len h; simp at this; omega
  · cases h; exact Nat.le_refl _
theorem actR_len (ws : List GWord) (p : ByteArray) (at0 : Int) (l : List Tk) : (actR ws p at0 l).2.length ≤ l.length := by
  unfold actR
  split <;> simp
theorem altS_len {l l' : List Tk} {x : GAlt} (h : altS l = .ok (x, l')) : l'.length ≤ l.length := by
  unfold altS at h
  cases hq : wordsN l.length l with
  | error e => rw [hq] at h; cases h
  | ok xl =>
    obtain ⟨ws, l1⟩ := xl
    rw [hq, exOk] at h
    cases hr : precS l1 with
    | error e => simp only [hr, exErr] at h; cases h
    | ok yl =>
      obtain ⟨p, l2⟩ := yl
      simp only [hr, exOk] at h
      injection h with h
      have := wordsN_len hq
      have := precS_len hr
      have := actR_len ws p (hd l).at_ l2
      rw [h] at this
      simp only at this
      omega

set_option maxRecDepth 100000 in
set_option maxHeartbeats 4000000 in
theorem alt_any {w : World} {r R cap pos : Nat} {cur : Array Value} {toks : List Tk} (h : RIn w r R cap cur toks pos) (hend : ∀ t, toks.getLast? = some t → t.kind = 7) :
    Calls Try.prog 50 #[.pointer (some ⟨r, 0, none⟩)] w (RPost (· = r) w r R cap cur toks (altS (toks.drop pos)) (fun x v w' => RAgg (RAlt w' (w.heap.size ≤ ·) x) v)) := by
  have hM := Mk.start h
  have hf1 := field_at
  go_enter Try.func50, Try.ntmps50
  go_wp2_with fail
  have hM1 := hM.alloc (.cells #[.slice none 0 0, .string ⟨#[]⟩, .bool false, .string ⟨#[]⟩, .int .i64 0, .int .i64 0] 47)
  have hD := Blk.new w #[.slice none 0 0, .string ⟨#[]⟩, .bool false, .string ⟨#[]⟩, .int .i64 0, .int .i64 0] 47
  obtain ⟨D, hDe⟩ : ∃ D, D = w.heap.size := ⟨_, rfl⟩
  rw [← hDe] at hD ⊢
  generalize w.alloc (.cells #[.slice none 0 0, .string ⟨#[]⟩, .bool false, .string ⟨#[]⟩, .int .i64 0, .int .i64 0] 47) = w1 at *
  clear hM h
  refine (next_any hM1.rin).mono ?_
  rintro e w2 ⟨rfl, hf⟩
  have hM2 := hM1.still hf
  have hD2 := hD.fr hf id
  clear hM1 hD hf
  go_wp2_with fail
  have hM3 := hM2.alloc (.cells #[.slice none 0 0, .string ⟨#[]⟩, .bool false, .string ⟨#[]⟩, .int .i64 0, .int .i64 (hd (toks.drop pos)).at_] 47)
  have hD3 := hD2.alloc (.cells #[.slice none 0 0, .string ⟨#[]⟩, .bool false, .string ⟨#[]⟩, .int .i64 0, .int .i64 (hd (toks.drop pos)).at_] 47)
  have hT3 := Blk.new w2 #[.slice none 0 0, .string ⟨#[]⟩, .bool false, .string ⟨#[]⟩, .int .i64 0, .int .i64 (hd (toks.drop pos)).at_] 47
  have hDT := hD2.lt
  have hO3 : Own (w2.alloc (.cells #[.slice none 0 0, .string ⟨#[]⟩, .bool false, .string ⟨#[]⟩, .int .i64 0, .int .i64 (hd (toks.drop pos)).at_] 47)) (w2.heap.size + 1) 50 3 (RWord (w2.alloc (.cells #[.slice none 0 0, .string ⟨#[]⟩, .bool false, .string ⟨#[]⟩, .int .i64 0, .int .i64 (hd (toks.drop pos)).at_] 47))) (.slice none 0 0) [] := Own.nil
  generalize w2.alloc (.cells #[.slice none 0 0, .string ⟨#[]⟩, .bool false, .string ⟨#[]⟩, .int .i64 0, .int .i64 (hd (toks.drop pos)).at_] 47) = w3 at *
  clear hM2 hD2
  generalize w2.heap.size = T at *
  obtain ⟨at0, ha0⟩ : ∃ a, a = (hd (toks.drop pos)).at_ := ⟨_, rfl⟩
  rw [← ha0] at hT3 ⊢
  have Ha0 := Lib.hid ha0
  clear ha0
  have hrD := hM3.r0
  obtain ⟨i0, hi0, hz0, hz1, hz2⟩ := info_parts Try.infoWord
  go_loopg [] (toks.length - pos) (fun g wr => ∃ v xs p n, g = toks.length - p ∧ toks.length - p ≤ n ∧ Mk w wr r R cap cur toks p ∧ Blk wr D #[.slice none 0 0, .string ⟨#[]⟩, .bool false, .string ⟨#[]⟩, .int .i64 0, .int .i64 0] 47 ∧ Blk wr T #[v, .string ⟨#[]⟩, .bool false, .string ⟨#[]⟩, .int .i64 0, .int .i64 at0] 47 ∧ Own wr (T + 1) 50 3 (RWord wr) v xs ∧ xs.length ≤ p ∧ Aside (wordsN (toks.drop pos).length (toks.drop pos) = (do let (zs, l2) ← wordsN n (toks.drop p); .ok (xs ++ zs, l2))))
  case atStart =>
    refine ⟨_, [], pos, toks.length - pos, rfl, Nat.le_refl _, hM3, hD3, hT3, hO3, by simp, ?_⟩
    show _ = _
    rw [show (toks.drop pos).length = toks.length - pos by simp]
    cases wordsN (toks.length - pos) (toks.drop pos) <;> rfl
  case round =>
    clear hM3 hD3 hT3 hO3
    obtain ⟨v, xs, p, n, hg, hn, hM, hD, hT, hO, hlen, hA⟩ := hrel
    have Hg := Lib.hid hg
    clear hg
    have hp := hM.rin.hp
    obtain ⟨m, rfl⟩ : ∃ m, n = m + 1 := ⟨n - 1, by omega⟩
    go_wp2_with fail
    refine (is_any hM.rin 2 (Strs.nil _)).mono ?_
    rintro e w9 ⟨rfl, hf9⟩
    have hM9 := hM.still hf9
    have hD9 := hD.fr hf9 id
    have hT9 := hT.fr hf9 id
    have hO9 := hO.fr elemWord hf9 (fun _ _ _ => id)
    clear hM hD hT hO hf9
    cases hq : isK 2 [] (toks.drop p)
    · have HM := Lib.hid (show wordsN (toks.drop pos).length (toks.drop pos) = .ok (xs, toks.drop p) by
        rw [hA.out, wordsN, if_neg (by rw [hq]; decide), exOk, List.append_nil])
      clear hq hA hn hf1
      go_wp2_with fail
      refine (take_lit hM9.rin hend 1 (by decide) (ts := [⟨#[112, 114, 101, 99]⟩]) (n := 1) rfl (by simp) (by simp) rfl rfl).mono ?_
      rintro e w10 ⟨rfl, hf10, hr10⟩
      have hM10 := hM9.step hf10 hr10
      have hD10 := hD9.fr hf10 (by show ¬ D = r; omega)
      have hT10 := hT9.fr hf10 (by show ¬ T = r; omega)
      have hO10 := hO9.fr elemWord hf10 (fun k hk _ e => by have e' : k = r := e; omega)
      clear hM9 hD9 hT9 hO9 hf10 hr10
      obtain ⟨c, hc⟩ : ∃ c, c = isK 1 [⟨#[112, 114, 101, 99]⟩] (toks.drop p) := ⟨_, rfl⟩
      rw [← hc] at hM10 ⊢
      have Hc := Lib.hid hc
      clear hc
      go_upto_if 26 with fail
      go_cut [] from 27 to 29 (fun wx => ∃ pr l2 p6, Aside (precS (toks.drop p) = .ok (pr, l2)) ∧ Mk w wx r R cap cur toks p6 ∧ Aside (toks.drop p6 = l2) ∧ Blk wx D #[.slice none 0 0, .string ⟨#[]⟩, .bool false, .string ⟨#[]⟩, .int .i64 0, .int .i64 0] 47 ∧ Blk wx T #[v, .string pr, .bool false, .string ⟨#[]⟩, .int .i64 0, .int .i64 at0] 47 ∧ Own wx (T + 1) 50 3 (RWord wx) v xs)
      case first =>
        cases c
        · go_wp2_with fail
          go_meet
          exact ⟨⟨#[]⟩, toks.drop p, p, (by show _ = _; rw [precS, if_neg (by rw [← Hc.out]; decide)]), by simpa using hM10, rfl, hD10, hT10, hO10⟩
        · have HP := Lib.hid (show precS (toks.drop p) = nameS (toks.drop (p + 1)) by rw [precS, if_pos Hc.out.symm, take_drop_tail])
          have hM10' : Mk w w10 r R cap cur toks (p + 1) := by simpa using hM10
          clear hM10
          go_wp2_with fail
          refine RPost.call (name_tok hM10'.rin hend) ?_ ?_
          · intro w11 n a H1 hf11
            refine ⟨rfl, RPost.bad ?_ (hM10'.fin.trans hf11) rfl⟩
            unfold altS
            rw [HM.out, exOk]
            simp only [HP.out, H1.out, exErr]
          intro w11 x l1 vx p11 H1 hf11 hvx hr11 H2
          subst hvx
          have hM11 := hM10'.step hf11 hr11
          have hD11 := hD10.fr hf11 (by show ¬ D = r; omega)
          have hT11 := hT10.fr hf11 (by show ¬ T = r; omega)
          have hO11 := hO10.fr elemWord hf11 (fun k hk _ e => by have e' : k = r := e; omega)
          have t0 := hT11.cell 1 rfl
          have t1 := hT11.frozen 1
          go_wp2_with fail
          go_meet
          exact ⟨x, l1, p11, (by show _ = _; rw [HP.out, H1.out]), hM11.far (p := ⟨T, 1, none⟩) (by show w.heap.size ≤ T; omega) _, H2.out, hD11.far (p := ⟨T, 1, none⟩) (by show T ≠ D; omega) _, hT11.set 1 _ rfl, hO11.far elemWord (p := ⟨T, 1, none⟩) (by show T < T + 1; omega) _⟩
      case rest =>
        obtain ⟨pr, l2, p6, HP, hM6, H6, hD6, hT6, hO6⟩ := hcut
        clear hM10 hD10 hT10 hO10 Hc
        have HA := Lib.hid (show altS (toks.drop pos) = .ok (actR xs pr at0 (toks.drop p6)) by
          unfold altS
          rw [HM.out, exOk]
          simp only [HP.out, exOk, Ha0.out, H6.out])
        clear HM HP H6
        generalize wc = w11 at *
        have hf1 := field_at
        go_wp2_with fail
        refine (next_any hM6.rin).mono ?_
        rintro e w12 ⟨rfl, hf12⟩
        have hH := Blk.new w12 #[.int .u8 (hd (toks.drop p6)).kind, .string (hd (toks.drop p6)).text, .int .i64 (hd (toks.drop p6)).at_] 103
        have hM12 := (hM6.still hf12).alloc (.cells #[.int .u8 (hd (toks.drop p6)).kind, .string (hd (toks.drop p6)).text, .int .i64 (hd (toks.drop p6)).at_] 103)
        have hD12 := (hD6.fr hf12 id).alloc (.cells #[.int .u8 (hd (toks.drop p6)).kind, .string (hd (toks.drop p6)).text, .int .i64 (hd (toks.drop p6)).at_] 103)
        have hT12 := (hT6.fr hf12 id).alloc (.cells #[.int .u8 (hd (toks.drop p6)).kind, .string (hd (toks.drop p6)).text, .int .i64 (hd (toks.drop p6)).at_] 103)
        have hO12 := (hO6.fr elemWord hf12 (fun _ _ _ => id)).fr elemWord ((Fr.refl (fun _ => False) w12).alloc (.cells #[.int .u8 (hd (toks.drop p6)).kind, .string (hd (toks.drop p6)).text, .int .i64 (hd (toks.drop p6)).at_] 103)) (fun _ _ _ => id)
        have hTH : T < w12.heap.size := (hT6.fr hf12 id).lt
        have hDH : D < w12.heap.size := (hD6.fr hf12 id).lt
        have hOH := hO12.blk
        clear hM6 hD6 hT6 hO6 hf12
        go_wp2_with fail
        generalize w12.alloc (.cells #[.int .u8 (hd (toks.drop p6)).kind, .string (hd (toks.drop p6)).text, .int .i64 (hd (toks.drop p6)).at_] 103) = w13 at *
        generalize w12.heap.size = H at *
        refine (take_any hM12.rin hend 9 (by decide) (Strs.nil _)).mono ?_
        rintro e w14 ⟨rfl, hf14, hr14⟩
        have hH14 := hH.fr hf14 (by show ¬ H = r; omega)
        have hM14 := hM12.step hf14 hr14
        have hD14 := hD12.fr hf14 (by show ¬ D = r; omega)
        have hT14 := hT12.fr hf14 (by show ¬ T = r; omega)
        have hO14 := hO12.fr elemWord hf14 (fun k hk _ e => by have e' : k = r := e; omega)
        clear hM12 hD12 hT12 hO12 hf14 hr14 hH
        have hR := hO14.all elemWord (by decide)
        obtain ⟨sa, sc, hv⟩ := hR.form
        subst hv
        cases hq : isK 9 [] (toks.drop p6)
        · have HF := Lib.hid (show altS (toks.drop pos) = .ok (⟨xs, pr, false, ⟨#[]⟩, 0, at0⟩, toks.drop p6) by rw [HA.out, actR, if_neg (by rw [hq]; decide)])
          have hMz : Mk w w14 r R cap cur toks p6 := by simpa [hq] using hM14
          clear hq HA hM14
          obtain ⟨hDz, hTz, hRz⟩ := And.intro hD14 (And.intro hT14 hR)
          clear hD14 hT14 hR
          generalize w14 = wz at *
          rw [hDe] at hDz
          have a0 := hTz.cell 0 rfl
          have a1 := hTz.cell 1 rfl
          have a2 := hTz.cell 2 rfl
          have a3 := hTz.cell 3 rfl
          have a4 := hTz.cell 4 rfl
          have a5 := hTz.cell 5 rfl
          have d0 := hDz.cell 0 rfl
          have d1 := hDz.cell 1 rfl
          have d2 := hDz.cell 2 rfl
          have d3 := hDz.cell 3 rfl
          have d4 := hDz.cell 4 rfl
          have d5 := hDz.cell 5 rfl
          have e0 := hDz.frozen 0
          have e1 := hDz.frozen 1
          have e2 := hDz.frozen 2
          have e3 := hDz.frozen 3
          have e4 := hDz.frozen 4
          have e5 := hDz.frozen 5
          have hMF := (((((hMz.far (p := ⟨w.heap.size, 0, none⟩) (Nat.le_refl _) (.slice sa xs.length sc)).far (p := ⟨w.heap.size, 1, none⟩) (Nat.le_refl _) (.string pr)).far (p := ⟨w.heap.size, 2, none⟩) (Nat.le_refl _) (.bool false)).far (p := ⟨w.heap.size, 3, none⟩) (Nat.le_refl _) (.string ⟨#[]⟩)).far (p := ⟨w.heap.size, 4, none⟩) (Nat.le_refl _) (.int .i64 0)).far (p := ⟨w.heap.size, 5, none⟩) (Nat.le_refl _) (.int .i64 at0)
          have hFF := ((((((Fr.refl (· = D) wz).setCell (p := ⟨w.heap.size, 0, none⟩) (fun _ => by show w.heap.size = D; omega) (.slice sa xs.length sc)).setCell (p := ⟨w.heap.size, 1, none⟩) (fun _ => by show w.heap.size = D; omega) (.string pr)).setCell (p := ⟨w.heap.size, 2, none⟩) (fun _ => by show w.heap.size = D; omega) (.bool false)).setCell (p := ⟨w.heap.size, 3, none⟩) (fun _ => by show w.heap.size = D; omega) (.string ⟨#[]⟩)).setCell (p := ⟨w.heap.size, 4, none⟩) (fun _ => by show w.heap.size = D; omega) (.int .i64 0)).setCell (p := ⟨w.heap.size, 5, none⟩) (fun _ => by show w.heap.size = D; omega) (.int .i64 at0)
          have hRF := (hRz.fr hFF (fun k hk _ e => by have e' : k = D := e; omega) (fun x cs h => elemWord.fr h hFF (fun k hk _ e => by have e' : k = D := e; omega))).mono (Q := (w.heap.size ≤ ·)) (E' := RWord _ (w.heap.size ≤ ·)) (fun k hk _ => by omega) (fun x cs h => elemWord.mono h (fun k hk _ => by omega))
          have hDF := (((((hDz.set 0 (.slice sa xs.length sc) rfl).set 1 (.string pr) rfl).set 2 (.bool false) rfl).set 3 (.string ⟨#[]⟩) rfl).set 4 (.int .i64 0) rfl).set 5 (.int .i64 at0) rfl
          go_wp2_with fail
          have f0 := hDF.cell 0 rfl
          have f1 := hDF.cell 1 rfl
          have f2 := hDF.cell 2 rfl
          have f3 := hDF.cell 3 rfl
          have f4 := hDF.cell 4 rfl
          have f5 := hDF.cell 5 rfl
          refine bodyPost_ret (v := .agg #[.slice sa xs.length sc, .string pr, .bool false, .string ⟨#[]⟩, .int .i64 0, .int .i64 at0]) (by simp [results, Try.results50, go_sem, f0, f1, f2, f3, f4, f5]) rfl (RPost.good HF.out hMF.fin rfl ?_ hMF.rin rfl)
          exact ⟨_, rfl, _, rfl, hRF⟩
        · have HF := Lib.hid (show altS (toks.drop pos) = .ok (⟨xs, pr, true, (hd (toks.drop p6)).text, wrap64 ((hd (toks.drop p6)).at_ + 1), at0⟩, toks.drop (p6 + 1)) by rw [HA.out, actR, if_pos hq, take_drop_tail])
          have hM15 : Mk w w14 r R cap cur toks (p6 + 1) := by simpa [hq] using hM14
          clear hq HA hM14
          have h1 := hH14.cell 1 rfl
          have h2 := hH14.cell 2 rfl
          have t2 := hT14.cell 2 rfl
          have t3 := hT14.cell 3 rfl
          have t4 := hT14.cell 4 rfl
          have u2 := hT14.frozen 2
          have u3 := hT14.frozen 3
          have u4 := hT14.frozen 4
          have hTne : H ≠ T := by omega
          have hFZ := ((((Fr.refl (· = T) w14).setCell (p := ⟨T, 2, none⟩) (fun _ => rfl) (.bool true)).setCell (p := ⟨T, 3, none⟩) (fun _ => rfl) (.string (hd (toks.drop p6)).text)).setCell (p := ⟨T, 4, none⟩) (fun _ => rfl) (.int .i64 (wrap64 ((hd (toks.drop p6)).at_ + 1)))).drew
          have hMz := (((hM15.far (p := ⟨T, 2, none⟩) (by show w.heap.size ≤ T; omega) (.bool true)).far (p := ⟨T, 3, none⟩) (by show w.heap.size ≤ T; omega) (.string (hd (toks.drop p6)).text)).far (p := ⟨T, 4, none⟩) (by show w.heap.size ≤ T; omega) (.int .i64 (wrap64 ((hd (toks.drop p6)).at_ + 1)))).drew
          have hTz : Blk (((w14.setCell ⟨T, 2, none⟩ (.bool true)).setCell ⟨T, 3, none⟩ (.string (hd (toks.drop p6)).text)).setCell ⟨T, 4, none⟩ (.int .i64 (wrap64 ((hd (toks.drop p6)).at_ + 1)))).drew T #[.slice sa xs.length sc, .string pr, .bool true, .string (hd (toks.drop p6)).text, .int .i64 (wrap64 ((hd (toks.drop p6)).at_ + 1)), .int .i64 at0] 47 := (((hT14.set 2 (.bool true) rfl).set 3 (.string (hd (toks.drop p6)).text) rfl).set 4 (.int .i64 (wrap64 ((hd (toks.drop p6)).at_ + 1))) rfl).fr ((Fr.refl (fun _ => False) _).drew) id
          have hDz := hD14.fr hFZ (by show ¬ D = T; omega)
          have hRz := hR.fr hFZ (fun k hk _ e => by have e' : k = T := e; omega) (fun x cs h => elemWord.fr h hFZ (fun k hk _ e => by have e' : k = T := e; omega))
          clear hM15 hT14 hD14 hR hFZ hH14
          go_wp2_with fail
          go_region
          generalize (((w14.setCell ⟨T, 2, none⟩ (.bool true)).setCell ⟨T, 3, none⟩ (.string (hd (toks.drop p6)).text)).setCell ⟨T, 4, none⟩ (.int .i64 (wrap64 ((hd (toks.drop p6)).at_ + 1)))).drew = wz at *
          clear h1 h2 t2 t3 t4 u2 u3 u4
          generalize wrap64 (((hd (toks.drop p6)).at_ : Int) + 1) = wh at *
          rw [hDe] at hDz
          have a0 := hTz.cell 0 rfl
          have a1 := hTz.cell 1 rfl
          have a2 := hTz.cell 2 rfl
          have a3 := hTz.cell 3 rfl
          have a4 := hTz.cell 4 rfl
          have a5 := hTz.cell 5 rfl
          have d0 := hDz.cell 0 rfl
          have d1 := hDz.cell 1 rfl
          have d2 := hDz.cell 2 rfl
          have d3 := hDz.cell 3 rfl
          have d4 := hDz.cell 4 rfl
          have d5 := hDz.cell 5 rfl
          have e0 := hDz.frozen 0
          have e1 := hDz.frozen 1
          have e2 := hDz.frozen 2
          have e3 := hDz.frozen 3
          have e4 := hDz.frozen 4
          have e5 := hDz.frozen 5
          have hMF := (((((hMz.far (p := ⟨w.heap.size, 0, none⟩) (Nat.le_refl _) (.slice sa xs.length sc)).far (p := ⟨w.heap.size, 1, none⟩) (Nat.le_refl _) (.string pr)).far (p := ⟨w.heap.size, 2, none⟩) (Nat.le_refl _) (.bool true)).far (p := ⟨w.heap.size, 3, none⟩) (Nat.le_refl _) (.string (hd (toks.drop p6)).text)).far (p := ⟨w.heap.size, 4, none⟩) (Nat.le_refl _) (.int .i64 wh)).far (p := ⟨w.heap.size, 5, none⟩) (Nat.le_refl _) (.int .i64 at0)
          have hFF := ((((((Fr.refl (· = D) wz).setCell (p := ⟨w.heap.size, 0, none⟩) (fun _ => by show w.heap.size = D; omega) (.slice sa xs.length sc)).setCell (p := ⟨w.heap.size, 1, none⟩) (fun _ => by show w.heap.size = D; omega) (.string pr)).setCell (p := ⟨w.heap.size, 2, none⟩) (fun _ => by show w.heap.size = D; omega) (.bool true)).setCell (p := ⟨w.heap.size, 3, none⟩) (fun _ => by show w.heap.size = D; omega) (.string (hd (toks.drop p6)).text)).setCell (p := ⟨w.heap.size, 4, none⟩) (fun _ => by show w.heap.size = D; omega) (.int .i64 wh)).setCell (p := ⟨w.heap.size, 5, none⟩) (fun _ => by show w.heap.size = D; omega) (.int .i64 at0)
          have hRF := (hRz.fr hFF (fun k hk _ e => by have e' : k = D := e; omega) (fun x cs h => elemWord.fr h hFF (fun k hk _ e => by have e' : k = D := e; omega))).mono (Q := (w.heap.size ≤ ·)) (E' := RWord _ (w.heap.size ≤ ·)) (fun k hk _ => by omega) (fun x cs h => elemWord.mono h (fun k hk _ => by omega))
          have hDF := (((((hDz.set 0 (.slice sa xs.length sc) rfl).set 1 (.string pr) rfl).set 2 (.bool true) rfl).set 3 (.string (hd (toks.drop p6)).text) rfl).set 4 (.int .i64 wh) rfl).set 5 (.int .i64 at0) rfl
          go_wp2_with fail
          have f0 := hDF.cell 0 rfl
          have f1 := hDF.cell 1 rfl
          have f2 := hDF.cell 2 rfl
          have f3 := hDF.cell 3 rfl
          have f4 := hDF.cell 4 rfl
          have f5 := hDF.cell 5 rfl
          refine bodyPost_ret (v := .agg #[.slice sa xs.length sc, .string pr, .bool true, .string (hd (toks.drop p6)).text, .int .i64 wh, .int .i64 at0]) (by simp [results, Try.results50, go_sem, f0, f1, f2, f3, f4, f5]) rfl (RPost.good HF.out hMF.fin rfl ?_ hMF.rin rfl)
          exact ⟨_, rfl, _, rfl, hRF⟩
    · have HM := Lib.hid (show wordsN (toks.drop pos).length (toks.drop pos) = (do let (x, l1) ← wordN 61 (toks.drop p); let (zs, l2) ← wordsN m l1; .ok (xs ++ (x :: zs), l2)) by
        rw [hA.out, wordsN, if_pos hq]
        cases wordN 61 (toks.drop p) with
        | error e => rfl
        | ok xl =>
          obtain ⟨y, l3⟩ := xl
          simp only [exOk]
          cases wordsN m l3 <;> rfl)
      clear hq hA
      go_wp2_with fail
      have hMd := hM9.drew
      have hTd : Blk w9.drew T _ _ := hT9
      have hDd : Blk w9.drew D _ _ := hD9
      have hOd : Own w9.drew (T + 1) 50 3 (RWord w9.drew) v xs := hO9.fr elemWord (Fr.refl (fun _ => False) w9).drew (fun _ _ _ => id)
      have hvb : ∀ i, v.ownBlock = some i → T + 1 ≤ i := fun i hi => (hO9.blk i hi).1
      have hTl := hT9.lt
      have hl5 := hM9.rin.hl
      have t0 := hT9.cell 0 rfl
      go_region_law (first
        | (go_simp
           go_at_call 66
           refine RPost.call (word_any hend 61 0 hMd.rin rfl (by omega)) (fun w8 m a H4 hf8 => ⟨rfl, RPost.bad (by unfold altS; rw [HM.out, H4.out]; rfl) (hMd.fin.trans hf8) rfl⟩) ?_
           intro w11 x l11 v11 p11 H6 hf11 hv11 hr11 H7
           obtain ⟨cs8, rfl, hw8⟩ := hv11
           obtain ⟨n8, a8, m8, c8, k8, rfl⟩ := hw8.form
           have hM11 := hMd.step hf11 hr11
           have hD11 := hDd.fr hf11 (by show ¬ D = r; omega)
           have hT11 := hTd.fr hf11 (by show ¬ T = r; omega)
           have ta := hT11.cell 0 rfl
           have hT11l := hT11.lt
           have tb := (hT11.alloc (.cells #[.string n8, .slice a8 m8 c8, .int .i64 k8] 50)).cell 0 rfl
           obtain ⟨L, hL, ho11, hfin⟩ := Own.snoc elemWord hOd hf11 (fun k hk _ e => by have e' : k = r := e; omega) (by have : T < w9.drew.heap.size := hTl; omega) hw8 rfl ((Fr.refl (fun _ => False) w11).alloc (.cells #[.string n8, .slice a8 m8 c8, .int .i64 k8] 50)))
        | (refine step_append_lies _ (by rfl) _ _ _ (by rfl) (T + 1) 50 i0 _ 3 48 Try.underlying45 hi0 hz0 hz1 hz2 rfl (by omega) v xs.length L.flatten (by rfl) ho11 ⟨w11.heap.size, 0, none⟩ 1 1 [.string n8, .slice a8 m8 c8, .int .i64 k8] (by rfl) (by rfl)
            (World.news_of_block (cs := #[.string n8, .slice a8 m8 c8, .int .i64 k8]) (t := 50) (fr := (0, 0)) (heap_alloc_new w11 _)) (by simp [Value.oneCell']) (by omega) (by unfold maxLen; omega) (by omega) (by simp; omega) (w11.heap.size + 1) (by simp) ?_
           intro gg cp w12 hown1 hgrow hat hlt
           have hG := grown_all elemWord hM11 hT11 hD11 hDT (by omega) hgrow hvb 0 (.slice (some ⟨gg, 0, none⟩) (xs.length + 1) cp) rfl (hfin hown1 hgrow (by simpa using hat))
           have t2 := ((hT11.alloc _).grown hgrow (fun e => by have := hvb T e.symm; omega)).cell 0 rfl
           have t3 := ((hT11.alloc _).grown hgrow (fun e => by have := hvb T e.symm; omega)).frozen 0))
      all_goals
        obtain ⟨g1, g2, g3, g4⟩ := hG
        have hwl := wordN_len H6.out
        have hp11 : toks.length - p11 + 1 ≤ toks.length - p := by
          rw [← H7.out] at hwl
          simp at hwl
          have := g1.rin.hp
          omega
        have hp12 := g1.rin.hp
        have HX := Lib.hid (show wordsN (toks.drop pos).length (toks.drop pos) = (do let (zs, l2) ← wordsN m (toks.drop p11); .ok ((xs ++ [x]) ++ zs, l2)) by
          rw [HM.out, H6.out, exOk, H7.out]
          simp only
          cases wordsN m l11 <;> simp [exOk, exErr])
        clear HM hwl
        go_wp2_with fail
        go_roundg (toks.length - p11)
        case measure => have := Hg.out; omega
        case rel => exact ⟨_, xs ++ [x], p11, m, rfl, by omega, g1, g3, g2, g4, by simp; omega, HX⟩
end Go.Proofs.Ytejpmdlokmlmeaa
