/- Parts in a row, and parts in brackets: what they give, in plain Lean, and the walk, whatever reads a part. Conditions: the reader's block over a row of tokens, at a place within; the part's contract. -/
import Derived.Test.YtejpmdlokmlmeaaReadD
set_option linter.unusedVariables false
set_option linter.unusedSimpArgs false
namespace Go.Proofs.Ytejpmdlokmlmeaa
open Go.RowKit

theorem mustS_len {k : Nat} {ts : List ByteArray} {l l' : List Tk} {x : ByteArray} (h : mustS k ts l = .ok (x, l')) : l'.length ≤ l.length := by
  unfold mustS at h
  split at h
  · cases h; simp
  · cases h
theorem drop_le {toks l' : List Tk} {p p' : Nat} (hp : p' < toks.length) (h : toks.drop p' = l') (hl : l'.length ≤ (toks.drop p).length) : p ≤ p' := by
  rw [← h] at hl
  simp at hl
  omega
section
variable {α : Type}
/-- More parts, each behind a sign. -/
def moreN (b : ByteArray) (part : List Tk → RE (α × List Tk)) : Nat → List Tk → RE (List α × List Tk)
  | 0, l => .ok ([], l)
  | n + 1, l => if isK 6 [b] l then do
      let (x, l1) ← part l.tail
      let (xs, l2) ← moreN b part n l1
      .ok (x :: xs, l2)
    else .ok ([], l)
def listS (b : ByteArray) (part : List Tk → RE (α × List Tk)) (l : List Tk) : RE (List α × List Tk) := do
  let (x, l1) ← part l
  let (xs, l2) ← moreN b part l1.length l1
  .ok (x :: xs, l2)
def givenS (part : List Tk → RE (α × List Tk)) (l : List Tk) : RE (List α × List Tk) :=
  if isK 6 [⟨#[40]⟩] l then do
    let (xs, l1) ← listS ⟨#[44]⟩ part l.tail
    let (_, l2) ← mustS 6 [⟨#[41]⟩] l1
    .ok (xs, l2)
  else .ok ([], l)
/-- How a part's reader ends, and what stands then. -/
def LPost (S : Nat → Prop) (Inv : World → Nat → List α → Prop) (toks : List Tk) (w : World) (xs : List α) (res : RE (List α × List Tk)) (e : Ending) (w' : World) : Prop :=
  Fr S w w' ∧ match res with
    | .error (n, a) => e = .panicked (readPanic n a)
    | .ok (ys, l) => e = .returned (.tuple #[]) ∧ ∃ p, toks.drop p = l ∧ Inv w' p (xs ++ ys)
def oneS (part : List Tk → RE (α × List Tk)) (l : List Tk) : RE (List α × List Tk) := do
  let (x, l1) ← part l
  .ok ([x], l1)
structure PartOk (r R cap : Nat) (cur : Array Value) (toks : List Tk) (k : Nat) (caps : Array Value) (S : Nat → Prop) (Inv : World → Nat → List α → Prop) (part : List Tk → RE (α × List Tk)) : Prop where
  call : ∀ {w : World} {p : Nat} {xs : List α}, Inv w p xs → xs.length ≤ p → Calls Try.prog k caps w (LPost S Inv toks w xs (oneS part (toks.drop p)))
  rin : ∀ {w : World} {p : Nat} {xs : List α}, Inv w p xs → RIn w r R cap cur toks p
  step : ∀ {w w' : World} {p p' : Nat} {xs : List α}, Inv w p xs → Fr (· = r) w w' → RIn w' r R cap cur toks p' → p ≤ p' → Inv w' p' xs
  len : ∀ {l : List Tk} {x : α} {l' : List Tk}, part l = .ok (x, l') → l'.length ≤ l.length
  sr : S r
  eg : ∀ args w, (callFunc k args).run Try.prog w = .ok (.enter k args) w
end

section
variable {α : Type} {S : Nat → Prop} {Inv : World → Nat → List α → Prop} {toks : List Tk} {w w1 : World} {xs : List α} {res : RE (List α × List Tk)}
theorem LPost.call {P : Program} {f : Nat} {args : Array Value} {M : Ending → World → Prop} (hc : Calls P f args w1 (LPost S Inv toks w xs res))
    (bad : ∀ w' n a, Hid (res = .error (n, a)) → Fr S w w' → M (.panicked (readPanic n a)) w')
    (good : ∀ w' ys l p, Hid (res = .ok (ys, l)) → Fr S w w' → Inv w' p (xs ++ ys) → Hid (toks.drop p = l) → M (.returned (.tuple #[])) w') : Calls P f args w1 M :=
  hc.mono (fun e w' hp => by
    obtain ⟨hf, hp⟩ := hp
    cases hq : res with
    | error na =>
      obtain ⟨n, a⟩ := na
      rw [hq] at hp
      simp only at hp
      subst hp
      exact bad w' n a (Lib.hid hq) hf
    | ok yl =>
      obtain ⟨ys, l⟩ := yl
      rw [hq] at hp
      obtain ⟨rfl, p, hl, hi⟩ := hp
      exact good w' ys l p (Lib.hid hq) hf hi (Lib.hid hl))
theorem LPost.bad {e : Ending} {n a : Int} (h : res = .error (n, a)) (hf : Fr S w w1) (he : e = .panicked (readPanic n a)) : LPost S Inv toks w xs res e w1 := by
  unfold LPost; rw [h]; exact ⟨hf, he⟩
theorem LPost.good {e : Ending} {ys : List α} {l : List Tk} {p : Nat} (h : res = .ok (ys, l)) (hf : Fr S w w1) (he : e = .returned (.tuple #[])) (hl : toks.drop p = l) (hi : Inv w1 p (xs ++ ys)) : LPost S Inv toks w xs res e w1 := by
  unfold LPost; rw [h]; exact ⟨hf, he, p, hl, hi⟩
theorem oneS_ok {part : List Tk → RE (α × List Tk)} {l l1 : List Tk} {ys : List α} (h : oneS part l = .ok (ys, l1)) : ∃ x, ys = [x] ∧ part l = .ok (x, l1) := by
  unfold oneS at h
  cases hp : part l with
  | error e => rw [hp] at h; cases h
  | ok xl => obtain ⟨x, l2⟩ := xl; rw [hp] at h; cases h; exact ⟨x, rfl, rfl⟩
theorem oneS_err {part : List Tk → RE (α × List Tk)} {l : List Tk} {e : Int × Int} (h : oneS part l = .error e) : part l = .error e := by
  unfold oneS at h
  cases hp : part l with
  | error e' => rw [hp] at h; cases h; rfl
  | ok xl => rw [hp] at h; cases h
end

set_option maxRecDepth 100000 in
set_option maxHeartbeats 1000000 in
theorem list_any {α : Type} {w : World} {r R cap pos k : Nat} {cur caps : Array Value} {toks : List Tk} {S : Nat → Prop} {Inv : World → Nat → List α → Prop} {part : List Tk → RE (α × List Tk)} {xs : List α}
    (H : PartOk r R cap cur toks k caps S Inv part) (h : Inv w pos xs) (hx : xs.length ≤ pos) (hend : ∀ t, toks.getLast? = some t → t.kind = 7) (b : ByteArray) :
    Calls Try.prog 48 #[.pointer (some ⟨r, 0, none⟩), .string b, .func (.func k) #[] caps] w (LPost S Inv toks w xs (listS b part (toks.drop pos))) := by
  have eg := H.eg
  have hsr := Lib.hid (fun k (e : k = r) => show S k from e ▸ H.sr)
  go_enter Try.func48, Try.ntmps48
  go_wp2_with fail
  refine LPost.call (H.call h hx) ?_ ?_
  · intro w1 n a H1 hf1
    refine ⟨rfl, LPost.bad ?_ hf1 rfl⟩
    unfold listS
    rw [oneS_err H1.out, exErr]
  intro w1 ys l1 p1 H1 hf1 hi1 H2
  obtain ⟨x, rfl, h3⟩ := oneS_ok H1.out
  have HL : Aside (listS b part (toks.drop pos) = (do let (zs, l2) ← moreN b part (toks.length - p1) (toks.drop p1); .ok ([x] ++ zs, l2))) := by
    show _ = _
    unfold listS
    rw [h3, exOk]
    have : l1.length = toks.length - p1 := by rw [← H2.out]; simp
    simp only [this, H2.out]
    rfl
  have hl1 : pos ≤ p1 := drop_le (H.rin hi1).hp H2.out (H.len h3)
  clear h3 H1 H2
  go_wp2_with fail
  go_loopg [] (toks.length - p1) (fun g wr => ∃ p ys n, g = toks.length - p ∧ toks.length - p ≤ n ∧ xs.length + ys.length ≤ p + 1 ∧ Fr S w wr ∧ Inv wr p (xs ++ ys) ∧ Aside (listS b part (toks.drop pos) = (do let (zs, l2) ← moreN b part n (toks.drop p); .ok (ys ++ zs, l2))))
  case atStart => exact ⟨p1, [x], toks.length - p1, rfl, Nat.le_refl _, by simp; omega, hf1, hi1, HL⟩
  case round =>
    clear hi1 HL hf1
    obtain ⟨p, ys, n, hg, hn, hxy, hf, hi, HL⟩ := hrel
    have Hg := Lib.hid hg
    clear hg
    have hp := (H.rin hi).hp
    obtain ⟨m, rfl⟩ : ∃ m, n = m + 1 := ⟨n - 1, by omega⟩
    go_wp2_with fail
    refine (take_lit (H.rin hi) hend 6 (by decide) (ts := [b]) (n := 1) rfl (by simp) (by simp) rfl rfl).mono ?_
    rintro e w2 ⟨rfl, hf2, hr2⟩
    cases hq : isK 6 [b] (toks.drop p)
    · rw [hq] at hr2
      have HM := Lib.hid (show listS b part (toks.drop pos) = .ok (ys ++ [], toks.drop p) by rw [HL.out, moreN, if_neg (by rw [hq]; decide), exOk])
      clear hq
      go_wp2_with fail
      go_end0
      exact LPost.good HM.out (hf.trans (hf2.mono (fun k _ e => hsr.out k e))) rfl rfl (by rw [List.append_nil]; exact H.step hi hf2 hr2 (by simp))
    · rw [hq, if_pos rfl] at hr2
      have HM := Lib.hid (show listS b part (toks.drop pos) = (do let (x, l1) ← part (toks.drop (p + 1)); let (xs, l2) ← moreN b part m l1; .ok (ys ++ (x :: xs), l2)) by
        rw [HL.out, moreN, if_pos hq, take_drop_tail]
        cases part (toks.drop p).tail with
        | error e => rfl
        | ok xl =>
          obtain ⟨y, l3⟩ := xl
          simp only [exOk]
          cases moreN b part m l3 <;> rfl)
      clear hq HL
      have hi2 := H.step hi hf2 hr2 (by omega)
      have hf3 := hf.trans (hf2.mono (fun k _ e => hsr.out k e))
      clear hi hf
      go_wp2_with fail
      refine LPost.call (H.call hi2 (by rw [List.length_append]; omega)) ?_ ?_
      · intro w4 n a H4 hf4
        refine ⟨rfl, LPost.bad ?_ (hf3.trans hf4) rfl⟩
        rw [HM.out, show part (toks.drop (p + 1)) = .error (n, a) from oneS_err H4.out, exErr]
      intro w4 zs l4 p4 H4 hf4 hi4 H5
      obtain ⟨y, rfl, h6⟩ := oneS_ok H4.out
      have hlen := H.len h6
      have hp4 := (H.rin hi4).hp
      have hl4 : toks.length - p4 ≤ toks.length - (p + 1) := by
        rw [← H5.out] at hlen
        simpa using hlen
      have HX := Lib.hid (show listS b part (toks.drop pos) = (do let (zs, l2) ← moreN b part m (toks.drop p4); .ok ((ys ++ [y]) ++ zs, l2)) by
        rw [HM.out, h6, H5.out]
        simp only [exOk]
        cases moreN b part m l4 <;> simp [exOk, exErr])
      clear h6 H4 HM
      go_wp2_with fail
      go_roundg (toks.length - p4)
      case measure => have := Hg.out; omega
      case rel => exact ⟨p4, ys ++ [y], m, rfl, by omega, by rw [List.length_append, List.length_singleton]; omega, hf3.trans hf4, by rw [← List.append_assoc]; exact hi4, HX⟩
set_option maxRecDepth 100000 in
set_option maxHeartbeats 1000000 in
theorem given_any {α : Type} {w : World} {r R cap pos k : Nat} {cur caps : Array Value} {toks : List Tk} {S : Nat → Prop} {Inv : World → Nat → List α → Prop} {part : List Tk → RE (α × List Tk)} {xs : List α}
    (H : PartOk r R cap cur toks k caps S Inv part) (h : Inv w pos xs) (hx : xs.length ≤ pos) (hend : ∀ t, toks.getLast? = some t → t.kind = 7) :
    Calls Try.prog 46 #[.pointer (some ⟨r, 0, none⟩), .func (.func k) #[] caps] w (LPost S Inv toks w xs (givenS part (toks.drop pos))) := by
  have hsr := Lib.hid (fun k (e : k = r) => show S k from e ▸ H.sr)
  go_enter Try.func46, Try.ntmps46
  go_wp2_with fail
  refine (take_lit (H.rin h) hend 6 (by decide) (ts := [⟨#[40]⟩]) (n := 1) rfl (by simp) (by simp) rfl rfl).mono ?_
  rintro e w2 ⟨rfl, hf2, hr2⟩
  have hf2' := hf2.mono (fun k _ e => hsr.out k e)
  cases hq : isK 6 [⟨#[40]⟩] (toks.drop pos)
  · rw [hq] at hr2
    have HM := Lib.hid (show givenS part (toks.drop pos) = .ok ([], toks.drop pos) by rw [givenS, if_neg (by rw [hq]; decide)])
    clear hq
    go_wp2_with fail
    go_end0
    exact LPost.good HM.out hf2' rfl rfl (by rw [List.append_nil]; exact H.step h hf2 hr2 (by simp))
  · rw [hq, if_pos rfl] at hr2
    have HM := Lib.hid (show givenS part (toks.drop pos) = (do let (xs, l1) ← listS ⟨#[44]⟩ part (toks.drop (pos + 1)); let (_, l2) ← mustS 6 [⟨#[41]⟩] l1; .ok (xs, l2)) by
      rw [givenS, if_pos hq, take_drop_tail])
    clear hq
    have hi2 := H.step h hf2 hr2 (by omega)
    clear h
    go_wp2_with fail
    refine LPost.call (list_any H hi2 (by omega) hend ⟨#[44]⟩) ?_ ?_
    · intro w4 n a H4 hf4
      refine ⟨rfl, LPost.bad ?_ (hf2'.trans hf4) rfl⟩
      rw [HM.out, show listS ⟨#[44]⟩ part (toks.drop (pos + 1)) = .error (n, a) from H4.out, exErr]
    intro w4 ys l4 p4 H4 hf4 hi4 H5
    go_wp2_with fail
    refine RPost.call (must_lit (H.rin hi4) hend 6 (by decide) (ts := [⟨#[41]⟩]) (n := 1) rfl (by decide) (by decide) rfl rfl) ?_ ?_
    · intro w5 n a H6 hf5
      refine ⟨rfl, LPost.bad ?_ ((hf2'.trans hf4).trans (hf5.mono (fun k _ e => hsr.out k e))) rfl⟩
      rw [HM.out, show listS ⟨#[44]⟩ part (toks.drop (pos + 1)) = .ok (ys, l4) from H4.out, exOk]
      rw [H5.out] at H6
      simp only [H6.out, exErr]
    intro w5 x5 l5 v5 p5 H6 hf5 hv5 hr5 H7
    go_wp2_with fail
    go_end0
    refine LPost.good ?_ ((hf2'.trans hf4).trans (hf5.mono (fun k _ e => hsr.out k e))) rfl H7.out (H.step hi4 hf5 hr5 (drop_le hr5.hp H7.out (by rw [H5.out]; exact mustS_len (by rw [← H5.out]; exact H6.out))))
    rw [HM.out, show listS ⟨#[44]⟩ part (toks.drop (pos + 1)) = .ok (ys, l4) from H4.out, exOk]
    rw [H5.out] at H6
    simp only [H6.out, exOk]
end Go.Proofs.Ytejpmdlokmlmeaa
