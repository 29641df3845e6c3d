/- What the reader of tokens makes of a text that is put together of tokens. No condition, no program. -/
import Derived.Test.YtejpmdlokmlmeaaWriteJ
import Derived.Test.YtejpmdlokmlmeaaReadM
import Derived.Test.YtejpmdlokmlmeaaKitC
import Derived.Test.YtejpmdlokmlmeaaKitE
set_option linter.unusedVariables false
set_option linter.unusedSimpArgs false
namespace Go.Proofs.Ytejpmdlokmlmeaa

abbrev Bs := List UInt8
def ba (l : Bs) : ByteArray := ⟨l.toArray⟩
theorem ba_list (l : Bs) : (ba l).data.toList = l := by simp [ba]
theorem ba_of (x : ByteArray) : ba x.data.toList = x := by cases x; simp [ba]
theorem bytes_ext {x y : ByteArray} (h : x.data.toList = y.data.toList) : x = y := by rw [← ba_of x, h, ba_of y]
theorem extract_list (s : ByteArray) (i n : Nat) : (s.extract i (i + n)).data.toList = (s.data.toList.drop i).take n := by
  rw [ByteArray.data_extract, Array.toList_extract, List.extract_eq_take_drop]
  congr 1
  omega

/-- A token without its place. -/
abbrev Et := Nat × ByteArray
def er (t : Tk) : Et := (t.kind, t.text)
/-- From here on these tokens are read, and all is read. -/
def Lx (s : ByteArray) (i : Nat) (ts : List Et) : Prop := ∀ f l, s.size - i < f → ∃ l', lexN s f i l = .ok (l ++ l') ∧ l'.map er = ts
def LxL (r : Bs) (ts : List Et) : Prop := ∀ s i, s.data.toList.drop i = r → Lx s i ts

section
variable {s : ByteArray} {i : Nat} {r : Bs}
theorem at_drop (h : s.data.toList.drop i = r) (k : Nat) : bAt s (i + k) = r[k]?.getD 0 := by
  subst h
  rw [List.getElem?_drop]
  rfl
theorem at_here (h : s.data.toList.drop i = r) : bAt s i = r.head?.getD 0 := by
  have := at_drop h 0
  rw [Nat.add_zero] at this
  rw [this]
  cases r <;> rfl
theorem lt_of_drop {c : UInt8} (h : s.data.toList.drop i = c :: r) : i < s.size := by
  have h1 : ¬ s.data.toList.length ≤ i := fun q => by rw [List.drop_eq_nil_of_le q] at h; cases h
  simpa using h1
theorem drop_more {a : Bs} (h : s.data.toList.drop i = a ++ r) : s.data.toList.drop (i + a.length) = r := by
  rw [← List.drop_drop, h, List.drop_left]
end
theorem LxL.nil : LxL [] [] := by
  intro s i h f l hf
  refine ⟨[], ?_, rfl⟩
  have hi : s.size ≤ i := by
    have := List.drop_eq_nil_iff.1 h
    simpa using this
  obtain ⟨f, rfl⟩ : ∃ k, f = k + 1 := ⟨f - 1, by omega⟩
  rw [lexN, if_neg (by omega)]
  simp
theorem LxL.blank {c : UInt8} {r : Bs} {ts : List Et} (hc : isBlank c = true) (h : LxL r ts) : LxL (c :: r) ts := by
  intro s i hd f l hf
  have hi := lt_of_drop hd
  obtain ⟨f, rfl⟩ : ∃ k, f = k + 1 := ⟨f - 1, by omega⟩
  obtain ⟨l', h1, h2⟩ := h s (i + 1) (drop_more (a := [c]) hd) f l (by omega)
  refine ⟨l', ?_, h2⟩
  rw [lexN, if_pos hi, at_here hd, if_pos (by exact hc)]
  exact h1
theorem LxL.tok {a r : Bs} {ts : List Et} {k : Nat} {x : ByteArray} (ha : a ≠ []) (hb : isBlank (a.head?.getD 0) = false) (hn : a.head?.getD 0 ≠ 47) (ht : ∀ s i, s.data.toList.drop i = a ++ r → tokS s i = .ok (⟨k, x, i⟩, i + a.length)) (h : LxL r ts) : LxL (a ++ r) ((k, x) :: ts) := by
  intro s i hd f l hf
  obtain ⟨c, a', rfl⟩ : ∃ c a', a = c :: a' := by cases a with
    | nil => exact absurd rfl ha
    | cons c a' => exact ⟨c, a', rfl⟩
  have hi := lt_of_drop hd
  obtain ⟨f, rfl⟩ : ∃ k, f = k + 1 := ⟨f - 1, by omega⟩
  obtain ⟨l', h1, h2⟩ := h s (i + (c :: a').length) (drop_more hd) f (l ++ [⟨k, x, i⟩]) (by simp; omega)
  refine ⟨⟨k, x, i⟩ :: l', ?_, by rw [List.map_cons, h2]; rfl⟩
  have hc : bAt s i = c := at_here hd
  have hcom : isCom s i = false := by
    unfold isCom
    rw [hc, show (c == 47) = false by simpa using hn]
    rfl
  rw [lexN, if_pos hi, hc, if_neg (by rw [show isBlank c = false from hb]; decide), if_neg (by rw [hcom]; decide), ht s i hd]
  simp only
  rw [h1, List.append_assoc]
  rfl
/-- What follows a name: no more of it. -/
def Stop (r : Bs) : Prop := isNm (r.head?.getD 0) = false
theorem takeWhile_stop {p : UInt8 → Bool} {a r : Bs} (ha : a.all p = true) (hr : r = [] ∨ p (r.head?.getD 0) = false) : (a ++ r).takeWhile p = a := by
  induction a with
  | nil =>
    cases r with
    | nil => rfl
    | cons c r =>
      rcases hr with hr | hr
      · cases hr
      · have : p c = false := hr
        simp [this]
  | cons c a ih =>
    simp only [List.all_cons, Bool.and_eq_true] at ha
    rw [List.cons_append, List.takeWhile_cons, if_pos ha.1, ih ha.2]
theorem nameN_of {s : ByteArray} {i : Nat} {a r : Bs} (h : s.data.toList.drop i = a ++ r) (ha : a.all isNm = true) (hr : Stop r) : nameN s i = a.length := by
  unfold nameN
  rw [h, takeWhile_stop ha (.inr hr)]
/-- A name: a letter, then letters and digits, at most 40. -/
def Nam (x : ByteArray) : Prop := isLet (x.data.toList.head?.getD 0) = true ∧ x.data.toList.all isNm = true ∧ x.data.toList.length ≤ 40
theorem Nam.ne {x : ByteArray} (h : Nam x) : x.data.toList ≠ [] := by
  intro e
  have := h.1
  rw [e] at this
  exact absurd this (by decide)
theorem let_facts : ∀ c : UInt8, isLet c = true → isBlank c = false ∧ c ≠ 47 ∧ c ≠ 37 ∧ c ≠ 123 := by
  intro c h
  refine ⟨?_, ?_, ?_, ?_⟩
  · cases hb : isBlank c
    · rfl
    · simp only [isBlank, Bool.or_eq_true, beq_iff_eq] at hb
      rcases hb with ((rfl | rfl) | rfl) | rfl <;> exact absurd h (by decide)
  all_goals (rintro rfl; exact absurd h (by decide))
theorem LxL.name {x : ByteArray} {r : Bs} {ts : List Et} (hx : Nam x) (hr : Stop r) (h : LxL r ts) : LxL (x.data.toList ++ r) ((2, x) :: ts) := by
  obtain ⟨f1, f2, f3, f4⟩ := let_facts _ hx.1
  refine LxL.tok hx.ne f1 f2 (fun s i hd => ?_) h
  have hn := nameN_of hd hx.2.1 hr
  have hb : bAt s i = x.data.toList.head?.getD 0 := by
    rw [at_here hd]
    cases hq : x.data.toList with
    | nil => exact absurd hq hx.ne
    | cons c l => rfl
  unfold tokS
  rw [if_pos (by rw [hb]; exact hx.1), hn, if_neg (by have := hx.2.2; omega)]
  have e : s.extract i (i + x.data.toList.length) = x := bytes_ext (by rw [extract_list, hd, List.take_left])
  rw [e]
theorem LxL.sign {c : UInt8} {r : Bs} {ts : List Et} (hc : c ∈ ([58, 59, 124, 40, 41, 44, 60, 62] : Bs)) (h : LxL r ts) : LxL (c :: r) ((6, ⟨#[c]⟩) :: ts) := by
  have hf : isBlank c = false ∧ c ≠ 47 ∧ isLet c = false ∧ c ≠ 37 ∧ c ≠ 123 ∧ 0 ≤ Lib.indexByte signsText c := by
    simp only [List.mem_cons, List.not_mem_nil, or_false] at hc
    rcases hc with rfl | rfl | rfl | rfl | rfl | rfl | rfl | rfl <;> decide
  refine LxL.tok (a := [c]) (by simp) hf.1 hf.2.1 (fun s i hd => ?_) h
  have hb : bAt s i = c := at_here hd
  unfold tokS
  rw [hb, hf.2.2.1, if_neg (by simp), if_neg (fun e => hf.2.2.2.1 e.1), if_neg hf.2.2.2.1, if_neg hf.2.2.2.2.1, if_pos hf.2.2.2.2.2]
  rfl
theorem LxL.pp {r : Bs} {ts : List Et} (h : LxL r ts) : LxL (37 :: 37 :: r) ((6, ⟨#[37, 37]⟩) :: ts) := by
  refine LxL.tok (a := [37, 37]) (by simp) (by decide) (by decide) (fun s i hd => ?_) h
  have hb : bAt s i = 37 := at_here hd
  have hb1 : bAt s (i + 1) = 37 := at_drop hd 1
  unfold tokS
  rw [hb, hb1, if_neg (by decide), if_pos ⟨rfl, rfl⟩]
  rfl
theorem LxL.dir {x : ByteArray} {r : Bs} {ts : List Et} (hx : isWordT x = true) (hx2 : x.data.toList.all isNm = true) (hx3 : x.data.toList.head?.getD 0 ≠ 37) (hr : Stop r) (h : LxL r ts) : LxL (37 :: (x.data.toList ++ r)) ((1, x) :: ts) := by
  have hne : x.data.toList ≠ [] := fun e => by unfold isWordT at hx; rw [e] at hx; exact absurd hx (by decide)
  refine LxL.tok (a := 37 :: x.data.toList) (by simp) (show isBlank 37 = false by decide) (show (37 : UInt8) ≠ 47 by decide) (fun s i hd => ?_) h
  have hb : bAt s i = 37 := at_here hd
  have hd1 : s.data.toList.drop (i + 1) = x.data.toList ++ r := drop_more (a := [37]) hd
  have hb1 : bAt s (i + 1) ≠ 37 := by
    rw [at_here hd1]
    cases hq : x.data.toList with
    | nil => exact absurd hq hne
    | cons c l => rw [hq] at hx3; exact hx3
  have hn := nameN_of hd1 hx2 hr
  have e : s.extract (i + 1) (i + 1 + x.data.toList.length) = x := bytes_ext (by rw [extract_list, hd1, List.take_left])
  unfold tokS
  rw [hb, if_neg (by decide), if_neg (fun e => hb1 e.2), if_pos rfl, hn, e, if_pos hx, List.length_cons, show i + (x.data.toList.length + 1) = i + 1 + x.data.toList.length by omega]

theorem quoteN_put : ∀ (f : Nat) (l : Bs) (n : Nat), quoteN f l = some n → n ≤ l.length ∧ ∀ (r : Bs) (g : Nat), (l.take n ++ r).length < g → quoteN g (l.take n ++ r) = some n := by
  intro f
  induction f with
  | zero => intro l n h; cases h
  | succ f ih =>
    intro l n h
    cases l with
    | nil => cases h
    | cons c t =>
      rw [quoteN] at h
      split at h
      · rename_i hc
        injection h with h
        subst h
        refine ⟨by simp, fun r g hg => ?_⟩
        obtain ⟨g, rfl⟩ : ∃ k, g = k + 1 := ⟨g - 1, by omega⟩
        show quoteN (g + 1) (c :: r) = some 1
        rw [quoteN, if_pos hc]
      · rename_i hc
        split at h
        · rename_i hc2
          cases hq : quoteN f t.tail with
          | none => rw [hq] at h; cases h
          | some m =>
            rw [hq] at h
            injection h with h
            subst h
            obtain ⟨h1, h2⟩ := ih _ _ hq
            cases t with
            | nil => cases f <;> cases hq
            | cons c2 t =>
              refine ⟨by simp at h1 ⊢; omega, fun r g hg => ?_⟩
              obtain ⟨g, rfl⟩ : ∃ k, g = k + 1 := ⟨g - 1, by omega⟩
              have hg' : (t.take m ++ r).length + 2 < g + 1 := hg
              simp only [List.tail_cons] at h2
              show quoteN (g + 1) (c :: (c2 :: (t.take m ++ r))) = some (m + 2)
              rw [quoteN, if_neg hc, if_pos hc2, List.tail_cons, h2 r g (by omega)]
              rfl
        · rename_i hc2
          split at h
          · cases h
          · rename_i hc3
            cases hq : quoteN f t with
            | none => rw [hq] at h; cases h
            | some m =>
              rw [hq] at h
              injection h with h
              subst h
              obtain ⟨h1, h2⟩ := ih _ _ hq
              refine ⟨by simp; omega, fun r g hg => ?_⟩
              obtain ⟨g, rfl⟩ : ∃ k, g = k + 1 := ⟨g - 1, by omega⟩
              have hg' : (t.take m ++ r).length + 1 < g + 1 := by simpa using hg
              show quoteN (g + 1) (c :: (t.take m ++ r)) = some (m + 1)
              rw [quoteN, if_neg hc, if_neg hc2, if_neg hc3, h2 r g (by omega)]
              rfl
theorem takeWhile_split (p : UInt8 → Bool) (l : Bs) : ∃ b, l = l.takeWhile p ++ b ∧ (b = [] ∨ p (b.head?.getD 0) = false) ∧ (l.takeWhile p).all p = true := by
  induction l with
  | nil => exact ⟨[], rfl, .inl rfl, rfl⟩
  | cons c l ih =>
    obtain ⟨b, h1, h2, h3⟩ := ih
    by_cases hc : p c = true
    · refine ⟨b, ?_, h2, ?_⟩
      · rw [List.takeWhile_cons, if_pos hc, List.cons_append, ← h1]
      · rw [List.takeWhile_cons, if_pos hc, List.all_cons, hc, h3]
        rfl
    · refine ⟨c :: l, ?_, .inr ?_, ?_⟩
      · rw [List.takeWhile_cons, if_neg hc]; rfl
      · simpa using hc
      · rw [List.takeWhile_cons, if_neg hc]; rfl
theorem actN_put : ∀ (f d : Nat) (l : Bs) (n : Nat), actN f (d + 1) l = some n → ∃ a b, l = a ++ 125 :: b ∧ n = a.length + 1 ∧ ∀ (r : Bs) (g : Nat), (a ++ 125 :: r).length < g → actN g (d + 1) (a ++ 125 :: r) = some n := by
  intro f
  induction f with
  | zero => intro d l n h; cases h
  | succ f ih =>
    intro d l n h
    cases l with
    | nil => cases h
    | cons c t =>
      rw [actN] at h
      split at h
      · rename_i hc
        cases hq : actN f (d + 2) t with
        | none => rw [hq] at h; cases h
        | some m =>
          rw [hq] at h
          injection h with h
          subst h
          obtain ⟨a, b, h1, h2, h3⟩ := ih _ _ _ hq
          refine ⟨c :: a, b, by rw [h1]; rfl, by rw [h2]; rfl, fun r g hg => ?_⟩
          obtain ⟨g, rfl⟩ : ∃ k, g = k + 1 := ⟨g - 1, by omega⟩
          rw [List.cons_append, List.length_cons] at hg
          rw [List.cons_append, actN, if_pos hc, h3 r g (by omega)]
          rfl
      · rename_i hc
        split at h
        · rename_i hc2
          cases d with
          | zero =>
            cases f with
            | zero => cases h
            | succ f =>
              rw [actN] at h
              injection h with h
              subst h
              refine ⟨[], t, by rw [hc2]; rfl, rfl, fun r g hg => ?_⟩
              obtain ⟨g, rfl⟩ : ∃ k, g = k + 1 := ⟨g - 1, by omega⟩
              rw [List.nil_append, List.length_cons] at hg
              obtain ⟨g, rfl⟩ : ∃ k, g = k + 1 := ⟨g - 1, by omega⟩
              rw [List.nil_append, actN, if_neg (by decide), if_pos rfl, actN]
              rfl
          | succ d =>
            cases hq : actN f (d + 1) t with
            | none => rw [hq] at h; cases h
            | some m =>
              rw [hq] at h
              injection h with h
              subst h
              obtain ⟨a, b, h1, h2, h3⟩ := ih _ _ _ hq
              refine ⟨c :: a, b, by rw [h1]; rfl, by rw [h2]; rfl, fun r g hg => ?_⟩
              obtain ⟨g, rfl⟩ : ∃ k, g = k + 1 := ⟨g - 1, by omega⟩
              rw [List.cons_append, List.length_cons] at hg
              rw [List.cons_append, actN, if_neg hc, if_pos hc2, h3 r g (by omega)]
              rfl
        · rename_i hc2
          split at h
          · rename_i hc3
            cases hq : quoteN (t.length + 1) t with
            | none => rw [hq] at h; cases h
            | some k =>
              rw [hq, Option.bind_some] at h
              cases hq2 : actN f (d + 1) (t.drop k) with
              | none => rw [hq2] at h; cases h
              | some m =>
                rw [hq2] at h
                injection h with h
                subst h
                obtain ⟨hk, hput⟩ := quoteN_put _ _ _ hq
                obtain ⟨a, b, h1, h2, h3⟩ := ih _ _ _ hq2
                have hl : (t.take k).length = k := by simp; omega
                refine ⟨c :: (t.take k ++ a), b, ?_, ?_, fun r g hg => ?_⟩
                · rw [List.cons_append, List.append_assoc, ← h1, List.take_append_drop]
                · rw [h2, List.length_cons, List.length_append, hl]; show a.length + 1 + (k + 1) = _; omega
                · obtain ⟨g, rfl⟩ : ∃ k, g = k + 1 := ⟨g - 1, by omega⟩
                  rw [List.cons_append, List.length_cons, List.append_assoc, List.length_append, hl] at hg
                  rw [List.cons_append, List.append_assoc, actN, if_neg hc, if_neg hc2, if_pos hc3, hput _ _ (Nat.lt_succ_self _), Option.bind_some]
                  have e : (t.take k ++ (a ++ 125 :: r)).drop k = a ++ 125 :: r := by
                    conv => lhs; arg 1; rw [← hl]
                    rw [List.drop_left]
                  rw [e, h3 r g (by omega)]
                  rfl
          · rename_i hc3
            split at h
            · rename_i hc4
              obtain ⟨rest, e1, e2, e3⟩ := takeWhile_split (· != 10) (c :: t)
              generalize hp : (c :: t).takeWhile (· != 10) = p at *
              have ed : (c :: t).drop p.length = rest := by
                conv => lhs; arg 2; rw [e1]
                rw [List.drop_left]
              rw [ed] at h
              cases hq : actN f (d + 1) rest with
              | none => rw [hq] at h; cases h
              | some m =>
                rw [hq] at h
                injection h with h
                subst h
                obtain ⟨a, b, h1, h2, h3⟩ := ih _ _ _ hq
                have hp0 : ∃ p', p = 47 :: 47 :: p' := by
                  obtain ⟨rfl, h47⟩ := hc4
                  cases t with
                  | nil => cases h47
                  | cons c2 t =>
                    injection h47 with h47
                    subst h47
                    exact ⟨t.takeWhile (· != 10), by rw [← hp]; rfl⟩
                obtain ⟨p', hp'⟩ := hp0
                have ha : ∀ r : Bs, (a ++ 125 :: r) = [] ∨ ((a ++ 125 :: r).head?.getD 0 != 10) = false := by
                  intro r
                  refine .inr ?_
                  rw [h1] at e2
                  cases a with
                  | nil => rcases e2 with e2 | e2
                           · cases e2
                           · exact absurd (show ((125 : UInt8) != 10) = false from e2) (by decide)
                  | cons c3 a => rcases e2 with e2 | e2
                                 · cases e2
                                 · exact e2
                refine ⟨p ++ a, b, by rw [e1, h1, List.append_assoc], by rw [h2, List.length_append]; show a.length + 1 + p.length = _; omega, fun r g hg => ?_⟩
                obtain ⟨g, rfl⟩ : ∃ k, g = k + 1 := ⟨g - 1, by omega⟩
                have htw := takeWhile_stop (p := (· != 10)) e3 (ha r)
                rw [List.append_assoc, List.length_append] at hg
                rw [List.append_assoc]
                have hpl : 2 ≤ p.length := by rw [hp']; simp
                have hshape : p ++ (a ++ 125 :: r) = 47 :: (47 :: (p' ++ (a ++ 125 :: r))) := by rw [hp']; rfl
                rw [hshape, actN, if_neg (by decide), if_neg (by decide), if_neg (by decide), if_pos ⟨rfl, rfl⟩, ← hshape, htw, List.drop_left, h3 r g (by omega)]
                rfl
            · rename_i hc4
              cases hq : actN f (d + 1) t with
              | none => rw [hq] at h; cases h
              | some m =>
                rw [hq] at h
                injection h with h
                subst h
                obtain ⟨a, b, h1, h2, h3⟩ := ih _ _ _ hq
                refine ⟨c :: a, b, by rw [h1]; rfl, by rw [h2]; rfl, fun r g hg => ?_⟩
                obtain ⟨g, rfl⟩ : ∃ k, g = k + 1 := ⟨g - 1, by omega⟩
                rw [List.cons_append, List.length_cons] at hg
                have hh : (a ++ 125 :: r).head? = t.head? := by rw [h1]; cases a <;> rfl
                rw [List.cons_append, actN, if_neg hc, if_neg hc2, if_neg hc3, if_neg (by rw [hh]; exact hc4), h3 r g (by omega)]
                rfl
/-- What may stand within an action's braces. -/
def Acn (x : ByteArray) : Prop := ∃ f, actN f 1 (x.data.toList ++ [125]) = some (x.data.toList.length + 1)
theorem append_125 {a b x : Bs} (h : x ++ [125] = a ++ 125 :: b) (hl : a.length = x.length) : a = x ∧ b = [] := by
  obtain ⟨h1, h2⟩ := List.append_inj h hl.symm
  injection h2 with _ h2
  exact ⟨h1.symm, h2.symm⟩
theorem Acn.put {x : ByteArray} (h : Acn x) (r : Bs) (g : Nat) (hg : (x.data.toList ++ 125 :: r).length < g) : actN g 1 (x.data.toList ++ 125 :: r) = some (x.data.toList.length + 1) := by
  obtain ⟨f, hf⟩ := h
  obtain ⟨a, b, h1, h2, h3⟩ := actN_put _ _ _ _ hf
  obtain ⟨rfl, -⟩ := append_125 h1 (by omega)
  exact h3 r g hg
theorem LxL.act {x : ByteArray} {r : Bs} {ts : List Et} (hx : Acn x) (h : LxL r ts) : LxL (123 :: (x.data.toList ++ 125 :: r)) ((9, x) :: ts) := by
  have := LxL.tok (a := 123 :: (x.data.toList ++ [125])) (r := r) (k := 9) (x := x) (by simp) (show isBlank 123 = false by decide) (show (123 : UInt8) ≠ 47 by decide) (fun s i hd => ?_) h
  · rw [List.cons_append, List.append_assoc] at this
    exact this
  · rw [List.cons_append, List.append_assoc] at hd
    have hb : bAt s i = 123 := at_here hd
    have hd1 : s.data.toList.drop (i + 1) = x.data.toList ++ 125 :: r := drop_more (a := [123]) hd
    have ha : actS s 1 (i + 1) = some (x.data.toList.length + 1) := by
      rw [← actS_of (f := (s.data.toList.drop (i + 1)).length + 1) (Nat.lt_succ_self _), hd1]
      exact hx.put r _ (Nat.lt_succ_self _)
    have e : s.extract (i + 1) (i + (x.data.toList.length + 1)) = x := bytes_ext (by rw [show i + (x.data.toList.length + 1) = i + 1 + x.data.toList.length by omega, extract_list, hd1, List.take_left])
    unfold tokS
    rw [hb, if_neg (by decide), if_neg (fun e => absurd e.1 (by decide)), if_neg (by decide), if_pos rfl, ha]
    simp only
    rw [e, List.length_cons, List.length_append, show i + (x.data.toList.length + [(125 : UInt8)].length + 1) = i + 1 + (x.data.toList.length + 1) by simp; omega]
end Go.Proofs.Ytejpmdlokmlmeaa
/- What holds of every token that is read; a name, an action are what the writer's own questions tell. No condition, no program. -/
namespace Go.Proofs.Ytejpmdlokmlmeaa

structure TkOk (n : Nat) (t : Tk) : Prop where
  two : t.kind = 2 → Nam t.text
  nine : t.kind = 9 → Acn t.text ∧ t.text.data.toList.length + 2 ≤ n
  len : t.text.data.toList.length ≤ n + 2
theorem takeWhile_all (p : UInt8 → Bool) (l : Bs) : (l.takeWhile p).all p = true := (takeWhile_split p l).elim fun _ h => h.2.2
theorem take_takeWhile (p : UInt8 → Bool) (l : Bs) : l.take (l.takeWhile p).length = l.takeWhile p := by
  obtain ⟨b, h, -, -⟩ := takeWhile_split p l
  conv => lhs; arg 2; rw [h]
  rw [List.take_left]
theorem tokS_ok {s : ByteArray} {i j : Nat} {t : Tk} (hi : i < s.size) (h : tokS s i = .ok (t, j)) : TkOk s.size t := by
  have hsz : s.data.toList.length = s.size := by simp
  unfold tokS at h
  split at h
  · rename_i hl
    split at h
    · cases h
    · rename_i h40
      injection h with h; injection h with h1 h2
      subst h1
      have e : (s.extract i (i + nameN s i)).data.toList = (s.data.toList.drop i).takeWhile isNm := by
        rw [extract_list]
        exact take_takeWhile _ _
      refine ⟨fun _ => ?_, fun h => absurd (show (2 : Nat) = 9 from h) (by decide), ?_⟩
      · refine ⟨?_, ?_, ?_⟩
        · show isLet ((s.extract i (i + nameN s i)).data.toList.head?.getD 0) = true
          rw [e]
          have hb := at_here (s := s) (i := i) rfl
          rw [hb] at hl
          cases hd : s.data.toList.drop i with
          | nil => rw [hd] at hl; exact absurd hl (by decide)
          | cons c r =>
            rw [hd] at hl
            have hl' : isLet c = true := hl
            rw [List.takeWhile_cons, if_pos (by unfold isNm; rw [hl']; rfl)]
            exact hl'
        · show (s.extract i (i + nameN s i)).data.toList.all isNm = true
          rw [e]; exact takeWhile_all _ _
        · show (s.extract i (i + nameN s i)).data.toList.length ≤ 40
          rw [e]; exact Nat.le_of_not_lt h40
      · show (s.extract i (i + nameN s i)).data.toList.length ≤ _
        rw [extract_list, List.length_take, List.length_drop]; omega
  · split at h
    · injection h with h; injection h with h1 h2
      subst h1
      exact ⟨fun h => absurd (show (6 : Nat) = 2 from h) (by decide), fun h => absurd (show (6 : Nat) = 9 from h) (by decide), by show 2 ≤ _; omega⟩
    · split at h
      · split at h
        · injection h with h; injection h with h1 h2
          subst h1
          refine ⟨fun h => absurd (show (1 : Nat) = 2 from h) (by decide), fun h => absurd (show (1 : Nat) = 9 from h) (by decide), ?_⟩
          show (s.extract (i + 1) (i + 1 + nameN s (i + 1))).data.toList.length ≤ _
          rw [extract_list, List.length_take, List.length_drop]; omega
        · cases h
      · split at h
        · split at h
          · cases h
          · rename_i n hn
            injection h with h; injection h with h1 h2
            subst h1
            unfold actS at hn
            obtain ⟨a, b, e1, e2, e3⟩ := actN_put _ _ _ _ hn
            have hle : a.length + 1 + b.length = s.size - (i + 1) := by
              have := congrArg List.length e1
              rw [List.length_drop, hsz, List.length_append, List.length_cons] at this
              omega
            have e : (s.extract (i + 1) (i + n)).data.toList = a := by
              rw [e2, show i + (a.length + 1) = i + 1 + a.length by omega, extract_list, e1, List.take_left]
            refine ⟨fun h => absurd (show (9 : Nat) = 2 from h) (by decide), fun _ => ⟨⟨(a ++ [125]).length + 1, ?_⟩, ?_⟩, ?_⟩
            · show actN _ 1 ((s.extract (i + 1) (i + n)).data.toList ++ [125]) = some ((s.extract (i + 1) (i + n)).data.toList.length + 1)
              rw [e, ← e2]
              exact e3 [] _ (Nat.lt_succ_self _)
            · show (s.extract (i + 1) (i + n)).data.toList.length + 2 ≤ _
              rw [e]; omega
            · show (s.extract (i + 1) (i + n)).data.toList.length ≤ _
              rw [e]; omega
        · split at h
          · injection h with h; injection h with h1 h2
            subst h1
            exact ⟨fun h => absurd (show (6 : Nat) = 2 from h) (by decide), fun h => absurd (show (6 : Nat) = 9 from h) (by decide), by show 1 ≤ _; omega⟩
          · cases h
theorem lexN_ok (s : ByteArray) : ∀ (f i : Nat) (l l' : List Tk), (∀ t ∈ l, TkOk s.size t) → lexN s f i l = .ok l' → ∀ t ∈ l', TkOk s.size t := by
  intro f
  induction f with
  | zero => intro i l l' hl h; cases h; exact hl
  | succ f ih =>
    intro i l l' hl h
    rw [lexN] at h
    split at h
    · rename_i hi
      split at h
      · exact ih _ _ _ hl h
      · split at h
        · exact ih _ _ _ hl h
        · split at h
          · cases h
          · rename_i t j ht
            refine ih _ _ _ (fun u hu => ?_) h
            rcases List.mem_append.1 hu with hu | hu
            · exact hl u hu
            · obtain rfl := List.mem_singleton.1 hu
              exact tokS_ok hi ht
    · cases h; exact hl
theorem lexS_toks {s : ByteArray} {l : List Tk} (h : lexS s = .ok l) : s.size ≤ 65536 ∧ l.length ≤ s.size + 1 ∧ ∀ t ∈ l, TkOk s.size t := by
  unfold lexS at h
  split at h
  · cases h
  · rename_i hs
    split at h
    · cases h
    · rename_i l0 h0
      cases h
      refine ⟨by omega, ?_, fun t ht => ?_⟩
      · have := lexN_len _ _ _ _ _ (Nat.zero_le _) h0
        rw [List.length_append]
        simp at this ⊢
        omega
      · rcases List.mem_append.1 ht with ht | ht
        · exact lexN_ok s _ _ _ _ (by simp) h0 t ht
        · obtain rfl := List.mem_singleton.1 ht
          exact ⟨fun h => absurd (show (7 : Nat) = 2 from h) (by decide), fun h => absurd (show (7 : Nat) = 9 from h) (by decide), by show 0 ≤ _; omega⟩
/-- A text whose tokens are known is read. -/
theorem lexS_of {s : ByteArray} {ts : List Et} (hs : s.size ≤ 65536) (h : LxL s.data.toList ts) : ∃ l, lexS s = .ok l ∧ l.map er = ts ++ [(7, ⟨#[]⟩)] := by
  obtain ⟨l, h1, h2⟩ := h s 0 (List.drop_zero) (s.size + 1) [] (by omega)
  unfold lexS
  rw [if_neg (by omega), h1]
  exact ⟨_, rfl, by rw [List.nil_append, List.map_append, h2]; rfl⟩
theorem oneB_of {s : ByteArray} {k : Nat} {x : ByteArray} (hs : s.size ≤ 65536) (h : LxL s.data.toList [(k, x)]) : oneB s k x = true := by
  obtain ⟨l, h1, h2⟩ := lexS_of hs h
  unfold oneB
  rw [h1]
  cases l with
  | nil => cases h2
  | cons a l =>
    cases l with
    | nil => exact absurd (congrArg List.length h2) (by simp)
    | cons b l =>
      cases l with
      | cons c l => exact absurd (congrArg List.length h2) (by simp)
      | nil =>
        simp only [List.map_cons, er] at h2
        injection h2 with h2 _
        injection h2 with h3 h4
        simp only [h3, h4, beq_self_eq_true, decide_true, Bool.and_self]
theorem oneB_tk {s : ByteArray} {k : Nat} {x : ByteArray} (h : oneB s k x = true) : ∃ t, TkOk s.size t ∧ t.kind = k ∧ t.text = x ∧ s.size ≤ 65536 := by
  unfold oneB at h
  split at h
  · rename_i a b hl
    simp only [Bool.and_eq_true, beq_iff_eq, decide_eq_true_eq] at h
    obtain ⟨h1, -, h2⟩ := lexS_toks hl
    exact ⟨a, h2 a (by simp), h.1, h.2, h1⟩
  · cases h
theorem nameB_nam {x : ByteArray} : nameB x = true ↔ Nam x := by
  constructor
  · intro h
    obtain ⟨t, h1, h2, rfl, -⟩ := oneB_tk h
    exact h1.two h2
  · intro h
    refine oneB_of ?_ ?_
    · have := h.2.2
      have e : x.data.toList.length = x.size := by simp
      omega
    · have := LxL.name h (r := []) (by rfl) LxL.nil
      rwa [List.append_nil] at this
theorem act_acn {x : ByteArray} : oneB (braced x) 9 x = true ↔ Acn x ∧ x.data.toList.length + 2 ≤ 65536 := by
  have hb : (braced x).size = x.data.toList.length + 2 := by
    have : (braced x).data.toList.length = (braced x).size := by simp
    rw [← this, braced_data]
    simp
  constructor
  · intro h
    obtain ⟨t, h1, h2, rfl, h3⟩ := oneB_tk h
    exact ⟨(h1.nine h2).1, by omega⟩
  · rintro ⟨h1, h2⟩
    refine oneB_of (by omega) ?_
    rw [braced_data]
    have := LxL.act h1 (r := []) LxL.nil
    rw [List.append_assoc]
    exact this
end Go.Proofs.Ytejpmdlokmlmeaa
/- What is written is read as the tokens that the text tells. No condition, no program. -/
namespace Go.Proofs.Ytejpmdlokmlmeaa

def rowTs : List (List Et) → List Et
  | [] => []
  | x :: l => (6, ⟨#[40]⟩) :: (x ++ (l.flatMap (fun y => (6, ⟨#[44]⟩) :: y) ++ [(6, ⟨#[41]⟩)]))
mutual
def wordTs : GWord → List Et
  | .mk n args _ => (2, n) :: rowTs (wordsTs args)
def wordsTs : List GWord → List (List Et)
  | [] => []
  | x :: l => wordTs x :: wordsTs l
end
theorem wordsTs_map (l : List GWord) : wordsTs l = l.map wordTs := by
  induction l with
  | nil => rfl
  | cons x l ih => rw [wordsTs, ih]; rfl
abbrev kPrec : ByteArray := ⟨#[112, 114, 101, 99]⟩
def precTs (p : ByteArray) : List Et := if p = ⟨#[]⟩ then [] else [(1, kPrec), (2, p)]
def actTs (x : GAlt) : List Et := if x.has then [(9, x.action)] else []
def altTs (x : GAlt) : List Et := x.words.flatMap wordTs ++ (precTs x.prec ++ actTs x)
def altsTs : List GAlt → List Et
  | [] => []
  | x :: l => (6, ⟨#[58]⟩) :: (altTs x ++ l.flatMap (fun y => (6, ⟨#[124]⟩) :: altTs y))
def typeTs (t : ByteArray) : List Et := if t = ⟨#[]⟩ then [] else [(6, ⟨#[60]⟩), (2, t), (6, ⟨#[62]⟩)]
def nameTs (n : ByteArray) : List Et := [(2, n)]
def declTs (x : GDecl) : List Et := (1, x.kind) :: (typeTs x.type ++ (x.names.flatMap nameTs ++ [(6, ⟨#[59]⟩)]))
def ruleTs (x : GRule) : List Et := (2, x.name) :: (rowTs (x.params.map nameTs) ++ (altsTs x.alts ++ [(6, ⟨#[59]⟩)]))
def textTs (x : GText) : List Et := x.decls.flatMap declTs ++ ((6, ⟨#[37, 37]⟩) :: x.rules.flatMap ruleTs)

/-- A piece that is read as these tokens, where no more of a name follows. -/
def Pc (a : Bs) (t : List Et) : Prop := ∀ r tr, Stop r → LxL r tr → LxL (a ++ r) (t ++ tr)
/-- .. that ends a name ahead of it. -/
structure Pw (a : Bs) (t : List Et) : Prop where
  stop : ∀ r, Stop r → Stop (a ++ r)
  lex : Pc a t
theorem Pc.nil : Pc [] [] := fun r tr _ h => h
theorem Pw.nil : Pw [] [] := ⟨fun _ h => h, Pc.nil⟩
theorem Pc.app {a b : Bs} {t u : List Et} (h : Pc a t) (k : Pw b u) : Pc (a ++ b) (t ++ u) := fun r tr hr hl => by
  rw [List.append_assoc, List.append_assoc]
  exact h _ _ (k.stop r hr) (k.lex r tr hr hl)
theorem Pw.app {a b : Bs} {t u : List Et} (h : Pw a t) (k : Pw b u) : Pw (a ++ b) (t ++ u) := ⟨fun r hr => by rw [List.append_assoc]; exact h.stop _ (k.stop r hr), h.lex.app k⟩
theorem blank_nm {c : UInt8} (h : isBlank c = true) : isNm c = false := by
  simp only [isBlank, Bool.or_eq_true, beq_iff_eq] at h
  rcases h with ((rfl | rfl) | rfl) | rfl <;> decide
theorem Pw.blank {a : Bs} {t : List Et} {c : UInt8} (hc : isBlank c = true) (h : Pc a t) : Pw (c :: a) t :=
  ⟨fun r _ => blank_nm hc, fun r tr hr hl => LxL.blank hc (h r tr hr hl)⟩
theorem sign_nm {c : UInt8} (h : c ∈ ([58, 59, 124, 40, 41, 44, 60, 62] : Bs)) : isNm c = false := by
  simp only [List.mem_cons, List.not_mem_nil, or_false] at h
  rcases h with rfl | rfl | rfl | rfl | rfl | rfl | rfl | rfl <;> decide
theorem Pw.sign {a : Bs} {t : List Et} {c : UInt8} (hc : c ∈ ([58, 59, 124, 40, 41, 44, 60, 62] : Bs)) (h : Pc a t) : Pw (c :: a) ((6, ⟨#[c]⟩) :: t) :=
  ⟨fun r _ => sign_nm hc, fun r tr hr hl => LxL.sign hc (h r tr hr hl)⟩
theorem Pc.name {n : ByteArray} (h : Nam n) : Pc n.data.toList (nameTs n) := fun r tr hr hl => LxL.name h hr hl
theorem Pw.act {x : ByteArray} (h : Acn x) : Pw (123 :: (x.data.toList ++ [125])) [(9, x)] :=
  ⟨fun r _ => show isNm 123 = false by decide, fun r tr hr hl => by
    rw [List.cons_append, List.append_assoc]
    exact LxL.act h hl⟩
theorem Pw.flat {α : Type} {l : List α} {out : α → Bs} {tks : α → List Et} (h : ∀ x ∈ l, Pw (out x) (tks x)) : Pw (l.flatMap out) (l.flatMap tks) := by
  induction l with
  | nil => exact Pw.nil
  | cons x l ih =>
    rw [List.flatMap_cons, List.flatMap_cons]
    exact (h x (by simp)).app (ih (fun y hy => h y (List.mem_cons_of_mem _ hy)))

/-- Parts in brackets: from the front. -/
def rowB : List Bs → Bs
  | [] => []
  | x :: l => 40 :: (x ++ (l.flatMap (fun y => 44 :: (32 :: y)) ++ [41]))
def moreB : List Bs → Bs
  | [] => []
  | x :: l => 40 :: (x ++ l.flatMap (fun y => 44 :: (32 :: y)))
theorem moreB_snoc (l : List Bs) (y : Bs) : moreB (l ++ [y]) = moreB l ++ ((if l.length = 0 then [40] else [44, 32]) ++ y) := by
  cases l with
  | nil => simp [moreB]
  | cons x l => simp [moreB]
theorem moreOut_B (xs : List Bs) : ∀ k, k ≤ xs.length → moreOut (fun i => xs.getD i []) k = moreB (xs.take k) := by
  intro k
  induction k with
  | zero => intro _; rw [moreOut, List.take_zero]; rfl
  | succ k ih =>
    intro hk
    rw [moreOut, ih (by omega), take_snoc_getD xs k [] (by omega), moreB_snoc, List.length_take, Nat.min_eq_left (by omega)]
theorem rowL_B (xs : List Bs) : rowL xs = rowB xs := by
  unfold rowL rowOut
  rw [moreOut_B xs _ (Nat.le_refl _), List.take_length]
  cases xs with
  | nil => rfl
  | cons x l => rw [if_neg (by simp)]; simp [moreB, rowB]
theorem Pw.row {α : Type} {l : List α} {out : α → Bs} {tks : α → List Et} (h : ∀ x ∈ l, Pc (out x) (tks x)) : Pw (rowB (l.map out)) (rowTs (l.map tks)) := by
  cases l with
  | nil => exact Pw.nil
  | cons x l =>
    have hf : Pw ((l.map out).flatMap (fun y => 44 :: (32 :: y))) ((l.map tks).flatMap (fun y => (6, ⟨#[44]⟩) :: y)) := by
      rw [List.flatMap_map, List.flatMap_map]
      exact Pw.flat (fun y hy => Pw.sign (by decide) (Pw.blank (by decide) (h y (List.mem_cons_of_mem _ hy))).lex)
    exact Pw.sign (by decide) ((h x (by simp)).app (hf.app (Pw.sign (by decide) Pc.nil)))
theorem word_pc (m : Nat) : ∀ (x : GWord) (d : Nat), wsize x < m → wordOk x d = true → Pc (wordOut x) (wordTs x) := by
  induction m with
  | zero => intro x d h; omega
  | succ m ih =>
    intro x d hs h
    obtain ⟨n, args, k⟩ := x
    rw [wsize] at hs
    rw [wordOk, Bool.and_eq_true, Bool.and_eq_true, wordsOk_all] at h
    rw [wordOut, wordTs, wordsOut_map, wordsTs_map, rowL_B]
    refine (Pc.name (nameB_nam.1 h.2.1)).app (Pw.row (fun y hy => ih y (d + 1) ?_ ?_))
    · have := wsizes_mem hy; omega
    · exact List.all_eq_true.1 h.2.2 y hy
theorem word_pc' {x : GWord} {d : Nat} (h : wordOk x d = true) : Pc (wordOut x) (wordTs x) := word_pc _ x d (Nat.lt_succ_self _) h
theorem namesOut_just (a n : ByteArray) : namesOut a [n] = a.data.toList ++ n.data.toList := by simp [namesOut]
set_option maxRecDepth 100000 in
theorem prec_pw {p : ByteArray} (h : precOk p = true) : Pw (precOut p) (precTs p) := by
  unfold precOut precTs
  unfold precOk at h
  split
  · exact Pw.nil
  · rename_i hp
    rw [if_neg hp] at h
    rw [namesOut_just]
    have hn := nameB_nam.1 h
    refine Pw.blank (c := 32) (by decide) (fun r tr hr hl => ?_)
    exact LxL.dir (x := kPrec) (r := 32 :: (p.data.toList ++ r)) (by decide) (by decide) (by decide) (show isNm 32 = false by decide) (LxL.blank (by decide) (LxL.name hn hr hl))
theorem act_pw {x : GAlt} (h : actOk x = true) : Pw (actOut x) (actTs x) := by
  unfold actOut actTs
  unfold actOk at h
  split
  · rename_i hp
    rw [if_pos hp] at h
    exact Pw.blank (c := 32) (by decide) (Pw.act (act_acn.1 h).1).lex
  · exact Pw.nil
theorem alt_pw {x : GAlt} (h : altOk x = true) : Pw (altOut x) (altTs x) := by
  unfold altOk at h
  rw [Bool.and_eq_true, Bool.and_eq_true] at h
  have e : altTs x = x.words.flatMap wordTs ++ (precTs x.prec ++ (actTs x ++ [])) := by rw [List.append_nil]; rfl
  rw [e]
  exact (Pw.flat (fun y hy => Pw.blank (by decide) (word_pc' (List.all_eq_true.1 h.1 y hy)))).app ((prec_pw h.2.1).app ((act_pw h.2.2).app (Pw.blank (by decide) Pc.nil)))
/-- The alternatives of a rule: from the front. -/
def altsB : List GAlt → Bs
  | [] => []
  | x :: l => 58 :: (altOut x ++ l.flatMap (fun y => 9 :: (124 :: altOut y)))
theorem altsB_snoc (l : List GAlt) (y : GAlt) : altsB (l ++ [y]) = altsB l ++ ((if l.length = 0 then [58] else [9, 124]) ++ altOut y) := by
  cases l with
  | nil => simp [altsB]
  | cons x l => simp [altsB]
theorem altsTo_B (l : List GAlt) : ∀ k, k ≤ l.length → altsTo l k = altsB (l.take k) := by
  intro k
  induction k with
  | zero => intro _; rw [altsTo, List.take_zero]; rfl
  | succ k ih =>
    intro hk
    rw [altsTo, ih (by omega), take_snoc_getD l k noAlt (by omega), altsB_snoc, List.length_take, Nat.min_eq_left (by omega)]
theorem alts_pw {l : List GAlt} (h : l.all altOk = true) : Pw (altsB l) (altsTs l) := by
  have h' := List.all_eq_true.1 h
  cases l with
  | nil => exact Pw.nil
  | cons x l =>
    exact Pw.sign (by decide) ((alt_pw (h' x (by simp))).lex.app (Pw.flat (fun y hy => Pw.blank (by decide) (Pw.sign (by decide) (alt_pw (h' y (List.mem_cons_of_mem _ hy))).lex).lex)))
theorem params_B (l : List ByteArray) : rowOut l.length (paramOut l) = rowB (l.map (·.data.toList)) := by
  rw [← rowL_B]
  unfold rowL
  rw [List.length_map]
  refine rowOut_congr (fun i hi => ?_)
  unfold paramOut
  rw [namesOut_just]
  simp [List.getD_eq_getElem?_getD, hi]
theorem okTo_params {l : List ByteArray} (h : okTo (fun i => nameB (l.getD i ByteArray.empty)) l.length = true) : ∀ x ∈ l, nameB x = true := by
  have hg : ∀ n, okTo (fun i => nameB (l.getD i ByteArray.empty)) n = true → ∀ i, i < n → nameB (l.getD i ByteArray.empty) = true := by
    intro n
    induction n with
    | zero => intro _ i hi; omega
    | succ n ih =>
      intro h i hi
      rw [okTo, Bool.and_eq_true] at h
      by_cases e : i = n
      · subst e; exact h.2
      · exact ih h.1 i (by omega)
  intro x hx
  obtain ⟨i, hi, rfl⟩ := List.getElem_of_mem hx
  have := hg _ h i hi
  simpa [List.getD_eq_getElem?_getD, hi] using this
/-- A rule without its last byte, the line's end. -/
theorem rule_lex {x : GRule} (h : ruleOk x = true) {r : Bs} {tr : List Et} (hl : LxL r tr) : LxL (ruleOut x ++ r) (ruleTs x ++ tr) := by
  unfold ruleOk at h
  rw [Bool.and_eq_true, Bool.and_eq_true, Bool.and_eq_true] at h
  have hp := okTo_params h.2.2.1
  have e : ruleOut x ++ r = (x.name.data.toList ++ (rowB (x.params.map (·.data.toList)) ++ (altsB x.alts ++ [9, 59]))) ++ 10 :: r := by
    unfold ruleOut
    rw [namesOut_just, params_B, altsTo_B _ _ (Nat.le_refl _), List.take_length]
    simp
  rw [e]
  have hpc : Pc (x.name.data.toList ++ (rowB (x.params.map (·.data.toList)) ++ (altsB x.alts ++ [9, 59]))) (ruleTs x) :=
    (Pc.name (nameB_nam.1 h.2.1)).app ((Pw.row (fun y hy => Pc.name (nameB_nam.1 (hp y hy)))).app ((alts_pw h.2.2.2).app (Pw.blank (c := 9) (by decide) (Pw.sign (c := 59) (by decide) Pc.nil).lex)))
  exact hpc _ _ (show isNm 10 = false by decide) (LxL.blank (by decide) hl)
theorem rules_lex {l : List GRule} (h : l.all ruleOk = true) : LxL (rulesOut l) (l.flatMap ruleTs) := by
  induction l with
  | nil => exact LxL.nil
  | cons x l ih =>
    rw [List.all_cons, Bool.and_eq_true] at h
    exact rule_lex h.1 (ih h.2)
set_option maxRecDepth 100000 in
theorem kind_facts {k t : ByteArray} (h : kindOk k t = true) : isWordT k = true ∧ k.data.toList.all isNm = true ∧ k.data.toList.head?.getD 0 ≠ 37 := by
  unfold kindOk at h
  split at h
  · rename_i e; subst e; decide
  · split at h
    · rename_i e; subst e; decide
    · split at h
      · rename_i e
        rcases e with rfl | rfl | rfl | rfl <;> decide
      · cases h
theorem decl_pw {x : GDecl} (h : declOk x = true) : Pw (declOut x) (declTs x) := by
  unfold declOk at h
  rw [Bool.and_eq_true, Bool.and_eq_true, Bool.and_eq_true, decide_eq_true_eq] at h
  obtain ⟨hk, h0, ht, hn⟩ := h
  obtain ⟨k1, k2, k3⟩ := kind_facts hk
  have hN := List.all_eq_true.1 hn
  have htype : Pw (typeOut x.type) (typeTs x.type) := by
    unfold typeOut typeTs
    unfold precOk at ht
    split
    · exact Pw.nil
    · rename_i e
      rw [if_neg e] at ht
      rw [namesOut_just]
      exact Pw.blank (c := 32) (by decide) (Pw.sign (c := 60) (by decide) ((Pc.name (nameB_nam.1 ht)).app (Pw.sign (c := 62) (by decide) Pc.nil))).lex
  have hnames : Pw (namesOut ⟨#[32]⟩ x.names) (x.names.flatMap nameTs) := Pw.flat (fun y hy => Pw.blank (c := 32) (by decide) (Pc.name (nameB_nam.1 (hN y hy))))
  have hrest : Pw (typeOut x.type ++ (namesOut ⟨#[32]⟩ x.names ++ [59, 10])) (typeTs x.type ++ (x.names.flatMap nameTs ++ [(6, ⟨#[59]⟩)])) :=
    htype.app (hnames.app (Pw.sign (c := 59) (by decide) (Pw.blank (c := 10) (by decide) Pc.nil).lex))
  refine ⟨fun r _ => show isNm 37 = false by decide, fun r tr hr hl => ?_⟩
  have := LxL.dir (x := x.kind) k1 k2 k3 (hrest.stop r hr) (hrest.lex r tr hr hl)
  have e : declOut x ++ r = 37 :: (x.kind.data.toList ++ (typeOut x.type ++ (namesOut ⟨#[32]⟩ x.names ++ [59, 10]) ++ r)) := by unfold declOut; simp
  rw [e]
  exact this
theorem text_lex {x : GText} (h : textOk x = true) : LxL (textOut x) (textTs x) := by
  unfold textOk at h
  rw [Bool.and_eq_true] at h
  have hd : Pw (declsOut x.decls) (x.decls.flatMap declTs) := Pw.flat (fun y hy => decl_pw (List.all_eq_true.1 h.1 y hy))
  exact hd.lex _ _ (show isNm 37 = false by decide) (LxL.pp (LxL.blank (c := 10) (by decide) (rules_lex h.2)))
end Go.Proofs.Ytejpmdlokmlmeaa
/- What is made of the tokens that a text tells: that text again, but for places. No condition, no program. -/
namespace Go.Proofs.Ytejpmdlokmlmeaa

def hdE (e : List Et) : Et := e.headD (7, ⟨#[]⟩)
def isE (k : Nat) (ts : List ByteArray) (e : List Et) : Bool := (hdE e).1 == k && (ts.isEmpty || Lib.containsS ts (hdE e).2)
theorem isK_er (k : Nat) (ts : List ByteArray) (l : List Tk) : isK k ts l = isE k ts (l.map er) := by
  cases l <;> rfl
theorem er_cons {l : List Tk} {e : List Et} {k : Nat} {x : ByteArray} (h : l.map er = (k, x) :: e) : ∃ t l', l = t :: l' ∧ t.kind = k ∧ t.text = x ∧ l'.map er = e := by
  cases l with
  | nil => cases h
  | cons t l' =>
    rw [List.map_cons] at h
    injection h with h1 h2
    injection h1 with h3 h4
    exact ⟨t, l', rfl, h3, h4, h2⟩
theorem mustS_er {l : List Tk} {e : List Et} {k : Nat} {x : ByteArray} {ts : List ByteArray} (h : l.map er = (k, x) :: e) (hx : (ts.isEmpty || Lib.containsS ts x) = true) : ∃ l', mustS k ts l = .ok (x, l') ∧ l'.map er = e := by
  obtain ⟨t, l', rfl, h1, h2, h3⟩ := er_cons h
  refine ⟨l', ?_, h3⟩
  unfold mustS
  rw [isK_er, h, if_pos (by
    show ((k == k) && (ts.isEmpty || Lib.containsS ts x)) = true
    rw [hx, beq_self_eq_true]
    rfl)]
  show Except.ok (t.text, l') = _
  rw [h2]
theorem nameS_er {l : List Tk} {e : List Et} {x : ByteArray} (h : l.map er = (2, x) :: e) : ∃ l', nameS l = .ok (x, l') ∧ l'.map er = e := mustS_er h rfl
section
variable {α β : Type} {part : List Tk → RE (α × List Tk)} {f : α → β} {tks : α → List Et} {Q : List Et → Prop}
/-- A part's reader gives the part again, where Q tells what follows. -/
def Rd (part : List Tk → RE (α × List Tk)) (f : α → β) (tks : α → List Et) (Q : List Et → Prop) (x : α) : Prop :=
  ∀ l e, l.map er = tks x ++ e → Q e → ∃ x' l', part l = .ok (x', l') ∧ f x' = f x ∧ l'.map er = e
theorem more_er {b : ByteArray} (hb : Lib.containsS [b] b = true) (hQb : ∀ e, Q ((6, b) :: e)) : ∀ (xs : List α) (n : Nat) (l : List Tk) (e : List Et), (∀ x ∈ xs, Rd part f tks Q x) → xs.length ≤ n → isE 6 [b] e = false → Q e → l.map er = xs.flatMap (fun y => (6, b) :: tks y) ++ e →
    ∃ xs' l', moreN b part n l = .ok (xs', l') ∧ xs'.map f = xs.map f ∧ l'.map er = e := by
  intro xs
  induction xs with
  | nil =>
    intro n l e _ _ he _ hl
    refine ⟨[], l, ?_, rfl, hl⟩
    cases n with
    | zero => rfl
    | succ n =>
      rw [moreN, isK_er, hl]
      simp only [List.flatMap_nil, List.nil_append, he]
      rfl
  | cons x xs ih =>
    intro n l e h hn he hQ hl
    obtain ⟨n, rfl⟩ : ∃ k, n = k + 1 := ⟨n - 1, by simp at hn; omega⟩
    rw [List.flatMap_cons, List.cons_append, List.cons_append, List.append_assoc] at hl
    obtain ⟨t, l1, rfl, h1, h2, h3⟩ := er_cons hl
    have hQ' : Q (xs.flatMap (fun y => (6, b) :: tks y) ++ e) := by
      cases xs with
      | nil => exact hQ
      | cons y xs => exact hQb _
    obtain ⟨x', l2, p1, p2, p3⟩ := h x (by simp) _ _ h3 hQ'
    obtain ⟨xs', l3, q1, q2, q3⟩ := ih n l2 e (fun y hy => h y (List.mem_cons_of_mem _ hy)) (by simp at hn; omega) he hQ p3
    refine ⟨x' :: xs', l3, ?_, by rw [List.map_cons, List.map_cons, p2, q2], q3⟩
    rw [moreN, isK_er, hl, if_pos (by show ((6 == 6) && ([b].isEmpty || Lib.containsS [b] b)) = true; rw [hb]; rfl)]
    simp only [List.tail_cons, p1, exOk, q1]
theorem flat_len' {b : ByteArray} {xs : List α} {e : List Et} : xs.length ≤ (xs.flatMap (fun y => (6, b) :: tks y) ++ e).length := by
  induction xs with
  | nil => exact Nat.zero_le _
  | cons x xs ih => rw [List.flatMap_cons, List.append_assoc, List.length_append, List.length_cons, List.length_cons]; omega
theorem list_er {b : ByteArray} (hb : Lib.containsS [b] b = true) (hQb : ∀ e, Q ((6, b) :: e)) {x : α} {xs : List α} {l : List Tk} {e : List Et} (h : ∀ y ∈ x :: xs, Rd part f tks Q y) (he : isE 6 [b] e = false) (hQ : Q e) (hl : l.map er = tks x ++ (xs.flatMap (fun y => (6, b) :: tks y) ++ e)) :
    ∃ xs' l', listS b part l = .ok (xs', l') ∧ xs'.map f = (x :: xs).map f ∧ l'.map er = e := by
  have hQ' : Q (xs.flatMap (fun y => (6, b) :: tks y) ++ e) := by
    cases xs with
    | nil => exact hQ
    | cons y xs => exact hQb _
  obtain ⟨x', l2, p1, p2, p3⟩ := h x (by simp) _ _ hl hQ'
  have hlen : xs.length ≤ l2.length := by
    have h1 : (l2.map er).length = l2.length := by simp
    rw [← h1, p3]
    exact flat_len'
  obtain ⟨xs', l3, q1, q2, q3⟩ := more_er hb hQb xs l2.length l2 e (fun y hy => h y (List.mem_cons_of_mem _ hy)) hlen he hQ p3
  refine ⟨x' :: xs', l3, ?_, by rw [List.map_cons, List.map_cons, p2, q2], q3⟩
  unfold listS
  simp only [p1, exOk, q1]
/-- No bracket follows. -/
def NoP (e : List Et) : Prop := isE 6 [⟨#[40]⟩] e = false
theorem given_er (hQ1 : ∀ e, Q ((6, ⟨#[44]⟩) :: e)) (hQ2 : ∀ e, Q ((6, ⟨#[41]⟩) :: e)) {xs : List α} {l : List Tk} {e : List Et} (h : ∀ y ∈ xs, Rd part f tks Q y) (he : NoP e) (hl : l.map er = rowTs (xs.map tks) ++ e) :
    ∃ xs' l', givenS part l = .ok (xs', l') ∧ xs'.map f = xs.map f ∧ l'.map er = e := by
  cases xs with
  | nil =>
    refine ⟨[], l, ?_, rfl, hl⟩
    unfold givenS
    rw [isK_er, hl]
    simp only [rowTs, List.map_nil, List.nil_append, show isE 6 [⟨#[40]⟩] e = false from he]
    rfl
  | cons x xs =>
    have hl' : l.map er = (6, ⟨#[40]⟩) :: (tks x ++ (xs.flatMap (fun y => (6, ⟨#[44]⟩) :: tks y) ++ ((6, ⟨#[41]⟩) :: e))) := by
      rw [hl, List.map_cons, rowTs, List.flatMap_map]
      simp
    obtain ⟨t, l1, rfl, h1, h2, h3⟩ := er_cons hl'
    obtain ⟨xs', l2, p1, p2, p3⟩ := list_er (b := ⟨#[44]⟩) (by decide) hQ1 h (by rfl) (hQ2 e) h3
    obtain ⟨l3, q1, q2⟩ := mustS_er (ts := [⟨#[41]⟩]) p3 (by decide)
    refine ⟨xs', l3, ?_, p2, q2⟩
    unfold givenS
    rw [isK_er, hl', if_pos (by rfl)]
    simp only [List.tail_cons, p1, exOk, q1]
end
theorem word_er (m : Nat) : ∀ (x : GWord) (d n : Nat), wsize x < m → wordOk x d = true → n + d = 61 → Rd (wordN n) bareG wordTs NoP x := by
  induction m with
  | zero => intro x d n h; omega
  | succ m ih =>
    intro x d n hs h hn l e hl he
    obtain ⟨nm, args, k⟩ := x
    rw [wsize] at hs
    rw [wordOk, Bool.and_eq_true, Bool.and_eq_true, wordsOk_all, decide_eq_true_eq] at h
    rw [wordTs, wordsTs_map, List.cons_append] at hl
    obtain ⟨n, rfl⟩ : ∃ k, n = k + 1 := ⟨n - 1, by omega⟩
    obtain ⟨l1, p1, p2⟩ := nameS_er hl
    obtain ⟨xs', l2, q1, q2, q3⟩ := given_er (part := wordN n) (f := bareG) (tks := wordTs) (Q := NoP) (fun _ => rfl) (fun _ => rfl) (xs := args) (fun y hy => ih y (d + 1) n (by have := wsizes_mem hy; omega) (List.all_eq_true.1 h.2.2 y hy) (by omega)) he p2
    refine ⟨_, l2, by rw [wordN]; simp only [p1, exOk, q1]; rfl, ?_, q3⟩
    rw [bareG, bareG, bareGs_map, bareGs_map, q2]
theorem words_er : ∀ (xs : List GWord) (n : Nat) (l : List Tk) (e : List Et), xs.all (wordOk · 0) = true → xs.length ≤ n → isE 2 [] e = false → NoP e → l.map er = xs.flatMap wordTs ++ e →
    ∃ xs' l', wordsN n l = .ok (xs', l') ∧ xs'.map bareG = xs.map bareG ∧ l'.map er = e := by
  intro xs
  induction xs with
  | nil =>
    intro n l e _ _ he _ hl
    refine ⟨[], l, ?_, rfl, hl⟩
    cases n with
    | zero => rfl
    | succ n =>
      rw [wordsN, isK_er, hl]
      simp only [List.flatMap_nil, List.nil_append, he]
      rfl
  | cons x xs ih =>
    intro n l e h hn he hQ hl
    obtain ⟨n, rfl⟩ : ∃ k, n = k + 1 := ⟨n - 1, by simp at hn; omega⟩
    rw [List.all_cons, Bool.and_eq_true] at h
    rw [List.flatMap_cons, List.append_assoc] at hl
    have hQ' : NoP (xs.flatMap wordTs ++ e) := by
      cases xs with
      | nil => exact hQ
      | cons y xs => obtain ⟨a, b, c⟩ := y; rw [List.flatMap_cons, wordTs]; rfl
    have h2 : isK 2 [] l = true := by
      rw [isK_er, hl]
      obtain ⟨a, b, c⟩ := x
      rw [wordTs]; rfl
    obtain ⟨x', l2, p1, p2, p3⟩ := word_er _ x 0 61 (Nat.lt_succ_self _) h.1 rfl l _ hl hQ'
    obtain ⟨xs', l3, q1, q2, q3⟩ := ih n l2 e h.2 (by simp at hn; omega) he hQ p3
    refine ⟨x' :: xs', l3, ?_, by rw [List.map_cons, List.map_cons, p2, q2], q3⟩
    rw [wordsN, if_pos h2]
    simp only [p1, exOk, q1]
theorem prec_er {p : ByteArray} {l : List Tk} {e : List Et} (he : isE 1 [kPrec] e = false) (hl : l.map er = precTs p ++ e) : ∃ l', precS l = .ok (p, l') ∧ l'.map er = e := by
  unfold precTs at hl
  split at hl
  · rename_i hp
    refine ⟨l, ?_, hl⟩
    unfold precS
    rw [isK_er, hl, List.nil_append, show isE 1 [⟨#[112, 114, 101, 99]⟩] e = false from he, hp]
    rfl
  · obtain ⟨t, l1, rfl, h1, h2, h3⟩ := er_cons hl
    obtain ⟨l2, p1, p2⟩ := nameS_er h3
    refine ⟨l2, ?_, p2⟩
    unfold precS
    rw [isK_er, hl, if_pos (by rfl)]
    exact p1
/-- Behind an alternative. -/
structure AfA (e : List Et) : Prop where
  two : isE 2 [] e = false
  br : NoP e
  one : isE 1 [kPrec] e = false
  nine : isE 9 [] e = false
theorem alt_er {x : GAlt} (h : altOk x = true) : Rd altS plainA altTs AfA x := by
  intro l e hl he
  unfold altOk at h
  rw [Bool.and_eq_true, Bool.and_eq_true] at h
  obtain ⟨hw, hp, ha⟩ := h
  unfold altTs at hl
  rw [List.append_assoc, List.append_assoc] at hl
  have e9 : isE 2 [] (actTs x ++ e) = false ∧ NoP (actTs x ++ e) ∧ isE 1 [kPrec] (actTs x ++ e) = false := by
    unfold actTs
    split
    · exact ⟨rfl, rfl, rfl⟩
    · exact ⟨he.two, he.br, he.one⟩
  have e1 : isE 2 [] (precTs x.prec ++ (actTs x ++ e)) = false ∧ NoP (precTs x.prec ++ (actTs x ++ e)) := by
    unfold precTs
    split
    · exact ⟨e9.1, e9.2.1⟩
    · exact ⟨rfl, rfl⟩
  have hlen : x.words.length ≤ l.length := by
    have h1 : (l.map er).length = l.length := by simp
    rw [← h1, hl, List.length_append]
    have h2 : ∀ ws : List GWord, ws.length ≤ (ws.flatMap wordTs).length := by
      intro ws
      induction ws with
      | nil => exact Nat.zero_le _
      | cons y ws ih => obtain ⟨a, b, c⟩ := y; rw [List.flatMap_cons, wordTs, List.length_append, List.length_cons, List.length_cons]; omega
    have := h2 x.words
    omega
  obtain ⟨ws, l1, p1, p2, p3⟩ := words_er x.words l.length l _ hw hlen e1.1 e1.2 hl
  obtain ⟨l2, q1, q2⟩ := prec_er e9.2.2 p3
  unfold altS
  simp only [p1, exOk, q1]
  unfold actTs at q2
  unfold actOk at ha
  by_cases hx : x.has = true
  · rw [if_pos hx] at q2
    obtain ⟨t, l3, rfl, h1, h2, h3⟩ := er_cons q2
    refine ⟨(actR ws x.prec (hd l).at_ (t :: l3)).1, (actR ws x.prec (hd l).at_ (t :: l3)).2, rfl, ?_, ?_⟩
    · unfold actR
      rw [if_pos (by rw [isK_er, q2]; rfl)]
      show plainA ⟨ws, x.prec, true, t.text, _, _⟩ = plainA x
      simp only [plainA, p2, h2, hx]
    · unfold actR
      rw [if_pos (by rw [isK_er, q2]; rfl)]
      exact h3
  · rw [if_neg hx] at q2 ha
    rw [List.nil_append] at q2
    rw [decide_eq_true_eq] at ha
    have hx' : x.has = false := by simpa using hx
    refine ⟨(actR ws x.prec (hd l).at_ l2).1, (actR ws x.prec (hd l).at_ l2).2, rfl, ?_, ?_⟩
    · unfold actR
      rw [if_neg (by rw [isK_er, q2, he.nine]; decide)]
      simp only [plainA, p2, ha, hx']
    · unfold actR
      rw [if_neg (by rw [isK_er, q2, he.nine]; decide)]
      exact q2
theorem rule_er {x : GRule} (h : ruleOk x = true) (l : List Tk) (e : List Et) (hl : l.map er = ruleTs x ++ e) : ∃ x' l', ruleS l = .ok (x', l') ∧ plainR x' = plainR x ∧ l'.map er = e := by
  unfold ruleOk at h
  rw [Bool.and_eq_true, Bool.and_eq_true, Bool.and_eq_true, decide_eq_true_eq] at h
  obtain ⟨h0, -, -, hA⟩ := h
  have hA' := List.all_eq_true.1 hA
  unfold ruleTs at hl
  rw [List.cons_append, List.append_assoc, List.append_assoc] at hl
  obtain ⟨l1, p1, p2⟩ := nameS_er hl
  cases hal : x.alts with
  | nil => rw [hal] at h0; exact absurd h0 (by decide)
  | cons a al2 =>
    rw [hal, altsTs] at p2
    obtain ⟨ps, l2, q1, q2, q3⟩ := given_er (part := nameS) (f := id) (tks := nameTs) (Q := fun _ => True) (fun _ => trivial) (fun _ => trivial) (xs := x.params) (fun y hy l e hl _ => by
      obtain ⟨l', r1, r2⟩ := nameS_er hl
      exact ⟨y, l', r1, rfl, r2⟩) (by rfl) p2
    rw [List.map_id, List.map_id] at q2
    subst q2
    rw [List.cons_append] at q3
    obtain ⟨l3, r1, r2⟩ := mustS_er (ts := [⟨#[58]⟩]) q3 (by decide)
    rw [List.append_assoc] at r2
    have hAf : AfA ([((6, ⟨#[59]⟩) : Et)] ++ e) := ⟨rfl, rfl, rfl, rfl⟩
    obtain ⟨al, l4, s1, s2, s3⟩ := list_er (part := altS) (f := plainA) (tks := altTs) (Q := AfA) (b := ⟨#[124]⟩) (by decide) (fun _ => ⟨rfl, rfl, rfl, rfl⟩) (x := a) (xs := al2) (e := [((6, ⟨#[59]⟩) : Et)] ++ e) (fun y hy => alt_er (hA' y (by rw [hal]; exact hy))) (by rfl) hAf r2
    obtain ⟨l5, t1, t2⟩ := mustS_er (ts := [⟨#[59]⟩]) s3 (by decide)
    refine ⟨_, l5, by unfold ruleS; simp only [p1, exOk, q1, r1, s1, t1]; rfl, ?_, t2⟩
    simp only [plainR, s2, hal]
theorem namesR_er : ∀ (xs : List ByteArray) (l : List Tk) (e : List Et), isE 2 [] e = false → l.map er = xs.flatMap nameTs ++ e → ∃ l', namesR l = (xs, l') ∧ l'.map er = e := by
  intro xs
  induction xs with
  | nil =>
    intro l e he hl
    refine ⟨l, ?_, hl⟩
    exact namesR_no (by rw [isK_er, hl]; exact he)
  | cons x xs ih =>
    intro l e he hl
    rw [List.flatMap_cons, nameTs, List.append_assoc, List.cons_append] at hl
    obtain ⟨t, l1, rfl, h1, h2, h3⟩ := er_cons hl
    obtain ⟨l2, p1, p2⟩ := ih l1 e he h3
    refine ⟨l2, ?_, p2⟩
    rw [namesR, if_pos h1, p1, h2]
theorem type_er {k t : ByteArray} {l : List Tk} {e : List Et} (hk : kindOk k t = true) (he : isE 6 [⟨#[60]⟩] e = false) (hl : l.map er = typeTs t ++ e) : ∃ l', typeS k l = .ok (t, l') ∧ l'.map er = e := by
  unfold kindOk at hk
  unfold typeTs at hl
  by_cases ht : t = ⟨#[]⟩
  · rw [if_pos ht, List.nil_append] at hl
    refine ⟨l, ?_, hl⟩
    have hn : ¬ (k = ⟨#[116, 121, 112, 101]⟩ ∨ (k = ⟨#[116, 111, 107, 101, 110]⟩ ∧ isK 6 [⟨#[60]⟩] l = true)) := by
      rintro (rfl | ⟨-, h⟩)
      · rw [if_neg (by decide), if_pos rfl, ht] at hk
        exact absurd hk (by decide)
      · rw [isK_er, hl, he] at h
        cases h
    unfold typeS
    rw [if_neg hn, ht]
  · rw [if_neg ht] at hl
    obtain ⟨l1, p1, p2⟩ := mustS_er (ts := [⟨#[60]⟩]) hl (by decide)
    obtain ⟨l2, q1, q2⟩ := nameS_er p2
    obtain ⟨l3, r1, r2⟩ := mustS_er (ts := [⟨#[62]⟩]) q2 (by decide)
    refine ⟨l3, ?_, r2⟩
    have hy : k = ⟨#[116, 121, 112, 101]⟩ ∨ (k = ⟨#[116, 111, 107, 101, 110]⟩ ∧ isK 6 [⟨#[60]⟩] l = true) := by
      by_cases h1 : k = kToken
      · exact .inr ⟨h1, by rw [isK_er, hl]; rfl⟩
      · rw [if_neg h1] at hk
        by_cases h2 : k = kType
        · exact .inl h2
        · rw [if_neg h2] at hk
          split at hk
          · rw [decide_eq_true_eq] at hk; exact absurd hk ht
          · cases hk
    unfold typeS
    rw [if_pos hy]
    simp only [p1, exOk, q1, r1]
theorem kind_dirs {k t : ByteArray} (h : kindOk k t = true) : ((sDirs).isEmpty || Lib.containsS sDirs k) = true := by
  unfold kindOk at h
  split at h
  · rename_i e; subst e; decide
  · split at h
    · rename_i e; subst e; decide
    · split at h
      · rename_i e
        rcases e with rfl | rfl | rfl | rfl <;> decide
      · cases h
theorem decl_er {x : GDecl} (h : declOk x = true) (l : List Tk) (e : List Et) (hl : l.map er = declTs x ++ e) : ∃ x' l', declS l = .ok (x', l') ∧ plainD x' = plainD x ∧ l'.map er = e := by
  unfold declOk at h
  rw [Bool.and_eq_true, Bool.and_eq_true, Bool.and_eq_true, decide_eq_true_eq] at h
  obtain ⟨hk, h0, -, -⟩ := h
  unfold declTs at hl
  rw [List.cons_append, List.append_assoc, List.append_assoc] at hl
  cases hn : x.names with
  | nil => rw [hn] at h0; exact absurd h0 (by decide)
  | cons n ns =>
    rw [hn, List.flatMap_cons] at hl
    obtain ⟨l1, p1, p2⟩ := mustS_er (ts := sDirs) hl (kind_dirs hk)
    obtain ⟨l2, q1, q2⟩ := type_er hk (by rfl) p2
    rw [nameTs, List.append_assoc, List.cons_append] at q2
    obtain ⟨l3, r1, r2⟩ := nameS_er q2
    obtain ⟨l4, s1, s2⟩ := namesR_er ns l3 _ (by rfl) r2
    obtain ⟨l5, t1, t2⟩ := mustS_er (ts := [⟨#[59]⟩]) s2 (by decide)
    refine ⟨_, l5, by unfold declS; simp only [p1, exOk, q1, r1, s1, t1]; rfl, ?_, t2⟩
    simp only [plainD, hn]
theorem decls_er : ∀ (xs : List GDecl) (n : Nat) (l : List Tk) (e : List Et), xs.all declOk = true → xs.length ≤ n → isE 1 [] e = false → l.map er = xs.flatMap declTs ++ e →
    ∃ xs' l', declsN n l = .ok (xs', l') ∧ xs'.map plainD = xs.map plainD ∧ l'.map er = e := by
  intro xs
  induction xs with
  | nil =>
    intro n l e _ _ he hl
    refine ⟨[], l, ?_, rfl, hl⟩
    cases n with
    | zero => rfl
    | succ n =>
      rw [declsN, isK_er, hl]
      simp only [List.flatMap_nil, List.nil_append, he]
      rfl
  | cons x xs ih =>
    intro n l e h hn he hl
    obtain ⟨n, rfl⟩ : ∃ k, n = k + 1 := ⟨n - 1, by simp at hn; omega⟩
    rw [List.all_cons, Bool.and_eq_true] at h
    rw [List.flatMap_cons, List.append_assoc] at hl
    have h2 : isK 1 [] l = true := by
      rw [isK_er, hl]
      rfl
    obtain ⟨x', l2, p1, p2, p3⟩ := decl_er h.1 l _ hl
    obtain ⟨xs', l3, q1, q2, q3⟩ := ih n l2 e h.2 (by simp at hn; omega) he p3
    refine ⟨x' :: xs', l3, ?_, by rw [List.map_cons, List.map_cons, p2, q2], q3⟩
    rw [declsN, if_pos h2]
    simp only [p1, exOk, q1]
theorem rules_er : ∀ (xs : List GRule) (n : Nat) (l : List Tk) (e : List Et), xs.all ruleOk = true → xs.length ≤ n → isE 7 [] e = true → l.map er = xs.flatMap ruleTs ++ e →
    ∃ xs', rulesN n l = .ok xs' ∧ xs'.map plainR = xs.map plainR := by
  intro xs
  induction xs with
  | nil =>
    intro n l e _ _ he hl
    refine ⟨[], ?_, rfl⟩
    cases n with
    | zero => rfl
    | succ n =>
      rw [rulesN, isK_er, hl]
      simp only [List.flatMap_nil, List.nil_append, he]
      rfl
  | cons x xs ih =>
    intro n l e h hn he hl
    obtain ⟨n, rfl⟩ : ∃ k, n = k + 1 := ⟨n - 1, by simp at hn; omega⟩
    rw [List.all_cons, Bool.and_eq_true] at h
    rw [List.flatMap_cons, List.append_assoc] at hl
    have h2 : ¬ isK 7 [] l = true := by
      rw [isK_er, hl]
      exact Bool.false_ne_true
    obtain ⟨x', l2, p1, p2, p3⟩ := rule_er h.1 l _ hl
    obtain ⟨xs', q1, q2⟩ := ih n l2 e h.2 (by simp at hn; omega) he p3
    refine ⟨x' :: xs', ?_, by rw [List.map_cons, List.map_cons, p2, q2]⟩
    rw [rulesN, if_neg h2]
    simp only [p1, exOk, q1]
theorem flat_len1 {α : Type} {tks : α → List Et} (h : ∀ x, 1 ≤ (tks x).length) (xs : List α) : xs.length ≤ (xs.flatMap tks).length := by
  induction xs with
  | nil => exact Nat.zero_le _
  | cons x xs ih => rw [List.flatMap_cons, List.length_append, List.length_cons]; have := h x; omega
theorem text_er {x : GText} (h : textOk x = true) {l : List Tk} {e : List Et} (he : isE 7 [] e = true) (hl : l.map er = textTs x ++ e) : ∃ u, textS l = .ok u ∧ plainG u = plainG x := by
  unfold textOk at h
  rw [Bool.and_eq_true] at h
  unfold textTs at hl
  rw [List.append_assoc, List.cons_append] at hl
  have h1 : x.decls.length ≤ l.length := by
    have h1 : (l.map er).length = l.length := by simp
    rw [← h1, hl, List.length_append]
    have := flat_len1 (tks := declTs) (fun x => by simp [declTs]) x.decls
    omega
  obtain ⟨ds, l1, p1, p2, p3⟩ := decls_er x.decls l.length l _ h.1 h1 (by rfl) hl
  obtain ⟨l2, q1, q2⟩ := mustS_er (ts := [⟨#[37, 37]⟩]) p3 (by decide)
  have h2 : x.rules.length ≤ l2.length := by
    have h1 : (l2.map er).length = l2.length := by simp
    rw [← h1, q2, List.length_append]
    have := flat_len1 (tks := ruleTs) (fun x => by simp [ruleTs]) x.rules
    omega
  obtain ⟨rs, r1, r2⟩ := rules_er x.rules l2.length l2 _ h.2 h2 he q2
  refine ⟨⟨ds, rs⟩, by unfold textS; simp only [p1, exOk, q1, r1], ?_⟩
  simp only [plainG, p2, r2]
/-- What is written of a text is read as that text again, but for places. -/
theorem read_written {x : GText} (h : textOk x = true) (hs : (textOut x).length ≤ 65536) : ∃ u, readS (ba (textOut x)) = .ok u ∧ plainG u = plainG x := by
  have hsz : (ba (textOut x)).size = (textOut x).length := by
    have := congrArg List.length (ba_list (textOut x))
    simpa using this
  obtain ⟨l, h1, h2⟩ := lexS_of (s := ba (textOut x)) (by omega) (by rw [ba_list]; exact text_lex h)
  obtain ⟨u, h3, h4⟩ := text_er h (by rfl) h2
  refine ⟨u, ?_, h4⟩
  unfold readS
  rw [h1]
  exact h3
theorem read_long {s : ByteArray} (h : 65536 < s.size) : readS s = .error (3, 0) := by
  unfold readS lexS
  rw [if_pos h]
  rfl
end Go.Proofs.Ytejpmdlokmlmeaa
/- What is read may be written, and is not long. No condition, no program. -/
namespace Go.Proofs.Ytejpmdlokmlmeaa

theorem bind_ok {α β : Type} {x : RE α} {f : α → RE β} {b : β} (h : (x >>= f) = .ok b) : ∃ a, x = .ok a ∧ f a = .ok b := by
  cases x with
  | error e => cases h
  | ok a => exact ⟨a, rfl, h⟩
/-- What tokens may cost. -/
def cost (l : List Tk) : Nat := (l.map (fun t => t.text.data.toList.length + 20)).sum
theorem cost_cons (t : Tk) (l : List Tk) : cost (t :: l) = t.text.data.toList.length + 20 + cost l := rfl
def AllT (n : Nat) (l : List Tk) : Prop := ∀ t ∈ l, TkOk n t
theorem AllT.tail {n : Nat} {l : List Tk} (h : AllT n l) : AllT n l.tail := fun t ht => h t (List.mem_of_mem_tail ht)
theorem AllT.hd {n : Nat} {l : List Tk} (h : AllT n l) : TkOk n (hd l) := by
  cases l with
  | nil => exact ⟨fun h => absurd (show (7 : Nat) = 2 from h) (by decide), fun h => absurd (show (7 : Nat) = 9 from h) (by decide), Nat.zero_le _⟩
  | cons t l => exact h t (by simp)
theorem cost_hd {l : List Tk} (h : (hd l).kind ≠ 7) : cost l = (hd l).text.data.toList.length + 20 + cost l.tail := by
  cases l with
  | nil => exact absurd rfl h
  | cons t l => rfl
theorem isK_kind {k : Nat} {ts : List ByteArray} {l : List Tk} (h : isK k ts l = true) : (hd l).kind = k ∧ (ts.isEmpty || Lib.containsS ts (hd l).text) = true := by
  unfold isK at h
  rw [Bool.and_eq_true, beq_iff_eq] at h
  exact h
theorem mustS_got {n k : Nat} {ts : List ByteArray} {l l' : List Tk} {x : ByteArray} (hk : k ≠ 7) (h : mustS k ts l = .ok (x, l')) (ha : AllT n l) : AllT n l' ∧ x.data.toList.length + 20 + cost l' = cost l ∧ isK k ts l = true ∧ x = (hd l).text := by
  unfold mustS at h
  split at h
  · rename_i hi
    injection h with h; injection h with h1 h2
    subst h1 h2
    exact ⟨ha.tail, (cost_hd (by rw [(isK_kind hi).1]; exact hk)).symm, hi, rfl⟩
  · cases h
theorem nameS_got {n : Nat} {l l' : List Tk} {x : ByteArray} (h : nameS l = .ok (x, l')) (ha : AllT n l) : nameB x = true ∧ AllT n l' ∧ x.data.toList.length + 20 + cost l' = cost l := by
  obtain ⟨h1, h2, h3, h4⟩ := mustS_got (by decide) h ha
  refine ⟨nameB_nam.2 ?_, h1, h2⟩
  rw [h4]
  exact ha.hd.two (isK_kind h3).1
section
variable {α : Type} {part : List Tk → RE (α × List Tk)} {ok : α → Bool} {sz : α → Nat} {n : Nat}
/-- A part's reader gives what may be written, for what its tokens cost. -/
def Gd (n : Nat) (part : List Tk → RE (α × List Tk)) (ok : α → Bool) (sz : α → Nat) : Prop :=
  ∀ l x l', part l = .ok (x, l') → AllT n l → ok x = true ∧ AllT n l' ∧ sz x + cost l' ≤ cost l + 8
def szs (sz : α → Nat) (xs : List α) : Nat := (xs.map (fun x => sz x + 12)).sum
theorem more_got {b : ByteArray} (hp : Gd n part ok sz) : ∀ (m : Nat) (l l' : List Tk) (xs : List α), moreN b part m l = .ok (xs, l') → AllT n l → xs.all ok = true ∧ AllT n l' ∧ szs sz xs + cost l' ≤ cost l := by
  intro m
  induction m with
  | zero => intro l l' xs h ha; cases h; exact ⟨rfl, ha, Nat.le_of_eq (Nat.zero_add _)⟩
  | succ m ih =>
    intro l l' xs h ha
    rw [moreN] at h
    split at h
    · rename_i hi
      obtain ⟨⟨x, l1⟩, h1, h⟩ := bind_ok h
      obtain ⟨⟨ys, l2⟩, h2, h⟩ := bind_ok h
      cases h
      obtain ⟨p1, p2, p3⟩ := hp _ _ _ h1 ha.tail
      obtain ⟨q1, q2, q3⟩ := ih _ _ _ h2 p2
      have hc := cost_hd (l := l) (by rw [(isK_kind hi).1]; decide)
      refine ⟨by rw [List.all_cons, p1, q1]; rfl, q2, ?_⟩
      have e : szs sz (x :: ys) = sz x + 12 + szs sz ys := rfl
      omega
    · cases h; exact ⟨rfl, ha, Nat.le_of_eq (Nat.zero_add _)⟩
theorem list_got {b : ByteArray} (hp : Gd n part ok sz) {l l' : List Tk} {xs : List α} (h : listS b part l = .ok (xs, l')) (ha : AllT n l) : xs.all ok = true ∧ 0 < xs.length ∧ AllT n l' ∧ szs sz xs + cost l' ≤ cost l + 20 := by
  unfold listS at h
  obtain ⟨⟨x, l1⟩, h1, h⟩ := bind_ok h
  obtain ⟨⟨ys, l2⟩, h2, h⟩ := bind_ok h
  cases h
  obtain ⟨p1, p2, p3⟩ := hp _ _ _ h1 ha
  obtain ⟨q1, q2, q3⟩ := more_got hp _ _ _ _ h2 p2
  refine ⟨by rw [List.all_cons, p1, q1]; rfl, by simp, q2, ?_⟩
  have e : szs sz (x :: ys) = sz x + 12 + szs sz ys := rfl
  omega
theorem given_got (hp : Gd n part ok sz) {l l' : List Tk} {xs : List α} (h : givenS part l = .ok (xs, l')) (ha : AllT n l) : xs.all ok = true ∧ AllT n l' ∧ (if xs.length = 0 then 0 else szs sz xs + 20) + cost l' ≤ cost l := by
  unfold givenS at h
  split at h
  · rename_i hi
    obtain ⟨⟨ys, l1⟩, h1, h⟩ := bind_ok h
    obtain ⟨⟨x, l2⟩, h2, h⟩ := bind_ok h
    cases h
    obtain ⟨p1, p2, p3, p4⟩ := list_got hp h1 ha.tail
    obtain ⟨q1, q2, -, -⟩ := mustS_got (by decide) h2 p3
    have hc := cost_hd (l := l) (by rw [(isK_kind hi).1]; decide)
    refine ⟨p1, q1, ?_⟩
    rw [if_neg (by omega)]
    omega
  · cases h; exact ⟨rfl, ha, by simp⟩
end
theorem rowB_len {α : Type} (out : α → Bs) (xs : List α) : (rowB (xs.map out)).length ≤ (if xs.length = 0 then 0 else szs (fun x => (out x).length) xs + 20) := by
  cases xs with
  | nil => exact Nat.le_refl _
  | cons x l =>
    have h : ∀ l : List α, ((l.map out).flatMap (fun y => (44 : UInt8) :: (32 :: y))).length ≤ szs (fun x => (out x).length) l := by
      intro l
      induction l with
      | nil => exact Nat.le_refl _
      | cons y l ih =>
        rw [List.map_cons, List.flatMap_cons, List.length_append, List.length_cons, List.length_cons]
        have e : szs (fun x => (out x).length) (y :: l) = (out y).length + 12 + szs (fun x => (out x).length) l := rfl
        omega
    have := h l
    have e : szs (fun x => (out x).length) (x :: l) = (out x).length + 12 + szs (fun x => (out x).length) l := rfl
    rw [if_neg (by simp), List.map_cons, rowB, List.length_cons, List.length_append, List.length_append, List.length_singleton]
    omega
theorem word_got (n : Nat) : ∀ m, m ≤ 61 → Gd n (wordN m) (wordOk · (61 - m)) (fun x => (wordOut x).length) := by
  intro m
  induction m with
  | zero => intro _ l x l' h; rw [wordN] at h; split at h <;> cases h
  | succ m ih =>
    intro hm l x l' h ha
    rw [wordN] at h
    obtain ⟨⟨nm, l1⟩, h1, h⟩ := bind_ok h
    obtain ⟨⟨ws, l2⟩, h2, h⟩ := bind_ok h
    cases h
    obtain ⟨p1, p2, p3⟩ := nameS_got h1 ha
    obtain ⟨q1, q2, q3⟩ := given_got (ih (by omega)) h2 p2
    have hr := rowB_len wordOut ws
    refine ⟨?_, q2, ?_⟩
    · show wordOk (.mk nm ws (hd l).at_) (61 - (m + 1)) = true
      rw [wordOk, p1, wordsOk_all, show 61 - (m + 1) + 1 = 61 - m by omega, q1]
      simp
    · show (wordOut (.mk nm ws (hd l).at_)).length + cost l' ≤ cost l + 8
      rw [wordOut, wordsOut_map, rowL_B, List.length_append]
      omega
theorem words_got {n : Nat} : ∀ (m : Nat) (l l' : List Tk) (xs : List GWord), wordsN m l = .ok (xs, l') → AllT n l → xs.all (wordOk · 0) = true ∧ AllT n l' ∧ (wordsSp xs).length + cost l' ≤ cost l := by
  intro m
  induction m with
  | zero => intro l l' xs h ha; cases h; exact ⟨rfl, ha, Nat.le_of_eq (Nat.zero_add _)⟩
  | succ m ih =>
    intro l l' xs h ha
    rw [wordsN] at h
    split at h
    · rename_i hi
      obtain ⟨⟨x, l1⟩, h1, h⟩ := bind_ok h
      obtain ⟨⟨ys, l2⟩, h2, h⟩ := bind_ok h
      cases h
      have h1' := h1
      rw [wordN] at h1'
      obtain ⟨⟨nm, l3⟩, g1, h1'⟩ := bind_ok h1'
      obtain ⟨⟨ws, l4⟩, g2, h1'⟩ := bind_ok h1'
      cases h1'
      obtain ⟨p1, p2, p3⟩ := nameS_got g1 ha
      obtain ⟨q1, q2, q3⟩ := given_got (word_got n 60 (by decide)) g2 p2
      obtain ⟨o1, -, -⟩ := word_got n 61 (by decide) _ _ _ h1 ha
      obtain ⟨r1, r2, r3⟩ := ih _ _ _ h2 q2
      have hr := rowB_len wordOut ws
      refine ⟨by rw [List.all_cons, r1, Bool.and_true]; exact o1, r2, ?_⟩
      show (wordsSp (.mk nm ws (hd l).at_ :: ys)).length + cost l' ≤ cost l
      have e : wordsSp (.mk nm ws (hd l).at_ :: ys) = [32] ++ wordOut (.mk nm ws (hd l).at_) ++ wordsSp ys := rfl
      rw [e, wordOut, wordsOut_map, rowL_B, List.length_append, List.length_append, List.length_append, List.length_singleton]
      omega
    · cases h; exact ⟨rfl, ha, Nat.le_of_eq (Nat.zero_add _)⟩
theorem nam_ne {x : ByteArray} (h : nameB x = true) : x ≠ ⟨#[]⟩ := by
  rintro rfl
  exact (nameB_nam.1 h).ne rfl
theorem precOk_name {x : ByteArray} (h : nameB x = true) : precOk x = true := by
  unfold precOk
  rw [if_neg (nam_ne h)]
  exact h
theorem prec_got {n : Nat} {l l' : List Tk} {p : ByteArray} (h : precS l = .ok (p, l')) (ha : AllT n l) : precOk p = true ∧ AllT n l' ∧ (precOut p).length + cost l' ≤ cost l := by
  unfold precS at h
  split at h
  · rename_i hi
    obtain ⟨p1, p2, p3⟩ := nameS_got h ha.tail
    have hc := cost_hd (l := l) (by rw [(isK_kind hi).1]; decide)
    refine ⟨precOk_name p1, p2, ?_⟩
    unfold precOut
    rw [if_neg (nam_ne p1), namesOut_just, List.length_append, show (sPrec.data.toList).length = 7 from rfl]
    omega
  · cases h; exact ⟨rfl, ha, Nat.le_of_eq (Nat.zero_add _)⟩
theorem alt_got {n : Nat} (hn : n ≤ 65536) : Gd n altS altOk (fun x => (altOut x).length) := by
  intro l x l' h ha
  unfold altS at h
  obtain ⟨⟨ws, l1⟩, h1, h⟩ := bind_ok h
  obtain ⟨⟨p, l2⟩, h2, h⟩ := bind_ok h
  obtain ⟨p1, p2, p3⟩ := words_got _ _ _ _ h1 ha
  obtain ⟨q1, q2, q3⟩ := prec_got h2 p2
  have h' : actR ws p (hd l).at_ l2 = (x, l') := Except.ok.inj h
  unfold actR at h'
  split at h'
  · rename_i hi
    injection h' with e1 e2
    subst e1 e2
    have hc := cost_hd (l := l2) (by rw [(isK_kind hi).1]; decide)
    obtain ⟨a1, a2⟩ := q2.hd.nine (isK_kind hi).1
    refine ⟨?_, q2.tail, ?_⟩
    · unfold altOk actOk
      simp only [p1, q1, Bool.true_and]
      rw [if_pos trivial]
      exact act_acn.2 ⟨a1, by omega⟩
    · show (altOut _).length + _ ≤ _
      unfold altOut actOut
      simp only [List.length_append, List.length_cons, List.length_nil, if_pos]
      omega
  · injection h' with e1 e2
    subst e1 e2
    refine ⟨?_, q2, ?_⟩
    · unfold altOk actOk
      simp only [p1, q1, Bool.true_and]
      rfl
    · show (altOut _).length + _ ≤ _
      unfold altOut actOut
      rw [if_neg Bool.false_ne_true]
      simp only [List.length_append, List.length_cons, List.length_nil]
      omega
theorem altsB_len (xs : List GAlt) : (altsB xs).length ≤ szs (fun x => (altOut x).length) xs := by
  cases xs with
  | nil => exact Nat.le_refl _
  | cons x l =>
    have h : ∀ l : List GAlt, (l.flatMap (fun y => (9 : UInt8) :: (124 :: altOut y))).length ≤ szs (fun x => (altOut x).length) l := by
      intro l
      induction l with
      | nil => exact Nat.le_refl _
      | cons y l ih =>
        rw [List.flatMap_cons, List.length_append, List.length_cons, List.length_cons]
        have e : szs (fun x => (altOut x).length) (y :: l) = (altOut y).length + 12 + szs (fun x => (altOut x).length) l := rfl
        omega
    have := h l
    have e : szs (fun x => (altOut x).length) (x :: l) = (altOut x).length + 12 + szs (fun x => (altOut x).length) l := rfl
    rw [altsB, List.length_cons, List.length_append]
    omega
theorem okTo_of {l : List ByteArray} (h : l.all nameB = true) : okTo (fun i => nameB (l.getD i ByteArray.empty)) l.length = true := by
  have hg : ∀ n, n ≤ l.length → okTo (fun i => nameB (l.getD i ByteArray.empty)) n = true := by
    intro n
    induction n with
    | zero => intro _; rfl
    | succ n ih =>
      intro hn
      rw [okTo, ih (by omega), Bool.true_and]
      exact List.all_eq_true.1 h _ (getD_mem _ hn)
  exact hg _ (Nat.le_refl _)
theorem rule_got {n : Nat} (hn : n ≤ 65536) {l l' : List Tk} {x : GRule} (h : ruleS l = .ok (x, l')) (ha : AllT n l) : ruleOk x = true ∧ AllT n l' ∧ (ruleOut x).length + cost l' ≤ cost l := by
  unfold ruleS at h
  obtain ⟨⟨nm, l1⟩, h1, h⟩ := bind_ok h
  obtain ⟨⟨ps, l2⟩, h2, h⟩ := bind_ok h
  obtain ⟨⟨c, l3⟩, h3, h⟩ := bind_ok h
  obtain ⟨⟨al, l4⟩, h4, h⟩ := bind_ok h
  obtain ⟨⟨d, l5⟩, h5, h⟩ := bind_ok h
  cases h
  obtain ⟨p1, p2, p3⟩ := nameS_got h1 ha
  obtain ⟨q1, q2, q3⟩ := given_got (part := nameS) (ok := nameB) (sz := fun x => x.data.toList.length) (fun l x l' h ha => by
    obtain ⟨a1, a2, a3⟩ := nameS_got h ha
    exact ⟨a1, a2, by show x.data.toList.length + cost l' ≤ _; omega⟩) h2 p2
  obtain ⟨r1, r2, -, -⟩ := mustS_got (by decide) h3 q2
  obtain ⟨s1, s2, s3, s4⟩ := list_got (alt_got hn) h4 r1
  obtain ⟨t1, t2, -, -⟩ := mustS_got (by decide) h5 s3
  have hr := rowB_len (fun x : ByteArray => x.data.toList) ps
  have hal := altsB_len al
  refine ⟨?_, t1, ?_⟩
  · unfold ruleOk
    rw [p1, okTo_of q1, s1, decide_eq_true s2]
    rfl
  · unfold ruleOut
    rw [namesOut_just, params_B, altsTo_B _ _ (Nat.le_refl _), List.take_length]
    simp only [List.length_append, List.length_cons, List.length_nil, show (ByteArray.mk #[]).data.toList.length = 0 from rfl]
    omega
theorem namesR_got {n : Nat} : ∀ (l : List Tk), AllT n l → (namesR l).1.all nameB = true ∧ AllT n (namesR l).2 ∧ (namesOut ⟨#[32]⟩ (namesR l).1).length + cost (namesR l).2 ≤ cost l := by
  intro l
  induction l with
  | nil => intro ha; exact ⟨rfl, ha, Nat.le_refl _⟩
  | cons t l ih =>
    intro ha
    rw [namesR]
    split
    · rename_i hk
      obtain ⟨h1, h2, h3⟩ := ih ha.tail
      have hn := nameB_nam.2 ((ha t (by simp)).two hk)
      refine ⟨by rw [List.all_cons, hn, h1]; rfl, h2, ?_⟩
      have e : namesOut ⟨#[32]⟩ (t.text :: (namesR l).1) = [32] ++ t.text.data.toList ++ namesOut ⟨#[32]⟩ (namesR l).1 := rfl
      rw [cost_cons]
      show (namesOut ⟨#[32]⟩ (t.text :: (namesR l).1)).length + cost (namesR l).2 ≤ _
      rw [e, List.length_append, List.length_append, List.length_singleton]
      omega
    · exact ⟨rfl, ha, Nat.le_of_eq (Nat.zero_add _)⟩
theorem dirs_kind {k : ByteArray} (h : ((sDirs).isEmpty || Lib.containsS sDirs k) = true) : k = kToken ∨ k = kType ∨ k = kLeft ∨ k = kRight ∨ k = kNonassoc ∨ k = kStart := by
  have h' : Lib.containsS sDirs k = true := h
  rw [Lib.containsS_iff] at h'
  simpa only [List.mem_cons, List.not_mem_nil, or_false] using h'
theorem type_got {n : Nat} {k t : ByteArray} {l l' : List Tk} (hk : k = kToken ∨ k = kType ∨ k = kLeft ∨ k = kRight ∨ k = kNonassoc ∨ k = kStart) (h : typeS k l = .ok (t, l')) (ha : AllT n l) : kindOk k t = true ∧ precOk t = true ∧ AllT n l' ∧ (typeOut t).length + cost l' ≤ cost l := by
  unfold typeS at h
  split at h
  · rename_i hc
    obtain ⟨⟨a, l1⟩, h1, h⟩ := bind_ok h
    obtain ⟨⟨b, l2⟩, h2, h⟩ := bind_ok h
    obtain ⟨⟨c, l3⟩, h3, h⟩ := bind_ok h
    cases h
    obtain ⟨p1, p2, -, -⟩ := mustS_got (by decide) h1 ha
    obtain ⟨q1, q2, q3⟩ := nameS_got h2 p1
    obtain ⟨r1, r2, -, -⟩ := mustS_got (by decide) h3 q2
    refine ⟨?_, precOk_name q1, r1, ?_⟩
    · unfold kindOk
      rcases hc with rfl | ⟨rfl, -⟩
      · rw [if_neg (by decide), if_pos rfl]; exact decide_eq_true (nam_ne q1)
      · rw [if_pos rfl]
    · unfold typeOut
      rw [if_neg (nam_ne q1), namesOut_just]
      simp only [List.length_append, List.length_cons, List.length_nil, show (ByteArray.mk #[32, 60]).data.toList.length = 2 from rfl]
      omega
  · rename_i hc
    cases h
    refine ⟨?_, rfl, ha, Nat.le_of_eq (Nat.zero_add _)⟩
    rcases hk with rfl | rfl | rfl | rfl | rfl | rfl
    · decide
    · exact absurd (.inl rfl) hc
    all_goals decide
theorem decl_got {n : Nat} {l l' : List Tk} {x : GDecl} (h : declS l = .ok (x, l')) (ha : AllT n l) : declOk x = true ∧ AllT n l' ∧ (declOut x).length + cost l' ≤ cost l := by
  unfold declS at h
  obtain ⟨⟨k, l1⟩, h1, h⟩ := bind_ok h
  obtain ⟨⟨t, l2⟩, h2, h⟩ := bind_ok h
  obtain ⟨⟨nm, l3⟩, h3, h⟩ := bind_ok h
  obtain ⟨⟨d, l5⟩, h5, h⟩ := bind_ok h
  cases h
  obtain ⟨p1, p2, p3, p4⟩ := mustS_got (by decide) h1 ha
  have hk := dirs_kind (k := k) (by rw [p4]; exact (isK_kind p3).2)
  obtain ⟨q1, q2, q3, q4⟩ := type_got hk h2 p1
  obtain ⟨r1, r2, r3⟩ := nameS_got h3 q3
  obtain ⟨s1, s2, s3⟩ := namesR_got l3 r2
  obtain ⟨t1, t2, -, -⟩ := mustS_got (by decide) h5 s2
  refine ⟨?_, t1, ?_⟩
  · unfold declOk
    simp only [q1, q2, List.all_cons, r1, s1, Bool.true_and, Bool.and_true]
    exact decide_eq_true (by simp)
  · unfold declOut
    have e : namesOut ⟨#[32]⟩ (nm :: (namesR l3).1) = [32] ++ nm.data.toList ++ namesOut ⟨#[32]⟩ (namesR l3).1 := rfl
    simp only [e, List.length_append, List.length_cons, List.length_nil]
    omega
theorem decls_got {n : Nat} : ∀ (m : Nat) (l l' : List Tk) (xs : List GDecl), declsN m l = .ok (xs, l') → AllT n l → xs.all declOk = true ∧ AllT n l' ∧ (declsOut xs).length + cost l' ≤ cost l := by
  intro m
  induction m with
  | zero => intro l l' xs h ha; cases h; exact ⟨rfl, ha, Nat.le_of_eq (Nat.zero_add _)⟩
  | succ m ih =>
    intro l l' xs h ha
    rw [declsN] at h
    split at h
    · obtain ⟨⟨x, l1⟩, h1, h⟩ := bind_ok h
      obtain ⟨⟨ys, l2⟩, h2, h⟩ := bind_ok h
      cases h
      obtain ⟨p1, p2, p3⟩ := decl_got h1 ha
      obtain ⟨q1, q2, q3⟩ := ih _ _ _ h2 p2
      refine ⟨by rw [List.all_cons, p1, q1]; rfl, q2, ?_⟩
      have e : declsOut (x :: ys) = declOut x ++ declsOut ys := rfl
      rw [e, List.length_append]
      omega
    · cases h; exact ⟨rfl, ha, Nat.le_of_eq (Nat.zero_add _)⟩
theorem rules_got {n : Nat} (hn : n ≤ 65536) : ∀ (m : Nat) (l : List Tk) (xs : List GRule), rulesN m l = .ok xs → AllT n l → xs.all ruleOk = true ∧ (rulesOut xs).length ≤ cost l := by
  intro m
  induction m with
  | zero => intro l xs h ha; cases h; exact ⟨rfl, Nat.zero_le _⟩
  | succ m ih =>
    intro l xs h ha
    rw [rulesN] at h
    split at h
    · cases h; exact ⟨rfl, Nat.zero_le _⟩
    · obtain ⟨⟨x, l1⟩, h1, h⟩ := bind_ok h
      obtain ⟨ys, h2, h⟩ := bind_ok h
      cases h
      obtain ⟨p1, p2, p3⟩ := rule_got hn h1 ha
      obtain ⟨q1, q2⟩ := ih _ _ h2 p2
      refine ⟨by rw [List.all_cons, p1, q1]; rfl, ?_⟩
      have e : rulesOut (x :: ys) = ruleOut x ++ rulesOut ys := rfl
      rw [e, List.length_append]
      omega
theorem cost_le {n : Nat} {l : List Tk} (h : AllT n l) : cost l ≤ l.length * (n + 22) := by
  induction l with
  | nil => exact Nat.zero_le _
  | cons t l ih =>
    have h1 := (h t (by simp)).len
    have h2 := ih (fun u hu => h u (List.mem_cons_of_mem _ hu))
    rw [cost_cons, List.length_cons, Nat.succ_mul]
    omega
/-- What is read may be written; what is written is not long. -/
theorem read_ok {s : ByteArray} {t : GText} (h : readS s = .ok t) : textOk t = true ∧ (textOut t).length ≤ 5000000000 := by
  unfold readS at h
  split at h
  · cases h
  · rename_i l hl
    obtain ⟨hs, hlen, hall⟩ := lexS_toks hl
    unfold textS at h
    obtain ⟨⟨ds, l1⟩, h1, h⟩ := bind_ok h
    obtain ⟨⟨c, l2⟩, h2, h⟩ := bind_ok h
    obtain ⟨rs, h3, h⟩ := bind_ok h
    cases h
    obtain ⟨p1, p2, p3⟩ := decls_got _ _ _ _ h1 hall
    obtain ⟨q1, q2, -, -⟩ := mustS_got (by decide) h2 p2
    obtain ⟨r1, r2⟩ := rules_got hs _ _ _ h3 q1
    refine ⟨by unfold textOk; simp only [p1, r1]; rfl, ?_⟩
    have hc := cost_le (n := s.size) hall
    have hm : l.length * (s.size + 22) ≤ 65537 * 65558 := Nat.mul_le_mul (by omega) (by omega)
    unfold textOut
    simp only [List.length_append, List.length_cons, List.length_nil]
    omega

theorem bare_out (m : Nat) : ∀ x, wsize x < m → wordOut (bareG x) = wordOut x := by
  induction m with
  | zero => intro x hx; omega
  | succ m ih =>
    intro x hx
    obtain ⟨n, args, k⟩ := x
    rw [wsize] at hx
    rw [bareG, wordOut, wordOut, wordsOut_map, wordsOut_map, bareGs_map, List.map_map]
    congr 2
    exact List.map_congr_left (fun y hy => ih y (by have := wsizes_mem hy; omega))
theorem bare_ok (m : Nat) : ∀ x d, wsize x < m → wordOk (bareG x) d = wordOk x d := by
  induction m with
  | zero => intro x d hx; omega
  | succ m ih =>
    intro x d hx
    obtain ⟨n, args, k⟩ := x
    rw [wsize] at hx
    rw [bareG, wordOk, wordOk, wordsOk_all, wordsOk_all, bareGs_map, List.all_map]
    congr 2
    rw [Bool.eq_iff_iff, List.all_eq_true, List.all_eq_true]
    have e : ∀ y ∈ args, ((fun x => wordOk x (d + 1)) ∘ bareG) y = wordOk y (d + 1) := fun y hy => ih y (d + 1) (by have := wsizes_mem hy; omega)
    exact ⟨fun h y hy => by rw [← e y hy]; exact h y hy, fun h y hy => by rw [e y hy]; exact h y hy⟩
theorem all_congr {α : Type} {p q : α → Bool} {l : List α} (h : ∀ x, p x = q x) : l.all p = l.all q := by
  rw [show p = q from funext h]
theorem flat_map_congr {α : Type} {p q : α → Bs} {l : List α} (h : ∀ x, p x = q x) : l.flatMap p = l.flatMap q := by
  rw [show p = q from funext h]
theorem plainA_out (x : GAlt) : altOut (plainA x) = altOut x ∧ altOk (plainA x) = altOk x := by
  constructor
  · unfold altOut
    have e : wordsSp (plainA x).words = wordsSp x.words := by
      show (x.words.map bareG).flatMap _ = _
      rw [List.flatMap_map]
      exact flat_map_congr (fun y => by rw [bare_out _ y (Nat.lt_succ_self _)])
    rw [e]
    rfl
  · unfold altOk
    have e : (plainA x).words.all (wordOk · 0) = x.words.all (wordOk · 0) := by
      show (x.words.map bareG).all _ = _
      rw [List.all_map]
      exact all_congr (fun y => bare_ok _ y 0 (Nat.lt_succ_self _))
    rw [e]
    rfl
theorem plainR_out (x : GRule) : ruleOut (plainR x) = ruleOut x ∧ ruleOk (plainR x) = ruleOk x := by
  have e0 : (plainR x).alts = x.alts.map plainA := rfl
  constructor
  · unfold ruleOut
    rw [altsTo_B _ _ (Nat.le_refl _), altsTo_B _ _ (Nat.le_refl _), List.take_length, List.take_length, e0]
    have e : altsB (x.alts.map plainA) = altsB x.alts := by
      cases x.alts with
      | nil => rfl
      | cons y l =>
        rw [List.map_cons, altsB, altsB, (plainA_out y).1, List.flatMap_map]
        congr 2
        exact flat_map_congr (fun y => by rw [(plainA_out y).1])
    rw [e]
    rfl
  · unfold ruleOk
    rw [e0, List.length_map, List.all_map]
    have e : x.alts.all (altOk ∘ plainA) = x.alts.all altOk := all_congr (fun y => (plainA_out y).2)
    rw [e]
    rfl
theorem plainG_out (x : GText) : textOut (plainG x) = textOut x ∧ textOk (plainG x) = textOk x := by
  constructor
  · show (x.decls.map plainD).flatMap declOut ++ ([37, 37, 10] ++ (x.rules.map plainR).flatMap ruleOut) = _
    rw [List.flatMap_map, List.flatMap_map]
    unfold textOut declsOut rulesOut
    rw [flat_map_congr (l := x.rules) (fun y => (plainR_out y).1)]
    rfl
  · show ((x.decls.map plainD).all declOk && (x.rules.map plainR).all ruleOk) = _
    rw [List.all_map, List.all_map]
    unfold textOk
    rw [all_congr (l := x.rules) (p := ruleOk ∘ plainR) (q := ruleOk) (fun y => (plainR_out y).2)]
    rfl
theorem same_out {x y : GText} (h : plainG x = plainG y) : textOut x = textOut y ∧ textOk x = textOk y := by
  rw [← (plainG_out x).1, ← (plainG_out x).2, h]
  exact plainG_out y
end Go.Proofs.Ytejpmdlokmlmeaa
/- A text has no more parts than bytes, as it is written. No condition, no program. -/
namespace Go.Proofs.Ytejpmdlokmlmeaa

theorem rowB_more (xs : List Bs) : (xs.map (fun x : Bs => x.length + 1)).sum ≤ (rowB xs).length := by
  cases xs with
  | nil => exact Nat.le_refl _
  | cons x l =>
    have h : ∀ l : List Bs, (l.map (fun x : Bs => x.length + 1)).sum ≤ (l.flatMap (fun y => (44 : UInt8) :: (32 :: y))).length := by
      intro l
      induction l with
      | nil => exact Nat.le_refl _
      | cons y l ih => rw [List.map_cons, List.sum_cons, List.flatMap_cons, List.length_append, List.length_cons, List.length_cons]; omega
    have := h l
    rw [List.map_cons, List.sum_cons, rowB, List.length_cons, List.length_append, List.length_append, List.length_singleton]
    omega
theorem wsize_out (m : Nat) : ∀ x, wsize x < m → wsize x ≤ 1 + (wordOut x).length := by
  induction m with
  | zero => intro x hx; omega
  | succ m ih =>
    intro x hx
    obtain ⟨n, args, k⟩ := x
    rw [wsize] at hx ⊢
    rw [wordOut, wordsOut_map, rowL_B, List.length_append]
    have h1 := rowB_more (args.map wordOut)
    have h2 : ∀ l : List GWord, wsizes l < m → wsizes l ≤ ((l.map wordOut).map (fun x : Bs => x.length + 1)).sum := by
      intro l
      induction l with
      | nil => intro _; exact Nat.le_refl _
      | cons y l ihl =>
        intro hl
        rw [wsizes] at hl ⊢
        have a1 := ih y (by omega)
        have a2 := ihl (by omega)
        rw [List.map_cons, List.map_cons, List.sum_cons]
        omega
    have := h2 args (by omega)
    omega
theorem wsizes_out (l : List GWord) : wsizes l ≤ (wordsSp l).length := by
  induction l with
  | nil => exact Nat.le_refl _
  | cons y l ih =>
    have a1 := wsize_out _ y (Nat.lt_succ_self _)
    have e : wordsSp (y :: l) = [32] ++ wordOut y ++ wordsSp l := rfl
    rw [wsizes, e, List.length_append, List.length_append, List.length_singleton]
    omega
theorem asize_out (x : GAlt) : asize x ≤ (altOut x).length := by
  have := wsizes_out x.words
  unfold asize altOut
  simp only [List.length_append, List.length_cons, List.length_nil]
  omega
theorem asizes_out (l : List GAlt) : asizes l ≤ (altsB l).length := by
  have h : ∀ l : List GAlt, asizes l ≤ (l.flatMap (fun y => (9 : UInt8) :: (124 :: altOut y))).length := by
    intro l
    induction l with
    | nil => exact Nat.le_refl _
    | cons y l ih =>
      have := asize_out y
      have e : asizes (y :: l) = asize y + asizes l := rfl
      rw [e, List.flatMap_cons, List.length_append, List.length_cons, List.length_cons]
      omega
  cases l with
  | nil => exact Nat.le_refl _
  | cons x l =>
    have := asize_out x
    have := h l
    have e : asizes (x :: l) = asize x + asizes l := rfl
    rw [e, altsB, List.length_cons, List.length_append]
    omega
theorem rsize_out (x : GRule) : rsize x ≤ (ruleOut x).length := by
  have h1 := asizes_out x.alts
  have h2 := rowB_more (x.params.map (·.data.toList))
  have h3 : x.params.length ≤ ((x.params.map (·.data.toList)).map (fun x : Bs => x.length + 1)).sum := by
    rw [List.map_map]
    exact sum_len (fun x => Nat.succ_le_succ (Nat.zero_le _)) x.params
  unfold rsize ruleOut
  rw [params_B, altsTo_B _ _ (Nat.le_refl _), List.take_length]
  simp only [List.length_append, List.length_cons, List.length_nil]
  omega
theorem rsizes_out (l : List GRule) : rsizes l ≤ (rulesOut l).length := by
  induction l with
  | nil => exact Nat.le_refl _
  | cons y l ih =>
    have := rsize_out y
    have e : rsizes (y :: l) = rsize y + rsizes l := rfl
    have e2 : rulesOut (y :: l) = ruleOut y ++ rulesOut l := rfl
    rw [e, e2, List.length_append]
    omega
theorem dsize_out (x : GDecl) : dsize x ≤ (declOut x).length := by
  have := namesOut_len ⟨#[32]⟩ x.names (by decide)
  unfold dsize declOut
  simp only [List.length_append, List.length_cons, List.length_nil]
  omega
theorem dsizes_out (l : List GDecl) : dsizes l ≤ (declsOut l).length := by
  induction l with
  | nil => exact Nat.le_refl _
  | cons y l ih =>
    have := dsize_out y
    have e : dsizes (y :: l) = dsize y + dsizes l := rfl
    have e2 : declsOut (y :: l) = declOut y ++ declsOut l := rfl
    rw [e, e2, List.length_append]
    omega
theorem sizes_out (x : GText) : dsizes x.decls ≤ (textOut x).length ∧ rsizes x.rules ≤ (textOut x).length := by
  have h1 := dsizes_out x.decls
  have h2 := rsizes_out x.rules
  unfold textOut
  simp only [List.length_append]
  omega
end Go.Proofs.Ytejpmdlokmlmeaa
/- No fault bears nought. No condition, no program. -/
namespace Go.Proofs.Ytejpmdlokmlmeaa

def NZ {α : Type} (r : RE α) : Prop := ∀ n a, r = .error (n, a) → n ≠ 0
theorem NZ.ok {α : Type} {x : α} : NZ (.ok x : RE α) := fun n a h => by cases h
theorem NZ.bind {α β : Type} {x : RE α} {f : α → RE β} (hx : NZ x) (hf : ∀ a, NZ (f a)) : NZ (x >>= f) := by
  cases x with
  | error e => intro n a h; cases h; exact hx n a rfl
  | ok y => exact hf y
theorem NZ.must {k : Nat} {ts : List ByteArray} {l : List Tk} : NZ (mustS k ts l) := by
  unfold mustS
  split
  · exact NZ.ok
  · intro n a h; cases h; decide
theorem NZ.name {l : List Tk} : NZ (nameS l) := NZ.must
section
variable {α : Type} {part : List Tk → RE (α × List Tk)}
theorem NZ.more {b : ByteArray} (hp : ∀ l, NZ (part l)) : ∀ (m : Nat) (l : List Tk), NZ (moreN b part m l) := by
  intro m
  induction m with
  | zero => intro l; exact NZ.ok
  | succ m ih =>
    intro l
    rw [moreN]
    split
    · exact (hp _).bind (fun x => (ih _).bind (fun y => NZ.ok))
    · exact NZ.ok
theorem NZ.list {b : ByteArray} (hp : ∀ l, NZ (part l)) (l : List Tk) : NZ (listS b part l) := (hp _).bind (fun x => (NZ.more hp _ _).bind (fun y => NZ.ok))
theorem NZ.given (hp : ∀ l, NZ (part l)) (l : List Tk) : NZ (givenS part l) := by
  unfold givenS
  split
  · exact (NZ.list hp _).bind (fun x => NZ.must.bind (fun y => NZ.ok))
  · exact NZ.ok
end
theorem NZ.word : ∀ (m : Nat) (l : List Tk), NZ (wordN m l) := by
  intro m
  induction m with
  | zero => intro l n a h; rw [wordN] at h; split at h <;> cases h <;> decide
  | succ m ih =>
    intro l
    rw [wordN]
    exact NZ.name.bind (fun x => (NZ.given ih _).bind (fun y => NZ.ok))
theorem NZ.words : ∀ (m : Nat) (l : List Tk), NZ (wordsN m l) := by
  intro m
  induction m with
  | zero => intro l; exact NZ.ok
  | succ m ih =>
    intro l
    rw [wordsN]
    split
    · exact (NZ.word _ _).bind (fun x => (ih _).bind (fun y => NZ.ok))
    · exact NZ.ok
theorem NZ.alt (l : List Tk) : NZ (altS l) := by
  unfold altS
  refine (NZ.words _ _).bind (fun x => NZ.bind ?_ (fun y => NZ.ok))
  unfold precS
  split
  · exact NZ.name
  · exact NZ.ok
theorem NZ.rule (l : List Tk) : NZ (ruleS l) := NZ.name.bind (fun x => (NZ.given (fun _ => NZ.name) _).bind (fun y => NZ.must.bind (fun z => (NZ.list NZ.alt _).bind (fun u => NZ.must.bind (fun v => NZ.ok)))))
theorem NZ.type {k : ByteArray} {l : List Tk} : NZ (typeS k l) := by
  unfold typeS
  split
  · exact NZ.must.bind (fun x => NZ.name.bind (fun y => NZ.must.bind (fun z => NZ.ok)))
  · exact NZ.ok
theorem NZ.decl (l : List Tk) : NZ (declS l) := NZ.must.bind (fun x => NZ.type.bind (fun y => NZ.name.bind (fun z => NZ.must.bind (fun u => NZ.ok))))
theorem NZ.decls : ∀ (m : Nat) (l : List Tk), NZ (declsN m l) := by
  intro m
  induction m with
  | zero => intro l; exact NZ.ok
  | succ m ih =>
    intro l
    rw [declsN]
    split
    · exact (NZ.decl _).bind (fun x => (ih _).bind (fun y => NZ.ok))
    · exact NZ.ok
theorem NZ.rules : ∀ (m : Nat) (l : List Tk), NZ (rulesN m l) := by
  intro m
  induction m with
  | zero => intro l; exact NZ.ok
  | succ m ih =>
    intro l
    rw [rulesN]
    split
    · exact NZ.ok
    · exact (NZ.rule _).bind (fun x => (ih _).bind (fun y => NZ.ok))
theorem read_nz {s : ByteArray} {n a : Int} (h : readS s = .error (n, a)) : n ≠ 0 := by
  unfold readS at h
  split at h
  · rename_i k i hl
    cases h
    unfold lexS at hl
    split at hl
    · cases hl; decide
    · split at hl
      · rename_i e he
        cases hl
        exact lexN_err _ _ _ _ _ _ he
      · cases hl
  · rename_i l hl
    have : NZ (textS l) := (NZ.decls _ _).bind (fun x => NZ.must.bind (fun y => (NZ.rules _ _).bind (fun z => NZ.ok)))
    exact this _ _ h
end Go.Proofs.Ytejpmdlokmlmeaa
