/- Places are set to nought: what stays of a text in memory, whoever shares its rows. No condition. -/
import Derived.Test.YtejpmdlokmlmeaaKitD
set_option linter.unusedVariables false
set_option linter.unusedSimpArgs false
namespace Go.Proofs.Ytejpmdlokmlmeaa
open Go.RowKit

/-- A value stays, or is a number that becomes nought. -/
def ZC (u u' : Value) : Prop := u' = u ∨ ((∃ n, u = .int .i64 n) ∧ u' = .int .i64 0)
theorem ZC.refl (u : Value) : ZC u u := .inl rfl
theorem ZC.trans {a b c : Value} (h : ZC a b) (k : ZC b c) : ZC a c := by
  rcases k with rfl | ⟨⟨n, rfl⟩, rfl⟩
  · exact h
  · rcases h with h | ⟨h, -⟩
    · exact .inr ⟨⟨n, h.symm⟩, rfl⟩
    · exact .inr ⟨h, rfl⟩
def ZL (cs cs' : List Value) : Prop := cs'.length = cs.length ∧ ∀ (i : Nat) (u : Value), cs[i]? = some u → ∃ u', cs'[i]? = some u' ∧ ZC u u'
/-- All is as it was, but that numbers in the blocks of P may have become nought. -/
structure Zf (P : Nat → Prop) (w w' : World) : Prop where
  fr : Fr P w w'
  zc : ∀ k, k < w.heap.size → P k → ∀ o u, w.cell? ⟨k, o, none⟩ = some u → ∃ u', w'.cell? ⟨k, o, none⟩ = some u' ∧ ZC u u'
  nf : ∀ k, k < w.heap.size → NF w k → NF w' k
namespace Zf
variable {P : Nat → Prop} {a b c : World}
theorem refl (P : Nat → Prop) (w : World) : Zf P w w := ⟨Fr.refl P w, fun _ _ _ _ u h => ⟨u, h, ZC.refl u⟩, fun _ _ h => h⟩
theorem cell (h : Zf P a b) {k o : Nat} {u : Value} (hk : k < a.heap.size) (hu : a.cell? ⟨k, o, none⟩ = some u) : ∃ u', b.cell? ⟨k, o, none⟩ = some u' ∧ ZC u u' := by
  by_cases hp : P k
  · exact h.zc k hk hp o u hu
  · exact ⟨u, (h.fr.cell (p := ⟨k, o, none⟩) hk hp).trans hu, ZC.refl u⟩
theorem trans (h : Zf P a b) (k : Zf P b c) : Zf P a c :=
  ⟨h.fr.trans k.fr, fun i hi hp o u hu => by
    obtain ⟨u', h1, h2⟩ := h.cell hi hu
    obtain ⟨u'', h3, h4⟩ := k.cell (Nat.lt_of_lt_of_le hi h.fr.size) h1
    exact ⟨u'', h3, h2.trans h4⟩, fun i hi hn => k.nf i (Nat.lt_of_lt_of_le hi h.fr.size) (h.nf i hi hn)⟩
theorem still (h : Fr (fun _ => False) a b) : Zf P a b :=
  ⟨h.mono (fun _ _ => False.elim), fun k hk _ o u hu => ⟨u, (h.cell (p := ⟨k, o, none⟩) hk id).trans hu, ZC.refl u⟩, fun k hk hn => hn.fr h hk id⟩
/-- Stores behind what was. -/
theorem far (h : Zf P a b) {S : Nat → Prop} (hf : Fr S b c) (hs : ∀ k, k < a.heap.size → ¬ S k) : Zf P a c :=
  ⟨⟨hf.os.trans h.fr.os, hf.tape.trans h.fr.tape, hf.output.trans h.fr.output, Nat.le_trans h.fr.size hf.size, fun k hk hn => (hf.block k (Nat.lt_of_lt_of_le hk h.fr.size) (hs k hk)).trans (h.fr.block k hk hn)⟩, fun k hk hp o u hu => by
    obtain ⟨u', h1, h2⟩ := h.cell hk hu
    exact ⟨u', (hf.cell (p := ⟨k, o, none⟩) (Nat.lt_of_lt_of_le hk h.fr.size) (hs k hk)).trans h1, h2⟩, fun k hk hn => (h.nf k hk hn).fr hf (Nat.lt_of_lt_of_le hk h.fr.size) (hs k hk)⟩
/-- A store to a cell of P: what was there, or nought in the place of a number. -/
theorem set (w : World) {k o : Nat} {u v : Value} (hp : P k) (hu : w.cell? ⟨k, o, none⟩ = some u) (hz : ZC u v) : Zf P w (w.setCell ⟨k, o, none⟩ v) :=
  ⟨(Fr.refl P w).setCell (p := ⟨k, o, none⟩) (fun _ => hp) v, fun i hi _ o' x hx => by
    by_cases e : (⟨k, o, none⟩ : Addr) = ⟨i, o', none⟩
    · rw [← e] at hx ⊢
      rw [hu] at hx
      injection hx with hx
      subst hx
      exact ⟨v, World.cell?_setCell_same w _ _ hu, hz⟩
    · exact ⟨x, by rw [World.cell?_setCell_other w _ _ _ e]; exact hx, ZC.refl x⟩, fun i _ hn o' => by rw [World.frozen?_setCell]; exact hn o'⟩
end Zf

/-- What stays of a thing: its plain form, and itself, if it is plain. -/
def Zx {α : Type} (f : α → α) (x x' : α) : Prop := f x' = f x ∧ (f x = x → x' = x)
theorem Zx.refl {α : Type} (f : α → α) (x : α) : Zx f x x := ⟨rfl, fun _ => rfl⟩
theorem Zx.trans {α : Type} {f : α → α} {x y z : α} (h : Zx f x y) (k : Zx f y z) : Zx f x z :=
  ⟨k.1.trans h.1, fun e => by
    have := h.2 e
    subst this
    exact k.2 e⟩
def ZxL {α : Type} (f : α → α) (xs ys : List α) : Prop := ys.length = xs.length ∧ ∀ (j : Nat) (x : α), xs[j]? = some x → ∃ y, ys[j]? = some y ∧ Zx f x y
theorem ZxL.refl {α : Type} (f : α → α) (xs : List α) : ZxL f xs xs := ⟨rfl, fun j x h => ⟨x, h, Zx.refl f x⟩⟩
theorem ZxL.trans {α : Type} {f : α → α} {xs ys zs : List α} (h : ZxL f xs ys) (k : ZxL f ys zs) : ZxL f xs zs :=
  ⟨k.1.trans h.1, fun j x hx => by
    obtain ⟨y, hy, h1⟩ := h.2 j x hx
    obtain ⟨z, hz, h2⟩ := k.2 j y hy
    exact ⟨z, hz, h1.trans h2⟩⟩
theorem ZxL.map {α : Type} {f : α → α} {xs ys : List α} (h : ZxL f xs ys) : ys.map f = xs.map f := by
  apply List.ext_getElem?
  intro j
  rw [List.getElem?_map, List.getElem?_map]
  rcases Nat.lt_or_ge j xs.length with hj | hj
  · obtain ⟨y, hy, h1⟩ := h.2 j _ (List.getElem?_eq_getElem hj)
    rw [hy, List.getElem?_eq_getElem hj]
    simp [h1.1]
  · rw [List.getElem?_eq_none hj, List.getElem?_eq_none (Nat.le_trans (Nat.le_of_eq h.1) hj)]
theorem ZxL.plain {α : Type} {f : α → α} {xs ys : List α} (h : ZxL f xs ys) (hp : xs.map f = xs) : ys = xs := by
  apply List.ext_getElem?
  intro j
  rcases Nat.lt_or_ge j xs.length with hj | hj
  · obtain ⟨y, hy, h1⟩ := h.2 j _ (List.getElem?_eq_getElem hj)
    have e : f xs[j] = xs[j] := by
      have := congrArg (fun l => l[j]?) hp
      simp only [List.getElem?_map, List.getElem?_eq_getElem hj] at this
      simpa using this
    rw [hy, List.getElem?_eq_getElem hj, h1.2 e]
  · rw [List.getElem?_eq_none hj, List.getElem?_eq_none (Nat.le_trans (Nat.le_of_eq h.1) hj)]
theorem id_plain {α : Type} (xs : List α) : xs.map id = xs := by simp

theorem ZL.of {l : List Value} {F : Nat → Option Value} : ∀ (k : Nat), (∀ (i : Nat) (u : Value), l[i]? = some u → ∃ u', F (k + i) = some u' ∧ ZC u u') → ∃ l' : List Value, ZL l l' ∧ ∀ (i : Nat) (u' : Value), l'[i]? = some u' → F (k + i) = some u' := by
  induction l with
  | nil => intro k _; exact ⟨[], ⟨rfl, by simp⟩, by simp⟩
  | cons x l ih =>
    intro k h
    obtain ⟨u0, h0, hz0⟩ := h 0 x (by simp)
    obtain ⟨l', ⟨hl, hzl⟩, hF⟩ := ih (k + 1) (fun i u hu => by
      obtain ⟨u', h1, h2⟩ := h (i + 1) u (by simpa using hu)
      exact ⟨u', by rw [← h1]; congr 1; omega, h2⟩)
    refine ⟨u0 :: l', ⟨by simp [hl], fun i u hu => ?_⟩, fun i u' hu => ?_⟩
    · cases i with
      | zero => simp at hu; subst hu; exact ⟨u0, by simp, hz0⟩
      | succ i => simp at hu; obtain ⟨u', h1, h2⟩ := hzl i u hu; exact ⟨u', by simpa using h1, h2⟩
    · cases i with
      | zero => simp at hu; subst hu; exact h0
      | succ i => simp at hu; rw [← hF i u' hu]; congr 1; omega

/-- What parts of a kind keep to, when places become nought. -/
structure ZElem {α : Type} (E : World → (Nat → Prop) → α → List Value → Prop) (f : α → α) (x : α) : Prop where
  zr : ∀ {P : Nat → Prop} {w w' : World} {cs : List Value}, E w P x cs → Zf P w w' → ∃ x', Zx f x x' ∧ E w' P x' cs
  zc : ∀ {P : Nat → Prop} {w : World} {x' : α} {cs cs' : List Value}, Zx f x x' → E w P x' cs → ZL cs cs' → ∃ x'', Zx f x' x'' ∧ E w P x'' cs'
theorem row_zr {α : Type} {E : World → (Nat → Prop) → α → List Value → Prop} {f : α → α} {P : Nat → Prop} {w w' : World} {sz : Nat} {v : Value} {xs : List α} (hE : ∀ x, x ∈ xs → ZElem E f x) (h : RRow w P sz (E w P) v xs) (hz : Zf P w w') :
    ∃ ys, ZxL f xs ys ∧ RRow w' P sz (E w' P) v ys := by
  obtain ⟨a, c, css, rfl, hl, hr, he⟩ := h
  have key : ∀ j, j < xs.length → ∃ (cs' : List Value) (y : α), (∃ b off, a = some ⟨b, off, none⟩ ∧ P b ∧ b < w'.heap.size ∧ cs'.length = sz ∧ ∀ i u, cs'[i]? = some u → w'.cell? ⟨b, off + j * sz + i, none⟩ = some u) ∧ (∀ x, xs[j]? = some x → Zx f x y) ∧ E w' P y cs' := by
    intro j hj
    obtain ⟨b, off, ha, hP, hb, hlen, hc⟩ := hr j hj
    obtain ⟨cs', hZL, hF⟩ := ZL.of (l := css j) (F := fun i => w'.cell? ⟨b, off + j * sz + i, none⟩) 0 (fun i u hu => by
      obtain ⟨u', h1, h2⟩ := hz.cell hb (hc i u hu)
      exact ⟨u', by rw [Nat.zero_add]; exact h1, h2⟩)
    have hx := List.getElem?_eq_getElem hj
    have hm : xs[j] ∈ xs := List.getElem_mem hj
    obtain ⟨x1, hx1, he1⟩ := (hE _ hm).zr (he j _ hx) hz
    obtain ⟨x2, hx2, he2⟩ := (hE _ hm).zc hx1 he1 hZL
    refine ⟨cs', x2, ⟨b, off, ha, hP, Nat.lt_of_lt_of_le hb hz.fr.size, hZL.1.trans hlen, fun i u hu => by have := hF i u hu; rwa [Nat.zero_add] at this⟩, fun x hxx => ?_, he2⟩
    rw [hx] at hxx
    injection hxx with hxx
    subst hxx
    exact hx1.trans hx2
  classical
  let C : ∀ j, j < xs.length → List Value := fun j hj => Classical.choose (key j hj)
  let Y : ∀ j, j < xs.length → α := fun j hj => Classical.choose (Classical.choose_spec (key j hj))
  have hC : ∀ j (hj : j < xs.length), (∃ b off, a = some ⟨b, off, none⟩ ∧ P b ∧ b < w'.heap.size ∧ (C j hj).length = sz ∧ ∀ i u, (C j hj)[i]? = some u → w'.cell? ⟨b, off + j * sz + i, none⟩ = some u) ∧ (∀ x, xs[j]? = some x → Zx f x (Y j hj)) ∧ E w' P (Y j hj) (C j hj) :=
    fun j hj => Classical.choose_spec (Classical.choose_spec (key j hj))
  refine ⟨List.ofFn (fun i : Fin xs.length => Y i.1 i.2), ⟨by simp, fun j x hx => ?_⟩, a, c, fun j => if hj : j < xs.length then C j hj else [], by simp, by simpa using hl, fun j hj => ?_, fun j x hx => ?_⟩
  · have hj : j < xs.length := (List.getElem?_eq_some_iff.1 hx).1
    exact ⟨Y j hj, by simp [hj], (hC j hj).2.1 x hx⟩
  · have hj' : j < xs.length := by simpa using hj
    simp only [dif_pos hj']
    exact (hC j hj').1
  · have hj : j < xs.length := by have := (List.getElem?_eq_some_iff.1 hx).1; simpa using this
    have e : x = Y j hj := by simpa [hj] using hx.symm
    subst e
    simp only [dif_pos hj]
    exact (hC j hj).2.2

mutual
def bareG : GWord → GWord
  | .mk n args _ => .mk n (bareGs args) 0
def bareGs : List GWord → List GWord
  | [] => []
  | x :: l => bareG x :: bareGs l
end
theorem bareGs_map (l : List GWord) : bareGs l = l.map bareG := by
  induction l with
  | nil => rfl
  | cons x l ih => rw [bareGs, ih]; rfl
def plainD (x : GDecl) : GDecl := { x with at_ := 0 }
def plainA (x : GAlt) : GAlt := { x with words := x.words.map bareG, wher := 0, at_ := 0 }
def plainR (x : GRule) : GRule := { x with alts := x.alts.map plainA, at_ := 0 }
def plainG (x : GText) : GText := ⟨x.decls.map plainD, x.rules.map plainR⟩

theorem zl_one {a : Value} {cs' : List Value} (h : ZL [a] cs') : ∃ a', cs' = [a'] ∧ ZC a a' := by
  obtain ⟨hl, h⟩ := h
  obtain ⟨a', h1, h2⟩ := h 0 a rfl
  match cs', hl with
  | [b], _ => simp at h1; subst h1; exact ⟨_, rfl, h2⟩
theorem zl_cons {a : Value} {cs cs' : List Value} (h : ZL (a :: cs) cs') : ∃ a' ds, cs' = a' :: ds ∧ ZC a a' ∧ ZL cs ds := by
  obtain ⟨hl, h⟩ := h
  match cs', hl with
  | b :: ds, hl =>
    obtain ⟨a', h1, h2⟩ := h 0 a rfl
    simp at h1
    subst h1
    refine ⟨_, ds, rfl, h2, by simpa using hl, fun i u hu => ?_⟩
    obtain ⟨u', h3, h4⟩ := h (i + 1) u (by simpa using hu)
    exact ⟨u', by simpa using h3, h4⟩
theorem zl_nil {cs' : List Value} (h : ZL [] cs') : cs' = [] := List.eq_nil_of_length_eq_zero (by simpa using h.1)
theorem zc_string {s : ByteArray} {u : Value} (h : ZC (.string s) u) : u = .string s := by rcases h with h | ⟨⟨n, h⟩, -⟩; exact h; cases h
theorem zc_bool {s : Bool} {u : Value} (h : ZC (.bool s) u) : u = .bool s := by rcases h with h | ⟨⟨n, h⟩, -⟩; exact h; cases h
theorem zc_slice {a : Option Addr} {n c : Nat} {u : Value} (h : ZC (.slice a n c) u) : u = .slice a n c := by rcases h with h | ⟨⟨n, h⟩, -⟩; exact h; cases h
theorem zc_int {n : Int} {u : Value} (h : ZC (.int .i64 n) u) : ∃ m, u = .int .i64 m ∧ (m = n ∨ m = 0) := by
  rcases h with h | ⟨-, h⟩
  · exact ⟨n, h, .inl rfl⟩
  · exact ⟨0, h, .inr rfl⟩

theorem zStr (x : ByteArray) : ZElem EStrs id x where
  zr h _ := ⟨x, Zx.refl _ x, h⟩
  zc {P w x' cs cs'} _ h hz := by
    unfold EStrs EStr at h
    subst h
    obtain ⟨a, rfl, ha⟩ := zl_one hz
    exact ⟨x', Zx.refl _ x', by rw [zc_string ha]; rfl⟩
theorem strs_zr {P : Nat → Prop} {w w' : World} {v : Value} {xs : List ByteArray} (h : RRow w P 1 EStr v xs) (hz : Zf P w w') : RRow w' P 1 EStr v xs := by
  obtain ⟨ys, hy, hr⟩ := row_zr (E := EStrs) (fun x _ => zStr x) h hz
  rwa [hy.plain (id_plain xs)] at hr
theorem zWord (m : Nat) : ∀ x, wsize x < m → ZElem RWord bareG x := by
  induction m with
  | zero => intro x hx; omega
  | succ m ih =>
    intro x hx
    obtain ⟨n, args, k⟩ := x
    rw [wsize] at hx
    constructor
    · intro P w w' cs h hz
      obtain ⟨v, rfl, hr⟩ := RWord.row.1 h
      obtain ⟨ys, hy, hr'⟩ := row_zr (fun y hy => ih y (by have := wsizes_mem hy; omega)) hr hz
      refine ⟨.mk n ys k, ⟨by rw [bareG, bareG, bareGs_map, bareGs_map, hy.map], fun e => ?_⟩, RWord.row.2 ⟨v, rfl, hr'⟩⟩
      rw [bareG, bareGs_map] at e
      injection e with e1 e2 e3
      rw [hy.plain e2]
    · intro P w x' cs cs' hx' h hz
      obtain ⟨n', args', k'⟩ := x'
      obtain ⟨v, rfl, hr⟩ := RWord.row.1 h
      obtain ⟨va, vc, rfl⟩ := hr.form
      obtain ⟨a1, d1, rfl, z1, hz⟩ := zl_cons hz
      obtain ⟨a2, d2, rfl, z2, hz⟩ := zl_cons hz
      obtain ⟨a3, rfl, z3⟩ := zl_one hz
      obtain ⟨j, rfl, hj⟩ := zc_int z3
      rw [zc_string z1, zc_slice z2]
      refine ⟨.mk n' args' j, ⟨by rw [bareG, bareG], fun e => ?_⟩, RWord.row.2 ⟨_, rfl, hr⟩⟩
      rw [bareG] at e
      injection e with e1 e2 e3
      rcases hj with rfl | rfl
      · rfl
      · rw [← e3]
theorem zWords {P : Nat → Prop} {w w' : World} {v : Value} {xs : List GWord} (h : RRow w P 3 (RWord w P) v xs) (hz : Zf P w w') : ∃ ys, ZxL bareG xs ys ∧ RRow w' P 3 (RWord w' P) v ys :=
  row_zr (fun x _ => zWord _ x (Nat.lt_succ_self _)) h hz
theorem zDecl (x : GDecl) : ZElem RDecl plainD x where
  zr {P w w' cs} h hz := by
    obtain ⟨v, rfl, hr⟩ := h
    exact ⟨x, Zx.refl _ x, v, rfl, strs_zr hr hz⟩
  zc {P w x' cs cs'} _ h hz := by
    obtain ⟨n, y, ns, k⟩ := x'
    obtain ⟨v, rfl, hr⟩ := h
    obtain ⟨va, vc, rfl⟩ := hr.form
    obtain ⟨a1, d1, rfl, z1, hz⟩ := zl_cons hz
    obtain ⟨a2, d2, rfl, z2, hz⟩ := zl_cons hz
    obtain ⟨a3, d3, rfl, z3, hz⟩ := zl_cons hz
    obtain ⟨a4, rfl, z4⟩ := zl_one hz
    obtain ⟨j, rfl, hj⟩ := zc_int z4
    rw [zc_string z1, zc_string z2, zc_slice z3]
    refine ⟨⟨n, y, ns, j⟩, ⟨rfl, fun e => ?_⟩, _, rfl, hr⟩
    injection e with e1 e2 e3 e4
    rcases hj with rfl | rfl
    · rfl
    · rw [← e4]
theorem zAlt (x : GAlt) : ZElem RAlt plainA x where
  zr {P w w' cs} h hz := by
    obtain ⟨ws, p, b, s, k, j⟩ := x
    obtain ⟨v, rfl, hr⟩ := h
    obtain ⟨ys, hy, hr'⟩ := zWords hr hz
    refine ⟨⟨ys, p, b, s, k, j⟩, ⟨by simp only [plainA]; rw [hy.map], fun e => ?_⟩, v, rfl, hr'⟩
    injection e with e1
    rw [hy.plain e1]
  zc {P w x' cs cs'} _ h hz := by
    obtain ⟨ws, p, b, s, k, j⟩ := x'
    obtain ⟨v, rfl, hr⟩ := h
    obtain ⟨va, vc, rfl⟩ := hr.form
    obtain ⟨a1, d1, rfl, z1, hz⟩ := zl_cons hz
    obtain ⟨a2, d2, rfl, z2, hz⟩ := zl_cons hz
    obtain ⟨a3, d3, rfl, z3, hz⟩ := zl_cons hz
    obtain ⟨a4, d4, rfl, z4, hz⟩ := zl_cons hz
    obtain ⟨a5, d5, rfl, z5, hz⟩ := zl_cons hz
    obtain ⟨a6, rfl, z6⟩ := zl_one hz
    obtain ⟨k', rfl, hk⟩ := zc_int z5
    obtain ⟨j', rfl, hj⟩ := zc_int z6
    rw [zc_slice z1, zc_string z2, zc_bool z3, zc_string z4]
    refine ⟨⟨ws, p, b, s, k', j'⟩, ⟨rfl, fun e => ?_⟩, _, rfl, hr⟩
    injection e with e1 e2 e3 e4 e5 e6
    have h1 : k' = k := by rcases hk with rfl | rfl; rfl; exact e5
    have h2 : j' = j := by rcases hj with rfl | rfl; rfl; exact e6
    rw [h1, h2]
theorem zAlts {P : Nat → Prop} {w w' : World} {v : Value} {xs : List GAlt} (h : RRow w P 6 (RAlt w P) v xs) (hz : Zf P w w') : ∃ ys, ZxL plainA xs ys ∧ RRow w' P 6 (RAlt w' P) v ys := row_zr (fun x _ => zAlt x) h hz
theorem zRule (x : GRule) : ZElem RRule plainR x where
  zr {P w w' cs} h hz := by
    obtain ⟨n, ps, al, k⟩ := x
    obtain ⟨v, u, rfl, hr, hr2⟩ := h
    obtain ⟨ys, hy, hr'⟩ := zAlts hr2 hz
    refine ⟨⟨n, ps, ys, k⟩, ⟨by simp only [plainR]; rw [hy.map], fun e => ?_⟩, v, u, rfl, strs_zr hr hz, hr'⟩
    injection e with e1 e2 e3
    rw [hy.plain e3]
  zc {P w x' cs cs'} _ h hz := by
    obtain ⟨n, ps, al, k⟩ := x'
    obtain ⟨v, u, rfl, hr, hr2⟩ := h
    obtain ⟨va, vc, rfl⟩ := hr.form
    obtain ⟨ua, uc, rfl⟩ := hr2.form
    obtain ⟨a1, d1, rfl, z1, hz⟩ := zl_cons hz
    obtain ⟨a2, d2, rfl, z2, hz⟩ := zl_cons hz
    obtain ⟨a3, d3, rfl, z3, hz⟩ := zl_cons hz
    obtain ⟨a4, rfl, z4⟩ := zl_one hz
    obtain ⟨j, rfl, hj⟩ := zc_int z4
    rw [zc_string z1, zc_slice z2, zc_slice z3]
    refine ⟨⟨n, ps, al, j⟩, ⟨rfl, fun e => ?_⟩, _, _, rfl, hr, hr2⟩
    injection e with e1 e2 e3 e4
    rcases hj with rfl | rfl
    · rfl
    · rw [← e4]
theorem zDecls {P : Nat → Prop} {w w' : World} {v : Value} {xs : List GDecl} (h : RRow w P 4 (RDecl w P) v xs) (hz : Zf P w w') : ∃ ys, ZxL plainD xs ys ∧ RRow w' P 4 (RDecl w' P) v ys := row_zr (fun x _ => zDecl x) h hz
theorem zRules {P : Nat → Prop} {w w' : World} {v : Value} {xs : List GRule} (h : RRow w P 4 (RRule w P) v xs) (hz : Zf P w w') : ∃ ys, ZxL plainR xs ys ∧ RRow w' P 4 (RRule w' P) v ys := row_zr (fun x _ => zRule x) h hz
/-- One of a row is told anew, by what lies there. -/
theorem RRow.swap {α : Type} {w : World} {P : Nat → Prop} {sz : Nat} {E : α → List Value → Prop} {v : Value} {xs : List α} (h : RRow w P sz E v xs) {j : Nat} (hj : j < xs.length) (y : α) (hy : ∀ cs, (∃ k off c, v = .slice (some ⟨k, off, none⟩) xs.length c ∧ cs.length = sz ∧ ∀ i u, cs[i]? = some u → w.cell? ⟨k, off + j * sz + i, none⟩ = some u) → E y cs) : RRow w P sz E v (xs.set j y) := by
  obtain ⟨a, c, css, rfl, hl, hr, he⟩ := h
  refine ⟨a, c, css, by simp, by simpa using hl, fun i hi => hr i (by simpa using hi), fun i x hx => ?_⟩
  by_cases e : i = j
  · subst e
    have : x = y := by rw [List.getElem?_set_self hj] at hx; injection hx with hx; exact hx.symm
    subst this
    obtain ⟨k, off, ha, -, -, hlen, hc⟩ := hr i hj
    exact hy _ ⟨k, off, c, by rw [ha], hlen, hc⟩
  · rw [List.getElem?_set_ne (Ne.symm e)] at hx
    exact he i x hx
end Go.Proofs.Ytejpmdlokmlmeaa
