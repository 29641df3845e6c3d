/- A text without places: the walk. Conditions: the rows have at most 2^40 parts. -/
import Derived.Test.YtejpmdlokmlmeaaKitF
set_option linter.unusedVariables false
set_option linter.unusedSimpArgs false
namespace Go.Proofs.Ytejpmdlokmlmeaa
open Go.RowKit

/-- A row of parts, the first so many plain. -/
def ZG {α : Type} (E : World → (Nat → Prop) → α → List Value → Prop) (f : α → α) (P : Nat → Prop) (w : World) (sz : Nat) (v : Value) (xs : List α) (k : Nat) : Prop :=
  ∃ ys : List α, ys.length = xs.length ∧ (∀ (j : Nat) (x : α), xs[j]? = some x → ∃ y, ys[j]? = some y ∧ f y = f x ∧ (j < k → y = f x)) ∧ RRow w P sz (E w P) v ys
section
variable {α : Type} {E : World → (Nat → Prop) → α → List Value → Prop} {f : α → α} {P : Nat → Prop} {w w' : World} {sz : Nat} {v : Value} {xs : List α} {k : Nat}
theorem ZG.start (h : RRow w P sz (E w P) v xs) : ZG E f P w sz v xs 0 := ⟨xs, rfl, fun j x hx => ⟨x, hx, rfl, fun h => absurd h (Nat.not_lt_zero j)⟩, h⟩
theorem ZG.zf (hE : ∀ x, ZElem E f x) (hi : ∀ x, f (f x) = f x) (h : ZG E f P w sz v xs k) (hz : Zf P w w') : ZG E f P w' sz v xs k := by
  obtain ⟨ys, hl, hy, hr⟩ := h
  obtain ⟨zs, hzz, hr'⟩ := row_zr (fun x _ => hE x) hr hz
  refine ⟨zs, hzz.1.trans hl, fun j x hx => ?_, hr'⟩
  obtain ⟨y, h1, h2, h3⟩ := hy j x hx
  obtain ⟨z, h4, h5⟩ := hzz.2 j y h1
  refine ⟨z, h4, h5.1.trans h2, fun hj => ?_⟩
  have e := h3 hj
  have : f y = y := by rw [e, hi]
  rw [h5.2 this, e]
theorem ZG.done (h : ZG E f P w sz v xs k) (hk : xs.length ≤ k) : RRow w P sz (E w P) v (xs.map f) := by
  obtain ⟨ys, hl, hy, hr⟩ := h
  have e : ys = xs.map f := by
    apply List.ext_getElem?
    intro j
    rw [List.getElem?_map]
    rcases Nat.lt_or_ge j xs.length with hj | hj
    · obtain ⟨y, h1, h2, h3⟩ := hy j _ (List.getElem?_eq_getElem hj)
      rw [h1, List.getElem?_eq_getElem hj, h3 (by omega)]
      rfl
    · rw [List.getElem?_eq_none hj, List.getElem?_eq_none (Nat.le_trans (Nat.le_of_eq hl) hj)]
      rfl
  rwa [e] at hr
theorem ZG.get (h : ZG E f P w sz v xs k) {j : Nat} (hj : j < xs.length) (d : α) :
    ∃ kb off vc cs y, v = .slice (some ⟨kb, off, none⟩) xs.length vc ∧ P kb ∧ kb < w.heap.size ∧ f y = f (xs.getD j d) ∧ E w P y cs ∧ ∀ (i : Nat) u, cs[i]? = some u → w.cell? ⟨kb, off + j * sz + i, none⟩ = some u := by
  obtain ⟨ys, hl, hy, hr⟩ := h
  obtain ⟨kb, off, vc, cs, hv, hP, hk, -, hE, hc⟩ := hr.get (j := j) (by omega) d
  obtain ⟨y, h1, h2, -⟩ := hy j (xs.getD j d) (by simp [List.getD_eq_getElem?_getD, hj])
  have e : ys.getD j d = y := by rw [List.getD_eq_getElem?_getD, h1]; rfl
  rw [e] at hE
  exact ⟨kb, off, vc, cs, y, by rw [hv, hl], hP, hk, h2, hE, hc⟩
/-- One more is plain: what lies there tells it. -/
theorem ZG.next (hi : ∀ x, f (f x) = f x) {kb off vc : Nat} (d : α) (h : ZG E f P w sz (.slice (some ⟨kb, off, none⟩) xs.length vc) xs k) (hk : k < xs.length) (y : α) (hy0 : y = f (xs.getD k d)) (hy : ∀ cs : List Value, cs.length = sz → (∀ (i : Nat) u, cs[i]? = some u → w.cell? ⟨kb, off + k * sz + i, none⟩ = some u) → E w P y cs) :
    ZG E f P w sz (.slice (some ⟨kb, off, none⟩) xs.length vc) xs (k + 1) := by
  subst hy0
  obtain ⟨ys, hl, hys, hrow⟩ := h
  have hx : xs[k]? = some (xs.getD k d) := by simp [List.getD_eq_getElem?_getD, hk]
  refine ⟨ys.set k (f (xs.getD k d)), by rw [List.length_set, hl], fun j x hxj => ?_, hrow.swap (by omega) _ (fun cs hcs => ?_)⟩
  · by_cases e : j = k
    · subst e
      rw [hx] at hxj
      injection hxj with hxj
      subst hxj
      exact ⟨_, List.getElem?_set_self (by omega), hi _, fun _ => rfl⟩
    · obtain ⟨z, h1, h2, h3⟩ := hys j x hxj
      exact ⟨z, by rw [List.getElem?_set_ne (Ne.symm e)]; exact h1, h2, fun hj => h3 (by omega)⟩
  · obtain ⟨k', off', c', hv, hlen, hc⟩ := hcs
    injection hv with hv
    injection hv with hv
    injection hv with e1 e2
    subst e1 e2
    exact hy cs hlen hc
end
theorem plainD_idem (x : GDecl) : plainD (plainD x) = plainD x := rfl
theorem plainA_idem (x : GAlt) : plainA (plainA x) = plainA x := by
  simp only [plainA, List.map_map]
  congr 1
  exact List.map_congr_left (fun y _ => bareG_idem y)
theorem plainR_idem (x : GRule) : plainR (plainR x) = plainR x := by
  simp only [plainR, List.map_map]
  congr 1
  exact List.map_congr_left (fun y _ => plainA_idem y)
theorem ZG.word {P : Nat → Prop} {w : World} {v : Value} {xs : List GWord} {k : Nat} : ZG RWord bareG P w 3 v xs k ↔ ZRow P w v xs k := Iff.rfl
/-- A cell that no setting to nought changes. -/
theorem Zf.string {P : Nat → Prop} {w w' : World} (h : Zf P w w') {k o : Nat} {s : ByteArray} (hk : k < w.heap.size) (hc : w.cell? ⟨k, o, none⟩ = some (.string s)) : w'.cell? ⟨k, o, none⟩ = some (.string s) := by
  obtain ⟨u, h1, h2⟩ := h.cell hk hc
  rw [zc_string h2] at h1; exact h1
theorem Zf.bool {P : Nat → Prop} {w w' : World} (h : Zf P w w') {k o : Nat} {s : Bool} (hk : k < w.heap.size) (hc : w.cell? ⟨k, o, none⟩ = some (.bool s)) : w'.cell? ⟨k, o, none⟩ = some (.bool s) := by
  obtain ⟨u, h1, h2⟩ := h.cell hk hc
  rw [zc_bool h2] at h1; exact h1
theorem Zf.slice {P : Nat → Prop} {w w' : World} (h : Zf P w w') {k o : Nat} {a : Option Addr} {n c : Nat} (hk : k < w.heap.size) (hc : w.cell? ⟨k, o, none⟩ = some (.slice a n c)) : w'.cell? ⟨k, o, none⟩ = some (.slice a n c) := by
  obtain ⟨u, h1, h2⟩ := h.cell hk hc
  rw [zc_slice h2] at h1; exact h1
theorem Zf.nought {P : Nat → Prop} {w w' : World} (h : Zf P w w') {k o : Nat} (hk : k < w.heap.size) (hc : w.cell? ⟨k, o, none⟩ = some (.int .i64 0)) : w'.cell? ⟨k, o, none⟩ = some (.int .i64 0) := by
  obtain ⟨u, h1, h2⟩ := h.cell hk hc
  obtain ⟨m, rfl, hm⟩ := zc_int h2
  rcases hm with rfl | rfl <;> exact h1
theorem Zf.num {P : Nat → Prop} {w w' : World} (h : Zf P w w') {k o : Nat} {n : Int} (hk : k < w.heap.size) (hc : w.cell? ⟨k, o, none⟩ = some (.int .i64 n)) : ∃ m, w'.cell? ⟨k, o, none⟩ = some (.int .i64 m) := by
  obtain ⟨u, h1, h2⟩ := h.cell hk hc
  obtain ⟨m, rfl, -⟩ := zc_int h2
  exact ⟨m, h1⟩
theorem cells4 {w : World} {kb o : Nat} {cs : List Value} {a b c d : Value} (hl : cs.length = 4) (hc : ∀ (i : Nat) u, cs[i]? = some u → w.cell? ⟨kb, o + i, none⟩ = some u) (c0 : w.cell? ⟨kb, o, none⟩ = some a) (c1 : w.cell? ⟨kb, o + 1, none⟩ = some b) (c2 : w.cell? ⟨kb, o + 2, none⟩ = some c) (c3 : w.cell? ⟨kb, o + 3, none⟩ = some d) : cs = [a, b, c, d] := by
  match cs, hl with
  | [x0, x1, x2, x3], _ =>
    have g0 := hc 0 x0 rfl; have g1 := hc 1 x1 rfl; have g2 := hc 2 x2 rfl; have g3 := hc 3 x3 rfl
    rw [Nat.add_zero, c0] at g0; rw [c1] at g1; rw [c2] at g2; rw [c3] at g3
    injection g0 with g0; injection g1 with g1; injection g2 with g2; injection g3 with g3
    rw [← g0, ← g1, ← g2, ← g3]
theorem cells6 {w : World} {kb o : Nat} {cs : List Value} {a b c d e f : Value} (hl : cs.length = 6) (hc : ∀ (i : Nat) u, cs[i]? = some u → w.cell? ⟨kb, o + i, none⟩ = some u) (c0 : w.cell? ⟨kb, o, none⟩ = some a) (c1 : w.cell? ⟨kb, o + 1, none⟩ = some b) (c2 : w.cell? ⟨kb, o + 2, none⟩ = some c) (c3 : w.cell? ⟨kb, o + 3, none⟩ = some d) (c4 : w.cell? ⟨kb, o + 4, none⟩ = some e) (c5 : w.cell? ⟨kb, o + 5, none⟩ = some f) : cs = [a, b, c, d, e, f] := by
  match cs, hl with
  | [x0, x1, x2, x3, x4, x5], _ =>
    have g0 := hc 0 x0 rfl; have g1 := hc 1 x1 rfl; have g2 := hc 2 x2 rfl; have g3 := hc 3 x3 rfl; have g4 := hc 4 x4 rfl; have g5 := hc 5 x5 rfl
    rw [Nat.add_zero, c0] at g0; rw [c1] at g1; rw [c2] at g2; rw [c3] at g3; rw [c4] at g4; rw [c5] at g5
    injection g0 with g0; injection g1 with g1; injection g2 with g2; injection g3 with g3; injection g4 with g4; injection g5 with g5
    rw [← g0, ← g1, ← g2, ← g3, ← g4, ← g5]
end Go.Proofs.Ytejpmdlokmlmeaa
