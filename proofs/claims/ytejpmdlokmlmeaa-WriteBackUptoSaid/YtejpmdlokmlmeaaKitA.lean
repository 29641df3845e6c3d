/- The kit's copies of words, alternatives, rules, declarations, texts. Conditions: the rows have at most 2^40 parts. -/
import Derived.Test.YtejpmdlokmlmeaaReadN
import Derived.Test.YtejpmdlokmlmeaaWriteF
import Derived.Laws.AppendOwnNone
set_option linter.unusedVariables false
set_option linter.unusedSimpArgs false
namespace Go.Proofs.Ytejpmdlokmlmeaa
open Go.RowKit

/-- One of a row. -/
theorem RRow.get {α : Type} {w : World} {P : Nat → Prop} {sz : Nat} {E : α → List Value → Prop} {v : Value} {xs : List α} (h : RRow w P sz E v xs) {j : Nat} (hj : j < xs.length) (d : α) :
    ∃ k off c cs, v = .slice (some ⟨k, off, none⟩) xs.length c ∧ P k ∧ k < w.heap.size ∧ cs.length = sz ∧ E (xs.getD j d) cs ∧ ∀ i u, cs[i]? = some u → w.cell? ⟨k, off + j * sz + i, none⟩ = some u := by
  obtain ⟨a, c, css, hv, hl, hr, he⟩ := h
  obtain ⟨k, off, ha, hP, hk, hlen, hc⟩ := hr j hj
  subst ha
  exact ⟨k, off, c, css j, hv, hP, hk, hlen, he j _ (by simp [List.getD_eq_getElem?_getD, hj]), hc⟩
/-- A block of which nothing is frozen; such blocks from a number on; parts that lie in such blocks. -/
def NF (w : World) (k : Nat) : Prop := ∀ o, w.frozen? ⟨k, o, none⟩ = false
abbrev NB (B : Nat) (w : World) : Nat → Prop := fun k => B ≤ k ∧ NF w k
def EN {α : Type} (E : World → (Nat → Prop) → α → List Value → Prop) : World → (Nat → Prop) → α → List Value → Prop := fun w P x cs => E w (fun k => P k ∧ NF w k) x cs
theorem NF.fr {S : Nat → Prop} {w w' : World} {k : Nat} (h : NF w k) (hf : Fr S w w') (hk : k < w.heap.size) (hs : ¬ S k) : NF w' k := fun o => (hf.frozen (p := ⟨k, o, none⟩) hk hs).trans (h o)
theorem elemN {α : Type} {E : World → (Nat → Prop) → α → List Value → Prop} (hE : Elem E) : Elem (EN E) :=
  ⟨fun {S P w w' x cs} h hf hs => hE.mono (hE.fr (hE.mono (Q := fun k => (P k ∧ NF w k) ∧ k < w.heap.size) h (fun k hk hlt => ⟨hk, hlt⟩)) hf (fun k hk hlt => hs k hk.1.1 hlt)) (fun k hk _ => ⟨hk.1.1, hk.1.2.fr hf hk.2 (hs k hk.1.1 hk.2)⟩),
    fun h hs => hE.mono h (fun k hk hlt => ⟨hs k hk.1 hlt, hk.2⟩)⟩
theorem Own.allN {α : Type} {E : World → (Nat → Prop) → α → List Value → Prop} {w : World} {base e sz : Nat} {v : Value} {xs : List α} (hE : Elem E) (hz : 0 < sz) (h : Own w base e sz (EN E w) v xs) : RRow w (NB base w) sz (E w (NB base w)) v xs := by
  have hown : ∃ L : List (List Value), w.ownsRow base e sz v xs.length L.flatten := by
    obtain ⟨L, -, -, ho, -⟩ := h
    exact ⟨L, ho⟩
  obtain ⟨L, ho⟩ := hown
  obtain ⟨a, c, css, hv, hl, hr, he⟩ := h.all (elemN hE) hz
  refine ⟨a, c, css, hv, hl, fun j hj => ?_, fun j x hx => hE.mono (he j x hx) (fun k hk _ => hk)⟩
  obtain ⟨b, off, ha, hP, hb, hlen, hc⟩ := hr j hj
  refine ⟨b, off, ha, ⟨hP, fun o => ?_⟩, hb, hlen, hc⟩
  subst hv ha
  have : (Value.slice (some ⟨b, off, none⟩) xs.length c).ownBlock = some b := rfl
  obtain ⟨-, h2⟩ := ho
  rcases h2 with ⟨h2, -⟩ | ⟨g, cap, cur, h2, -, hh, -⟩
  · cases h2
  · injection h2 with h2
    injection h2 with h2
    injection h2 with h2
    subst h2
    simp [World.frozen?, hh]
/-- How a copy of a row ends, of a part. -/
def CRow {α : Type} (E : World → (Nat → Prop) → α → List Value → Prop) (sz : Nat) (w : World) (xs : List α) (e : Ending) (w' : World) : Prop :=
  ∃ v, e = .returned v ∧ RRow w' (NB w.heap.size w') sz (E w' (NB w.heap.size w')) v xs ∧ Fr (fun _ => False) w w'
def CElt {α : Type} (E : World → (Nat → Prop) → α → List Value → Prop) (w : World) (x : α) (e : Ending) (w' : World) : Prop :=
  ∃ cs, e = .returned (.agg ⟨cs⟩) ∧ E w' (NB w.heap.size w') x cs ∧ Fr (fun _ => False) w w'
abbrev Any : Nat → Prop := fun _ => True
theorem Own.all_ge {α : Type} {E : World → (Nat → Prop) → α → List Value → Prop} {w : World} {base e sz : Nat} {v : Value} {xs : List α} (hE : Elem E) (hz : 0 < sz) (h : Own w base e sz (E w) v xs) : RRow w (base ≤ ·) sz (E w (base ≤ ·)) v xs := h.all hE hz

theorem append_empty (a : Option Addr) (c : Nat) (w : World) : (Builtin.append_ #[39, 39] 39 #[.slice none 0 0, .slice a 0 c]).run Try.prog w = .ok (.slice none 0 0) w := by
  obtain ⟨i0, hi0, hz0, hz1, hz2⟩ := info_parts Try.infoStr
  cases a <;> simp [Builtin.append_, run_underlying Try.underlying39, sizeOf, typeInfo, hi0, Builtin.lenOf, Builtin.firstCells, loadCells, loadCellsFrom]
theorem wpList_append_empty {w : World} {ops : Array Oper} {rest : List Oper} {o : Oper} {a : Act} {Q : Exit → Act → World → Prop} (hgd : o.guard = none) (s x : Operand) (ht : o.type = 39)
    (ho : o.op = .call { callee := .builtin .append, args := #[s, x], argTypes := #[39, 39] }) (ad : Option Addr) (c : Nat) (hs : a.eval s = .slice none 0 0) (hx : a.eval x = .slice ad 0 c)
    (h : wpList Try.prog ops Q rest (a.put o.dst (.slice none 0 0)) w) : wpList Try.prog ops Q (o :: rest) a w := by
  refine wpList_plain hgd fun K hK => ?_
  have hrun := append_empty ad c w
  unfold Oper.wp
  simp [execOp, ho, ht, resolve, invoke, builtin, hs, hx, hrun, Result.andThen]
  exact hK _ _ h
theorem flat_strs (l : List ByteArray) : (l.map (fun x => [Value.string x])).flatten = l.map Value.string := by
  induction l with
  | nil => rfl
  | cons x l ih => simp [ih]

set_option maxRecDepth 100000 in
set_option maxHeartbeats 400000 in
theorem copyTexts_any {w : World} {v : Value} {xs : List ByteArray} (h : RRow w Any 1 EStr v xs) (hn : xs.length ≤ 1099511627776) :
    Calls Try.prog 82 #[v] w (CRow EStrs 1 w xs) := by
  obtain ⟨i0, hi0, hz0, hz1, hz2⟩ := info_parts Try.infoStr
  have hO : w.ownsRow w.heap.size 9 1 (.slice none 0 0) 0 [] := ⟨rfl, .inl ⟨rfl, rfl⟩⟩
  by_cases h0 : xs.length = 0
  · have hx : xs = [] := List.length_eq_zero_iff.1 h0
    subst hx
    obtain ⟨a, c, hv, -⟩ := h.cells
    subst hv
    clear hi0 hz0 hz1 hz2 i0 hO h h0 hn
    go_enter Try.func82, Try.ntmps82
    go_wp2_with (at_builtin; refine wpList_append_empty rfl _ _ rfl rfl a c rfl rfl ?_)
    go_ret
    exact ⟨_, rfl, ⟨none, 0, fun _ => [], rfl, by simp, fun j hj => by simp at hj, by simp⟩, Fr.refl _ w⟩
  · obtain ⟨k, off, c, cs, rfl, -, -, -, -, -⟩ := h.get (j := 0) (by omega) ByteArray.empty
    obtain ⟨a', c', hv', hc⟩ := h.cells
    injection hv' with e1 e2 e3
    subst e1 e3
    clear e2 h
    have hnews : ∀ j u, (xs.map Value.string)[j]? = some u → w.cell? ((⟨k, off, none⟩ : Addr).add j) = some u := by
      intro j u hu
      have hj : j < xs.length := by have := (List.getElem?_eq_some_iff.1 hu).1; simpa using this
      obtain ⟨k', off', e, hc⟩ := hc j hj
      injection e with e
      injection e with e1 e2
      subst e1 e2
      have hadd : (⟨k, off, none⟩ : Addr).add j = ⟨k, off + j, none⟩ := by unfold Addr.add; split <;> simp_all
      rw [hadd, hc]
      rw [List.getElem?_map] at hu
      simpa [List.getD_eq_getElem?_getD, hj] using hu
    clear hc
    have Hn := Lib.hid hnews
    clear hnews
    go_enter Try.func82, Try.ntmps82
    go_wp2_with (at_builtin; refine wpList_append_lies _ rfl _ _ _ rfl w.heap.size 9 i0 _ 1 16 Try.underlying39 hi0 hz0 hz1 hz2 rfl (by omega) (.slice none 0 0) 0 [] rfl hO ⟨k, off, none⟩ xs.length c (xs.map Value.string) rfl (by simp) Hn.out (by simp [Value.oneCell']) (by omega) (by unfold maxLen; omega) (by omega) (Nat.le_refl _) w.heap.size rfl ?_)
    intro g cap w2 hown hgrow hat hlt
    go_wp2_with fail
    go_ret
    have hf : Fr (fun _ => False) w w2 := (Fr.refl _ w).grown hgrow (fun k hk => by simp [Value.ownBlock] at hk)
    have hOwn : Own w2 w.heap.size 9 1 (EN EStrs w2) (.slice (some ⟨g, 0, none⟩) xs.length cap) xs :=
      ⟨xs.map (fun x => [Value.string x]), by simp, by simp, (by rw [flat_strs]; exact hown), fun j x c hx hc => by
        rw [List.getElem?_map, hx] at hc
        simpa [EN, EStr] using hc.symm⟩
    exact ⟨_, by simp, hOwn.allN elemStr (by decide), hf⟩
end Go.Proofs.Ytejpmdlokmlmeaa
