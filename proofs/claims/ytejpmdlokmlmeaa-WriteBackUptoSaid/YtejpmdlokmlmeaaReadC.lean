/- What stands while a thing is read: the reader, the block of the thing, its row of parts. No condition. -/
import Derived.Test.YtejpmdlokmlmeaaReadB
import Derived.Test.YtejpmdlokmlmeaaRep
set_option linter.unusedVariables false
set_option linter.unusedSimpArgs false
namespace Go.Proofs.Ytejpmdlokmlmeaa
open Go.RowKit

theorem bstr_eq {k : ByteArray} {a : Array UInt8} (h : k = ⟨a⟩) : (k.toList == a.toList) = true := by
  subst h; rw [ByteArray.toList_eq]; simp
theorem bstr_ne {k : ByteArray} {a : Array UInt8} (h : k ≠ ⟨a⟩) : (k.toList == a.toList) = false := by
  rw [beq_eq_false_iff_ne, ByteArray.toList_eq]
  intro e
  refine h ?_
  cases k with | mk b =>
  have : b = a := Array.toList_inj.1 e
  rw [this]
section
variable {α β ε : Type}
theorem exOk (x : α) (f : α → Except ε β) : (Except.ok x >>= f) = f x := rfl
theorem exErr (e : ε) (f : α → Except ε β) : (Except.error e >>= f) = .error e := rfl
end
/-- A block of cells. -/
def Blk (w : World) (T : Nat) (cs : Array Value) (ty : TypeId) : Prop := w.heap[T]? = some (.cells cs ty (0, 0))
namespace Blk
variable {w w' : World} {T : Nat} {cs cs' : Array Value} {ty : TypeId}
theorem lt (h : Blk w T cs ty) : T < w.heap.size := lt_of_heap h
theorem fr {S : Nat → Prop} (h : Blk w T cs ty) (hf : Fr S w w') (hs : ¬ S T) : Blk w' T cs ty := (hf.block _ h.lt hs).trans h
theorem alloc (h : Blk w T cs ty) (o : Obj) : Blk (w.alloc o) T cs ty := h.fr ((Fr.refl (fun _ => False) w).alloc o) id
theorem new (w : World) (cs : Array Value) (ty : TypeId) : Blk (w.alloc (.cells cs ty)) w.heap.size cs ty := (MapKept.heap_alloc w _).1
theorem far (h : Blk w T cs ty) {p : Addr} (hp : p.block ≠ T) (u : Value) : Blk (w.setCell p u) T cs ty := (Below.heap_setCell w p u T (Ne.symm hp)).trans h
theorem set (h : Blk w T cs ty) (i : Nat) (u : Value) (hc : cs.setIfInBounds i u = cs') : Blk (w.setCell ⟨T, i, none⟩ u) T cs' ty := by
  subst hc
  unfold Blk at *
  simp [World.setCell, Array.getElem?_modify, h]
theorem grown (h : Blk w T cs ty) {row : Option Nat} (hg : w.grownBy w' row) (hr : some T ≠ row) : Blk w' T cs ty := (hg.block _ h.lt hr).trans h
theorem cell (h : Blk w T cs ty) (i : Nat) {u : Value} (hu : cs[i]? = some u) : w.cell? ⟨T, i, none⟩ = some u := by
  unfold Blk at h
  simp [World.cell?, h, hu]
theorem frozen (h : Blk w T cs ty) (i : Nat) : w.frozen? ⟨T, i, none⟩ = false := by
  unfold Blk at h
  simp [World.frozen?, h]
end Blk

/-- How a call of the reader's goes on. -/
theorem RPost.elim {α : Type} {S : Nat → Prop} {w w' : World} {r R cap : Nat} {cur : Array Value} {toks : List Tk} {res : Except (Int × Int) (α × List Tk)} {V : α → Value → World → Prop} {e : Ending} {M : Ending → Prop} (h : RPost S w r R cap cur toks res V e w')
    (bad : ∀ n a, Hid (res = .error (n, a)) → Fr S w w' → M (.panicked (readPanic n a))) (good : ∀ x l v pos, Hid (res = .ok (x, l)) → Fr S w w' → V x v w' → RIn w' r R cap cur toks pos → Hid (toks.drop pos = l) → M (.returned v)) : M e := by
  obtain ⟨hf, hp⟩ := h
  cases hq : res with
  | error na =>
    obtain ⟨n, a⟩ := na
    rw [hq] at hp
    simp only at hp
    subst hp
    exact bad n a (Lib.hid hq) hf
  | ok xl =>
    obtain ⟨x, l⟩ := xl
    rw [hq] at hp
    obtain ⟨v, pos, rfl, hv, hr, hl⟩ := hp
    exact good x l v pos (Lib.hid hq) hf hv hr (Lib.hid hl)

theorem RPost.call {α : Type} {S : Nat → Prop} {w w1 : World} {r R cap : Nat} {cur : Array Value} {toks : List Tk} {res : Except (Int × Int) (α × List Tk)} {V : α → Value → World → Prop} {P : Program} {f : Nat} {args : Array Value} {M : Ending → World → Prop}
    (hc : Calls P f args w1 (RPost S w r R cap cur toks res V))
    (bad : ∀ w' n a, Hid (res = .error (n, a)) → Fr S w w' → M (.panicked (readPanic n a)) w') (good : ∀ w' x l v pos, Hid (res = .ok (x, l)) → Fr S w w' → V x v w' → RIn w' r R cap cur toks pos → Hid (toks.drop pos = l) → M (.returned v) w') : Calls P f args w1 M :=
  hc.mono (fun e w' hp => hp.elim (M := fun e => M e w') (fun n a => bad w' n a) (fun x l v pos => good w' x l v pos))

/-- The reader, and what was written since: the reader's block, or blocks that are new. -/
structure Mk (w0 w : World) (r R cap : Nat) (cur : Array Value) (toks : List Tk) (pos : Nat) : Prop where
  rin : RIn w r R cap cur toks pos
  fr : Fr (fun k => k = r ∨ w0.heap.size ≤ k) w0 w
  r0 : r < w0.heap.size
  R0 : R < w0.heap.size
namespace Mk
variable {w0 w w' : World} {r R cap pos pos' : Nat} {cur : Array Value} {toks : List Tk}
theorem start (h : RIn w r R cap cur toks pos) : Mk w w r R cap cur toks pos := ⟨h, Fr.refl _ w, lt_of_heap h.rc, lt_of_heap h.rb⟩
theorem drewN (h : Mk w0 w r R cap cur toks pos) (n : Nat) : Mk w0 (w.drewN n) r R cap cur toks pos := ⟨h.rin.drewN n, h.fr.drewN n, h.r0, h.R0⟩
theorem drew (h : Mk w0 w r R cap cur toks pos) : Mk w0 w.drew r R cap cur toks pos := ⟨h.rin.drewN 1, h.fr.drewN 1, h.r0, h.R0⟩
theorem alloc (h : Mk w0 w r R cap cur toks pos) (o : Obj) : Mk w0 (w.alloc o) r R cap cur toks pos := ⟨h.rin.alloc o, h.fr.alloc o, h.r0, h.R0⟩
theorem far (h : Mk w0 w r R cap cur toks pos) {p : Addr} (hp : w0.heap.size ≤ p.block) (u : Value) : Mk w0 (w.setCell p u) r R cap cur toks pos :=
  ⟨h.rin.far (by have := h.r0; omega) (by have := h.R0; omega) u, h.fr.setCell (fun _ => .inr hp) u, h.r0, h.R0⟩
theorem step (h : Mk w0 w r R cap cur toks pos) (hf : Fr (· = r) w w') (hr : RIn w' r R cap cur toks pos') : Mk w0 w' r R cap cur toks pos' := ⟨hr, h.fr.trans (hf.mono (fun _ _ e => .inl e)), h.r0, h.R0⟩
theorem still (h : Mk w0 w r R cap cur toks pos) (hf : Fr (fun _ => False) w w') : Mk w0 w' r R cap cur toks pos := ⟨h.rin.fr hf id id, h.fr.trans (hf.mono (fun _ _ => False.elim)), h.r0, h.R0⟩
theorem grown (h : Mk w0 w r R cap cur toks pos) {row : Option Nat} (hg : w.grownBy w' row) (hr : ∀ k, row = some k → w0.heap.size ≤ k) : Mk w0 w' r R cap cur toks pos :=
  ⟨⟨(hg.block _ (lt_of_heap h.rin.rc) (fun e => by have := hr _ e.symm; have := h.r0; omega)).trans h.rin.rc, (hg.block _ (lt_of_heap h.rin.rb) (fun e => by have := hr _ e.symm; have := h.R0; omega)).trans h.rin.rb, h.rin.hc, h.rin.ne, h.rin.hp, h.rin.hl⟩,
    h.fr.grown hg (fun k hk _ => .inr (hr k hk)), h.r0, h.R0⟩
theorem fin (h : Mk w0 w r R cap cur toks pos) : Fr (· = r) w0 w := h.fr.mono (fun k hk e => by rcases e with e | e; exact e; omega)
end Mk

/-- What parts of a kind keep to: they lie within blocks, and may be told of more blocks. -/
structure Elem {α : Type} (E : World → (Nat → Prop) → α → List Value → Prop) : Prop where
  fr : ∀ {S P : Nat → Prop} {w w' : World} {x : α} {cs : List Value}, E w P x cs → Fr S w w' → (∀ k, P k → k < w.heap.size → ¬ S k) → E w' P x cs
  mono : ∀ {P Q : Nat → Prop} {w : World} {x : α} {cs : List Value}, E w P x cs → (∀ k, P k → k < w.heap.size → Q k) → E w Q x cs
abbrev EStrs : World → (Nat → Prop) → ByteArray → List Value → Prop := fun _ _ => EStr
theorem elemStr : Elem EStrs := ⟨fun h _ _ => h, fun h _ => h⟩
theorem elemWord : Elem RWord := ⟨fun h hf hs => h.fr hf hs, fun h hs => h.mono hs⟩
theorem elemDecl : Elem RDecl := ⟨fun h hf hs => h.fr hf hs, fun h hs => h.mono hs⟩
theorem elemAlt : Elem RAlt := ⟨fun h hf hs => h.fr hf hs, fun h hs => h.mono hs⟩
theorem elemRule : Elem RRule := ⟨fun h hf hs => h.fr hf hs, fun h hs => h.mono hs⟩

theorem Fr.of_grown {w w' : World} {row : Option Nat} (hg : w.grownBy w' row) : Fr (fun k => row = some k) w w' := ⟨hg.os, hg.tape, hg.output, hg.size, fun k hk hn => hg.block k hk (fun e => hn e.symm)⟩
section
variable {α : Type} {E : World → (Nat → Prop) → α → List Value → Prop} {w w' : World} {base e sz : Nat} {v : Value} {xs : List α}
theorem Own.blk (h : Own w base e sz (E w) v xs) : ∀ k, v.ownBlock = some k → base ≤ k ∧ k < w.heap.size := by
  obtain ⟨L, -, -, ho, -⟩ := h
  exact own_lt ho
theorem Own.fr (hE : Elem E) {S : Nat → Prop} (h : Own w base e sz (E w) v xs) (hf : Fr S w w') (hs : ∀ k, base ≤ k → k < w.heap.size → ¬ S k) : Own w' base e sz (E w') v xs := by
  obtain ⟨L, hL, hz, ho, he⟩ := h
  exact ⟨L, hL, hz, own_fr ho hf hs, fun j x c hx hc => hE.fr (he j x c hx hc) hf (fun k hk hlt => hs k hk.1 hlt)⟩
theorem Own.all (hE : Elem E) (hz : 0 < sz) (h : Own w base e sz (E w) v xs) : RRow w (base ≤ ·) sz (E w (base ≤ ·)) v xs :=
  h.reads hz (fun x c hc => hE.mono hc (fun k hk _ => hk.1))
/-- One more: the part that a call gave is laid into the row. -/
theorem Own.snoc (hE : Elem E) (h : Own w base e sz (E w) v xs) {S : Nat → Prop} {w1 w2 : World} (hf : Fr S w w1) (hs : ∀ k, base ≤ k → k < w.heap.size → ¬ S k) (hB : base ≤ w.heap.size) {x : α} {c : List Value} (hx : E w1 (w.heap.size ≤ ·) x c) (hc : c.length = sz)
    (h2 : Fr (fun _ => False) w1 w2) :
    ∃ L : List (List Value), L.length = xs.length ∧ w2.ownsRow base e sz v xs.length L.flatten ∧
      ∀ {w4 : World} {gg cap : Nat}, w4.ownsRow base e sz (.slice (some ⟨gg, 0, none⟩) (xs.length + 1) cap) (xs.length + 1) (L.flatten ++ c) → w2.grownBy w4 v.ownBlock → (v.ownBlock = some gg ∨ gg = w2.heap.size) → Own w4 base e sz (E w4) (.slice (some ⟨gg, 0, none⟩) (xs.length + 1) cap) (xs ++ [x]) := by
  have hblk := h.blk
  obtain ⟨L, hL, hz, ho, he⟩ := h
  refine ⟨L, hL, own_fr (own_fr ho hf hs) h2 (fun _ _ _ => id), ?_⟩
  intro w4 gg cp hown hg hat
  have f2 : Fr S w w2 := hf.trans (h2.mono (fun _ _ => False.elim))
  refine ⟨L ++ [c], by simp [hL], ?_, by simpa using hown, ?_⟩
  · intro d hd
    rcases List.mem_append.1 hd with hd | hd
    · exact hz d hd
    · have : d = c := by simpa using hd
      rw [this, hc]
  · intro j y d hy hd
    have hsz1 := hf.size
    have hsz2 := h2.size
    rcases Nat.lt_or_ge j xs.length with hj | hj
    · rw [List.getElem?_append_left hj] at hy
      rw [List.getElem?_append_left (by omega)] at hd
      have h1 := hE.fr (he j y d hy hd) f2 (fun k hk hlt => hs k hk.1 hlt)
      have hb0 : E w (fun k => (base ≤ k ∧ some k ≠ v.ownBlock) ∧ k < w.heap.size) y d := hE.mono (he j y d hy hd) (fun k hk hlt => ⟨hk, hlt⟩)
      have h1 := hE.fr hb0 f2 (fun k hk hlt => hs k hk.1.1 hlt)
      refine hE.mono (hE.fr h1 (Fr.of_grown hg) (fun k hk hlt e => hk.1.2 e.symm)) (fun k hk _ => ⟨hk.1.1, fun e => ?_⟩)
      have e' : k = gg := by simpa [Value.ownBlock] using e
      rcases hat with hat | hat
      · exact hk.1.2 (by rw [hat, e'])
      · omega
    · have e1 : j = xs.length := by
        have := (List.getElem?_eq_some_iff.1 hy).1
        simp at this; omega
      subst e1
      have hyx : y = x := by simpa using hy.symm
      have hdc : d = c := by rw [← hL] at hd; simpa using hd.symm
      subst hyx; subst hdc
      have hb0 : E w1 (fun k => w.heap.size ≤ k ∧ k < w1.heap.size) y d := hE.mono hx (fun k hk hlt => ⟨hk, hlt⟩)
      refine hE.mono (hE.fr (hE.fr hb0 h2 (fun _ _ _ => id)) (Fr.of_grown hg) (fun k hk hlt e => by have := (hblk k e).2; omega)) (fun k hk _ => ⟨by omega, fun e => ?_⟩)
      have e' : k = gg := by simpa [Value.ownBlock] using e
      rcases hat with hat | hat
      · have := (hblk gg hat).2; omega
      · omega
end
theorem RRow.form {α : Type} {w : World} {P : Nat → Prop} {sz : Nat} {E : α → List Value → Prop} {v : Value} {xs : List α} (h : RRow w P sz E v xs) : ∃ a c, v = .slice a xs.length c := by
  obtain ⟨a, c, _, hv, _⟩ := h
  exact ⟨a, c, hv⟩
theorem Own.far {α : Type} {E : World → (Nat → Prop) → α → List Value → Prop} {w : World} {base e sz : Nat} {v : Value} {xs : List α} (hE : Elem E) (h : Own w base e sz (E w) v xs) {p : Addr} (hp : p.block < base) (u : Value) : Own (w.setCell p u) base e sz (E (w.setCell p u)) v xs :=
  h.fr hE ((Fr.refl (· = p.block) w).setCell (fun _ => rfl) u) (fun k hk _ e => by have e' : k = p.block := e; omega)
/-- Behind an append to the row of a thing's parts, and the storing of the row. -/
theorem grown_all {α : Type} {E : World → (Nat → Prop) → α → List Value → Prop} {w0 w8 w' : World} {r R cap pos : Nat} {cur : Array Value} {toks : List Tk} {D T e sz : Nat} {cs cs' ds : Array Value} {ty dy : TypeId} {v' : Value} {xs' : List α} {row : Option Nat}
    (hE : Elem E) (hM : Mk w0 w8 r R cap cur toks pos) (hT : Blk w8 T cs ty) (hD : Blk w8 D ds dy) (hDT : D < T) (h0 : w0.heap.size ≤ D) {o : Obj} (hg : (w8.alloc o).grownBy w' row) (hrow : ∀ k, row = some k → T + 1 ≤ k) (i : Nat) (u : Value) (hcs : cs.setIfInBounds i u = cs')
    (hO : Own w' (T + 1) e sz (E w') v' xs') :
    Mk w0 (w'.setCell ⟨T, i, none⟩ u) r R cap cur toks pos ∧ Blk (w'.setCell ⟨T, i, none⟩ u) T cs' ty ∧ Blk (w'.setCell ⟨T, i, none⟩ u) D ds dy ∧ Own (w'.setCell ⟨T, i, none⟩ u) (T + 1) e sz (E (w'.setCell ⟨T, i, none⟩ u)) v' xs' :=
  ⟨((hM.alloc o).grown hg (fun k hk => by have := hrow k hk; omega)).far (by show w0.heap.size ≤ T; omega) u, ((hT.alloc o).grown hg (fun e => by have := hrow T e.symm; omega)).set i u hcs,
    ((hD.alloc o).grown hg (fun e => by have := hrow D e.symm; omega)).far (by show T ≠ D; omega) u, hO.far hE (by show T < T + 1; omega) u⟩
/-- The same, whatever the world ahead of the append. -/
theorem grown_all' {α : Type} {E : World → (Nat → Prop) → α → List Value → Prop} {w0 w9 w' : World} {r R cap pos : Nat} {cur : Array Value} {toks : List Tk} {T e sz : Nat} {cs cs' : Array Value} {ty : TypeId} {v' : Value} {xs' : List α} {row : Option Nat}
    (hE : Elem E) (hM : Mk w0 w9 r R cap cur toks pos) (hT : Blk w9 T cs ty) (h0 : w0.heap.size ≤ T) (hg : w9.grownBy w' row) (hrow : ∀ k, row = some k → T + 1 ≤ k) (i : Nat) (u : Value) (hcs : cs.setIfInBounds i u = cs')
    (hO : Own w' (T + 1) e sz (E w') v' xs') :
    Mk w0 (w'.setCell ⟨T, i, none⟩ u) r R cap cur toks pos ∧ Blk (w'.setCell ⟨T, i, none⟩ u) T cs' ty ∧ Own (w'.setCell ⟨T, i, none⟩ u) (T + 1) e sz (E (w'.setCell ⟨T, i, none⟩ u)) v' xs' ∧
      ∀ {D : Nat} {ds : Array Value} {dy : TypeId}, Blk w9 D ds dy → D < T → Blk (w'.setCell ⟨T, i, none⟩ u) D ds dy :=
  ⟨(hM.grown hg (fun k hk => by have := hrow k hk; omega)).far (by show w0.heap.size ≤ T; omega) u, (hT.grown hg (fun e => by have := hrow T e.symm; omega)).set i u hcs, hO.far hE (by show T < T + 1; omega) u,
    fun hD hDT => (hD.grown hg (fun e => by have := hrow _ e.symm; omega)).far (by show T ≠ _; omega) u⟩
/-- What a function gives that lies in cells. -/
def RAgg (R : List Value → Prop) (v : Value) : Prop := ∃ cs : List Value, v = .agg ⟨cs⟩ ∧ R cs
end Go.Proofs.Ytejpmdlokmlmeaa
