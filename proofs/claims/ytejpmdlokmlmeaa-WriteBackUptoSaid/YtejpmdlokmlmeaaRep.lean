/- How a grammar's text lies in memory: read only, within blocks of a kind. No condition. -/
import Derived.Test.YtejpmdlokmlmeaaLexM
set_option linter.unusedVariables false
set_option linter.unusedSimpArgs false
namespace Go.Proofs.Ytejpmdlokmlmeaa
open Go.RowKit

/-- A row of n elements of sz cells each, in a block of P. -/
def RowAt (w : World) (P : Nat → Prop) (sz : Nat) (a : Option Addr) (n : Nat) (css : Nat → List Value) : Prop :=
  ∀ j, j < n → ∃ b off, a = some ⟨b, off, none⟩ ∧ P b ∧ b < w.heap.size ∧ (css j).length = sz ∧ ∀ i u, (css j)[i]? = some u → w.cell? ⟨b, off + j * sz + i, none⟩ = some u
theorem RowAt.fr {S P : Nat → Prop} {w w' : World} {sz n : Nat} {a : Option Addr} {css : Nat → List Value} (h : RowAt w P sz a n css) (hf : Fr S w w') (hs : ∀ k, P k → k < w.heap.size → ¬ S k) : RowAt w' P sz a n css := by
  intro j hj
  obtain ⟨b, off, ha, hP, hb, hl, hc⟩ := h j hj
  exact ⟨b, off, ha, hP, Nat.lt_of_lt_of_le hb hf.size, hl, fun i u hu => (hf.cell (p := ⟨b, _, none⟩) hb (hs b hP hb)).trans (hc i u hu)⟩
theorem RowAt.mono {P Q : Nat → Prop} {w : World} {sz n : Nat} {a : Option Addr} {css : Nat → List Value} (h : RowAt w P sz a n css) (hs : ∀ k, P k → k < w.heap.size → Q k) : RowAt w Q sz a n css := by
  intro j hj
  obtain ⟨b, off, ha, hP, hb, hl, hc⟩ := h j hj
  exact ⟨b, off, ha, hs b hP hb, hb, hl, hc⟩
/-- A slice whose elements are told by E. -/
def RRow {α : Type} (w : World) (P : Nat → Prop) (sz : Nat) (E : α → List Value → Prop) (v : Value) (xs : List α) : Prop :=
  ∃ a c css, v = .slice a xs.length c ∧ xs.length ≤ c ∧ RowAt w P sz a xs.length css ∧ ∀ j x, xs[j]? = some x → E x (css j)
theorem RRow.fr {α : Type} {S P : Nat → Prop} {w w' : World} {sz : Nat} {E E' : α → List Value → Prop} {v : Value} {xs : List α} (h : RRow w P sz E v xs) (hf : Fr S w w') (hs : ∀ k, P k → k < w.heap.size → ¬ S k) (hE : ∀ x cs, E x cs → E' x cs) : RRow w' P sz E' v xs := by
  obtain ⟨a, c, css, hv, hl, hr, he⟩ := h
  exact ⟨a, c, css, hv, hl, hr.fr hf hs, fun j x hx => hE _ _ (he j x hx)⟩
theorem RRow.mono {α : Type} {P Q : Nat → Prop} {w : World} {sz : Nat} {E E' : α → List Value → Prop} {v : Value} {xs : List α} (h : RRow w P sz E v xs) (hs : ∀ k, P k → k < w.heap.size → Q k) (hE : ∀ x cs, E x cs → E' x cs) : RRow w Q sz E' v xs := by
  obtain ⟨a, c, css, hv, hl, hr, he⟩ := h
  exact ⟨a, c, css, hv, hl, hr.mono hs, fun j x hx => hE _ _ (he j x hx)⟩
def EStr (x : ByteArray) (cs : List Value) : Prop := cs = [.string x]

/-- A word of a grammar's text. -/
inductive GWord where
  | mk (name : ByteArray) (args : List GWord) (at_ : Int)
structure GDecl where
  kind : ByteArray
  type : ByteArray
  names : List ByteArray
  at_ : Int
structure GAlt where
  words : List GWord
  prec : ByteArray
  has : Bool
  action : ByteArray
  wher : Int
  at_ : Int
structure GRule where
  name : ByteArray
  params : List ByteArray
  alts : List GAlt
  at_ : Int
structure GText where
  decls : List GDecl
  rules : List GRule

inductive RWord (w : World) (P : Nat → Prop) : GWord → List Value → Prop
  | mk {n : ByteArray} {args : List GWord} {at_ : Int} {a : Option Addr} {c : Nat} (css : Nat → List Value) (hl : args.length ≤ c) (hr : RowAt w P 3 a args.length css) (he : ∀ j x, args[j]? = some x → RWord w P x (css j)) :
    RWord w P (.mk n args at_) [.string n, .slice a args.length c, .int .i64 at_]
theorem RWord.fr {S P : Nat → Prop} {w w' : World} {x : GWord} {cs : List Value} (h : RWord w P x cs) (hf : Fr S w w') (hs : ∀ k, P k → k < w.heap.size → ¬ S k) : RWord w' P x cs := by
  induction h with
  | mk css hl hr he ih => exact .mk css hl (hr.fr hf hs) ih
theorem RWord.mono {P Q : Nat → Prop} {w : World} {x : GWord} {cs : List Value} (h : RWord w P x cs) (hs : ∀ k, P k → k < w.heap.size → Q k) : RWord w Q x cs := by
  induction h with
  | mk css hl hr he ih => exact .mk css hl (hr.mono hs) ih
theorem RWord.row {w : World} {P : Nat → Prop} {n : ByteArray} {args : List GWord} {at_ : Int} {cs : List Value} : RWord w P (.mk n args at_) cs ↔ ∃ v, cs = [.string n, v, .int .i64 at_] ∧ RRow w P 3 (RWord w P) v args := by
  constructor
  · intro h
    cases h with
    | mk css hl hr he => exact ⟨_, rfl, _, _, css, rfl, hl, hr, he⟩
  · rintro ⟨v, rfl, a, c, css, rfl, hl, hr, he⟩
    exact .mk css hl hr he
theorem RWord.len {w : World} {P : Nat → Prop} {x : GWord} {cs : List Value} (h : RWord w P x cs) : cs.length = 3 := by cases h; rfl
def RDecl (w : World) (P : Nat → Prop) (x : GDecl) (cs : List Value) : Prop := ∃ v, cs = [.string x.kind, .string x.type, v, .int .i64 x.at_] ∧ RRow w P 1 EStr v x.names
def RAlt (w : World) (P : Nat → Prop) (x : GAlt) (cs : List Value) : Prop := ∃ v, cs = [v, .string x.prec, .bool x.has, .string x.action, .int .i64 x.wher, .int .i64 x.at_] ∧ RRow w P 3 (RWord w P) v x.words
def RRule (w : World) (P : Nat → Prop) (x : GRule) (cs : List Value) : Prop := ∃ v u, cs = [.string x.name, v, u, .int .i64 x.at_] ∧ RRow w P 1 EStr v x.params ∧ RRow w P 6 (RAlt w P) u x.alts
def RText (w : World) (P : Nat → Prop) (x : GText) (cs : List Value) : Prop := ∃ v u, cs = [v, u] ∧ RRow w P 4 (RDecl w P) v x.decls ∧ RRow w P 4 (RRule w P) u x.rules
section
variable {S P Q : Nat → Prop} {w w' : World} {cs : List Value}
theorem RDecl.fr {x : GDecl} (h : RDecl w P x cs) (hf : Fr S w w') (hs : ∀ k, P k → k < w.heap.size → ¬ S k) : RDecl w' P x cs := by
  obtain ⟨v, hc, hr⟩ := h
  exact ⟨v, hc, hr.fr hf hs (fun _ _ h => h)⟩
theorem RDecl.mono {x : GDecl} (h : RDecl w P x cs) (hs : ∀ k, P k → k < w.heap.size → Q k) : RDecl w Q x cs := by
  obtain ⟨v, hc, hr⟩ := h
  exact ⟨v, hc, hr.mono hs (fun _ _ h => h)⟩
theorem RAlt.fr {x : GAlt} (h : RAlt w P x cs) (hf : Fr S w w') (hs : ∀ k, P k → k < w.heap.size → ¬ S k) : RAlt w' P x cs := by
  obtain ⟨v, hc, hr⟩ := h
  exact ⟨v, hc, hr.fr hf hs (fun _ _ h => h.fr hf hs)⟩
theorem RAlt.mono {x : GAlt} (h : RAlt w P x cs) (hs : ∀ k, P k → k < w.heap.size → Q k) : RAlt w Q x cs := by
  obtain ⟨v, hc, hr⟩ := h
  exact ⟨v, hc, hr.mono hs (fun _ _ h => h.mono hs)⟩
theorem RRule.fr {x : GRule} (h : RRule w P x cs) (hf : Fr S w w') (hs : ∀ k, P k → k < w.heap.size → ¬ S k) : RRule w' P x cs := by
  obtain ⟨v, u, hc, hr, hr2⟩ := h
  exact ⟨v, u, hc, hr.fr hf hs (fun _ _ h => h), hr2.fr hf hs (fun _ _ h => h.fr hf hs)⟩
theorem RRule.mono {x : GRule} (h : RRule w P x cs) (hs : ∀ k, P k → k < w.heap.size → Q k) : RRule w Q x cs := by
  obtain ⟨v, u, hc, hr, hr2⟩ := h
  exact ⟨v, u, hc, hr.mono hs (fun _ _ h => h), hr2.mono hs (fun _ _ h => h.mono hs)⟩
theorem RText.fr {x : GText} (h : RText w P x cs) (hf : Fr S w w') (hs : ∀ k, P k → k < w.heap.size → ¬ S k) : RText w' P x cs := by
  obtain ⟨v, u, hc, hr, hr2⟩ := h
  exact ⟨v, u, hc, hr.fr hf hs (fun _ _ h => h.fr hf hs), hr2.fr hf hs (fun _ _ h => h.fr hf hs)⟩
end

/-- A row of the call's own, its elements told by E over blocks that are not the row's. -/
structure Own {α : Type} (w : World) (base e sz : Nat) (E : (Nat → Prop) → α → List Value → Prop) (v : Value) (xs : List α) : Prop where
  own : ∃ L : List (List Value), L.length = xs.length ∧ (∀ c ∈ L, c.length = sz) ∧ w.ownsRow base e sz v xs.length L.flatten ∧ ∀ (j : Nat) x c, xs[j]? = some x → L[j]? = some c → E (fun k => base ≤ k ∧ some k ≠ v.ownBlock) x c
theorem flatten_get {L : List (List Value)} {sz : Nat} (hL : ∀ c ∈ L, c.length = sz) {j : Nat} {c : List Value} (hc : L[j]? = some c) : ∀ i u, c[i]? = some u → L.flatten[j * sz + i]? = some u := by
  induction L generalizing j with
  | nil => simp at hc
  | cons d L ih =>
    intro i u hu
    have hd : d.length = sz := hL d (List.mem_cons_self)
    cases j with
    | zero =>
      have : d = c := by simpa using hc
      subst this
      rw [List.flatten_cons, Nat.zero_mul, Nat.zero_add, List.getElem?_append_left (List.getElem?_eq_some_iff.1 hu).1]
      exact hu
    | succ j =>
      have := ih (fun c hc => hL c (List.mem_cons_of_mem _ hc)) (j := j) (by simpa using hc) i u hu
      rw [List.flatten_cons, List.getElem?_append_right (by rw [hd, Nat.succ_mul]; omega), hd, show (j + 1) * sz + i - sz = j * sz + i by rw [Nat.succ_mul]; omega]
      exact this
theorem flatten_len {L : List (List Value)} {sz : Nat} (hL : ∀ c ∈ L, c.length = sz) : L.flatten.length = L.length * sz := by
  induction L with
  | nil => simp
  | cons d L ih =>
    rw [List.flatten_cons, List.length_append, ih (fun c hc => hL c (List.mem_cons_of_mem _ hc)), hL d List.mem_cons_self, List.length_cons, Nat.succ_mul]
    omega
theorem Own.nil {α : Type} {w : World} {base e sz : Nat} {E : (Nat → Prop) → α → List Value → Prop} : Own w base e sz E (.slice none 0 0) [] :=
  ⟨[], rfl, by simp, ⟨by simp, .inl ⟨rfl, rfl⟩⟩, by simp⟩
theorem own_reads {w : World} {base e size n : Nat} {v : Value} {xs : List Value} (h : w.ownsRow base e size v n xs) : ∃ a c, v = .slice a n c ∧ n ≤ c ∧ ∀ j u, xs[j]? = some u → ∃ g, a = some ⟨g, 0, none⟩ ∧ v.ownBlock = some g ∧ base ≤ g ∧ g < w.heap.size ∧ w.cell? ⟨g, j, none⟩ = some u := by
  obtain ⟨h1, h2⟩ := h
  rcases h2 with ⟨rfl, rfl⟩ | ⟨g, cap, cur, rfl, hg, hh, hn, hcap, hcs, ht⟩
  · exact ⟨none, 0, rfl, Nat.le_refl _, fun j u hu => by have : xs = [] := List.eq_nil_of_length_eq_zero (by simpa using h1); subst this; simp at hu⟩
  · refine ⟨_, cap, rfl, hn, fun j u hu => ⟨g, rfl, rfl, hg, lt_of_heap hh, ?_⟩⟩
    have hj : j < xs.length := (List.getElem?_eq_some_iff.1 hu).1
    rw [← ht, List.getElem?_take, if_pos (by omega)] at hu
    simp only [World.cell?, hh]
    simpa using hu
/-- A row of the call's own, read. -/
theorem Own.reads {α : Type} {w : World} {base e sz : Nat} {E : (Nat → Prop) → α → List Value → Prop} {v : Value} {xs : List α} (h : Own w base e sz E v xs) (hz : 0 < sz) (hE : ∀ x c, E (fun k => base ≤ k ∧ some k ≠ v.ownBlock) x c → E (base ≤ ·) x c) :
    RRow w (base ≤ ·) sz (E (base ≤ ·)) v xs := by
  obtain ⟨L, hL, hs, ho, he⟩ := h
  obtain ⟨a, c, hv, hn, hr⟩ := own_reads ho
  refine ⟨a, c, fun j => L.getD j [], hv, hn, ?_, ?_⟩
  · intro j hj
    have hj' : j < L.length := by omega
    have hc : L[j]? = some (L.getD j []) := by rw [List.getD_eq_getElem?_getD, List.getElem?_eq_getElem hj']; rfl
    have hlen : (L.getD j []).length = sz := hs _ (List.mem_of_getElem? hc)
    have hg : ∃ u, (L.getD j [])[0]? = some u := ⟨(L.getD j [])[0]'(by omega), List.getElem?_eq_getElem (by omega)⟩
    obtain ⟨u, hu⟩ := hg
    obtain ⟨g, ha, -, hb, hlt, -⟩ := hr _ _ (flatten_get hs hc 0 u hu)
    refine ⟨g, 0, ha, hb, hlt, hlen, fun i u hu => ?_⟩
    obtain ⟨g', ha', -, -, -, hcell⟩ := hr _ _ (flatten_get hs hc i u hu)
    rw [ha] at ha'
    injection ha' with ha'
    injection ha' with hgg
    rw [Nat.zero_add, hgg]
    exact hcell
  · intro j x hx
    have hj : j < xs.length := (List.getElem?_eq_some_iff.1 hx).1
    have hj' : j < L.length := by omega
    have hc : L[j]? = some (L.getD j []) := by rw [List.getD_eq_getElem?_getD, List.getElem?_eq_getElem hj']; rfl
    exact hE _ _ (he j x _ hx hc)
end Go.Proofs.Ytejpmdlokmlmeaa
