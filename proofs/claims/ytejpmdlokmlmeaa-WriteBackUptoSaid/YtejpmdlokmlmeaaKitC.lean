/- The kit's copies of a word, an alternative, a rule, a declaration, a text. Conditions: the rows have at most 2^40 parts. -/
import Derived.Test.YtejpmdlokmlmeaaKitB
set_option linter.unusedVariables false
set_option linter.unusedSimpArgs false
namespace Go.Proofs.Ytejpmdlokmlmeaa
open Go.RowKit

mutual
def wsize : GWord → Nat
  | .mk _ args _ => 1 + wsizes args
def wsizes : List GWord → Nat
  | [] => 0
  | x :: l => wsize x + wsizes l
end
theorem wsize_pos (x : GWord) : 1 ≤ wsize x := by cases x; rw [wsize]; omega
theorem wsizes_len (l : List GWord) : l.length ≤ wsizes l := by
  induction l with
  | nil => simp
  | cons x l ih => have := wsize_pos x; rw [wsizes]; simp; omega
theorem wsizes_mem {l : List GWord} {x : GWord} (h : x ∈ l) : wsize x ≤ wsizes l := by
  induction l with
  | nil => cases h
  | cons y l ih =>
    rw [wsizes]
    rcases List.mem_cons.1 h with rfl | h
    · omega
    · have := ih h; omega
section
variable {α : Type} {E : World → (Nat → Prop) → α → List Value → Prop} {sz B B0 : Nat} {w w' : World} {v : Value} {xs : List α}
/-- A row that a copy gave, in a later world. -/
theorem new_keep (hE : Elem E) (h : RRow w (NB B w) sz (E w (NB B w)) v xs) {S : Nat → Prop} (hf : Fr S w w') (hs : ∀ k, B ≤ k → ¬ S k) (hB : B0 ≤ B) : RRow w' (NB B0 w') sz (E w' (NB B0 w')) v xs := by
  have h1 : RRow w (fun k => NB B w k ∧ k < w.heap.size) sz (E w (fun k => NB B w k ∧ k < w.heap.size)) v xs := h.mono (fun k hk hlt => ⟨hk, hlt⟩) (fun x cs hx => hE.mono hx (fun k hk hlt => ⟨hk, hlt⟩))
  exact (h1.fr (E' := E w' (fun k => NB B w k ∧ k < w.heap.size)) hf (fun k hk hlt => hs k hk.1.1) (fun x cs hx => hE.fr hx hf (fun k hk hlt => hs k hk.1.1))).mono (fun k hk _ => ⟨Nat.le_trans hB hk.1.1, hk.1.2.fr hf hk.2 (hs k hk.1.1)⟩) (fun x cs hx => hE.mono hx (fun k hk _ => ⟨Nat.le_trans hB hk.1.1, hk.1.2.fr hf hk.2 (hs k hk.1.1)⟩))
/-- A row that was there. -/
theorem old_row (hE : Elem E) (h : RRow w Any sz (E w Any) v xs) : RRow w (· < w.heap.size) sz (E w (· < w.heap.size)) v xs := h.mono (fun k _ hlt => hlt) (fun x cs hx => hE.mono hx (fun k _ hlt => hlt))
theorem old_keep (hE : Elem E) (h : RRow w (· < B) sz (E w (· < B)) v xs) {S : Nat → Prop} (hf : Fr S w w') (hs : ∀ k, k < B → ¬ S k) : RRow w' (· < B) sz (E w' (· < B)) v xs :=
  h.fr (E' := E w' (· < B)) hf (fun k hk _ => hs k hk) (fun x cs hx => hE.fr hx hf (fun k hk _ => hs k hk))
theorem old_any (hE : Elem E) (h : RRow w (· < B) sz (E w (· < B)) v xs) : RRow w Any sz (E w Any) v xs := h.mono (fun _ _ _ => trivial) (fun x cs hx => hE.mono hx (fun _ _ _ => trivial))
end
theorem any_row' {α : Type} {E : World → (Nat → Prop) → α → List Value → Prop} (hE : Elem E) {sz : Nat} {w w' : World} {v : Value} {xs : List α} (h : RRow w Any sz (E w Any) v xs) (hf : Fr (fun _ => False) w w') : RRow w' Any sz (E w' Any) v xs :=
  h.fr (E' := E w' Any) hf (fun _ _ _ => id) (fun x cs hx => hE.fr hx hf (fun _ _ _ => id))

set_option maxRecDepth 100000 in
set_option maxHeartbeats 1000000 in
theorem copyWord_step {w : World} {n : ByteArray} {args : List GWord} {a : Option Addr} {c : Nat} {k : Int} (Hel : Hid (∀ x, x ∈ args → ∀ (w' : World) (cs : List Value), RWord w' Any x cs → Calls Try.prog 94 #[.agg ⟨cs⟩] w' (CElt RWord w' x))) (hrow : RRow w Any 3 (RWord w Any) (.slice a args.length c) args) (hn : args.length ≤ 1099511627776) :
    Calls Try.prog 94 #[.agg #[.string n, .slice a args.length c, .int .i64 k]] w (CElt RWord w (.mk n args k)) := by
  have hrow0 := old_row elemWord hrow
  have hf1 : Fr (fun _ => False) w ((w.alloc (.cells #[.string n, .slice a args.length c, .int .i64 k] 50)).alloc (.cells #[.string ⟨#[]⟩, .slice none 0 0, .int .i64 0] 50)) := ((Fr.refl _ w).alloc _).alloc _
  have hT1 : Blk ((w.alloc (.cells #[.string n, .slice a args.length c, .int .i64 k] 50)).alloc (.cells #[.string ⟨#[]⟩, .slice none 0 0, .int .i64 0] 50)) w.heap.size #[.string n, .slice a args.length c, .int .i64 k] 50 := (Blk.new w _ _).alloc _
  have hD1 : Blk ((w.alloc (.cells #[.string n, .slice a args.length c, .int .i64 k] 50)).alloc (.cells #[.string ⟨#[]⟩, .slice none 0 0, .int .i64 0] 50)) (w.heap.size + 1) #[.string ⟨#[]⟩, .slice none 0 0, .int .i64 0] 50 := by
    have := Blk.new (w.alloc (.cells #[.string n, .slice a args.length c, .int .i64 k] 50)) #[.string ⟨#[]⟩, .slice none 0 0, .int .i64 0] 50
    rwa [show (w.alloc (.cells #[.string n, .slice a args.length c, .int .i64 k] 50)).heap.size = w.heap.size + 1 by simp] at this
  have hrow1 := any_row' elemWord hrow hf1
  have t0 := hT1.cell 1 rfl
  go_enter Try.func94, Try.ntmps94
  go_wp2_with fail
  clear t0
  generalize (w.alloc (.cells #[.string n, .slice a args.length c, .int .i64 k] 50)).alloc (.cells #[.string ⟨#[]⟩, .slice none 0 0, .int .i64 0] 50) = w1 at *
  obtain ⟨D, hD⟩ : ∃ D, D = w.heap.size + 1 := ⟨_, rfl⟩
  rw [← hD] at hD1 ⊢
  obtain ⟨T, hT⟩ : ∃ T, T = w.heap.size := ⟨_, rfl⟩
  rw [← hT] at hT1 ⊢
  have hTD : T < D := by omega
  have hDT' : D ≠ T := by omega
  have hTD' : T ≠ D := by omega
  have hwT : w.heap.size ≤ T := by omega
  have hDl := hD1.lt
  clear hD hT
  refine (copyWords_of (fun x hx w' cs h => Hel.out x hx w' cs h) hrow1 hn).mono ?_
  rintro e w2 ⟨v, rfl, hR, hf2⟩
  obtain ⟨va, vc, rfl⟩ := hR.form
  have hT2 := hT1.fr hf2 id
  have hD2 := hD1.fr hf2 id
  have t0 := hT2.cell 1 rfl
  have t1 := hT2.frozen 1
  have hT3 : Blk _ T #[.string n, .slice va args.length vc, .int .i64 k] 50 := hT2.set 1 (.slice va args.length vc) rfl
  have hD3 := hD2.far (p := ⟨T, 1, none⟩) hTD' (.slice va args.length vc)
  have hf3 := (Fr.refl (fun k => k = T ∨ k = D) w2).setCell (p := ⟨T, 1, none⟩) (fun _ => .inl rfl) (.slice va args.length vc)
  go_upto_region 2 with fail
  clear t0 t1
  generalize w2.setCell ⟨T, 1, none⟩ (.slice va args.length vc) = w3 at *
  have v0 := hT3.cell 0 rfl
  have z0 := hD3.cell 0 rfl
  have y0 := hD3.frozen 0
  have v1 := hT3.cell 1 rfl
  have z1 := hD3.cell 1 rfl
  have y1 := hD3.frozen 1
  have v2 := hT3.cell 2 rfl
  have z2 := hD3.cell 2 rfl
  have y2 := hD3.frozen 2
  have hFz := ((((Fr.refl (fun k => k = T ∨ k = D) w3).setCell (p := ⟨D, 0, none⟩) (fun _ => .inr rfl) (.string n)).setCell (p := ⟨D, 1, none⟩) (fun _ => .inr rfl) (.slice va args.length vc)).setCell (p := ⟨D, 2, none⟩) (fun _ => .inr rfl) (.int .i64 k))
  have hDz := (((hD3.set 0 (.string n) rfl).set 1 (.slice va args.length vc) rfl).set 2 (.int .i64 k) rfl)
  go_wp2_with fail
  have g0 := hDz.cell 0 rfl
  have g1 := hDz.cell 1 rfl
  have g2 := hDz.cell 2 rfl
  refine bodyPost_ret (v := .agg #[.string n, .slice va args.length vc, .int .i64 k]) (by simp [results, Try.results94, go_sem, g0, g1, g2]) rfl ?_
  have hfin : Fr (fun _ => False) w _ := ((((hf1.trans hf2).mono (T := fun k => w.heap.size ≤ k) (fun _ _ => False.elim)).trans (hf3.mono (fun k _ e => by have e' : k = T ∨ k = D := e; omega))).trans (hFz.mono (fun k _ e => by have e' : k = T ∨ k = D := e; omega))).mono (fun k hk e => by have e' : w.heap.size ≤ k := e; omega)
  have hRz := new_keep (B0 := w.heap.size) elemWord (new_keep elemWord hR hf3 (fun k hk e => by omega) (Nat.le_refl _)) hFz (fun k hk e => by omega) (by omega)
  exact ⟨_, rfl, RWord.row.2 ⟨_, rfl, hRz⟩, hfin⟩
theorem copyWord_any (m : Nat) : ∀ x, SizeOf.sizeOf x < m → wsize x ≤ 1099511627776 → ∀ (w : World) (cs : List Value), RWord w Any x cs → Calls Try.prog 94 #[.agg ⟨cs⟩] w (CElt RWord w x) := by
  induction m with
  | zero => intro x hx; omega
  | succ m ih =>
    intro x hx hs w cs h
    obtain ⟨n, args, k⟩ := x
    obtain ⟨v, rfl, hr⟩ := RWord.row.1 h
    obtain ⟨a, c, rfl⟩ := hr.form
    rw [wsize] at hs
    refine copyWord_step (Lib.hid (fun y hy w' cs h => ih y ?_ ?_ w' cs h)) hr ?_
    · have := List.sizeOf_lt_of_mem hy
      simp only [GWord.mk.sizeOf_spec] at hx
      omega
    · have := wsizes_mem hy; omega
    · have := wsizes_len args; omega
theorem copyWords_any {w : World} {v : Value} {xs : List GWord} (hs : wsizes xs ≤ 1099511627776) (h : RRow w Any 3 (RWord w Any) v xs) : Calls Try.prog 92 #[v] w (CRow RWord 3 w xs) :=
  copyWords_of (fun x hx w' cs h => copyWord_any _ x (Nat.lt_succ_self _) (by have := wsizes_mem hx; omega) w' cs h) h (by have := wsizes_len xs; omega)
def asize (x : GAlt) : Nat := 1 + wsizes x.words
def asizes (l : List GAlt) : Nat := (l.map asize).sum
def rsize (x : GRule) : Nat := 1 + x.params.length + asizes x.alts
def rsizes (l : List GRule) : Nat := (l.map rsize).sum
def dsize (x : GDecl) : Nat := 1 + x.names.length
def dsizes (l : List GDecl) : Nat := (l.map dsize).sum
def tsize (x : GText) : Nat := dsizes x.decls + rsizes x.rules
theorem sum_mem {α : Type} {f : α → Nat} {l : List α} {x : α} (h : x ∈ l) : f x ≤ (l.map f).sum := by
  induction l with
  | nil => cases h
  | cons y l ih =>
    rw [List.map_cons, List.sum_cons]
    rcases List.mem_cons.1 h with rfl | h
    · omega
    · have := ih h; omega
theorem sum_len {α : Type} {f : α → Nat} (h1 : ∀ x, 1 ≤ f x) (l : List α) : l.length ≤ (l.map f).sum := by
  induction l with
  | nil => simp
  | cons y l ih => have := h1 y; rw [List.map_cons, List.sum_cons]; simp; omega

set_option maxRecDepth 100000 in
set_option maxHeartbeats 1000000 in
theorem copyAlt_step {w : World} {ws : List GWord} {p s : ByteArray} {b : Bool} {a : Option Addr} {c : Nat} {k j : Int} (hrow : RRow w Any 3 (RWord w Any) (.slice a ws.length c) ws) (hn : wsizes ws ≤ 1099511627776) :
    Calls Try.prog 87 #[.agg #[.slice a ws.length c, .string p, .bool b, .string s, .int .i64 k, .int .i64 j]] w (CElt RAlt w ⟨ws, p, b, s, k, j⟩) := by
  have hrow0 := old_row elemWord hrow
  have hf1 : Fr (fun _ => False) w ((w.alloc (.cells #[.slice a ws.length c, .string p, .bool b, .string s, .int .i64 k, .int .i64 j] 47)).alloc (.cells #[.slice none 0 0, .string ⟨#[]⟩, .bool false, .string ⟨#[]⟩, .int .i64 0, .int .i64 0] 47)) := ((Fr.refl _ w).alloc _).alloc _
  have hT1 : Blk ((w.alloc (.cells #[.slice a ws.length c, .string p, .bool b, .string s, .int .i64 k, .int .i64 j] 47)).alloc (.cells #[.slice none 0 0, .string ⟨#[]⟩, .bool false, .string ⟨#[]⟩, .int .i64 0, .int .i64 0] 47)) w.heap.size #[.slice a ws.length c, .string p, .bool b, .string s, .int .i64 k, .int .i64 j] 47 := (Blk.new w _ _).alloc _
  have hD1 : Blk ((w.alloc (.cells #[.slice a ws.length c, .string p, .bool b, .string s, .int .i64 k, .int .i64 j] 47)).alloc (.cells #[.slice none 0 0, .string ⟨#[]⟩, .bool false, .string ⟨#[]⟩, .int .i64 0, .int .i64 0] 47)) (w.heap.size + 1) #[.slice none 0 0, .string ⟨#[]⟩, .bool false, .string ⟨#[]⟩, .int .i64 0, .int .i64 0] 47 := by
    have := Blk.new (w.alloc (.cells #[.slice a ws.length c, .string p, .bool b, .string s, .int .i64 k, .int .i64 j] 47)) #[.slice none 0 0, .string ⟨#[]⟩, .bool false, .string ⟨#[]⟩, .int .i64 0, .int .i64 0] 47
    rwa [show (w.alloc (.cells #[.slice a ws.length c, .string p, .bool b, .string s, .int .i64 k, .int .i64 j] 47)).heap.size = w.heap.size + 1 by simp] at this
  have hrow1 := any_row' elemWord hrow hf1
  have t0 := hT1.cell 0 rfl
  go_enter Try.func87, Try.ntmps87
  go_wp2_with fail
  clear t0
  generalize (w.alloc (.cells #[.slice a ws.length c, .string p, .bool b, .string s, .int .i64 k, .int .i64 j] 47)).alloc (.cells #[.slice none 0 0, .string ⟨#[]⟩, .bool false, .string ⟨#[]⟩, .int .i64 0, .int .i64 0] 47) = w1 at *
  obtain ⟨D, hD⟩ : ∃ D, D = w.heap.size + 1 := ⟨_, rfl⟩
  rw [← hD] at hD1 ⊢
  obtain ⟨T, hT⟩ : ∃ T, T = w.heap.size := ⟨_, rfl⟩
  rw [← hT] at hT1 ⊢
  have hTD : T < D := by omega
  have hDT' : D ≠ T := by omega
  have hTD' : T ≠ D := by omega
  have hwT : w.heap.size ≤ T := by omega
  have hDl := hD1.lt
  clear hD hT
  refine (copyWords_any hn hrow1).mono ?_
  rintro e w2 ⟨v, rfl, hR, hf2⟩
  obtain ⟨va, vc, rfl⟩ := hR.form
  have hT2 := hT1.fr hf2 id
  have hD2 := hD1.fr hf2 id
  have t0 := hT2.cell 0 rfl
  have t1 := hT2.frozen 0
  have hT3 : Blk _ T #[.slice va ws.length vc, .string p, .bool b, .string s, .int .i64 k, .int .i64 j] 47 := hT2.set 0 (.slice va ws.length vc) rfl
  have hD3 := hD2.far (p := ⟨T, 0, none⟩) hTD' (.slice va ws.length vc)
  have hf3 := (Fr.refl (fun k => k = T ∨ k = D) w2).setCell (p := ⟨T, 0, none⟩) (fun _ => .inl rfl) (.slice va ws.length vc)
  go_upto_region 2 with fail
  clear t0 t1
  generalize w2.setCell ⟨T, 0, none⟩ (.slice va ws.length vc) = w3 at *
  have v0 := hT3.cell 0 rfl
  have z0 := hD3.cell 0 rfl
  have y0 := hD3.frozen 0
  have v1 := hT3.cell 1 rfl
  have z1 := hD3.cell 1 rfl
  have y1 := hD3.frozen 1
  have v2 := hT3.cell 2 rfl
  have z2 := hD3.cell 2 rfl
  have y2 := hD3.frozen 2
  have v3 := hT3.cell 3 rfl
  have z3 := hD3.cell 3 rfl
  have y3 := hD3.frozen 3
  have v4 := hT3.cell 4 rfl
  have z4 := hD3.cell 4 rfl
  have y4 := hD3.frozen 4
  have v5 := hT3.cell 5 rfl
  have z5 := hD3.cell 5 rfl
  have y5 := hD3.frozen 5
  have hFz := (((((((Fr.refl (fun k => k = T ∨ k = D) w3).setCell (p := ⟨D, 0, none⟩) (fun _ => .inr rfl) (.slice va ws.length vc)).setCell (p := ⟨D, 1, none⟩) (fun _ => .inr rfl) (.string p)).setCell (p := ⟨D, 2, none⟩) (fun _ => .inr rfl) (.bool b)).setCell (p := ⟨D, 3, none⟩) (fun _ => .inr rfl) (.string s)).setCell (p := ⟨D, 4, none⟩) (fun _ => .inr rfl) (.int .i64 k)).setCell (p := ⟨D, 5, none⟩) (fun _ => .inr rfl) (.int .i64 j))
  have hDz := ((((((hD3.set 0 (.slice va ws.length vc) rfl).set 1 (.string p) rfl).set 2 (.bool b) rfl).set 3 (.string s) rfl).set 4 (.int .i64 k) rfl).set 5 (.int .i64 j) rfl)
  go_wp2_with fail
  have g0 := hDz.cell 0 rfl
  have g1 := hDz.cell 1 rfl
  have g2 := hDz.cell 2 rfl
  have g3 := hDz.cell 3 rfl
  have g4 := hDz.cell 4 rfl
  have g5 := hDz.cell 5 rfl
  refine bodyPost_ret (v := .agg #[.slice va ws.length vc, .string p, .bool b, .string s, .int .i64 k, .int .i64 j]) (by simp [results, Try.results87, go_sem, g0, g1, g2, g3, g4, g5]) rfl ?_
  have hfin : Fr (fun _ => False) w _ := ((((hf1.trans hf2).mono (T := fun k => w.heap.size ≤ k) (fun _ _ => False.elim)).trans (hf3.mono (fun k _ e => by have e' : k = T ∨ k = D := e; omega))).trans (hFz.mono (fun k _ e => by have e' : k = T ∨ k = D := e; omega))).mono (fun k hk e => by have e' : w.heap.size ≤ k := e; omega)
  have hRz := new_keep (B0 := w.heap.size) elemWord (new_keep elemWord hR hf3 (fun k hk e => by omega) (Nat.le_refl _)) hFz (fun k hk e => by omega) (by omega)
  exact ⟨_, rfl, ⟨_, rfl, hRz⟩, hfin⟩
theorem copyAlt_any {w : World} {x : GAlt} {cs : List Value} (hs : asize x ≤ 1099511627776) (h : RAlt w Any x cs) : Calls Try.prog 87 #[.agg ⟨cs⟩] w (CElt RAlt w x) := by
  obtain ⟨ws, p, b, s, k, j⟩ := x
  obtain ⟨v, rfl, hr⟩ := h
  obtain ⟨a, c, rfl⟩ := hr.form
  unfold asize at hs
  have hs' : wsizes ws ≤ 1099511627776 := by dsimp only at hs; omega
  exact copyAlt_step hr hs'
theorem copyAlts_any {w : World} {v : Value} {xs : List GAlt} (hs : asizes xs ≤ 1099511627776) (h : RRow w Any 6 (RAlt w Any) v xs) : Calls Try.prog 83 #[v] w (CRow RAlt 6 w xs) :=
  copyAlts_of (fun x hx {w' cs} h => copyAlt_any (by have := sum_mem (f := asize) hx; unfold asizes at hs; omega) h) h (by have := sum_len (f := asize) (fun x => by unfold asize; omega) xs; unfold asizes at hs; omega)

set_option maxRecDepth 100000 in
set_option maxHeartbeats 1000000 in
theorem copyDecl_step {w : World} {n y : ByteArray} {ns : List ByteArray} {a : Option Addr} {c : Nat} {k : Int} (hrow : RRow w Any 1 (EStrs w Any) (.slice a ns.length c) ns) (hn : ns.length ≤ 1099511627776) :
    Calls Try.prog 69 #[.agg #[.string n, .string y, .slice a ns.length c, .int .i64 k]] w (CElt RDecl w ⟨n, y, ns, k⟩) := by
  have hrow0 := old_row elemStr hrow
  have hf1 : Fr (fun _ => False) w ((w.alloc (.cells #[.string n, .string y, .slice a ns.length c, .int .i64 k] 41)).alloc (.cells #[.string ⟨#[]⟩, .string ⟨#[]⟩, .slice none 0 0, .int .i64 0] 41)) := ((Fr.refl _ w).alloc _).alloc _
  have hT1 : Blk ((w.alloc (.cells #[.string n, .string y, .slice a ns.length c, .int .i64 k] 41)).alloc (.cells #[.string ⟨#[]⟩, .string ⟨#[]⟩, .slice none 0 0, .int .i64 0] 41)) w.heap.size #[.string n, .string y, .slice a ns.length c, .int .i64 k] 41 := (Blk.new w _ _).alloc _
  have hD1 : Blk ((w.alloc (.cells #[.string n, .string y, .slice a ns.length c, .int .i64 k] 41)).alloc (.cells #[.string ⟨#[]⟩, .string ⟨#[]⟩, .slice none 0 0, .int .i64 0] 41)) (w.heap.size + 1) #[.string ⟨#[]⟩, .string ⟨#[]⟩, .slice none 0 0, .int .i64 0] 41 := by
    have := Blk.new (w.alloc (.cells #[.string n, .string y, .slice a ns.length c, .int .i64 k] 41)) #[.string ⟨#[]⟩, .string ⟨#[]⟩, .slice none 0 0, .int .i64 0] 41
    rwa [show (w.alloc (.cells #[.string n, .string y, .slice a ns.length c, .int .i64 k] 41)).heap.size = w.heap.size + 1 by simp] at this
  have hrow1 := any_row' elemStr hrow hf1
  have t0 := hT1.cell 2 rfl
  go_enter Try.func69, Try.ntmps69
  go_wp2_with fail
  clear t0
  generalize (w.alloc (.cells #[.string n, .string y, .slice a ns.length c, .int .i64 k] 41)).alloc (.cells #[.string ⟨#[]⟩, .string ⟨#[]⟩, .slice none 0 0, .int .i64 0] 41) = w1 at *
  obtain ⟨D, hD⟩ : ∃ D, D = w.heap.size + 1 := ⟨_, rfl⟩
  rw [← hD] at hD1 ⊢
  obtain ⟨T, hT⟩ : ∃ T, T = w.heap.size := ⟨_, rfl⟩
  rw [← hT] at hT1 ⊢
  have hTD : T < D := by omega
  have hDT' : D ≠ T := by omega
  have hTD' : T ≠ D := by omega
  have hwT : w.heap.size ≤ T := by omega
  have hDl := hD1.lt
  clear hD hT
  refine (copyTexts_any hrow1 hn).mono ?_
  rintro e w2 ⟨v, rfl, hR, hf2⟩
  obtain ⟨va, vc, rfl⟩ := hR.form
  have hT2 := hT1.fr hf2 id
  have hD2 := hD1.fr hf2 id
  have t0 := hT2.cell 2 rfl
  have t1 := hT2.frozen 2
  have hT3 : Blk _ T #[.string n, .string y, .slice va ns.length vc, .int .i64 k] 41 := hT2.set 2 (.slice va ns.length vc) rfl
  have hD3 := hD2.far (p := ⟨T, 2, none⟩) hTD' (.slice va ns.length vc)
  have hf3 := (Fr.refl (fun k => k = T ∨ k = D) w2).setCell (p := ⟨T, 2, none⟩) (fun _ => .inl rfl) (.slice va ns.length vc)
  go_upto_region 2 with fail
  clear t0 t1
  generalize w2.setCell ⟨T, 2, none⟩ (.slice va ns.length vc) = w3 at *
  have v0 := hT3.cell 0 rfl
  have z0 := hD3.cell 0 rfl
  have y0 := hD3.frozen 0
  have v1 := hT3.cell 1 rfl
  have z1 := hD3.cell 1 rfl
  have y1 := hD3.frozen 1
  have v2 := hT3.cell 2 rfl
  have z2 := hD3.cell 2 rfl
  have y2 := hD3.frozen 2
  have v3 := hT3.cell 3 rfl
  have z3 := hD3.cell 3 rfl
  have y3 := hD3.frozen 3
  have hFz := (((((Fr.refl (fun k => k = T ∨ k = D) w3).setCell (p := ⟨D, 0, none⟩) (fun _ => .inr rfl) (.string n)).setCell (p := ⟨D, 1, none⟩) (fun _ => .inr rfl) (.string y)).setCell (p := ⟨D, 2, none⟩) (fun _ => .inr rfl) (.slice va ns.length vc)).setCell (p := ⟨D, 3, none⟩) (fun _ => .inr rfl) (.int .i64 k))
  have hDz := ((((hD3.set 0 (.string n) rfl).set 1 (.string y) rfl).set 2 (.slice va ns.length vc) rfl).set 3 (.int .i64 k) rfl)
  go_wp2_with fail
  have g0 := hDz.cell 0 rfl
  have g1 := hDz.cell 1 rfl
  have g2 := hDz.cell 2 rfl
  have g3 := hDz.cell 3 rfl
  refine bodyPost_ret (v := .agg #[.string n, .string y, .slice va ns.length vc, .int .i64 k]) (by simp [results, Try.results69, go_sem, g0, g1, g2, g3]) rfl ?_
  have hfin : Fr (fun _ => False) w _ := ((((hf1.trans hf2).mono (T := fun k => w.heap.size ≤ k) (fun _ _ => False.elim)).trans (hf3.mono (fun k _ e => by have e' : k = T ∨ k = D := e; omega))).trans (hFz.mono (fun k _ e => by have e' : k = T ∨ k = D := e; omega))).mono (fun k hk e => by have e' : w.heap.size ≤ k := e; omega)
  have hRz := new_keep (B0 := w.heap.size) elemStr (new_keep elemStr hR hf3 (fun k hk e => by omega) (Nat.le_refl _)) hFz (fun k hk e => by omega) (by omega)
  exact ⟨_, rfl, ⟨_, rfl, hRz⟩, hfin⟩
theorem copyDecl_any {w : World} {x : GDecl} {cs : List Value} (hs : dsize x ≤ 1099511627776) (h : RDecl w Any x cs) : Calls Try.prog 69 #[.agg ⟨cs⟩] w (CElt RDecl w x) := by
  obtain ⟨n, y, ns, k⟩ := x
  obtain ⟨v, rfl, hr⟩ := h
  obtain ⟨a, c, rfl⟩ := hr.form
  unfold dsize at hs
  have hs' : ns.length ≤ 1099511627776 := by dsimp only at hs; omega
  exact copyDecl_step hr hs'
theorem copyDecls_any {w : World} {v : Value} {xs : List GDecl} (hs : dsizes xs ≤ 1099511627776) (h : RRow w Any 4 (RDecl w Any) v xs) : Calls Try.prog 53 #[v] w (CRow RDecl 4 w xs) :=
  copyDecls_of (fun x hx {w' cs} h => copyDecl_any (by have := sum_mem (f := dsize) hx; unfold dsizes at hs; omega) h) h (by have := sum_len (f := dsize) (fun x => by unfold dsize; omega) xs; unfold dsizes at hs; omega)

set_option maxRecDepth 100000 in
set_option maxHeartbeats 1000000 in
theorem copyRule_step {w : World} {n : ByteArray} {ps : List ByteArray} {al : List GAlt} {a b : Option Addr} {c d : Nat} {k : Int} (hrow : RRow w Any 1 (EStrs w Any) (.slice a ps.length c) ps) (hsow : RRow w Any 6 (RAlt w Any) (.slice b al.length d) al) (hn : ps.length ≤ 1099511627776) (hm : asizes al ≤ 1099511627776) :
    Calls Try.prog 70 #[.agg #[.string n, .slice a ps.length c, .slice b al.length d, .int .i64 k]] w (CElt RRule w ⟨n, ps, al, k⟩) := by
  have hsow0 := old_row elemAlt hsow
  have hf1 : Fr (fun _ => False) w ((w.alloc (.cells #[.string n, .slice a ps.length c, .slice b al.length d, .int .i64 k] 44)).alloc (.cells #[.string ⟨#[]⟩, .slice none 0 0, .slice none 0 0, .int .i64 0] 44)) := ((Fr.refl _ w).alloc _).alloc _
  have hT1 : Blk ((w.alloc (.cells #[.string n, .slice a ps.length c, .slice b al.length d, .int .i64 k] 44)).alloc (.cells #[.string ⟨#[]⟩, .slice none 0 0, .slice none 0 0, .int .i64 0] 44)) w.heap.size #[.string n, .slice a ps.length c, .slice b al.length d, .int .i64 k] 44 := (Blk.new w _ _).alloc _
  have hD1 : Blk ((w.alloc (.cells #[.string n, .slice a ps.length c, .slice b al.length d, .int .i64 k] 44)).alloc (.cells #[.string ⟨#[]⟩, .slice none 0 0, .slice none 0 0, .int .i64 0] 44)) (w.heap.size + 1) #[.string ⟨#[]⟩, .slice none 0 0, .slice none 0 0, .int .i64 0] 44 := by
    have := Blk.new (w.alloc (.cells #[.string n, .slice a ps.length c, .slice b al.length d, .int .i64 k] 44)) #[.string ⟨#[]⟩, .slice none 0 0, .slice none 0 0, .int .i64 0] 44
    rwa [show (w.alloc (.cells #[.string n, .slice a ps.length c, .slice b al.length d, .int .i64 k] 44)).heap.size = w.heap.size + 1 by simp] at this
  have hrow1 := any_row' elemStr hrow hf1
  have hsow1 := old_keep elemAlt hsow0 hf1 (fun _ _ => id)
  have t0 := hT1.cell 1 rfl
  go_enter Try.func70, Try.ntmps70
  go_wp2_with fail
  clear t0
  generalize (w.alloc (.cells #[.string n, .slice a ps.length c, .slice b al.length d, .int .i64 k] 44)).alloc (.cells #[.string ⟨#[]⟩, .slice none 0 0, .slice none 0 0, .int .i64 0] 44) = w1 at *
  obtain ⟨D, hD⟩ : ∃ D, D = w.heap.size + 1 := ⟨_, rfl⟩
  rw [← hD] at hD1 ⊢
  obtain ⟨T, hT⟩ : ∃ T, T = w.heap.size := ⟨_, rfl⟩
  rw [← hT] at hT1 hsow1 ⊢
  have hTD : T < D := by omega
  have hDT' : D ≠ T := by omega
  have hTD' : T ≠ D := by omega
  have hwT : w.heap.size ≤ T := by omega
  have hDl := hD1.lt
  clear hD hT
  refine (copyTexts_any hrow1 hn).mono ?_
  rintro e w2 ⟨v, rfl, hR, hf2⟩
  obtain ⟨va, vc, rfl⟩ := hR.form
  have hs2 := hf2.size
  have hT2 := hT1.fr hf2 id
  have hD2 := hD1.fr hf2 id
  have t0 := hT2.cell 1 rfl
  have t1 := hT2.frozen 1
  have t2 := hT2.cell 2 rfl
  have hT3 : Blk _ T #[.string n, .slice va ps.length vc, .slice b al.length d, .int .i64 k] 44 := hT2.set 1 (.slice va ps.length vc) rfl
  have hD3 := hD2.far (p := ⟨T, 1, none⟩) hTD' (.slice va ps.length vc)
  have hf3 := (Fr.refl (fun k => k = T ∨ k = D) w2).setCell (p := ⟨T, 1, none⟩) (fun _ => .inl rfl) (.slice va ps.length vc)
  have hsow3 := old_keep elemAlt (old_keep elemAlt hsow1 hf2 (fun _ _ => id)) hf3 (fun k hk e => by omega)
  have hR3 := new_keep elemStr hR hf3 (fun k hk e => by omega) (Nat.le_refl _)
  go_wp2_with fail
  clear t0 t1 t2
  have hz3 : (w2.setCell ⟨T, 1, none⟩ (.slice va ps.length vc)).heap.size = w2.heap.size := by simp [World.setCell]
  have hw3l : w1.heap.size ≤ (w2.setCell ⟨T, 1, none⟩ (.slice va ps.length vc)).heap.size := by omega
  clear hz3
  generalize w2.setCell ⟨T, 1, none⟩ (.slice va ps.length vc) = w3 at *
  have hsow3' := old_any elemAlt hsow3
  refine (copyAlts_any hm hsow3').mono ?_
  rintro e w4 ⟨u, rfl, hU, hf4⟩
  obtain ⟨ua, uc, rfl⟩ := hU.form
  have hT4 := hT3.fr hf4 id
  have hD4 := hD3.fr hf4 id
  have hR4 := new_keep elemStr hR3 hf4 (fun _ _ => id) (Nat.le_refl _)
  have t0 := hT4.cell 2 rfl
  have t1 := hT4.frozen 2
  have hT5 : Blk _ T #[.string n, .slice va ps.length vc, .slice ua al.length uc, .int .i64 k] 44 := hT4.set 2 (.slice ua al.length uc) rfl
  have hD5 := hD4.far (p := ⟨T, 2, none⟩) hTD' (.slice ua al.length uc)
  have hf5 := (Fr.refl (fun k => k = T ∨ k = D) w4).setCell (p := ⟨T, 2, none⟩) (fun _ => .inl rfl) (.slice ua al.length uc)
  go_upto_region 3 with fail
  clear t0 t1
  generalize w4.setCell ⟨T, 2, none⟩ (.slice ua al.length uc) = w5 at *
  have v0 := hT5.cell 0 rfl
  have z0 := hD5.cell 0 rfl
  have y0 := hD5.frozen 0
  have v1 := hT5.cell 1 rfl
  have z1 := hD5.cell 1 rfl
  have y1 := hD5.frozen 1
  have v2 := hT5.cell 2 rfl
  have z2 := hD5.cell 2 rfl
  have y2 := hD5.frozen 2
  have v3 := hT5.cell 3 rfl
  have z3 := hD5.cell 3 rfl
  have y3 := hD5.frozen 3
  have hFz := (((((Fr.refl (fun k => k = T ∨ k = D) w5).setCell (p := ⟨D, 0, none⟩) (fun _ => .inr rfl) (.string n)).setCell (p := ⟨D, 1, none⟩) (fun _ => .inr rfl) (.slice va ps.length vc)).setCell (p := ⟨D, 2, none⟩) (fun _ => .inr rfl) (.slice ua al.length uc)).setCell (p := ⟨D, 3, none⟩) (fun _ => .inr rfl) (.int .i64 k))
  have hDz := ((((hD5.set 0 (.string n) rfl).set 1 (.slice va ps.length vc) rfl).set 2 (.slice ua al.length uc) rfl).set 3 (.int .i64 k) rfl)
  go_wp2_with fail
  have g0 := hDz.cell 0 rfl
  have g1 := hDz.cell 1 rfl
  have g2 := hDz.cell 2 rfl
  have g3 := hDz.cell 3 rfl
  refine bodyPost_ret (v := .agg #[.string n, .slice va ps.length vc, .slice ua al.length uc, .int .i64 k]) (by simp [results, Try.results70, go_sem, g0, g1, g2, g3]) rfl ?_
  have hfin : Fr (fun _ => False) w _ := ((((((hf1.trans hf2).mono (T := fun k => w.heap.size ≤ k) (fun _ _ => False.elim)).trans (hf3.mono (fun k _ e => by have e' : k = T ∨ k = D := e; omega))).trans (hf4.mono (fun _ _ => False.elim))).trans (hf5.mono (fun k _ e => by have e' : k = T ∨ k = D := e; omega))).trans (hFz.mono (fun k _ e => by have e' : k = T ∨ k = D := e; omega))).mono (fun k hk e => by have e' : w.heap.size ≤ k := e; omega)
  have hRz := new_keep (B0 := w.heap.size) elemStr (new_keep elemStr hR4 hf5 (fun k hk e => by omega) (Nat.le_refl _)) hFz (fun k hk e => by omega) (by omega)
  have hUz := new_keep (B0 := w.heap.size) elemAlt (new_keep elemAlt hU hf5 (fun k hk e => by omega) (Nat.le_refl _)) hFz (fun k hk e => by omega) (by omega)
  exact ⟨_, rfl, ⟨_, _, rfl, hRz, hUz⟩, hfin⟩
theorem copyRule_any {w : World} {x : GRule} {cs : List Value} (hs : rsize x ≤ 1099511627776) (h : RRule w Any x cs) : Calls Try.prog 70 #[.agg ⟨cs⟩] w (CElt RRule w x) := by
  obtain ⟨n, ps, al, k⟩ := x
  obtain ⟨v, u, rfl, hr, hr2⟩ := h
  obtain ⟨a, c, rfl⟩ := hr.form
  obtain ⟨b, d, rfl⟩ := hr2.form
  unfold rsize at hs
  have hs' : ps.length ≤ 1099511627776 ∧ asizes al ≤ 1099511627776 := by dsimp only at hs; omega
  exact copyRule_step hr hr2 hs'.1 hs'.2
theorem copyRules_any {w : World} {v : Value} {xs : List GRule} (hs : rsizes xs ≤ 1099511627776) (h : RRow w Any 4 (RRule w Any) v xs) : Calls Try.prog 54 #[v] w (CRow RRule 4 w xs) :=
  copyRules_of (fun x hx {w' cs} h => copyRule_any (by have := sum_mem (f := rsize) hx; unfold rsizes at hs; omega) h) h (by have := sum_len (f := rsize) (fun x => by unfold rsize; omega) xs; unfold rsizes at hs; omega)

/-- How a copy of a text ends. -/
def CText (w : World) (x : GText) (e : Ending) (w' : World) : Prop :=
  ∃ v u, e = .returned (.agg #[v, u]) ∧ RRow w' (NB w.heap.size w') 4 (RDecl w' (NB w.heap.size w')) v x.decls ∧ RRow w' (NB w.heap.size w') 4 (RRule w' (NB w.heap.size w')) u x.rules ∧ Fr (fun _ => False) w w'
set_option maxRecDepth 100000 in
set_option maxHeartbeats 1000000 in
theorem copySource_any {w : World} {x : GText} {a b : Option Addr} {c d : Nat} (hrow : RRow w Any 4 (RDecl w Any) (.slice a x.decls.length c) x.decls) (hsow : RRow w Any 4 (RRule w Any) (.slice b x.rules.length d) x.rules) (hn : dsizes x.decls ≤ 1099511627776) (hm : rsizes x.rules ≤ 1099511627776) :
    Calls Try.prog 27 #[.agg #[.slice a x.decls.length c, .slice b x.rules.length d]] w (CText w x) := by
  have hsow0 := old_row elemRule hsow
  have hf1 : Fr (fun _ => False) w ((w.alloc (.cells #[.slice a x.decls.length c, .slice b x.rules.length d] 25)).alloc (.cells #[.slice none 0 0, .slice none 0 0] 25)) := ((Fr.refl _ w).alloc _).alloc _
  have hT1 : Blk ((w.alloc (.cells #[.slice a x.decls.length c, .slice b x.rules.length d] 25)).alloc (.cells #[.slice none 0 0, .slice none 0 0] 25)) w.heap.size #[.slice a x.decls.length c, .slice b x.rules.length d] 25 := (Blk.new w _ _).alloc _
  have hD1 : Blk ((w.alloc (.cells #[.slice a x.decls.length c, .slice b x.rules.length d] 25)).alloc (.cells #[.slice none 0 0, .slice none 0 0] 25)) (w.heap.size + 1) #[.slice none 0 0, .slice none 0 0] 25 := by
    have := Blk.new (w.alloc (.cells #[.slice a x.decls.length c, .slice b x.rules.length d] 25)) #[.slice none 0 0, .slice none 0 0] 25
    rwa [show (w.alloc (.cells #[.slice a x.decls.length c, .slice b x.rules.length d] 25)).heap.size = w.heap.size + 1 by simp] at this
  have hrow1 := any_row' elemDecl hrow hf1
  have hsow1 := old_keep elemRule hsow0 hf1 (fun _ _ => id)
  have t0 := hT1.cell 0 rfl
  go_enter Try.func27, Try.ntmps27
  go_wp2_with fail
  clear t0
  generalize (w.alloc (.cells #[.slice a x.decls.length c, .slice b x.rules.length d] 25)).alloc (.cells #[.slice none 0 0, .slice none 0 0] 25) = w1 at *
  obtain ⟨D, hD⟩ : ∃ D, D = w.heap.size + 1 := ⟨_, rfl⟩
  rw [← hD] at hD1 ⊢
  obtain ⟨T, hT⟩ : ∃ T, T = w.heap.size := ⟨_, rfl⟩
  rw [← hT] at hT1 hsow1 ⊢
  have hTD : T < D := by omega
  have hDT' : D ≠ T := by omega
  have hTD' : T ≠ D := by omega
  have hwT : w.heap.size ≤ T := by omega
  have hDl := hD1.lt
  clear hD hT
  refine (copyDecls_any hn hrow1).mono ?_
  rintro e w2 ⟨v, rfl, hR, hf2⟩
  obtain ⟨va, vc, rfl⟩ := hR.form
  have hs2 := hf2.size
  have hT2 := hT1.fr hf2 id
  have hD2 := hD1.fr hf2 id
  have t0 := hT2.cell 0 rfl
  have t1 := hT2.frozen 0
  have t2 := hT2.cell 1 rfl
  have hT3 : Blk _ T #[.slice va x.decls.length vc, .slice b x.rules.length d] 25 := hT2.set 0 (.slice va x.decls.length vc) rfl
  have hD3 := hD2.far (p := ⟨T, 0, none⟩) hTD' (.slice va x.decls.length vc)
  have hf3 := (Fr.refl (fun k => k = T ∨ k = D) w2).setCell (p := ⟨T, 0, none⟩) (fun _ => .inl rfl) (.slice va x.decls.length vc)
  have hsow3 := old_keep elemRule (old_keep elemRule hsow1 hf2 (fun _ _ => id)) hf3 (fun k hk e => by omega)
  have hR3 := new_keep elemDecl hR hf3 (fun k hk e => by omega) (Nat.le_refl _)
  go_wp2_with fail
  clear t0 t1 t2
  have hz3 : (w2.setCell ⟨T, 0, none⟩ (.slice va x.decls.length vc)).heap.size = w2.heap.size := by simp [World.setCell]
  have hw3l : w1.heap.size ≤ (w2.setCell ⟨T, 0, none⟩ (.slice va x.decls.length vc)).heap.size := by omega
  clear hz3
  generalize w2.setCell ⟨T, 0, none⟩ (.slice va x.decls.length vc) = w3 at *
  have hsow3' := old_any elemRule hsow3
  refine (copyRules_any hm hsow3').mono ?_
  rintro e w4 ⟨u, rfl, hU, hf4⟩
  obtain ⟨ua, uc, rfl⟩ := hU.form
  have hT4 := hT3.fr hf4 id
  have hD4 := hD3.fr hf4 id
  have hR4 := new_keep elemDecl hR3 hf4 (fun _ _ => id) (Nat.le_refl _)
  have t0 := hT4.cell 1 rfl
  have t1 := hT4.frozen 1
  have hT5 : Blk _ T #[.slice va x.decls.length vc, .slice ua x.rules.length uc] 25 := hT4.set 1 (.slice ua x.rules.length uc) rfl
  have hD5 := hD4.far (p := ⟨T, 1, none⟩) hTD' (.slice ua x.rules.length uc)
  have hf5 := (Fr.refl (fun k => k = T ∨ k = D) w4).setCell (p := ⟨T, 1, none⟩) (fun _ => .inl rfl) (.slice ua x.rules.length uc)
  go_upto_region 3 with fail
  clear t0 t1
  generalize w4.setCell ⟨T, 1, none⟩ (.slice ua x.rules.length uc) = w5 at *
  have v0 := hT5.cell 0 rfl
  have z0 := hD5.cell 0 rfl
  have y0 := hD5.frozen 0
  have v1 := hT5.cell 1 rfl
  have z1 := hD5.cell 1 rfl
  have y1 := hD5.frozen 1
  have hFz := (((Fr.refl (fun k => k = T ∨ k = D) w5).setCell (p := ⟨D, 0, none⟩) (fun _ => .inr rfl) (.slice va x.decls.length vc)).setCell (p := ⟨D, 1, none⟩) (fun _ => .inr rfl) (.slice ua x.rules.length uc))
  have hDz := ((hD5.set 0 (.slice va x.decls.length vc) rfl).set 1 (.slice ua x.rules.length uc) rfl)
  go_wp2_with fail
  have g0 := hDz.cell 0 rfl
  have g1 := hDz.cell 1 rfl
  refine bodyPost_ret (v := .agg #[.slice va x.decls.length vc, .slice ua x.rules.length uc]) (by simp [results, Try.results27, go_sem, g0, g1]) rfl ?_
  have hfin : Fr (fun _ => False) w _ := ((((((hf1.trans hf2).mono (T := fun k => w.heap.size ≤ k) (fun _ _ => False.elim)).trans (hf3.mono (fun k _ e => by have e' : k = T ∨ k = D := e; omega))).trans (hf4.mono (fun _ _ => False.elim))).trans (hf5.mono (fun k _ e => by have e' : k = T ∨ k = D := e; omega))).trans (hFz.mono (fun k _ e => by have e' : k = T ∨ k = D := e; omega))).mono (fun k hk e => by have e' : w.heap.size ≤ k := e; omega)
  have hRz := new_keep (B0 := w.heap.size) elemDecl (new_keep elemDecl hR4 hf5 (fun k hk e => by omega) (Nat.le_refl _)) hFz (fun k hk e => by omega) (by omega)
  have hUz := new_keep (B0 := w.heap.size) elemRule (new_keep elemRule hU hf5 (fun k hk e => by omega) (Nat.le_refl _)) hFz (fun k hk e => by omega) (by omega)
  exact ⟨_, _, rfl, hRz, hUz, hfin⟩
end Go.Proofs.Ytejpmdlokmlmeaa
