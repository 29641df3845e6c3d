/- The small text and what is asked of it. No condition. -/
import Derived.Test.YtejpmdlokmlmeaaKitH
import Derived.Test.YtejpmdlokmlmeaaReadN
import Derived.Test.YtejpmdlokmlmeaaPure
import Derived.Test.YtejpmdlokmlmeaaRows
import Derived.ProofKit
import Derived.OpenShut
import Derived.HandedShaped
import Derived.Test.YtejpmdlokmlmeaaShelf
set_option linter.unusedVariables false
set_option linter.unusedSimpArgs false
namespace Go.Proofs.Ytejpmdlokmlmeaa
open Go.RowKit

theorem RRow.none' {α : Type} {w : World} {P : Nat → Prop} {sz : Nat} {E : α → List Value → Prop} : RRow w P sz E (.slice none 0 0) [] :=
  ⟨none, 0, fun _ => [], rfl, Nat.le_refl _, fun j hj => absurd hj (Nat.not_lt_zero j), fun j x hx => by simp at hx⟩
theorem RRow.blk {α : Type} {w : World} {P : Nat → Prop} {sz n k : Nat} {E : α → List Value → Prop} {cs : Array Value} {ty : TypeId} {xs : List α} (L : List (List Value)) (hb : Blk w k cs ty) (hP : P k) (hf : L.flatten = cs.toList) (hs : ∀ c ∈ L, c.length = sz) (hn : xs.length = n) (hl : L.length = n) (he : ∀ (j : Nat) x c, xs[j]? = some x → L[j]? = some c → E x c) :
    RRow w P sz E (.slice (some ⟨k, 0, none⟩) n n) xs := by
  subst hn
  refine ⟨_, _, fun j => L.getD j [], rfl, Nat.le_refl _, fun j hj => ?_, fun j x hx => ?_⟩
  · have hj' : j < L.length := by omega
    have hc : L[j]? = some (L.getD j []) := by rw [List.getD_eq_getElem?_getD, List.getElem?_eq_getElem hj']; rfl
    refine ⟨k, 0, rfl, hP, lt_of_heap hb, hs _ (List.mem_of_getElem? hc), fun i u hu => ?_⟩
    have := flatten_get hs hc i u hu
    rw [hf] at this
    rw [Nat.zero_add]
    exact hb.cell _ (by simpa using this)
  · have hj : j < xs.length := (List.getElem?_eq_some_iff.1 hx).1
    have hc : L[j]? = some (L.getD j []) := by rw [List.getD_eq_getElem?_getD, List.getElem?_eq_getElem (by omega)]; rfl
    exact he j x _ hx hc
theorem blk_next {w : World} {n : Nat} (cs : Array Value) (ty : TypeId) (e : w.heap.size = n) : Blk (w.alloc (.cells cs ty)) n cs ty ∧ (w.alloc (.cells cs ty)).heap.size = n + 1 := by
  subst e
  exact ⟨Blk.new w cs ty, by simp⟩
def smallW0 (w : World) : World := w.alloc (.cells #[.slice (some ⟨w.heap.size + 1 + 1 + 1 + 1, 0, none⟩) 1 1, .slice (some ⟨w.heap.size + 1 + 1 + 1 + 1 + 1 + 1 + 1 + 1, 0, none⟩) 1 1] 25)
def smallW1 (w : World) : World := (smallW0 w).alloc (.cells #[.string ⟨#[88]⟩, .slice none 0 0, .int .i64 0] 50)
def smallW2 (w : World) : World := (smallW1 w).alloc (.cells #[.string ⟨#[108]⟩, .slice (some ⟨w.heap.size + 1, 0, none⟩) 1 1, .int .i64 0, .string ⟨#[78]⟩, .slice none 0 0, .int .i64 0] 50)
def smallW3 (w : World) : World := (smallW2 w).alloc (.cells #[.string ⟨#[78]⟩] 9)
def smallW4 (w : World) : World := (smallW3 w).alloc (.cells #[.string ⟨#[116, 111, 107, 101, 110]⟩, .string ⟨#[105, 110, 116]⟩, .slice (some ⟨w.heap.size + 1 + 1 + 1, 0, none⟩) 1 1, .int .i64 0] 41)
def smallW5 (w : World) : World := (smallW4 w).alloc (.cells #[.string ⟨#[88]⟩] 9)
def smallW6 (w : World) : World := (smallW5 w).alloc (.cells #[.string ⟨#[88]⟩, .slice none 0 0, .int .i64 0] 50)
def smallW7 (w : World) : World := (smallW6 w).alloc (.cells #[.slice (some ⟨w.heap.size + 1 + 1 + 1 + 1 + 1 + 1, 0, none⟩) 1 1, .string ⟨#[]⟩, .bool false, .string ⟨#[]⟩, .int .i64 0, .int .i64 0, .slice (some ⟨w.heap.size + 1 + 1, 0, none⟩) 2 2, .string ⟨#[78]⟩, .bool true, .string ⟨#[97]⟩, .int .i64 0, .int .i64 0] 47)
def smallW8 (w : World) : World := (smallW7 w).alloc (.cells #[.string ⟨#[108]⟩, .slice (some ⟨w.heap.size + 1 + 1 + 1 + 1 + 1, 0, none⟩) 1 1, .slice (some ⟨w.heap.size + 1 + 1 + 1 + 1 + 1 + 1 + 1, 0, none⟩) 2 2, .int .i64 0] 44)
def smallG : GText := ⟨[⟨⟨#[116, 111, 107, 101, 110]⟩, ⟨#[105, 110, 116]⟩, [⟨#[78]⟩], 0⟩], [⟨⟨#[108]⟩, [⟨#[88]⟩], [⟨[.mk ⟨#[88]⟩ [] 0], ⟨#[]⟩, false, ⟨#[]⟩, 0, 0⟩, ⟨[.mk ⟨#[108]⟩ [.mk ⟨#[88]⟩ [] 0] 0, .mk ⟨#[78]⟩ [] 0], ⟨#[78]⟩, true, ⟨#[97]⟩, 0, 0⟩], 0⟩]⟩
def smallV (w : World) : Value := .slice (some ⟨w.heap.size + 1 + 1 + 1 + 1, 0, none⟩) 1 1
def smallU (w : World) : Value := .slice (some ⟨w.heap.size + 1 + 1 + 1 + 1 + 1 + 1 + 1 + 1, 0, none⟩) 1 1
theorem RWord.mk' {w : World} {P : Nat → Prop} {n : ByteArray} {args : List GWord} {v : Value} (h : RRow w P 3 (RWord w P) v args) : RWord w P (.mk n args 0) [.string n, v, .int .i64 0] := RWord.row.2 ⟨v, rfl, h⟩
theorem two_of {α β : Type} {x0 x1 : α} {c0 c1 : β} {E : α → β → Prop} (h0 : E x0 c0) (h1 : E x1 c1) : ∀ (j : Nat) x c, [x0, x1][j]? = some x → [c0, c1][j]? = some c → E x c := by
  intro j x c hx hc
  match j, hx, hc with
  | 0, hx, hc => injection hx with hx; injection hc with hc; rw [← hx, ← hc]; exact h0
  | 1, hx, hc => injection hx with hx; injection hc with hc; rw [← hx, ← hc]; exact h1
theorem one_of {α β : Type} {x0 : α} {c0 : β} {E : α → β → Prop} (h0 : E x0 c0) : ∀ (j : Nat) x c, [x0][j]? = some x → [c0][j]? = some c → E x c := by
  intro j x c hx hc
  match j, hx, hc with
  | 0, hx, hc => injection hx with hx; injection hc with hc; rw [← hx, ← hc]; exact h0
theorem small_rep (w : World) : RRow (smallW8 w) (w.heap.size ≤ ·) 4 (RDecl (smallW8 w) (w.heap.size ≤ ·)) (smallV w) smallG.decls ∧ RRow (smallW8 w) (w.heap.size ≤ ·) 4 (RRule (smallW8 w) (w.heap.size ≤ ·)) (smallU w) smallG.rules ∧ Fr (fun _ => False) w (smallW8 w) ∧ Blk (smallW8 w) w.heap.size #[smallV w, smallU w] 25 := by
  obtain ⟨b0, e0⟩ := blk_next (w := w) (n := w.heap.size) #[.slice (some ⟨w.heap.size + 1 + 1 + 1 + 1, 0, none⟩) 1 1, .slice (some ⟨w.heap.size + 1 + 1 + 1 + 1 + 1 + 1 + 1 + 1, 0, none⟩) 1 1] 25 rfl
  replace b0 : Blk (smallW0 w) _ _ _ := b0
  replace e0 : (smallW0 w).heap.size = _ := e0
  obtain ⟨b1, e1⟩ := blk_next (w := smallW0 w) (n := w.heap.size + 1) #[.string ⟨#[88]⟩, .slice none 0 0, .int .i64 0] 50 e0
  replace b1 : Blk (smallW1 w) _ _ _ := b1
  replace e1 : (smallW1 w).heap.size = _ := e1
  obtain ⟨b2, e2⟩ := blk_next (w := smallW1 w) (n := w.heap.size + 1 + 1) #[.string ⟨#[108]⟩, .slice (some ⟨w.heap.size + 1, 0, none⟩) 1 1, .int .i64 0, .string ⟨#[78]⟩, .slice none 0 0, .int .i64 0] 50 e1
  replace b2 : Blk (smallW2 w) _ _ _ := b2
  replace e2 : (smallW2 w).heap.size = _ := e2
  obtain ⟨b3, e3⟩ := blk_next (w := smallW2 w) (n := w.heap.size + 1 + 1 + 1) #[.string ⟨#[78]⟩] 9 e2
  replace b3 : Blk (smallW3 w) _ _ _ := b3
  replace e3 : (smallW3 w).heap.size = _ := e3
  obtain ⟨b4, e4⟩ := blk_next (w := smallW3 w) (n := w.heap.size + 1 + 1 + 1 + 1) #[.string ⟨#[116, 111, 107, 101, 110]⟩, .string ⟨#[105, 110, 116]⟩, .slice (some ⟨w.heap.size + 1 + 1 + 1, 0, none⟩) 1 1, .int .i64 0] 41 e3
  replace b4 : Blk (smallW4 w) _ _ _ := b4
  replace e4 : (smallW4 w).heap.size = _ := e4
  obtain ⟨b5, e5⟩ := blk_next (w := smallW4 w) (n := w.heap.size + 1 + 1 + 1 + 1 + 1) #[.string ⟨#[88]⟩] 9 e4
  replace b5 : Blk (smallW5 w) _ _ _ := b5
  replace e5 : (smallW5 w).heap.size = _ := e5
  obtain ⟨b6, e6⟩ := blk_next (w := smallW5 w) (n := w.heap.size + 1 + 1 + 1 + 1 + 1 + 1) #[.string ⟨#[88]⟩, .slice none 0 0, .int .i64 0] 50 e5
  replace b6 : Blk (smallW6 w) _ _ _ := b6
  replace e6 : (smallW6 w).heap.size = _ := e6
  obtain ⟨b7, e7⟩ := blk_next (w := smallW6 w) (n := w.heap.size + 1 + 1 + 1 + 1 + 1 + 1 + 1) #[.slice (some ⟨w.heap.size + 1 + 1 + 1 + 1 + 1 + 1, 0, none⟩) 1 1, .string ⟨#[]⟩, .bool false, .string ⟨#[]⟩, .int .i64 0, .int .i64 0, .slice (some ⟨w.heap.size + 1 + 1, 0, none⟩) 2 2, .string ⟨#[78]⟩, .bool true, .string ⟨#[97]⟩, .int .i64 0, .int .i64 0] 47 e6
  replace b7 : Blk (smallW7 w) _ _ _ := b7
  replace e7 : (smallW7 w).heap.size = _ := e7
  obtain ⟨b8, e8⟩ := blk_next (w := smallW7 w) (n := w.heap.size + 1 + 1 + 1 + 1 + 1 + 1 + 1 + 1) #[.string ⟨#[108]⟩, .slice (some ⟨w.heap.size + 1 + 1 + 1 + 1 + 1, 0, none⟩) 1 1, .slice (some ⟨w.heap.size + 1 + 1 + 1 + 1 + 1 + 1 + 1, 0, none⟩) 2 2, .int .i64 0] 44 e7
  replace b8 : Blk (smallW8 w) _ _ _ := b8
  replace e8 : (smallW8 w).heap.size = _ := e8
  have k0 : Blk (smallW8 w) _ _ _ := ((((((((b0).alloc _).alloc _).alloc _).alloc _).alloc _).alloc _).alloc _).alloc _
  have k1 : Blk (smallW8 w) _ _ _ := (((((((b1).alloc _).alloc _).alloc _).alloc _).alloc _).alloc _).alloc _
  have k2 : Blk (smallW8 w) _ _ _ := ((((((b2).alloc _).alloc _).alloc _).alloc _).alloc _).alloc _
  have k3 : Blk (smallW8 w) _ _ _ := (((((b3).alloc _).alloc _).alloc _).alloc _).alloc _
  have k4 : Blk (smallW8 w) _ _ _ := ((((b4).alloc _).alloc _).alloc _).alloc _
  have k5 : Blk (smallW8 w) _ _ _ := (((b5).alloc _).alloc _).alloc _
  have k6 : Blk (smallW8 w) _ _ _ := ((b6).alloc _).alloc _
  have k7 : Blk (smallW8 w) _ _ _ := (b7).alloc _
  have hf : Fr (fun _ => False) w (smallW8 w) := (((((((((Fr.refl _ w).alloc _).alloc _).alloc _).alloc _).alloc _).alloc _).alloc _).alloc _).alloc _
  have rA : RRow (smallW8 w) (w.heap.size ≤ ·) 3 (RWord (smallW8 w) (w.heap.size ≤ ·)) (.slice (some ⟨w.heap.size + 1, 0, none⟩) 1 1) [.mk ⟨#[88]⟩ [] 0] := RRow.blk [[.string ⟨#[88]⟩, .slice none 0 0, .int .i64 0]] k1 (by show w.heap.size ≤ _; omega) rfl (by simp) rfl rfl (one_of (RWord.mk' RRow.none'))
  have rB : RRow (smallW8 w) (w.heap.size ≤ ·) 3 (RWord (smallW8 w) (w.heap.size ≤ ·)) (.slice (some ⟨w.heap.size + 1 + 1, 0, none⟩) 2 2) [.mk ⟨#[108]⟩ [.mk ⟨#[88]⟩ [] 0] 0, .mk ⟨#[78]⟩ [] 0] := RRow.blk [[.string ⟨#[108]⟩, .slice (some ⟨w.heap.size + 1, 0, none⟩) 1 1, .int .i64 0], [.string ⟨#[78]⟩, .slice none 0 0, .int .i64 0]] k2 (by show w.heap.size ≤ _; omega) rfl (by simp) rfl rfl (two_of (RWord.mk' rA) (RWord.mk' RRow.none'))
  have rC : RRow (smallW8 w) (w.heap.size ≤ ·) 1 EStr (.slice (some ⟨w.heap.size + 1 + 1 + 1, 0, none⟩) 1 1) [⟨#[78]⟩] := RRow.blk [[.string ⟨#[78]⟩]] k3 (by show w.heap.size ≤ _; omega) rfl (by simp) rfl rfl (one_of rfl)
  have rD : RRow (smallW8 w) (w.heap.size ≤ ·) 4 (RDecl (smallW8 w) (w.heap.size ≤ ·)) (.slice (some ⟨w.heap.size + 1 + 1 + 1 + 1, 0, none⟩) 1 1) smallG.decls := RRow.blk [[.string ⟨#[116, 111, 107, 101, 110]⟩, .string ⟨#[105, 110, 116]⟩, .slice (some ⟨w.heap.size + 1 + 1 + 1, 0, none⟩) 1 1, .int .i64 0]] k4 (by show w.heap.size ≤ _; omega) rfl (by simp) rfl rfl (one_of ⟨_, rfl, rC⟩)
  have rE : RRow (smallW8 w) (w.heap.size ≤ ·) 1 EStr (.slice (some ⟨w.heap.size + 1 + 1 + 1 + 1 + 1, 0, none⟩) 1 1) [⟨#[88]⟩] := RRow.blk [[.string ⟨#[88]⟩]] k5 (by show w.heap.size ≤ _; omega) rfl (by simp) rfl rfl (one_of rfl)
  have rF : RRow (smallW8 w) (w.heap.size ≤ ·) 3 (RWord (smallW8 w) (w.heap.size ≤ ·)) (.slice (some ⟨w.heap.size + 1 + 1 + 1 + 1 + 1 + 1, 0, none⟩) 1 1) [.mk ⟨#[88]⟩ [] 0] := RRow.blk [[.string ⟨#[88]⟩, .slice none 0 0, .int .i64 0]] k6 (by show w.heap.size ≤ _; omega) rfl (by simp) rfl rfl (one_of (RWord.mk' RRow.none'))
  have rG : RRow (smallW8 w) (w.heap.size ≤ ·) 6 (RAlt (smallW8 w) (w.heap.size ≤ ·)) (.slice (some ⟨w.heap.size + 1 + 1 + 1 + 1 + 1 + 1 + 1, 0, none⟩) 2 2) [⟨[.mk ⟨#[88]⟩ [] 0], ⟨#[]⟩, false, ⟨#[]⟩, 0, 0⟩, ⟨[.mk ⟨#[108]⟩ [.mk ⟨#[88]⟩ [] 0] 0, .mk ⟨#[78]⟩ [] 0], ⟨#[78]⟩, true, ⟨#[97]⟩, 0, 0⟩] :=
    RRow.blk [[.slice (some ⟨w.heap.size + 1 + 1 + 1 + 1 + 1 + 1, 0, none⟩) 1 1, .string ⟨#[]⟩, .bool false, .string ⟨#[]⟩, .int .i64 0, .int .i64 0], [.slice (some ⟨w.heap.size + 1 + 1, 0, none⟩) 2 2, .string ⟨#[78]⟩, .bool true, .string ⟨#[97]⟩, .int .i64 0, .int .i64 0]] k7 (by show w.heap.size ≤ _; omega) rfl (by simp) rfl rfl (two_of ⟨_, rfl, rF⟩ ⟨_, rfl, rB⟩)
  have rH : RRow (smallW8 w) (w.heap.size ≤ ·) 4 (RRule (smallW8 w) (w.heap.size ≤ ·)) (.slice (some ⟨w.heap.size + 1 + 1 + 1 + 1 + 1 + 1 + 1 + 1, 0, none⟩) 1 1) smallG.rules := RRow.blk [[.string ⟨#[108]⟩, .slice (some ⟨w.heap.size + 1 + 1 + 1 + 1 + 1, 0, none⟩) 1 1, .slice (some ⟨w.heap.size + 1 + 1 + 1 + 1 + 1 + 1 + 1, 0, none⟩) 2 2, .int .i64 0]] b8 (by show w.heap.size ≤ _; omega) rfl (by simp) rfl rfl (one_of ⟨_, _, rfl, rE, rG⟩)
  exact ⟨rD, rH, hf, k0⟩

/-- How a text of the law's own making ends. -/
def MadeText (w : World) (x : GText) (e : Ending) (w' : World) : Prop :=
  ∃ va vc ua uc, e = .returned (.agg #[.slice va x.decls.length vc, .slice ua x.rules.length uc]) ∧ RRow w' (w.heap.size ≤ ·) 4 (RDecl w' (w.heap.size ≤ ·)) (.slice va x.decls.length vc) x.decls ∧ RRow w' (w.heap.size ≤ ·) 4 (RRule w' (w.heap.size ≤ ·)) (.slice ua x.rules.length uc) x.rules ∧ Fr (fun _ => False) w w'
set_option maxRecDepth 100000 in
set_option maxHeartbeats 4000000 in
theorem small_any {w : World} : Calls Try.prog 11 #[] w (MadeText w smallG) := by
  obtain ⟨r1, r2, hf, hb⟩ := small_rep w
  have g0 := hb.cell 0 rfl
  have g1 := hb.cell 1 rfl
  go_enter Try.func11, Try.ntmps11
  go_wp2_with fail
  show bodyPost _ _ _ _ _ (smallW8 w)
  exact bodyPost_ret (v := .agg #[smallV w, smallU w]) (by simp [results, Try.results11, go_sem, g0, g1]) rfl ⟨_, _, _, _, rfl, r1, r2, hf⟩
end Go.Proofs.Ytejpmdlokmlmeaa
/- What the law asks first: it is so. Condition: the library's variable holds a number. -/
namespace Go.Proofs.Ytejpmdlokmlmeaa
open Go.RowKit

abbrev sSmall : ByteArray := ⟨#[37, 116, 111, 107, 101, 110, 32, 60, 105, 110, 116, 62, 32, 78, 59, 10, 37, 37, 10, 108, 40, 88, 41, 58, 32, 88, 10, 9, 124, 32, 108, 40, 88, 41, 32, 78, 32, 37, 112, 114, 101, 99, 32, 78, 32, 123, 97, 125, 10, 9, 59, 10]⟩
theorem small_ok : textOk smallG = true := by kernel_rfl
theorem small_out : ba (textOut smallG) = sSmall := by kernel_rfl
theorem small_len : (textOut smallG).length ≤ 1099511627776 := of_decide_eq_true (by kernel_rfl)
def leftG : GText := ⟨[⟨kLeft, ⟨#[]⟩, [], 0⟩], []⟩
theorem left_ok : textOk leftG = false := by kernel_rfl
theorem left_len : (textOut leftG).length ≤ 1099511627776 := of_decide_eq_true (by kernel_rfl)
/-- 'write.Text' of what lies anywhere. -/
theorem write_any {w : World} {x : GText} {P : Nat → Prop} {va ua : Option Addr} {vc uc : Nat} (hm : HM w) (hv : RRow w P 4 (RDecl w P) (.slice va x.decls.length vc) x.decls) (hu : RRow w P 4 (RRule w P) (.slice ua x.rules.length uc) x.rules) (hlen : (textOut x).length ≤ 1099511627776) :
    Calls Try.prog 7 #[.agg #[.slice va x.decls.length vc, .slice ua x.rules.length uc]] w (WTPost w x) :=
  wtext_any hm (hv.mono (fun _ _ h => h) (fun _ _ h => h.mono (fun _ _ h => h))) (hu.mono (fun _ _ h => h) (fun _ _ h => h.mono (fun _ _ h => h))) hlen
set_option maxRecDepth 100000 in
set_option maxHeartbeats 4000000 in
theorem awake_any {w : World} (hm : HM w) : Calls Try.prog 5 #[] w fun e w' => e = .returned (.bool true) ∧ Fr (fun _ => False) w w' := by
  go_enter Try.func5, Try.ntmps5
  go_wp2_with fail
  refine small_any.mono ?_
  rintro e w1 ⟨va, vc, ua, uc, rfl, r1, r2, hf1⟩
  go_wp2_with fail
  have hm1 := hm.fr hf1 id
  refine (write_any hm1 r1 r2 small_len).mono ?_
  rintro e w2 ⟨hf2, he, -⟩
  obtain rfl := he small_ok
  have e1 : (⟨(textOut smallG).toArray⟩ : ByteArray) = sSmall := small_out
  rw [e1]
  clear e1 he
  have hm2 := hm1.fr hf2 id
  have hf3 : Fr (fun _ => False) w2 (w2.alloc (.cells #[.string ⟨#[108, 101, 102, 116]⟩, .string ⟨#[]⟩, .slice none 0 0, .int .i64 0] 41)) := (Fr.refl _ w2).alloc _
  have hm3 := hm2.fr hf3 id
  have hb3 := Blk.new w2 #[.string ⟨#[108, 101, 102, 116]⟩, .string ⟨#[]⟩, .slice none 0 0, .int .i64 0] 41
  go_wp2_with fail
  generalize w2.alloc (.cells #[.string ⟨#[108, 101, 102, 116]⟩, .string ⟨#[]⟩, .slice none 0 0, .int .i64 0] 41) = w3 at *
  have r3 : RRow w3 (fun _ => True) 4 (RDecl w3 (fun _ => True)) (.slice (some ⟨w2.heap.size, 0, none⟩) 1 1) leftG.decls :=
    RRow.blk [[.string ⟨#[108, 101, 102, 116]⟩, .string ⟨#[]⟩, .slice none 0 0, .int .i64 0]] hb3 trivial rfl (by simp) rfl rfl (one_of ⟨_, rfl, RRow.none'⟩)
  have r4 : RRow w3 (fun _ => True) 4 (RRule w3 (fun _ => True)) (.slice none 0 0) leftG.rules := RRow.none'
  refine (write_any (x := leftG) hm3 r3 r4 left_len).mono ?_
  rintro e w4 ⟨hf4, -, he⟩
  obtain rfl := he left_ok
  clear he
  go_wp2_with fail
  exact bodyPost_ret (v := .bool true) (by simp [results, Try.results5, go_sem]) rfl ⟨rfl, ((hf1.trans hf2).trans hf3).trans hf4⟩
end Go.Proofs.Ytejpmdlokmlmeaa
/- A text that was read is written, and read again: the walk of the law. Condition: the library's variable holds a number. -/
namespace Go.Proofs.Ytejpmdlokmlmeaa
open Go.RowKit

/-- A text lies in memory. -/
def RT (w : World) (v u : Value) (x : GText) : Prop := RRow w Any 4 (RDecl w Any) v x.decls ∧ RRow w Any 4 (RRule w Any) u x.rules
theorem RT.fr {w w' : World} {v u : Value} {x : GText} (h : RT w v u x) (hf : Fr (fun _ => False) w w') : RT w' v u x := ⟨any_row' elemDecl h.1 hf, any_row' elemRule h.2 hf⟩
theorem RT.of {w : World} {v u : Value} {x : GText} {P : Nat → Prop} (h1 : RRow w P 4 (RDecl w P) v x.decls) (h2 : RRow w P 4 (RRule w P) u x.rules) : RT w v u x :=
  ⟨h1.mono (fun _ _ _ => trivial) (fun _ _ h => h.mono (fun _ _ _ => trivial)), h2.mono (fun _ _ _ => trivial) (fun _ _ h => h.mono (fun _ _ _ => trivial))⟩
theorem RT.form {w : World} {v u : Value} {x : GText} (h : RT w v u x) : ∃ va vc ua uc, v = .slice va x.decls.length vc ∧ u = .slice ua x.rules.length uc := by
  obtain ⟨a, c, rfl⟩ := h.1.form
  obtain ⟨b, d, rfl⟩ := h.2.form
  exact ⟨_, _, _, _, rfl, rfl⟩
/-- What 'read.Text' gives, in one. -/
theorem read_any {w : World} (hm : HM w) (s : ByteArray) : Calls Try.prog 8 #[.string s] w fun e w' => Fr (fun _ => False) w w' ∧
    ((∃ n a, readS s = .error (n, a) ∧ n ≠ 0 ∧ e = .returned (.tuple #[.agg #[.slice none 0 0, .slice none 0 0], .agg #[.int .i64 n, .int .i64 a]])) ∨
     (∃ x va vc ua uc, readS s = .ok x ∧ e = .returned (.tuple #[.agg #[.slice va x.decls.length vc, .slice ua x.rules.length uc], .agg #[.int .i64 0, .int .i64 0]]) ∧ RT w' (.slice va x.decls.length vc) (.slice ua x.rules.length uc) x)) := by
  refine (rtext_any hm s).mono ?_
  rintro e w' ⟨hf, h⟩
  refine ⟨hf, ?_⟩
  cases hr : readS s with
  | error na =>
    obtain ⟨n, a⟩ := na
    rw [hr] at h
    exact .inl ⟨n, a, rfl, read_nz hr, h⟩
  | ok x =>
    rw [hr] at h
    obtain ⟨v, u, rfl, h1, h2⟩ := h
    have hrt := RT.of h1 h2
    obtain ⟨va, vc, ua, uc, rfl, rfl⟩ := hrt.form
    exact .inr ⟨x, va, vc, ua, uc, rfl, rfl, hrt⟩
theorem copy_plain {w : World} {x : GText} {va ua : Option Addr} {vc uc : Nat} (h : RT w (.slice va x.decls.length vc) (.slice ua x.rules.length uc) x) (hb : (textOut x).length ≤ 1099511627776) :
    Calls Try.prog 10 #[.agg #[.slice va x.decls.length vc, .slice ua x.rules.length uc]] w fun e w' => ∃ a b c d, e = .returned (.agg #[.slice a (plainG x).decls.length c, .slice b (plainG x).rules.length d]) ∧ RT w' (.slice a (plainG x).decls.length c) (.slice b (plainG x).rules.length d) (plainG x) ∧ Fr (fun _ => False) w w' := by
  have hs := sizes_out x
  refine (plain_any h.1 h.2 (by omega) (by omega)).mono ?_
  rintro e w' ⟨v, u, rfl, h1, h2, hf⟩
  have hrt := RT.of h1 h2
  obtain ⟨a, c, b, d, rfl, rfl⟩ := hrt.form
  exact ⟨_, _, _, _, rfl, hrt, hf⟩
theorem same_plain {w : World} {x : GText} {a b e g : Option Addr} {c d f h : Nat} (h1 : RT w (.slice a x.decls.length c) (.slice b x.rules.length d) x) (h2 : RT w (.slice e x.decls.length f) (.slice g x.rules.length h) x) (hb : (textOut x).length ≤ 1099511627776) :
    Calls Try.prog 9 #[.agg #[.slice a x.decls.length c, .slice b x.rules.length d], .agg #[.slice e x.decls.length f, .slice g x.rules.length h]] w (SPost w) := by
  have hs := sizes_out x
  exact sameSource_any h1.1 h2.1 h1.2 h2.2 (by omega) (by omega)

set_option maxRecDepth 100000 in
set_option maxHeartbeats 8000000 in
theorem writeRead_any {w : World} {s : ByteArray} (hm : HM w) : Calls Try.prog 4 #[.string s] w fun e w' => e = .returned (.bool true) ∧ Fr (fun _ => False) w w' := by
  by_cases hs : (15000 : Int) < (s.size : Int)
  · go_enter Try.func4, Try.ntmps4
    go_wp2_with fail
    refine (awake_any hm).mono ?_
    rintro e w1 ⟨rfl, hf1⟩
    go_wp2_with fail
    exact bodyPost_ret (v := .bool true) (by simp [results, Try.results4, go_sem]) rfl ⟨rfl, hf1⟩
  · go_enter Try.func4, Try.ntmps4
    go_wp2_with fail
    refine (awake_any hm).mono ?_
    rintro e w1 ⟨rfl, hf1⟩
    have hm1 := hm.fr hf1 id
    go_wp2_with fail
    refine (read_any hm1 s).mono ?_
    rintro e w2 ⟨hf2, ⟨n, a, hr, hn, rfl⟩ | ⟨x, va, vc, ua, uc, hr, rfl, hx⟩⟩
    · clear hr
      have hb3 : Blk ((w2.alloc (.cells #[.slice none 0 0, .slice none 0 0] 25)).alloc (.cells #[.int .i64 n, .int .i64 a] 32)) (w2.heap.size + 1) #[.int .i64 n, .int .i64 a] 32 := (blk_next (w := w2.alloc (.cells #[.slice none 0 0, .slice none 0 0] 25)) _ _ (by simp)).1
      have b0 := hb3.cell 0 rfl
      have hf3 : Fr (fun _ => False) w2 ((w2.alloc (.cells #[.slice none 0 0, .slice none 0 0] 25)).alloc (.cells #[.int .i64 n, .int .i64 a] 32)) := ((Fr.refl _ w2).alloc _).alloc _
      go_wp2_with fail
      exact bodyPost_ret (v := .bool true) (by simp [results, Try.results4, go_sem]) rfl ⟨rfl, (hf1.trans hf2).trans hf3⟩
    · obtain ⟨hok, hlen⟩ := read_ok hr
      clear hr
      have hm2 := hm1.fr hf2 id
      have hbA := Blk.new w2 #[.slice va x.decls.length vc, .slice ua x.rules.length uc] 25
      have hb3 : Blk ((w2.alloc (.cells #[.slice va x.decls.length vc, .slice ua x.rules.length uc] 25)).alloc (.cells #[.int .i64 0, .int .i64 0] 32)) w2.heap.size #[.slice va x.decls.length vc, .slice ua x.rules.length uc] 25 := hbA.alloc _
      have hc3 : Blk ((w2.alloc (.cells #[.slice va x.decls.length vc, .slice ua x.rules.length uc] 25)).alloc (.cells #[.int .i64 0, .int .i64 0] 32)) (w2.heap.size + 1) #[.int .i64 0, .int .i64 0] 32 := (blk_next (w := w2.alloc (.cells #[.slice va x.decls.length vc, .slice ua x.rules.length uc] 25)) _ _ (by simp)).1
      have hf3 : Fr (fun _ => False) w2 ((w2.alloc (.cells #[.slice va x.decls.length vc, .slice ua x.rules.length uc] 25)).alloc (.cells #[.int .i64 0, .int .i64 0] 32)) := ((Fr.refl _ w2).alloc _).alloc _
      have b0 := hc3.cell 0 rfl
      have a0 := hb3.cell 0 rfl
      have a1 := hb3.cell 1 rfl
      go_wp2_with fail
      clear b0 a0 a1 hc3 hbA
      generalize (w2.alloc (.cells #[.slice va x.decls.length vc, .slice ua x.rules.length uc] 25)).alloc (.cells #[.int .i64 0, .int .i64 0] 32) = w3 at *
      obtain ⟨T, hT⟩ : ∃ T, T = w2.heap.size := ⟨_, rfl⟩
      rw [← hT] at hb3 ⊢
      have hx3 := hx.fr hf3
      have hm3 := hm2.fr hf3 id
      refine (write_any hm3 hx3.1 hx3.2 (by omega)).mono ?_
      rintro e w4 ⟨hf4, he, -⟩
      obtain rfl := he hok
      clear he
      have hx4 := hx3.fr hf4
      have hm4 := hm3.fr hf4 id
      have hb4 := hb3.fr hf4 id
      have hf04 := ((hf1.trans hf2).trans hf3).trans hf4
      clear hf1 hf2 hf3 hf4 hx hx3 hm1 hm2 hm3 hb3 hT hm
      obtain ⟨o, ho⟩ : ∃ o : ByteArray, o = ⟨(textOut x).toArray⟩ := ⟨_, rfl⟩
      rw [← ho]
      have hosz : o.size = (textOut x).length := by
        have := congrArg List.length (ba_list (textOut x))
        rw [show ba (textOut x) = o from ho.symm] at this
        simpa using this
      have HO := Lib.hid ho
      have HZ := Lib.hid hosz
      have HK := Lib.hid hok
      have HL := Lib.hid hlen
      clear ho hosz hok hlen
      go_wp2_with fail
      refine (read_any hm4 o).mono ?_
      rintro e w5 ⟨hf5, h5⟩
      have hx5 := hx4.fr hf5
      have hb5 := hb4.fr hf5 id
      have hf05 := hf04.trans hf5
      clear hx4 hb4 hf04 hf5 hm4
      by_cases hbig : (65536 : Int) < (o.size : Int)
      · have hE : ∃ a1 n1 c1 a2 n2 c2 n a, e = .returned (.tuple #[.agg #[.slice a1 n1 c1, .slice a2 n2 c2], .agg #[.int .i64 n, .int .i64 a]]) := by
          rcases h5 with ⟨n, a, -, -, rfl⟩ | ⟨y, ya, yc, yb, yd, -, rfl, -⟩
          · exact ⟨_, _, _, _, _, _, _, _, rfl⟩
          · exact ⟨_, _, _, _, _, _, _, _, rfl⟩
        clear h5
        obtain ⟨a1, n1, c1, a2, n2, c2, n, a, rfl⟩ := hE
        have hf6 : Fr (fun _ => False) w5 ((w5.alloc (.cells #[.slice a1 n1 c1, .slice a2 n2 c2] 25)).alloc (.cells #[.int .i64 n, .int .i64 a] 32)) := ((Fr.refl _ w5).alloc _).alloc _
        go_upto_region 12 with fail
        have hS0 : (fun _ : World => True) w5 := trivial
        refine wp_region_E (S := fun _ => True) (e := 15) (by kernel_rfl) ?_
        have hfd := hf6.drew
        refine wpAnyE_all (rs := [0]) (by kernel_rfl) (by simp) ?_
        intro j hj
        rcases List.mem_singleton.1 hj with rfl
        refine wpOp_step rfl (fun K hK => ?_)
        go_simp
        refine hK _ _ ⟨fun _ => hS0, ?_⟩
        clear hK K
        try simp only [Act.put, List.setIfInBounds_toArray, List.set_cons_zero, List.set_cons_succ]
        refine wpAnyE_all (rs := [1]) (by kernel_rfl) (by simp) ?_
        intro j hj
        rcases List.mem_singleton.1 hj with rfl
        refine wpOp_step rfl (fun K hK => ?_)
        go_simp
        refine hK _ _ ⟨fun _ => hS0, ?_⟩
        clear hK K
        try simp only [Act.put, List.setIfInBounds_toArray, List.set_cons_zero, List.set_cons_succ]
        refine wpAnyE_all (rs := [2]) (by kernel_rfl) (by simp) ?_
        intro j hj
        rcases List.mem_singleton.1 hj with rfl
        refine wpOp_step rfl (fun K hK => ?_)
        go_simp
        refine hK _ _ ⟨fun _ => hS0, ?_⟩
        clear hK K
        try simp only [Act.put, List.setIfInBounds_toArray, List.set_cons_zero, List.set_cons_succ]
        refine wpAnyE_all (rs := [3]) (by kernel_rfl) (by simp) ?_
        intro j hj
        rcases List.mem_singleton.1 hj with rfl
        refine wpOp_step rfl (fun K hK => ?_)
        go_simp
        refine hK _ _ ⟨fun _ => hS0, ?_⟩
        clear hK K
        try simp only [Act.put, List.setIfInBounds_toArray, List.set_cons_zero, List.set_cons_succ]
        refine wpAnyE_all (rs := [4]) (by kernel_rfl) (by simp) ?_
        intro j hj
        rcases List.mem_singleton.1 hj with rfl
        refine wpOp_step rfl (fun K hK => ?_)
        go_simp
        refine hK _ _ ⟨fun _ => hS0, ?_⟩
        clear hK K
        try simp only [Act.put, List.setIfInBounds_toArray, List.set_cons_zero, List.set_cons_succ]
        refine wpAnyE_all (rs := [5]) (by kernel_rfl) (by simp) ?_
        intro j hj
        rcases List.mem_singleton.1 hj with rfl
        refine wpOp_step rfl (fun K hK => ?_)
        go_simp
        refine hK _ _ ⟨fun _ => hS0, ?_⟩
        clear hK K
        try simp only [Act.put, List.setIfInBounds_toArray, List.set_cons_zero, List.set_cons_succ]
        refine wpAnyE_all (rs := [6]) (by kernel_rfl) (by simp) ?_
        intro j hj
        rcases List.mem_singleton.1 hj with rfl
        refine wpOp_step rfl (fun K hK => ?_)
        go_simp
        refine hK _ _ ⟨fun _ => hS0, ?_⟩
        clear hK K
        try simp only [Act.put, List.setIfInBounds_toArray, List.set_cons_zero, List.set_cons_succ]
        refine wpAnyE_all (rs := [7]) (by kernel_rfl) (by simp) ?_
        intro j hj
        rcases List.mem_singleton.1 hj with rfl
        refine wpOp_step rfl (fun K hK => ?_)
        go_simp
        refine hK _ _ ⟨fun _ => hS0, ?_⟩
        clear hK K
        try simp only [Act.put, List.setIfInBounds_toArray, List.set_cons_zero, List.set_cons_succ]
        refine wpAnyE_take (i := 8) (v := undef) rfl (by kernel_rfl) (by kernel_rfl) (by kernel_rfl) (fun _ _ _ h => h) (by decide) rfl (by kernel_rfl) (by kernel_rfl) (Or.inr ⟨by rfl, rfl⟩) hS0 ?_
        try simp only [Act.put, List.setIfInBounds_toArray, List.set_cons_zero, List.set_cons_succ]
        refine wpAnyE_take (i := 10) (v := undef) rfl (by kernel_rfl) (by kernel_rfl) (by kernel_rfl) (fun _ _ _ h => h) (by decide) rfl (by kernel_rfl) (by kernel_rfl) (Or.inr ⟨by rfl, rfl⟩) hS0 ?_
        try simp only [Act.put, List.setIfInBounds_toArray, List.set_cons_zero, List.set_cons_succ]
        refine wpAnyE_all (rs := [9]) (by kernel_rfl) (by simp) ?_
        intro j hj
        rcases List.mem_singleton.1 hj with rfl
        refine wpOp_step rfl (fun K hK => ?_)
        go_simp
        refine hK _ _ ⟨fun _ => hS0, ?_⟩
        clear hK K
        try simp only [Act.put, List.setIfInBounds_toArray, List.set_cons_zero, List.set_cons_succ]
        refine wpAnyE_all (rs := [11]) (by kernel_rfl) (by simp) ?_
        intro j hj
        rcases List.mem_singleton.1 hj with rfl
        refine wpOp_step rfl (fun K hK => ?_)
        go_simp
        refine hK _ _ ⟨fun _ => hS0, ?_⟩
        clear hK K
        try simp only [Act.put, List.setIfInBounds_toArray, List.set_cons_zero, List.set_cons_succ]
        refine wpAnyE_all (rs := [12]) (by kernel_rfl) (by simp) ?_
        intro j hj
        rcases List.mem_singleton.1 hj with rfl
        refine wpOp_step rfl (fun K hK => ?_)
        go_simp
        refine hK _ _ ⟨fun _ => hS0, ?_⟩
        clear hK K
        try simp only [Act.put, List.setIfInBounds_toArray, List.set_cons_zero, List.set_cons_succ]
        refine wpAnyE_all (rs := [13]) (by kernel_rfl) (by simp) ?_
        intro j hj
        rcases List.mem_singleton.1 hj with rfl
        refine wpOp_step rfl (fun K hK => ?_)
        go_simp
        refine hK _ _ ⟨fun _ => hS0, ?_⟩
        clear hK K
        try simp only [Act.put, List.setIfInBounds_toArray, List.set_cons_zero, List.set_cons_succ]
        refine wpAnyE_all (rs := [14]) (by kernel_rfl) (by simp) ?_
        intro j hj
        rcases List.mem_singleton.1 hj with rfl
        refine wpOp_step rfl (fun K hK => ?_)
        go_simp
        refine hK _ _ ⟨fun _ => hS0, ?_⟩
        clear hK K
        try simp only [Act.put, List.setIfInBounds_toArray, List.set_cons_zero, List.set_cons_succ]
        refine wpAnyE_all (rs := [15]) (by kernel_rfl) (by simp) ?_
        intro j hj
        rcases List.mem_singleton.1 hj with rfl
        refine wpOp_step rfl (fun K hK => ?_)
        go_simp
        refine hK _ _ ⟨fun h => (Bool.false_ne_true (h.symm.trans (by kernel_rfl))).elim, ?_⟩
        clear hK K
        try simp only [Act.put, List.setIfInBounds_toArray, List.set_cons_zero, List.set_cons_succ]
        refine wpAnyE_done (by kernel_rfl) ?_ _
        go_wp2_with fail
        exact bodyPost_ret (v := .bool true) (by simp [results, Try.results4, go_sem]) rfl ⟨rfl, hf05.trans hfd⟩
      · have ho := HO.out
        have hosz := HZ.out
        obtain ⟨y, hy, hpl⟩ := read_written HK.out (by omega)
        have ho' : readS o = .ok y := by rw [ho]; exact hy
        rcases h5 with ⟨n, a, hr, -, -⟩ | ⟨y', ya, yc, yb, yd, hr, rfl, hy5⟩
        · rw [ho'] at hr; cases hr
        · rw [ho'] at hr
          injection hr with hr
          subst hr
          clear ho' hy ho hosz
          have hsm : ¬ (65536 : Int) < (o.size : Int) := hbig
          clear hbig
          have hb6 : Blk ((w5.alloc (.cells #[.slice ya y.decls.length yc, .slice yb y.rules.length yd] 25)).alloc (.cells #[.int .i64 0, .int .i64 0] 32)) w5.heap.size #[.slice ya y.decls.length yc, .slice yb y.rules.length yd] 25 := (Blk.new w5 _ _).alloc _
          have hc6 : Blk ((w5.alloc (.cells #[.slice ya y.decls.length yc, .slice yb y.rules.length yd] 25)).alloc (.cells #[.int .i64 0, .int .i64 0] 32)) (w5.heap.size + 1) #[.int .i64 0, .int .i64 0] 32 := (blk_next (w := w5.alloc (.cells #[.slice ya y.decls.length yc, .slice yb y.rules.length yd] 25)) _ _ (by simp)).1
          have hf6 : Fr (fun _ => False) w5 ((w5.alloc (.cells #[.slice ya y.decls.length yc, .slice yb y.rules.length yd] 25)).alloc (.cells #[.int .i64 0, .int .i64 0] 32)) := ((Fr.refl _ w5).alloc _).alloc _
          have hT6 := hb5.fr hf6 id
          have hx6 := hx5.fr hf6
          have hy6 := hy5.fr hf6
          go_upto_region 12 with fail
          clear hx5 hy5 hb5
          generalize (w5.alloc (.cells #[.slice ya y.decls.length yc, .slice yb y.rules.length yd] 25)).alloc (.cells #[.int .i64 0, .int .i64 0] 32) = w6 at *
          obtain ⟨V, hV⟩ : ∃ V, V = w5.heap.size := ⟨_, rfl⟩
          rw [← hV] at hb6 hc6 ⊢
          clear hV
          have hSS : ∀ w', Fr (fun _ => False) w6 w' → (fun w' : World => w'.cell? ⟨T, 0, none⟩ = some (.slice va x.decls.length vc) ∧ w'.cell? ⟨T, 1, none⟩ = some (.slice ua x.rules.length uc) ∧ w'.cell? ⟨V, 0, none⟩ = some (.slice ya y.decls.length yc) ∧ w'.cell? ⟨V, 1, none⟩ = some (.slice yb y.rules.length yd) ∧ w'.cell? ⟨V + 1, 0, none⟩ = some (.int .i64 0)) w' := fun w' hf => ⟨(hT6.fr hf id).cell 0 rfl, (hT6.fr hf id).cell 1 rfl, (hb6.fr hf id).cell 0 rfl, (hb6.fr hf id).cell 1 rfl, (hc6.fr hf id).cell 0 rfl⟩
          have hfd : Fr (fun _ => False) w6 w6.drew := (Fr.refl _ w6).drew
          have hS0 := hSS _ hfd
          have c4 := hS0.2.2.2.2
          refine wp_region_E (S := (fun w' : World => w'.cell? ⟨T, 0, none⟩ = some (.slice va x.decls.length vc) ∧ w'.cell? ⟨T, 1, none⟩ = some (.slice ua x.rules.length uc) ∧ w'.cell? ⟨V, 0, none⟩ = some (.slice ya y.decls.length yc) ∧ w'.cell? ⟨V, 1, none⟩ = some (.slice yb y.rules.length yd) ∧ w'.cell? ⟨V + 1, 0, none⟩ = some (.int .i64 0))) (e := 15) (by kernel_rfl) ?_
          have hx7 := hx6.fr hfd
          have hy7 := hy6.fr hfd
          have hf07 := (hf05.trans hf6).trans hfd
          clear hx6 hy6 hf05 hf6
          generalize w6.drew = w7 at *
          refine wpAnyE_all (rs := [0]) (by kernel_rfl) (by simp) ?_
          intro j hj
          rcases List.mem_singleton.1 hj with rfl
          refine wpOp_step rfl (fun K hK => ?_)
          go_simp
          refine hK _ _ ⟨fun _ => hS0, ?_⟩
          clear hK K
          try simp only [Act.put, List.setIfInBounds_toArray, List.set_cons_zero, List.set_cons_succ]
          refine wpAnyE_all (rs := [1]) (by kernel_rfl) (by simp) ?_
          intro j hj
          rcases List.mem_singleton.1 hj with rfl
          refine wpOp_step rfl (fun K hK => ?_)
          go_simp
          refine hK _ _ ⟨fun _ => hS0, ?_⟩
          clear hK K
          try simp only [Act.put, List.setIfInBounds_toArray, List.set_cons_zero, List.set_cons_succ]
          refine wpAnyE_all (rs := [2]) (by kernel_rfl) (by simp) ?_
          intro j hj
          rcases List.mem_singleton.1 hj with rfl
          refine wpOp_step rfl (fun K hK => ?_)
          go_simp
          refine hK _ _ ⟨fun _ => hS0, ?_⟩
          clear hK K
          try simp only [Act.put, List.setIfInBounds_toArray, List.set_cons_zero, List.set_cons_succ]
          refine wpAnyE_all (rs := [3]) (by kernel_rfl) (by simp) ?_
          intro j hj
          rcases List.mem_singleton.1 hj with rfl
          refine wpOp_step rfl (fun K hK => ?_)
          go_simp
          refine hK _ _ ⟨fun _ => hS0, ?_⟩
          clear hK K
          try simp only [Act.put, List.setIfInBounds_toArray, List.set_cons_zero, List.set_cons_succ]
          refine wpAnyE_all (rs := [4]) (by kernel_rfl) (by simp) ?_
          intro j hj
          rcases List.mem_singleton.1 hj with rfl
          refine wpOp_step rfl (fun K hK => ?_)
          go_simp
          refine hK _ _ ⟨fun _ => hS0, ?_⟩
          clear hK K
          try simp only [Act.put, List.setIfInBounds_toArray, List.set_cons_zero, List.set_cons_succ]
          refine wpAnyE_all (rs := [5]) (by kernel_rfl) (by simp) ?_
          intro j hj
          rcases List.mem_singleton.1 hj with rfl
          refine wpOp_step rfl (fun K hK => ?_)
          go_simp
          refine hK _ _ ⟨fun _ => hS0, ?_⟩
          clear hK K
          try simp only [Act.put, List.setIfInBounds_toArray, List.set_cons_zero, List.set_cons_succ]
          refine wpAnyE_all (rs := [6]) (by kernel_rfl) (by simp) ?_
          intro j hj
          rcases List.mem_singleton.1 hj with rfl
          refine wpOp_step rfl (fun K hK => ?_)
          go_simp
          refine hK _ _ ⟨fun _ => hS0, ?_⟩
          clear hK K
          try simp only [Act.put, List.setIfInBounds_toArray, List.set_cons_zero, List.set_cons_succ]
          refine wpAnyE_all (rs := [7]) (by kernel_rfl) (by simp) ?_
          intro j hj
          rcases List.mem_singleton.1 hj with rfl
          refine wpOp_step rfl (fun K hK => ?_)
          go_simp
          refine hK _ _ ⟨fun _ => hS0, ?_⟩
          clear hK K
          try simp only [Act.put, List.setIfInBounds_toArray, List.set_cons_zero, List.set_cons_succ]
          refine wpAnyE_take (i := 8) (v := ?_) rfl (by kernel_rfl) (by kernel_rfl) (by kernel_rfl) (fun _ _ _ h => h) (by decide) rfl (by kernel_rfl) (by kernel_rfl) (Or.inl ⟨by rfl, ?_⟩) hS0 ?_
          rotate_left
          · intro wq hSw
            obtain ⟨s0, s1, s2, s3, s4⟩ := hSw
            go_simp
            try with_reducible rfl
          try simp only [Act.put, List.setIfInBounds_toArray, List.set_cons_zero, List.set_cons_succ]
          refine wpAnyE_take (i := 10) (v := ?_) rfl (by kernel_rfl) (by kernel_rfl) (by kernel_rfl) (fun _ _ _ h => h) (by decide) rfl (by kernel_rfl) (by kernel_rfl) (Or.inl ⟨by rfl, ?_⟩) hS0 ?_
          rotate_left
          · intro wq hSw
            obtain ⟨s0, s1, s2, s3, s4⟩ := hSw
            go_simp
            try with_reducible rfl
          try simp only [Act.put, List.setIfInBounds_toArray, List.set_cons_zero, List.set_cons_succ]
          clear c4
          refine wpAnyE_all (rs := [9]) (by kernel_rfl) (by simp) ?_
          intro j hj
          rcases List.mem_singleton.1 hj with rfl
          refine wpOp_step rfl (fun K hK => ?_)
          go_simp
          refine (copy_plain hx7 (by have := HL.out; omega)).mono ?_
          rintro e w8 ⟨a1, a2, a3, a4, rfl, hp8, hf8⟩
          have hS8 := hSS _ (hfd.trans hf8)
          refine hK _ _ ⟨fun _ => hS8, ?_⟩
          clear hK K
          try simp only [Act.put, List.setIfInBounds_toArray, List.set_cons_zero, List.set_cons_succ]
          refine wpAnyE_all (rs := [11]) (by kernel_rfl) (by simp) ?_
          intro j hj
          rcases List.mem_singleton.1 hj with rfl
          refine wpOp_step rfl (fun K hK => ?_)
          go_simp
          refine (copy_plain (hy7.fr hf8) (by have := HL.out; rw [(same_out hpl).1]; omega)).mono ?_
          rintro e w9 ⟨b1, b2, b3, b4, rfl, hq9, hf9⟩
          have hS9 := hSS _ ((hfd.trans hf8).trans hf9)
          rw [hpl] at hq9 ⊢
          refine hK _ _ ⟨fun _ => hS9, ?_⟩
          clear hK K
          try simp only [Act.put, List.setIfInBounds_toArray, List.set_cons_zero, List.set_cons_succ]
          refine wpAnyE_all (rs := [12]) (by kernel_rfl) (by simp) ?_
          intro j hj
          rcases List.mem_singleton.1 hj with rfl
          refine wpOp_step rfl (fun K hK => ?_)
          go_simp
          refine (same_plain (hp8.fr hf9) hq9 (by have := HL.out; rw [(plainG_out x).1]; omega)).mono ?_
          rintro e w10 ⟨rfl, hf10⟩
          have hS10 := hSS _ (((hfd.trans hf8).trans hf9).trans hf10)
          refine hK _ _ ⟨fun _ => hS10, ?_⟩
          clear hK K
          try simp only [Act.put, List.setIfInBounds_toArray, List.set_cons_zero, List.set_cons_succ]
          refine wpAnyE_all (rs := [13]) (by kernel_rfl) (by simp) ?_
          intro j hj
          rcases List.mem_singleton.1 hj with rfl
          refine wpOp_step rfl (fun K hK => ?_)
          go_simp
          refine hK _ _ ⟨fun _ => hS10, ?_⟩
          clear hK K
          try simp only [Act.put, List.setIfInBounds_toArray, List.set_cons_zero, List.set_cons_succ]
          refine wpAnyE_all (rs := [14]) (by kernel_rfl) (by simp) ?_
          intro j hj
          rcases List.mem_singleton.1 hj with rfl
          refine wpOp_step rfl (fun K hK => ?_)
          go_simp
          refine hK _ _ ⟨fun _ => hS10, ?_⟩
          clear hK K
          try simp only [Act.put, List.setIfInBounds_toArray, List.set_cons_zero, List.set_cons_succ]
          refine wpAnyE_all (rs := [15]) (by kernel_rfl) (by simp) ?_
          intro j hj
          rcases List.mem_singleton.1 hj with rfl
          refine wpOp_step rfl (fun K hK => ?_)
          go_simp
          refine hK _ _ ⟨fun h => (Bool.false_ne_true (h.symm.trans (by kernel_rfl))).elim, ?_⟩
          clear hK K
          try simp only [Act.put, List.setIfInBounds_toArray, List.set_cons_zero, List.set_cons_succ]
          refine wpAnyE_done (by kernel_rfl) ?_ _
          go_wp2_with fail
          exact bodyPost_ret (v := .bool true) (by simp [results, Try.results4, go_sem]) rfl ⟨rfl, ((hf07.trans hf8).trans hf9).trans hf10⟩
end Go.Proofs.Ytejpmdlokmlmeaa
/- THE ROW OF THE LAW WriteRead: it returns true at every text, and the text reads as it did. No condition beyond the row's own. -/
namespace Go.Proofs.Ytejpmdlokmlmeaa.lawWriteRead
open Go.ChangeShapes Go.WideShapes Go.ChangeAt Go.RowKit
open Go.ChangeMaps (open_string shut_string)

theorem own : ownKnob Try.prog.godebug = none := by kernel_rfl
theorem kept {W W' : World} (h : Fr (fun _ => False) W W') (may : MemPlace → Prop) : W.keptBut W' may := by
  refine ⟨h.os, h.output, fun i hi => ?_⟩
  rw [h.block i hi id]
  cases W.heap[i]? with
  | none => rfl
  | some o =>
    cases o with
    | cells c t fr => exact ⟨rfl, rfl, rfl, fun _ _ => rfl⟩
    | map es clock => exact .inr ⟨rfl, rfl⟩
    | _ => rfl
set_option maxRecDepth 100000 in
theorem contract (H : Type) (enc : TypeId × Value → H) (W : World) (base : Nat) (args : Array Value) (ds gs : List (DataW H)) (before : List MemPlace)
    (hval : ∀ (j : Nat) t v, Try.f4.params[j]? = some t → args[j]? = some v → Value.okWide Try.prog W .any base t v)
    (hW : DataW.Whole enc Try.prog Try.f4.params.toList Rows.writeReadSpec.vars false W args.toList ds gs before) (hsh : W.ShapedOpen Try.prog) :
    Calls Try.prog 4 args W fun e W' => ∃ v, e = .returned v ∧ Rows.writeReadSpec.post enc Try.prog Try.f4 false true false false W args v W' := by
  have hW' := hW
  obtain ⟨p, q, hA0, hV, rfl, hfz, hnd⟩ := hW
  have hA : DataW.TrodAll enc Try.prog W 0 (fun _ => true) true Try.f4.params.toList args.toList ds p := hA0
  rw [Try.params4] at hA hval
  obtain ⟨v0, vs0, d0, ds0, p0, q0, hargs, rfl, rfl, h0, r0⟩ := trodAll_cons hA
  obtain ⟨rfl, rfl, rfl⟩ := trodAll_nil r0
  obtain rfl : args = #[v0] := by cases args; simp_all
  obtain ⟨rfl, rfl⟩ := trodVars_none hV
  obtain ⟨s, rfl, rfl, rfl, hmax⟩ := open_string Try.underlying9 (hval 0 9 v0 rfl rfl) h0
  clear hA0
  simp only [List.append_nil] at hW'
  have hm : HM W := Try.laysM219.s1_3 W hsh
  refine (writeRead_any hm).mono fun e W' ⟨he, hf⟩ => ?_
  subst he
  exact ⟨_, rfl, _, _, _, [], [], [], hW', trodAll_cons_mk (shut_bool Try.underlying4 _) trodAll_mk0, trodAll_cons_mk (shut_string Try.underlying9 hmax) trodAll_mk0, rfl, kept hf _, fun h => by cases h⟩

set_option maxRecDepth 100000 in
theorem lifted (os : Os) (started : os.Started) (H : Type) (enc : TypeId × Value → H) :
    ReturnsInHanded {} Try.checked os 4 .any (Rows.writeReadSpec.pre6 enc Try.prog Try.f4 Rows.writeReadRow.domain false) (Rows.writeReadSpec.post enc Try.prog Try.f4 false true false false) := by
  refine returnsInHanded_of_change_shaped (C := Try.checked) own started (by kernel_rfl) Try.func4
    (ChangeSpec.witness6 (enc := enc) (C := Try.checked) false ⟨#[], #[.string .empty], []⟩ 8 (by kernel_rfl) (by kernel_rfl) (by kernel_rfl) (by kernel_rfl)) ?_
  intro W base args ds gs before hval hW _ _ hsh _
  exact contract H enc W base args ds gs before hval hW hsh

theorem proved : Rows.WriteReadSaid :=
  OpenClaim.holds_of_wide 4 Try.f4 rfl rfl rfl rfl rfl rfl rfl ⟨rfl, rfl, rfl, rfl, rfl⟩ rfl rfl rfl rfl rfl (by kernel_rfl) Try.func4 (by kernel_rfl)
    (of_decide_eq_true (by kernel_rfl)) (by unfold Func.isWrapper; first | (rw [if_pos (by decide +kernel)]; kernel_rfl) | (rw [if_neg (by decide +kernel)]; exact ⟨rfl, rfl⟩))
    (fun os started H enc _ => lifted os started H enc)
end Go.Proofs.Ytejpmdlokmlmeaa.lawWriteRead
