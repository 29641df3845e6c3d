/- The small text and what is asked of it. No condition. -/
import Derived.Test.YtejpmdlokmlmeaaKitH
import Derived.Test.YtejpmdlokmlmeaaReadN
import Derived.Test.YtejpmdlokmlmeaaPure
import Derived.Test.YtejpmdlokmlmeaaRows
import Derived.ChangeArms
import Derived.ProofKit
import Derived.OpenShut
import Derived.HandedShaped
import Derived.JoinedCond
import Derived.Carry
import Derived.Test.YtejpmdlokmlmeaaShelf
set_option linter.unusedVariables false
set_option linter.unusedSimpArgs false
namespace Go.Proofs.Ytejpmdlokmlmeaa
open Go.RowKit

theorem RRow.none' {α : Type} {w : World} {P : Nat → Prop} {sz : Nat} {E : α → List Value → Prop} : RRow w P sz E (.slice none 0 0) [] :=
  ⟨none, 0, fun _ => [], rfl, Nat.le_refl _, fun j hj => absurd hj (Nat.not_lt_zero j), fun j x hx => by simp at hx⟩
theorem RRow.blk {α : Type} {w : World} {P : Nat → Prop} {sz n k : Nat} {E : α → List Value → Prop} {cs : Array Value} {ty : TypeId} {xs : List α} (L : List (List Value)) (hb : Blk w k cs ty) (hP : P k) (hf : L.flatten = cs.toList) (hs : ∀ c ∈ L, c.length = sz) (hn : xs.length = n) (hl : L.length = n) (he : ∀ (j : Nat) x c, xs[j]? = some x → L[j]? = some c → E x c) :
    RRow w P sz E (.slice (some ⟨k, 0, none⟩) n n) xs := by
  subst hn
  refine ⟨_, _, fun j => L.getD j [], rfl, Nat.le_refl _, fun j hj => ?_, fun j x hx => ?_⟩
  · have hj' : j < L.length := by omega
    have hc : L[j]? = some (L.getD j []) := by rw [List.getD_eq_getElem?_getD, List.getElem?_eq_getElem hj']; rfl
    refine ⟨k, 0, rfl, hP, lt_of_heap hb, hs _ (List.mem_of_getElem? hc), fun i u hu => ?_⟩
    have := flatten_get hs hc i u hu
    rw [hf] at this
    rw [Nat.zero_add]
    exact hb.cell _ (by simpa using this)
  · have hj : j < xs.length := (List.getElem?_eq_some_iff.1 hx).1
    have hc : L[j]? = some (L.getD j []) := by rw [List.getD_eq_getElem?_getD, List.getElem?_eq_getElem (by omega)]; rfl
    exact he j x _ hx hc
theorem blk_next {w : World} {n : Nat} (cs : Array Value) (ty : TypeId) (e : w.heap.size = n) : Blk (w.alloc (.cells cs ty)) n cs ty ∧ (w.alloc (.cells cs ty)).heap.size = n + 1 := by
  subst e
  exact ⟨Blk.new w cs ty, by simp⟩
def smallW0 (w : World) : World := w.alloc (.cells #[.slice (some ⟨w.heap.size + 1 + 1 + 1 + 1, 0, none⟩) 1 1, .slice (some ⟨w.heap.size + 1 + 1 + 1 + 1 + 1 + 1 + 1 + 1, 0, none⟩) 1 1] 25)
def smallW1 (w : World) : World := (smallW0 w).alloc (.cells #[.string ⟨#[88]⟩, .slice none 0 0, .int .i64 0] 50)
def smallW2 (w : World) : World := (smallW1 w).alloc (.cells #[.string ⟨#[108]⟩, .slice (some ⟨w.heap.size + 1, 0, none⟩) 1 1, .int .i64 0, .string ⟨#[78]⟩, .slice none 0 0, .int .i64 0] 50)
def smallW3 (w : World) : World := (smallW2 w).alloc (.cells #[.string ⟨#[78]⟩] 9)
def smallW4 (w : World) : World := (smallW3 w).alloc (.cells #[.string ⟨#[116, 111, 107, 101, 110]⟩, .string ⟨#[105, 110, 116]⟩, .slice (some ⟨w.heap.size + 1 + 1 + 1, 0, none⟩) 1 1, .int .i64 0] 41)
def smallW5 (w : World) : World := (smallW4 w).alloc (.cells #[.string ⟨#[88]⟩] 9)
def smallW6 (w : World) : World := (smallW5 w).alloc (.cells #[.string ⟨#[88]⟩, .slice none 0 0, .int .i64 0] 50)
def smallW7 (w : World) : World := (smallW6 w).alloc (.cells #[.slice (some ⟨w.heap.size + 1 + 1 + 1 + 1 + 1 + 1, 0, none⟩) 1 1, .string ⟨#[]⟩, .bool false, .string ⟨#[]⟩, .int .i64 0, .int .i64 0, .slice (some ⟨w.heap.size + 1 + 1, 0, none⟩) 2 2, .string ⟨#[78]⟩, .bool true, .string ⟨#[97]⟩, .int .i64 0, .int .i64 0] 47)
def smallW8 (w : World) : World := (smallW7 w).alloc (.cells #[.string ⟨#[108]⟩, .slice (some ⟨w.heap.size + 1 + 1 + 1 + 1 + 1, 0, none⟩) 1 1, .slice (some ⟨w.heap.size + 1 + 1 + 1 + 1 + 1 + 1 + 1, 0, none⟩) 2 2, .int .i64 0] 44)
def smallG : GText := ⟨[⟨⟨#[116, 111, 107, 101, 110]⟩, ⟨#[105, 110, 116]⟩, [⟨#[78]⟩], 0⟩], [⟨⟨#[108]⟩, [⟨#[88]⟩], [⟨[.mk ⟨#[88]⟩ [] 0], ⟨#[]⟩, false, ⟨#[]⟩, 0, 0⟩, ⟨[.mk ⟨#[108]⟩ [.mk ⟨#[88]⟩ [] 0] 0, .mk ⟨#[78]⟩ [] 0], ⟨#[78]⟩, true, ⟨#[97]⟩, 0, 0⟩], 0⟩]⟩
def smallV (w : World) : Value := .slice (some ⟨w.heap.size + 1 + 1 + 1 + 1, 0, none⟩) 1 1
def smallU (w : World) : Value := .slice (some ⟨w.heap.size + 1 + 1 + 1 + 1 + 1 + 1 + 1 + 1, 0, none⟩) 1 1
theorem RWord.mk' {w : World} {P : Nat → Prop} {n : ByteArray} {args : List GWord} {v : Value} (h : RRow w P 3 (RWord w P) v args) : RWord w P (.mk n args 0) [.string n, v, .int .i64 0] := RWord.row.2 ⟨v, rfl, h⟩
theorem two_of {α β : Type} {x0 x1 : α} {c0 c1 : β} {E : α → β → Prop} (h0 : E x0 c0) (h1 : E x1 c1) : ∀ (j : Nat) x c, [x0, x1][j]? = some x → [c0, c1][j]? = some c → E x c := by
  intro j x c hx hc
  match j, hx, hc with
  | 0, hx, hc => injection hx with hx; injection hc with hc; rw [← hx, ← hc]; exact h0
  | 1, hx, hc => injection hx with hx; injection hc with hc; rw [← hx, ← hc]; exact h1
theorem one_of {α β : Type} {x0 : α} {c0 : β} {E : α → β → Prop} (h0 : E x0 c0) : ∀ (j : Nat) x c, [x0][j]? = some x → [c0][j]? = some c → E x c := by
  intro j x c hx hc
  match j, hx, hc with
  | 0, hx, hc => injection hx with hx; injection hc with hc; rw [← hx, ← hc]; exact h0
theorem small_rep (w : World) : RRow (smallW8 w) (w.heap.size ≤ ·) 4 (RDecl (smallW8 w) (w.heap.size ≤ ·)) (smallV w) smallG.decls ∧ RRow (smallW8 w) (w.heap.size ≤ ·) 4 (RRule (smallW8 w) (w.heap.size ≤ ·)) (smallU w) smallG.rules ∧ Fr (fun _ => False) w (smallW8 w) ∧ Blk (smallW8 w) w.heap.size #[smallV w, smallU w] 25 := by
  obtain ⟨b0, e0⟩ := blk_next (w := w) (n := w.heap.size) #[.slice (some ⟨w.heap.size + 1 + 1 + 1 + 1, 0, none⟩) 1 1, .slice (some ⟨w.heap.size + 1 + 1 + 1 + 1 + 1 + 1 + 1 + 1, 0, none⟩) 1 1] 25 rfl
  replace b0 : Blk (smallW0 w) _ _ _ := b0
  replace e0 : (smallW0 w).heap.size = _ := e0
  obtain ⟨b1, e1⟩ := blk_next (w := smallW0 w) (n := w.heap.size + 1) #[.string ⟨#[88]⟩, .slice none 0 0, .int .i64 0] 50 e0
  replace b1 : Blk (smallW1 w) _ _ _ := b1
  replace e1 : (smallW1 w).heap.size = _ := e1
  obtain ⟨b2, e2⟩ := blk_next (w := smallW1 w) (n := w.heap.size + 1 + 1) #[.string ⟨#[108]⟩, .slice (some ⟨w.heap.size + 1, 0, none⟩) 1 1, .int .i64 0, .string ⟨#[78]⟩, .slice none 0 0, .int .i64 0] 50 e1
  replace b2 : Blk (smallW2 w) _ _ _ := b2
  replace e2 : (smallW2 w).heap.size = _ := e2
  obtain ⟨b3, e3⟩ := blk_next (w := smallW2 w) (n := w.heap.size + 1 + 1 + 1) #[.string ⟨#[78]⟩] 9 e2
  replace b3 : Blk (smallW3 w) _ _ _ := b3
  replace e3 : (smallW3 w).heap.size = _ := e3
  obtain ⟨b4, e4⟩ := blk_next (w := smallW3 w) (n := w.heap.size + 1 + 1 + 1 + 1) #[.string ⟨#[116, 111, 107, 101, 110]⟩, .string ⟨#[105, 110, 116]⟩, .slice (some ⟨w.heap.size + 1 + 1 + 1, 0, none⟩) 1 1, .int .i64 0] 41 e3
  replace b4 : Blk (smallW4 w) _ _ _ := b4
  replace e4 : (smallW4 w).heap.size = _ := e4
  obtain ⟨b5, e5⟩ := blk_next (w := smallW4 w) (n := w.heap.size + 1 + 1 + 1 + 1 + 1) #[.string ⟨#[88]⟩] 9 e4
  replace b5 : Blk (smallW5 w) _ _ _ := b5
  replace e5 : (smallW5 w).heap.size = _ := e5
  obtain ⟨b6, e6⟩ := blk_next (w := smallW5 w) (n := w.heap.size + 1 + 1 + 1 + 1 + 1 + 1) #[.string ⟨#[88]⟩, .slice none 0 0, .int .i64 0] 50 e5
  replace b6 : Blk (smallW6 w) _ _ _ := b6
  replace e6 : (smallW6 w).heap.size = _ := e6
  obtain ⟨b7, e7⟩ := blk_next (w := smallW6 w) (n := w.heap.size + 1 + 1 + 1 + 1 + 1 + 1 + 1) #[.slice (some ⟨w.heap.size + 1 + 1 + 1 + 1 + 1 + 1, 0, none⟩) 1 1, .string ⟨#[]⟩, .bool false, .string ⟨#[]⟩, .int .i64 0, .int .i64 0, .slice (some ⟨w.heap.size + 1 + 1, 0, none⟩) 2 2, .string ⟨#[78]⟩, .bool true, .string ⟨#[97]⟩, .int .i64 0, .int .i64 0] 47 e6
  replace b7 : Blk (smallW7 w) _ _ _ := b7
  replace e7 : (smallW7 w).heap.size = _ := e7
  obtain ⟨b8, e8⟩ := blk_next (w := smallW7 w) (n := w.heap.size + 1 + 1 + 1 + 1 + 1 + 1 + 1 + 1) #[.string ⟨#[108]⟩, .slice (some ⟨w.heap.size + 1 + 1 + 1 + 1 + 1, 0, none⟩) 1 1, .slice (some ⟨w.heap.size + 1 + 1 + 1 + 1 + 1 + 1 + 1, 0, none⟩) 2 2, .int .i64 0] 44 e7
  replace b8 : Blk (smallW8 w) _ _ _ := b8
  replace e8 : (smallW8 w).heap.size = _ := e8
  have k0 : Blk (smallW8 w) _ _ _ := ((((((((b0).alloc _).alloc _).alloc _).alloc _).alloc _).alloc _).alloc _).alloc _
  have k1 : Blk (smallW8 w) _ _ _ := (((((((b1).alloc _).alloc _).alloc _).alloc _).alloc _).alloc _).alloc _
  have k2 : Blk (smallW8 w) _ _ _ := ((((((b2).alloc _).alloc _).alloc _).alloc _).alloc _).alloc _
  have k3 : Blk (smallW8 w) _ _ _ := (((((b3).alloc _).alloc _).alloc _).alloc _).alloc _
  have k4 : Blk (smallW8 w) _ _ _ := ((((b4).alloc _).alloc _).alloc _).alloc _
  have k5 : Blk (smallW8 w) _ _ _ := (((b5).alloc _).alloc _).alloc _
  have k6 : Blk (smallW8 w) _ _ _ := ((b6).alloc _).alloc _
  have k7 : Blk (smallW8 w) _ _ _ := (b7).alloc _
  have hf : Fr (fun _ => False) w (smallW8 w) := (((((((((Fr.refl _ w).alloc _).alloc _).alloc _).alloc _).alloc _).alloc _).alloc _).alloc _).alloc _
  have rA : RRow (smallW8 w) (w.heap.size ≤ ·) 3 (RWord (smallW8 w) (w.heap.size ≤ ·)) (.slice (some ⟨w.heap.size + 1, 0, none⟩) 1 1) [.mk ⟨#[88]⟩ [] 0] := RRow.blk [[.string ⟨#[88]⟩, .slice none 0 0, .int .i64 0]] k1 (by show w.heap.size ≤ _; omega) rfl (by simp) rfl rfl (one_of (RWord.mk' RRow.none'))
  have rB : RRow (smallW8 w) (w.heap.size ≤ ·) 3 (RWord (smallW8 w) (w.heap.size ≤ ·)) (.slice (some ⟨w.heap.size + 1 + 1, 0, none⟩) 2 2) [.mk ⟨#[108]⟩ [.mk ⟨#[88]⟩ [] 0] 0, .mk ⟨#[78]⟩ [] 0] := RRow.blk [[.string ⟨#[108]⟩, .slice (some ⟨w.heap.size + 1, 0, none⟩) 1 1, .int .i64 0], [.string ⟨#[78]⟩, .slice none 0 0, .int .i64 0]] k2 (by show w.heap.size ≤ _; omega) rfl (by simp) rfl rfl (two_of (RWord.mk' rA) (RWord.mk' RRow.none'))
  have rC : RRow (smallW8 w) (w.heap.size ≤ ·) 1 EStr (.slice (some ⟨w.heap.size + 1 + 1 + 1, 0, none⟩) 1 1) [⟨#[78]⟩] := RRow.blk [[.string ⟨#[78]⟩]] k3 (by show w.heap.size ≤ _; omega) rfl (by simp) rfl rfl (one_of rfl)
  have rD : RRow (smallW8 w) (w.heap.size ≤ ·) 4 (RDecl (smallW8 w) (w.heap.size ≤ ·)) (.slice (some ⟨w.heap.size + 1 + 1 + 1 + 1, 0, none⟩) 1 1) smallG.decls := RRow.blk [[.string ⟨#[116, 111, 107, 101, 110]⟩, .string ⟨#[105, 110, 116]⟩, .slice (some ⟨w.heap.size + 1 + 1 + 1, 0, none⟩) 1 1, .int .i64 0]] k4 (by show w.heap.size ≤ _; omega) rfl (by simp) rfl rfl (one_of ⟨_, rfl, rC⟩)
  have rE : RRow (smallW8 w) (w.heap.size ≤ ·) 1 EStr (.slice (some ⟨w.heap.size + 1 + 1 + 1 + 1 + 1, 0, none⟩) 1 1) [⟨#[88]⟩] := RRow.blk [[.string ⟨#[88]⟩]] k5 (by show w.heap.size ≤ _; omega) rfl (by simp) rfl rfl (one_of rfl)
  have rF : RRow (smallW8 w) (w.heap.size ≤ ·) 3 (RWord (smallW8 w) (w.heap.size ≤ ·)) (.slice (some ⟨w.heap.size + 1 + 1 + 1 + 1 + 1 + 1, 0, none⟩) 1 1) [.mk ⟨#[88]⟩ [] 0] := RRow.blk [[.string ⟨#[88]⟩, .slice none 0 0, .int .i64 0]] k6 (by show w.heap.size ≤ _; omega) rfl (by simp) rfl rfl (one_of (RWord.mk' RRow.none'))
  have rG : RRow (smallW8 w) (w.heap.size ≤ ·) 6 (RAlt (smallW8 w) (w.heap.size ≤ ·)) (.slice (some ⟨w.heap.size + 1 + 1 + 1 + 1 + 1 + 1 + 1, 0, none⟩) 2 2) [⟨[.mk ⟨#[88]⟩ [] 0], ⟨#[]⟩, false, ⟨#[]⟩, 0, 0⟩, ⟨[.mk ⟨#[108]⟩ [.mk ⟨#[88]⟩ [] 0] 0, .mk ⟨#[78]⟩ [] 0], ⟨#[78]⟩, true, ⟨#[97]⟩, 0, 0⟩] :=
    RRow.blk [[.slice (some ⟨w.heap.size + 1 + 1 + 1 + 1 + 1 + 1, 0, none⟩) 1 1, .string ⟨#[]⟩, .bool false, .string ⟨#[]⟩, .int .i64 0, .int .i64 0], [.slice (some ⟨w.heap.size + 1 + 1, 0, none⟩) 2 2, .string ⟨#[78]⟩, .bool true, .string ⟨#[97]⟩, .int .i64 0, .int .i64 0]] k7 (by show w.heap.size ≤ _; omega) rfl (by simp) rfl rfl (two_of ⟨_, rfl, rF⟩ ⟨_, rfl, rB⟩)
  have rH : RRow (smallW8 w) (w.heap.size ≤ ·) 4 (RRule (smallW8 w) (w.heap.size ≤ ·)) (.slice (some ⟨w.heap.size + 1 + 1 + 1 + 1 + 1 + 1 + 1 + 1, 0, none⟩) 1 1) smallG.rules := RRow.blk [[.string ⟨#[108]⟩, .slice (some ⟨w.heap.size + 1 + 1 + 1 + 1 + 1, 0, none⟩) 1 1, .slice (some ⟨w.heap.size + 1 + 1 + 1 + 1 + 1 + 1 + 1, 0, none⟩) 2 2, .int .i64 0]] b8 (by show w.heap.size ≤ _; omega) rfl (by simp) rfl rfl (one_of ⟨_, _, rfl, rE, rG⟩)
  exact ⟨rD, rH, hf, k0⟩

/-- How a text of the law's own making ends. -/
def MadeText (w : World) (x : GText) (e : Ending) (w' : World) : Prop :=
  ∃ va vc ua uc, e = .returned (.agg #[.slice va x.decls.length vc, .slice ua x.rules.length uc]) ∧ RRow w' (w.heap.size ≤ ·) 4 (RDecl w' (w.heap.size ≤ ·)) (.slice va x.decls.length vc) x.decls ∧ RRow w' (w.heap.size ≤ ·) 4 (RRule w' (w.heap.size ≤ ·)) (.slice ua x.rules.length uc) x.rules ∧ Fr (fun _ => False) w w'
set_option maxRecDepth 100000 in
set_option maxHeartbeats 4000000 in
theorem small_any {w : World} : Calls Try.prog 11 #[] w (MadeText w smallG) := by
  obtain ⟨r1, r2, hf, hb⟩ := small_rep w
  have g0 := hb.cell 0 rfl
  have g1 := hb.cell 1 rfl
  go_enter Try.func11, Try.ntmps11
  go_wp2_with fail
  show bodyPost _ _ _ _ _ (smallW8 w)
  exact bodyPost_ret (v := .agg #[smallV w, smallU w]) (by simp [results, Try.results11, go_sem, g0, g1]) rfl ⟨_, _, _, _, rfl, r1, r2, hf⟩
end Go.Proofs.Ytejpmdlokmlmeaa
/- What the law asks first: it is so. Condition: the library's variable holds a number. -/
namespace Go.Proofs.Ytejpmdlokmlmeaa
open Go.RowKit

abbrev sSmall : ByteArray := ⟨#[37, 116, 111, 107, 101, 110, 32, 60, 105, 110, 116, 62, 32, 78, 59, 10, 37, 37, 10, 108, 40, 88, 41, 58, 32, 88, 10, 9, 124, 32, 108, 40, 88, 41, 32, 78, 32, 37, 112, 114, 101, 99, 32, 78, 32, 123, 97, 125, 10, 9, 59, 10]⟩
theorem small_ok : textOk smallG = true := by kernel_rfl
theorem small_out : ba (textOut smallG) = sSmall := by kernel_rfl
theorem small_len : (textOut smallG).length ≤ 1099511627776 := of_decide_eq_true (by kernel_rfl)
def leftG : GText := ⟨[⟨kLeft, ⟨#[]⟩, [], 0⟩], []⟩
theorem left_ok : textOk leftG = false := by kernel_rfl
theorem left_len : (textOut leftG).length ≤ 1099511627776 := of_decide_eq_true (by kernel_rfl)
/-- 'write.Text' of what lies anywhere. -/
theorem write_any {w : World} {x : GText} {P : Nat → Prop} {va ua : Option Addr} {vc uc : Nat} (hm : HM w) (hv : RRow w P 4 (RDecl w P) (.slice va x.decls.length vc) x.decls) (hu : RRow w P 4 (RRule w P) (.slice ua x.rules.length uc) x.rules) (hlen : (textOut x).length ≤ 1099511627776) :
    Calls Try.prog 7 #[.agg #[.slice va x.decls.length vc, .slice ua x.rules.length uc]] w (WTPost w x) :=
  wtext_any hm (hv.mono (fun _ _ h => h) (fun _ _ h => h.mono (fun _ _ h => h))) (hu.mono (fun _ _ h => h) (fun _ _ h => h.mono (fun _ _ h => h))) hlen
set_option maxRecDepth 100000 in
set_option maxHeartbeats 4000000 in
theorem awake_any {w : World} (hm : HM w) : Calls Try.prog 5 #[] w fun e w' => e = .returned (.bool true) ∧ Fr (fun _ => False) w w' := by
  go_enter Try.func5, Try.ntmps5
  go_wp2_with fail
  refine small_any.mono ?_
  rintro e w1 ⟨va, vc, ua, uc, rfl, r1, r2, hf1⟩
  go_wp2_with fail
  have hm1 := hm.fr hf1 id
  refine (write_any hm1 r1 r2 small_len).mono ?_
  rintro e w2 ⟨hf2, he, -⟩
  obtain rfl := he small_ok
  have e1 : (⟨(textOut smallG).toArray⟩ : ByteArray) = sSmall := small_out
  rw [e1]
  clear e1 he
  have hm2 := hm1.fr hf2 id
  have hf3 : Fr (fun _ => False) w2 (w2.alloc (.cells #[.string ⟨#[108, 101, 102, 116]⟩, .string ⟨#[]⟩, .slice none 0 0, .int .i64 0] 41)) := (Fr.refl _ w2).alloc _
  have hm3 := hm2.fr hf3 id
  have hb3 := Blk.new w2 #[.string ⟨#[108, 101, 102, 116]⟩, .string ⟨#[]⟩, .slice none 0 0, .int .i64 0] 41
  go_wp2_with fail
  generalize w2.alloc (.cells #[.string ⟨#[108, 101, 102, 116]⟩, .string ⟨#[]⟩, .slice none 0 0, .int .i64 0] 41) = w3 at *
  have r3 : RRow w3 (fun _ => True) 4 (RDecl w3 (fun _ => True)) (.slice (some ⟨w2.heap.size, 0, none⟩) 1 1) leftG.decls :=
    RRow.blk [[.string ⟨#[108, 101, 102, 116]⟩, .string ⟨#[]⟩, .slice none 0 0, .int .i64 0]] hb3 trivial rfl (by simp) rfl rfl (one_of ⟨_, rfl, RRow.none'⟩)
  have r4 : RRow w3 (fun _ => True) 4 (RRule w3 (fun _ => True)) (.slice none 0 0) leftG.rules := RRow.none'
  refine (write_any (x := leftG) hm3 r3 r4 left_len).mono ?_
  rintro e w4 ⟨hf4, -, he⟩
  obtain rfl := he left_ok
  clear he
  go_wp2_with fail
  exact bodyPost_ret (v := .bool true) (by simp [results, Try.results5, go_sem]) rfl ⟨rfl, ((hf1.trans hf2).trans hf3).trans hf4⟩
end Go.Proofs.Ytejpmdlokmlmeaa
/- A text that was read is written, and read again: the walk of the law. Condition: the library's variable holds a number. -/
namespace Go.Proofs.Ytejpmdlokmlmeaa
open Go.RowKit

/-- A text lies in memory. -/
def RT (w : World) (v u : Value) (x : GText) : Prop := RRow w Any 4 (RDecl w Any) v x.decls ∧ RRow w Any 4 (RRule w Any) u x.rules
theorem RT.fr {w w' : World} {v u : Value} {x : GText} (h : RT w v u x) (hf : Fr (fun _ => False) w w') : RT w' v u x := ⟨any_row' elemDecl h.1 hf, any_row' elemRule h.2 hf⟩
theorem RT.of {w : World} {v u : Value} {x : GText} {P : Nat → Prop} (h1 : RRow w P 4 (RDecl w P) v x.decls) (h2 : RRow w P 4 (RRule w P) u x.rules) : RT w v u x :=
  ⟨h1.mono (fun _ _ _ => trivial) (fun _ _ h => h.mono (fun _ _ _ => trivial)), h2.mono (fun _ _ _ => trivial) (fun _ _ h => h.mono (fun _ _ _ => trivial))⟩
theorem RT.form {w : World} {v u : Value} {x : GText} (h : RT w v u x) : ∃ va vc ua uc, v = .slice va x.decls.length vc ∧ u = .slice ua x.rules.length uc := by
  obtain ⟨a, c, rfl⟩ := h.1.form
  obtain ⟨b, d, rfl⟩ := h.2.form
  exact ⟨_, _, _, _, rfl, rfl⟩
/-- What 'read.Text' gives, in one. -/
theorem read_any {w : World} (hm : HM w) (s : ByteArray) : Calls Try.prog 8 #[.string s] w fun e w' => Fr (fun _ => False) w w' ∧
    ((∃ n a, readS s = .error (n, a) ∧ n ≠ 0 ∧ e = .returned (.tuple #[.agg #[.slice none 0 0, .slice none 0 0], .agg #[.int .i64 n, .int .i64 a]])) ∨
     (∃ x va vc ua uc, readS s = .ok x ∧ e = .returned (.tuple #[.agg #[.slice va x.decls.length vc, .slice ua x.rules.length uc], .agg #[.int .i64 0, .int .i64 0]]) ∧ RT w' (.slice va x.decls.length vc) (.slice ua x.rules.length uc) x)) := by
  refine (rtext_any hm s).mono ?_
  rintro e w' ⟨hf, h⟩
  refine ⟨hf, ?_⟩
  cases hr : readS s with
  | error na =>
    obtain ⟨n, a⟩ := na
    rw [hr] at h
    exact .inl ⟨n, a, rfl, read_nz hr, h⟩
  | ok x =>
    rw [hr] at h
    obtain ⟨v, u, rfl, h1, h2⟩ := h
    have hrt := RT.of h1 h2
    obtain ⟨va, vc, ua, uc, rfl, rfl⟩ := hrt.form
    exact .inr ⟨x, va, vc, ua, uc, rfl, rfl, hrt⟩
theorem copy_plain {w : World} {x : GText} {va ua : Option Addr} {vc uc : Nat} (h : RT w (.slice va x.decls.length vc) (.slice ua x.rules.length uc) x) (hb : (textOut x).length ≤ 1099511627776) :
    Calls Try.prog 10 #[.agg #[.slice va x.decls.length vc, .slice ua x.rules.length uc]] w fun e w' => ∃ a b c d, e = .returned (.agg #[.slice a (plainG x).decls.length c, .slice b (plainG x).rules.length d]) ∧ RT w' (.slice a (plainG x).decls.length c) (.slice b (plainG x).rules.length d) (plainG x) ∧ Fr (fun _ => False) w w' := by
  have hs := sizes_out x
  refine (plain_any h.1 h.2 (by omega) (by omega)).mono ?_
  rintro e w' ⟨v, u, rfl, h1, h2, hf⟩
  have hrt := RT.of h1 h2
  obtain ⟨a, c, b, d, rfl, rfl⟩ := hrt.form
  exact ⟨_, _, _, _, rfl, hrt, hf⟩
theorem same_plain {w : World} {x : GText} {a b e g : Option Addr} {c d f h : Nat} (h1 : RT w (.slice a x.decls.length c) (.slice b x.rules.length d) x) (h2 : RT w (.slice e x.decls.length f) (.slice g x.rules.length h) x) (hb : (textOut x).length ≤ 1099511627776) :
    Calls Try.prog 9 #[.agg #[.slice a x.decls.length c, .slice b x.rules.length d], .agg #[.slice e x.decls.length f, .slice g x.rules.length h]] w (SPost w) := by
  have hs := sizes_out x
  exact sameSource_any h1.1 h2.1 h1.2 h2.2 (by omega) (by omega)

set_option maxRecDepth 100000 in
set_option maxHeartbeats 8000000 in
theorem writeRead_any {w : World} {s : ByteArray} (hm : HM w) : Calls Try.prog 4 #[.string s] w fun e w' => e = .returned (.bool true) ∧ Fr (fun _ => False) w w' := by
  by_cases hs : (15000 : Int) < (s.size : Int)
  · go_enter Try.func4, Try.ntmps4
    go_wp2_with fail
    refine (awake_any hm).mono ?_
    rintro e w1 ⟨rfl, hf1⟩
    go_wp2_with fail
    exact bodyPost_ret (v := .bool true) (by simp [results, Try.results4, go_sem]) rfl ⟨rfl, hf1⟩
  · go_enter Try.func4, Try.ntmps4
    go_wp2_with fail
    refine (awake_any hm).mono ?_
    rintro e w1 ⟨rfl, hf1⟩
    have hm1 := hm.fr hf1 id
    go_wp2_with fail
    refine (read_any hm1 s).mono ?_
    rintro e w2 ⟨hf2, ⟨n, a, hr, hn, rfl⟩ | ⟨x, va, vc, ua, uc, hr, rfl, hx⟩⟩
    · clear hr
      have hb3 : Blk ((w2.alloc (.cells #[.slice none 0 0, .slice none 0 0] 25)).alloc (.cells #[.int .i64 n, .int .i64 a] 32)) (w2.heap.size + 1) #[.int .i64 n, .int .i64 a] 32 := (blk_next (w := w2.alloc (.cells #[.slice none 0 0, .slice none 0 0] 25)) _ _ (by simp)).1
      have b0 := hb3.cell 0 rfl
      have hf3 : Fr (fun _ => False) w2 ((w2.alloc (.cells #[.slice none 0 0, .slice none 0 0] 25)).alloc (.cells #[.int .i64 n, .int .i64 a] 32)) := ((Fr.refl _ w2).alloc _).alloc _
      go_wp2_with fail
      exact bodyPost_ret (v := .bool true) (by simp [results, Try.results4, go_sem]) rfl ⟨rfl, (hf1.trans hf2).trans hf3⟩
    · obtain ⟨hok, hlen⟩ := read_ok hr
      clear hr
      have hm2 := hm1.fr hf2 id
      have hbA := Blk.new w2 #[.slice va x.decls.length vc, .slice ua x.rules.length uc] 25
      have hb3 : Blk ((w2.alloc (.cells #[.slice va x.decls.length vc, .slice ua x.rules.length uc] 25)).alloc (.cells #[.int .i64 0, .int .i64 0] 32)) w2.heap.size #[.slice va x.decls.length vc, .slice ua x.rules.length uc] 25 := hbA.alloc _
      have hc3 : Blk ((w2.alloc (.cells #[.slice va x.decls.length vc, .slice ua x.rules.length uc] 25)).alloc (.cells #[.int .i64 0, .int .i64 0] 32)) (w2.heap.size + 1) #[.int .i64 0, .int .i64 0] 32 := (blk_next (w := w2.alloc (.cells #[.slice va x.decls.length vc, .slice ua x.rules.length uc] 25)) _ _ (by simp)).1
      have hf3 : Fr (fun _ => False) w2 ((w2.alloc (.cells #[.slice va x.decls.length vc, .slice ua x.rules.length uc] 25)).alloc (.cells #[.int .i64 0, .int .i64 0] 32)) := ((Fr.refl _ w2).alloc _).alloc _
      have b0 := hc3.cell 0 rfl
      have a0 := hb3.cell 0 rfl
      have a1 := hb3.cell 1 rfl
      go_wp2_with fail
      clear b0 a0 a1 hc3 hbA
      generalize (w2.alloc (.cells #[.slice va x.decls.length vc, .slice ua x.rules.length uc] 25)).alloc (.cells #[.int .i64 0, .int .i64 0] 32) = w3 at *
      obtain ⟨T, hT⟩ : ∃ T, T = w2.heap.size := ⟨_, rfl⟩
      rw [← hT] at hb3 ⊢
      have hx3 := hx.fr hf3
      have hm3 := hm2.fr hf3 id
      refine (write_any hm3 hx3.1 hx3.2 (by omega)).mono ?_
      rintro e w4 ⟨hf4, he, -⟩
      obtain rfl := he hok
      clear he
      have hx4 := hx3.fr hf4
      have hm4 := hm3.fr hf4 id
      have hb4 := hb3.fr hf4 id
      have hf04 := ((hf1.trans hf2).trans hf3).trans hf4
      clear hf1 hf2 hf3 hf4 hx hx3 hm1 hm2 hm3 hb3 hT hm
      obtain ⟨o, ho⟩ : ∃ o : ByteArray, o = ⟨(textOut x).toArray⟩ := ⟨_, rfl⟩
      rw [← ho]
      have hosz : o.size = (textOut x).length := by
        have := congrArg List.length (ba_list (textOut x))
        rw [show ba (textOut x) = o from ho.symm] at this
        simpa using this
      have HO := Lib.hid ho
      have HZ := Lib.hid hosz
      have HK := Lib.hid hok
      have HL := Lib.hid hlen
      clear ho hosz hok hlen
      go_wp2_with fail
      refine (read_any hm4 o).mono ?_
      rintro e w5 ⟨hf5, h5⟩
      have hx5 := hx4.fr hf5
      have hb5 := hb4.fr hf5 id
      have hf05 := hf04.trans hf5
      clear hx4 hb4 hf04 hf5 hm4
      by_cases hbig : (65536 : Int) < (o.size : Int)
      · have hE : ∃ a1 n1 c1 a2 n2 c2 n a, e = .returned (.tuple #[.agg #[.slice a1 n1 c1, .slice a2 n2 c2], .agg #[.int .i64 n, .int .i64 a]]) := by
          rcases h5 with ⟨n, a, -, -, rfl⟩ | ⟨y, ya, yc, yb, yd, -, rfl, -⟩
          · exact ⟨_, _, _, _, _, _, _, _, rfl⟩
          · exact ⟨_, _, _, _, _, _, _, _, rfl⟩
        clear h5
        obtain ⟨a1, n1, c1, a2, n2, c2, n, a, rfl⟩ := hE
        have hf6 : Fr (fun _ => False) w5 ((w5.alloc (.cells #[.slice a1 n1 c1, .slice a2 n2 c2] 25)).alloc (.cells #[.int .i64 n, .int .i64 a] 32)) := ((Fr.refl _ w5).alloc _).alloc _
        go_upto_region 12 with fail
        have hS0 : (fun _ : World => True) w5 := trivial
        refine wp_region_E (S := fun _ => True) (e := 15) (by kernel_rfl) ?_
        have hfd := hf6.drew
        refine wpAnyE_all (rs := [0]) (by kernel_rfl) (by simp) ?_
        intro j hj
        rcases List.mem_singleton.1 hj with rfl
        refine wpOp_step rfl (fun K hK => ?_)
        go_simp
        refine hK _ _ ⟨fun _ => hS0, ?_⟩
        clear hK K
        try simp only [Act.put, List.setIfInBounds_toArray, List.set_cons_zero, List.set_cons_succ]
        refine wpAnyE_all (rs := [1]) (by kernel_rfl) (by simp) ?_
        intro j hj
        rcases List.mem_singleton.1 hj with rfl
        refine wpOp_step rfl (fun K hK => ?_)
        go_simp
        refine hK _ _ ⟨fun _ => hS0, ?_⟩
        clear hK K
        try simp only [Act.put, List.setIfInBounds_toArray, List.set_cons_zero, List.set_cons_succ]
        refine wpAnyE_all (rs := [2]) (by kernel_rfl) (by simp) ?_
        intro j hj
        rcases List.mem_singleton.1 hj with rfl
        refine wpOp_step rfl (fun K hK => ?_)
        go_simp
        refine hK _ _ ⟨fun _ => hS0, ?_⟩
        clear hK K
        try simp only [Act.put, List.setIfInBounds_toArray, List.set_cons_zero, List.set_cons_succ]
        refine wpAnyE_all (rs := [3]) (by kernel_rfl) (by simp) ?_
        intro j hj
        rcases List.mem_singleton.1 hj with rfl
        refine wpOp_step rfl (fun K hK => ?_)
        go_simp
        refine hK _ _ ⟨fun _ => hS0, ?_⟩
        clear hK K
        try simp only [Act.put, List.setIfInBounds_toArray, List.set_cons_zero, List.set_cons_succ]
        refine wpAnyE_all (rs := [4]) (by kernel_rfl) (by simp) ?_
        intro j hj
        rcases List.mem_singleton.1 hj with rfl
        refine wpOp_step rfl (fun K hK => ?_)
        go_simp
        refine hK _ _ ⟨fun _ => hS0, ?_⟩
        clear hK K
        try simp only [Act.put, List.setIfInBounds_toArray, List.set_cons_zero, List.set_cons_succ]
        refine wpAnyE_all (rs := [5]) (by kernel_rfl) (by simp) ?_
        intro j hj
        rcases List.mem_singleton.1 hj with rfl
        refine wpOp_step rfl (fun K hK => ?_)
        go_simp
        refine hK _ _ ⟨fun _ => hS0, ?_⟩
        clear hK K
        try simp only [Act.put, List.setIfInBounds_toArray, List.set_cons_zero, List.set_cons_succ]
        refine wpAnyE_all (rs := [6]) (by kernel_rfl) (by simp) ?_
        intro j hj
        rcases List.mem_singleton.1 hj with rfl
        refine wpOp_step rfl (fun K hK => ?_)
        go_simp
        refine hK _ _ ⟨fun _ => hS0, ?_⟩
        clear hK K
        try simp only [Act.put, List.setIfInBounds_toArray, List.set_cons_zero, List.set_cons_succ]
        refine wpAnyE_all (rs := [7]) (by kernel_rfl) (by simp) ?_
        intro j hj
        rcases List.mem_singleton.1 hj with rfl
        refine wpOp_step rfl (fun K hK => ?_)
        go_simp
        refine hK _ _ ⟨fun _ => hS0, ?_⟩
        clear hK K
        try simp only [Act.put, List.setIfInBounds_toArray, List.set_cons_zero, List.set_cons_succ]
        refine wpAnyE_take (i := 8) (v := undef) rfl (by kernel_rfl) (by kernel_rfl) (by kernel_rfl) (fun _ _ _ h => h) (by decide) rfl (by kernel_rfl) (by kernel_rfl) (Or.inr ⟨by rfl, rfl⟩) hS0 ?_
        try simp only [Act.put, List.setIfInBounds_toArray, List.set_cons_zero, List.set_cons_succ]
        refine wpAnyE_take (i := 10) (v := undef) rfl (by kernel_rfl) (by kernel_rfl) (by kernel_rfl) (fun _ _ _ h => h) (by decide) rfl (by kernel_rfl) (by kernel_rfl) (Or.inr ⟨by rfl, rfl⟩) hS0 ?_
        try simp only [Act.put, List.setIfInBounds_toArray, List.set_cons_zero, List.set_cons_succ]
        refine wpAnyE_all (rs := [9]) (by kernel_rfl) (by simp) ?_
        intro j hj
        rcases List.mem_singleton.1 hj with rfl
        refine wpOp_step rfl (fun K hK => ?_)
        go_simp
        refine hK _ _ ⟨fun _ => hS0, ?_⟩
        clear hK K
        try simp only [Act.put, List.setIfInBounds_toArray, List.set_cons_zero, List.set_cons_succ]
        refine wpAnyE_all (rs := [11]) (by kernel_rfl) (by simp) ?_
        intro j hj
        rcases List.mem_singleton.1 hj with rfl
        refine wpOp_step rfl (fun K hK => ?_)
        go_simp
        refine hK _ _ ⟨fun _ => hS0, ?_⟩
        clear hK K
        try simp only [Act.put, List.setIfInBounds_toArray, List.set_cons_zero, List.set_cons_succ]
        refine wpAnyE_all (rs := [12]) (by kernel_rfl) (by simp) ?_
        intro j hj
        rcases List.mem_singleton.1 hj with rfl
        refine wpOp_step rfl (fun K hK => ?_)
        go_simp
        refine hK _ _ ⟨fun _ => hS0, ?_⟩
        clear hK K
        try simp only [Act.put, List.setIfInBounds_toArray, List.set_cons_zero, List.set_cons_succ]
        refine wpAnyE_all (rs := [13]) (by kernel_rfl) (by simp) ?_
        intro j hj
        rcases List.mem_singleton.1 hj with rfl
        refine wpOp_step rfl (fun K hK => ?_)
        go_simp
        refine hK _ _ ⟨fun _ => hS0, ?_⟩
        clear hK K
        try simp only [Act.put, List.setIfInBounds_toArray, List.set_cons_zero, List.set_cons_succ]
        refine wpAnyE_all (rs := [14]) (by kernel_rfl) (by simp) ?_
        intro j hj
        rcases List.mem_singleton.1 hj with rfl
        refine wpOp_step rfl (fun K hK => ?_)
        go_simp
        refine hK _ _ ⟨fun _ => hS0, ?_⟩
        clear hK K
        try simp only [Act.put, List.setIfInBounds_toArray, List.set_cons_zero, List.set_cons_succ]
        refine wpAnyE_all (rs := [15]) (by kernel_rfl) (by simp) ?_
        intro j hj
        rcases List.mem_singleton.1 hj with rfl
        refine wpOp_step rfl (fun K hK => ?_)
        go_simp
        refine hK _ _ ⟨fun h => (Bool.false_ne_true (h.symm.trans (by kernel_rfl))).elim, ?_⟩
        clear hK K
        try simp only [Act.put, List.setIfInBounds_toArray, List.set_cons_zero, List.set_cons_succ]
        refine wpAnyE_done (by kernel_rfl) ?_ _
        go_wp2_with fail
        exact bodyPost_ret (v := .bool true) (by simp [results, Try.results4, go_sem]) rfl ⟨rfl, hf05.trans hfd⟩
      · have ho := HO.out
        have hosz := HZ.out
        obtain ⟨y, hy, hpl⟩ := read_written HK.out (by omega)
        have ho' : readS o = .ok y := by rw [ho]; exact hy
        rcases h5 with ⟨n, a, hr, -, -⟩ | ⟨y', ya, yc, yb, yd, hr, rfl, hy5⟩
        · rw [ho'] at hr; cases hr
        · rw [ho'] at hr
          injection hr with hr
          subst hr
          clear ho' hy ho hosz
          have hsm : ¬ (65536 : Int) < (o.size : Int) := hbig
          clear hbig
          have hb6 : Blk ((w5.alloc (.cells #[.slice ya y.decls.length yc, .slice yb y.rules.length yd] 25)).alloc (.cells #[.int .i64 0, .int .i64 0] 32)) w5.heap.size #[.slice ya y.decls.length yc, .slice yb y.rules.length yd] 25 := (Blk.new w5 _ _).alloc _
          have hc6 : Blk ((w5.alloc (.cells #[.slice ya y.decls.length yc, .slice yb y.rules.length yd] 25)).alloc (.cells #[.int .i64 0, .int .i64 0] 32)) (w5.heap.size + 1) #[.int .i64 0, .int .i64 0] 32 := (blk_next (w := w5.alloc (.cells #[.slice ya y.decls.length yc, .slice yb y.rules.length yd] 25)) _ _ (by simp)).1
          have hf6 : Fr (fun _ => False) w5 ((w5.alloc (.cells #[.slice ya y.decls.length yc, .slice yb y.rules.length yd] 25)).alloc (.cells #[.int .i64 0, .int .i64 0] 32)) := ((Fr.refl _ w5).alloc _).alloc _
          have hT6 := hb5.fr hf6 id
          have hx6 := hx5.fr hf6
          have hy6 := hy5.fr hf6
          go_upto_region 12 with fail
          clear hx5 hy5 hb5
          generalize (w5.alloc (.cells #[.slice ya y.decls.length yc, .slice yb y.rules.length yd] 25)).alloc (.cells #[.int .i64 0, .int .i64 0] 32) = w6 at *
          obtain ⟨V, hV⟩ : ∃ V, V = w5.heap.size := ⟨_, rfl⟩
          rw [← hV] at hb6 hc6 ⊢
          clear hV
          have hSS : ∀ w', Fr (fun _ => False) w6 w' → (fun w' : World => w'.cell? ⟨T, 0, none⟩ = some (.slice va x.decls.length vc) ∧ w'.cell? ⟨T, 1, none⟩ = some (.slice ua x.rules.length uc) ∧ w'.cell? ⟨V, 0, none⟩ = some (.slice ya y.decls.length yc) ∧ w'.cell? ⟨V, 1, none⟩ = some (.slice yb y.rules.length yd) ∧ w'.cell? ⟨V + 1, 0, none⟩ = some (.int .i64 0)) w' := fun w' hf => ⟨(hT6.fr hf id).cell 0 rfl, (hT6.fr hf id).cell 1 rfl, (hb6.fr hf id).cell 0 rfl, (hb6.fr hf id).cell 1 rfl, (hc6.fr hf id).cell 0 rfl⟩
          have hfd : Fr (fun _ => False) w6 w6.drew := (Fr.refl _ w6).drew
          have hS0 := hSS _ hfd
          have c4 := hS0.2.2.2.2
          refine wp_region_E (S := (fun w' : World => w'.cell? ⟨T, 0, none⟩ = some (.slice va x.decls.length vc) ∧ w'.cell? ⟨T, 1, none⟩ = some (.slice ua x.rules.length uc) ∧ w'.cell? ⟨V, 0, none⟩ = some (.slice ya y.decls.length yc) ∧ w'.cell? ⟨V, 1, none⟩ = some (.slice yb y.rules.length yd) ∧ w'.cell? ⟨V + 1, 0, none⟩ = some (.int .i64 0))) (e := 15) (by kernel_rfl) ?_
          have hx7 := hx6.fr hfd
          have hy7 := hy6.fr hfd
          have hf07 := (hf05.trans hf6).trans hfd
          clear hx6 hy6 hf05 hf6
          generalize w6.drew = w7 at *
          refine wpAnyE_all (rs := [0]) (by kernel_rfl) (by simp) ?_
          intro j hj
          rcases List.mem_singleton.1 hj with rfl
          refine wpOp_step rfl (fun K hK => ?_)
          go_simp
          refine hK _ _ ⟨fun _ => hS0, ?_⟩
          clear hK K
          try simp only [Act.put, List.setIfInBounds_toArray, List.set_cons_zero, List.set_cons_succ]
          refine wpAnyE_all (rs := [1]) (by kernel_rfl) (by simp) ?_
          intro j hj
          rcases List.mem_singleton.1 hj with rfl
          refine wpOp_step rfl (fun K hK => ?_)
          go_simp
          refine hK _ _ ⟨fun _ => hS0, ?_⟩
          clear hK K
          try simp only [Act.put, List.setIfInBounds_toArray, List.set_cons_zero, List.set_cons_succ]
          refine wpAnyE_all (rs := [2]) (by kernel_rfl) (by simp) ?_
          intro j hj
          rcases List.mem_singleton.1 hj with rfl
          refine wpOp_step rfl (fun K hK => ?_)
          go_simp
          refine hK _ _ ⟨fun _ => hS0, ?_⟩
          clear hK K
          try simp only [Act.put, List.setIfInBounds_toArray, List.set_cons_zero, List.set_cons_succ]
          refine wpAnyE_all (rs := [3]) (by kernel_rfl) (by simp) ?_
          intro j hj
          rcases List.mem_singleton.1 hj with rfl
          refine wpOp_step rfl (fun K hK => ?_)
          go_simp
          refine hK _ _ ⟨fun _ => hS0, ?_⟩
          clear hK K
          try simp only [Act.put, List.setIfInBounds_toArray, List.set_cons_zero, List.set_cons_succ]
          refine wpAnyE_all (rs := [4]) (by kernel_rfl) (by simp) ?_
          intro j hj
          rcases List.mem_singleton.1 hj with rfl
          refine wpOp_step rfl (fun K hK => ?_)
          go_simp
          refine hK _ _ ⟨fun _ => hS0, ?_⟩
          clear hK K
          try simp only [Act.put, List.setIfInBounds_toArray, List.set_cons_zero, List.set_cons_succ]
          refine wpAnyE_all (rs := [5]) (by kernel_rfl) (by simp) ?_
          intro j hj
          rcases List.mem_singleton.1 hj with rfl
          refine wpOp_step rfl (fun K hK => ?_)
          go_simp
          refine hK _ _ ⟨fun _ => hS0, ?_⟩
          clear hK K
          try simp only [Act.put, List.setIfInBounds_toArray, List.set_cons_zero, List.set_cons_succ]
          refine wpAnyE_all (rs := [6]) (by kernel_rfl) (by simp) ?_
          intro j hj
          rcases List.mem_singleton.1 hj with rfl
          refine wpOp_step rfl (fun K hK => ?_)
          go_simp
          refine hK _ _ ⟨fun _ => hS0, ?_⟩
          clear hK K
          try simp only [Act.put, List.setIfInBounds_toArray, List.set_cons_zero, List.set_cons_succ]
          refine wpAnyE_all (rs := [7]) (by kernel_rfl) (by simp) ?_
          intro j hj
          rcases List.mem_singleton.1 hj with rfl
          refine wpOp_step rfl (fun K hK => ?_)
          go_simp
          refine hK _ _ ⟨fun _ => hS0, ?_⟩
          clear hK K
          try simp only [Act.put, List.setIfInBounds_toArray, List.set_cons_zero, List.set_cons_succ]
          refine wpAnyE_take (i := 8) (v := ?_) rfl (by kernel_rfl) (by kernel_rfl) (by kernel_rfl) (fun _ _ _ h => h) (by decide) rfl (by kernel_rfl) (by kernel_rfl) (Or.inl ⟨by rfl, ?_⟩) hS0 ?_
          rotate_left
          · intro wq hSw
            obtain ⟨s0, s1, s2, s3, s4⟩ := hSw
            go_simp
            try with_reducible rfl
          try simp only [Act.put, List.setIfInBounds_toArray, List.set_cons_zero, List.set_cons_succ]
          refine wpAnyE_take (i := 10) (v := ?_) rfl (by kernel_rfl) (by kernel_rfl) (by kernel_rfl) (fun _ _ _ h => h) (by decide) rfl (by kernel_rfl) (by kernel_rfl) (Or.inl ⟨by rfl, ?_⟩) hS0 ?_
          rotate_left
          · intro wq hSw
            obtain ⟨s0, s1, s2, s3, s4⟩ := hSw
            go_simp
            try with_reducible rfl
          try simp only [Act.put, List.setIfInBounds_toArray, List.set_cons_zero, List.set_cons_succ]
          clear c4
          refine wpAnyE_all (rs := [9]) (by kernel_rfl) (by simp) ?_
          intro j hj
          rcases List.mem_singleton.1 hj with rfl
          refine wpOp_step rfl (fun K hK => ?_)
          go_simp
          refine (copy_plain hx7 (by have := HL.out; omega)).mono ?_
          rintro e w8 ⟨a1, a2, a3, a4, rfl, hp8, hf8⟩
          have hS8 := hSS _ (hfd.trans hf8)
          refine hK _ _ ⟨fun _ => hS8, ?_⟩
          clear hK K
          try simp only [Act.put, List.setIfInBounds_toArray, List.set_cons_zero, List.set_cons_succ]
          refine wpAnyE_all (rs := [11]) (by kernel_rfl) (by simp) ?_
          intro j hj
          rcases List.mem_singleton.1 hj with rfl
          refine wpOp_step rfl (fun K hK => ?_)
          go_simp
          refine (copy_plain (hy7.fr hf8) (by have := HL.out; rw [(same_out hpl).1]; omega)).mono ?_
          rintro e w9 ⟨b1, b2, b3, b4, rfl, hq9, hf9⟩
          have hS9 := hSS _ ((hfd.trans hf8).trans hf9)
          rw [hpl] at hq9 ⊢
          refine hK _ _ ⟨fun _ => hS9, ?_⟩
          clear hK K
          try simp only [Act.put, List.setIfInBounds_toArray, List.set_cons_zero, List.set_cons_succ]
          refine wpAnyE_all (rs := [12]) (by kernel_rfl) (by simp) ?_
          intro j hj
          rcases List.mem_singleton.1 hj with rfl
          refine wpOp_step rfl (fun K hK => ?_)
          go_simp
          refine (same_plain (hp8.fr hf9) hq9 (by have := HL.out; rw [(plainG_out x).1]; omega)).mono ?_
          rintro e w10 ⟨rfl, hf10⟩
          have hS10 := hSS _ (((hfd.trans hf8).trans hf9).trans hf10)
          refine hK _ _ ⟨fun _ => hS10, ?_⟩
          clear hK K
          try simp only [Act.put, List.setIfInBounds_toArray, List.set_cons_zero, List.set_cons_succ]
          refine wpAnyE_all (rs := [13]) (by kernel_rfl) (by simp) ?_
          intro j hj
          rcases List.mem_singleton.1 hj with rfl
          refine wpOp_step rfl (fun K hK => ?_)
          go_simp
          refine hK _ _ ⟨fun _ => hS10, ?_⟩
          clear hK K
          try simp only [Act.put, List.setIfInBounds_toArray, List.set_cons_zero, List.set_cons_succ]
          refine wpAnyE_all (rs := [14]) (by kernel_rfl) (by simp) ?_
          intro j hj
          rcases List.mem_singleton.1 hj with rfl
          refine wpOp_step rfl (fun K hK => ?_)
          go_simp
          refine hK _ _ ⟨fun _ => hS10, ?_⟩
          clear hK K
          try simp only [Act.put, List.setIfInBounds_toArray, List.set_cons_zero, List.set_cons_succ]
          refine wpAnyE_all (rs := [15]) (by kernel_rfl) (by simp) ?_
          intro j hj
          rcases List.mem_singleton.1 hj with rfl
          refine wpOp_step rfl (fun K hK => ?_)
          go_simp
          refine hK _ _ ⟨fun h => (Bool.false_ne_true (h.symm.trans (by kernel_rfl))).elim, ?_⟩
          clear hK K
          try simp only [Act.put, List.setIfInBounds_toArray, List.set_cons_zero, List.set_cons_succ]
          refine wpAnyE_done (by kernel_rfl) ?_ _
          go_wp2_with fail
          exact bodyPost_ret (v := .bool true) (by simp [results, Try.results4, go_sem]) rfl ⟨rfl, ((hf07.trans hf8).trans hf9).trans hf10⟩
end Go.Proofs.Ytejpmdlokmlmeaa
/- The counts of a word end with a number, and change nothing. Condition: at most 2^40 parts. -/
namespace Go.Proofs.Ytejpmdlokmlmeaa
open Go.RowKit

def CountHyp (f m : Nat) : Prop := ∀ {w : World} {n : ByteArray} {args : List GWord} {a : Option Addr} {c : Nat} {at_ left : Int}, wsize (.mk n args at_) < m → wsize (.mk n args at_) ≤ 1099511627776 → RRow w Any 3 (RWord w Any) (.slice a args.length c) args →
    Calls Try.prog f #[.agg #[.string n, .slice a args.length c, .int .i64 at_], .int .i64 left] w (fun e w' => (∃ z, e = .returned (.int .i64 z)) ∧ Fr (fun _ => False) w w')
set_option maxRecDepth 100000 in
set_option maxHeartbeats 2000000 in
theorem nameCount_step (m : Nat) (IH : CountHyp 13 m) : CountHyp 13 (m + 1) := by
  intro w n args a c at_ left hm hs hrow
  rw [wsize] at hm hs
  have hal := wsizes_len args
  have hf1 : Fr (fun _ => False) w (w.alloc (.cells #[.string n, .slice a args.length c, .int .i64 at_] 50)) := (Fr.refl _ w).alloc _
  have hB1 : Blk (w.alloc (.cells #[.string n, .slice a args.length c, .int .i64 at_] 50)) w.heap.size #[.string n, .slice a args.length c, .int .i64 at_] 50 := Blk.new w _ _
  have b0 := hB1.cell 0 rfl
  go_enter Try.func13, Try.ntmps13
  go_wp2_with fail
  clear b0
  have hrow1 := any_row' elemWord hrow hf1
  generalize w.alloc (.cells #[.string n, .slice a args.length c, .int .i64 at_] 50) = w1 at *
  obtain ⟨B, hB⟩ : ∃ B, B = w.heap.size := ⟨_, rfl⟩
  rw [← hB] at hB1 ⊢
  clear hB hrow
  go_loopw [5, 6] (fun v i wr => ∃ (k : Nat) (z : Int), k ≤ args.length ∧ v = .int .i64 z ∧ i = .int .i64 k ∧ Fr (fun _ => False) w1 wr) (fun v i wr => args.length - (intOf i).toNat)
  case atStart => exact ⟨0, _, Nat.zero_le _, rfl, rfl, Fr.refl _ w1⟩
  case round =>
    obtain ⟨k, z, hk, rfl, rfl, hf⟩ := hrel
    have b1 := (hB1.fr hf id).cell 1 rfl
    have hrow := any_row' elemWord hrow1 hf
    by_cases hlt : k < args.length
    · by_cases hle : z ≤ left
      · obtain ⟨kb, off, vc, cs, hv, -, -, -, hE, hc⟩ := hrow.get hlt noWord
        have hmem := wsizes_mem (getD_mem noWord hlt)
        generalize args.getD k noWord = y at *
        obtain ⟨n', args', at'⟩ := y
        obtain ⟨u, rfl, hu⟩ := RWord.row.1 hE
        obtain ⟨ua, uc, rfl⟩ := hu.form
        injection hv with hv1 hv2 hv3
        subst hv1 hv3
        clear hv2 hE
        have c0 : wr.cell? ⟨kb, off + k * 3, none⟩ = some (.string n') := hc 0 _ rfl
        have c1 := hc 1 _ rfl
        have c2 := hc 2 _ rfl
        clear hc
        have hi0 : (0 : Int) ≤ (k : Int) := by omega
        have hi1 : (k : Int) < (args.length : Int) := by omega
        have hsz : wsize (.mk n' args' at') < m ∧ wsize (.mk n' args' at') ≤ 1099511627776 := by omega
        have HS := Lib.hid hsz
        clear hsz hmem
        go_wp2_with fail
        refine (IH HS.out.1 HS.out.2 hu).mono ?_
        rintro e w5 ⟨⟨z5, rfl⟩, hf5⟩
        have hf05 := hf.trans hf5
        go_wp2_with fail
        go_roundw
        case rel => exact ⟨k + 1, _, by omega, rfl, by go_num, hf05⟩
        case measure => simp [intOf]; omega
      · have hi1 : (k : Int) < (args.length : Int) := by omega
        go_wp2_with fail
        go_ret
        exact ⟨⟨_, rfl⟩, hf1.trans hf⟩
    · obtain rfl : k = args.length := by omega
      go_wp2_with fail
      go_ret
      exact ⟨⟨_, rfl⟩, hf1.trans hf⟩
theorem nameCount_any (m : Nat) : CountHyp 13 m := by
  induction m with
  | zero => intro w n args a c at_ left h; omega
  | succ m ih => exact nameCount_step m ih
set_option maxRecDepth 100000 in
set_option maxHeartbeats 2000000 in
theorem wordsOf_step (m : Nat) (IH : CountHyp 12 m) : CountHyp 12 (m + 1) := by
  intro w n args a c at_ left hm hs hrow
  rw [wsize] at hm hs
  have hal := wsizes_len args
  have hf1 : Fr (fun _ => False) w (w.alloc (.cells #[.string n, .slice a args.length c, .int .i64 at_] 50)) := (Fr.refl _ w).alloc _
  have hB1 : Blk (w.alloc (.cells #[.string n, .slice a args.length c, .int .i64 at_] 50)) w.heap.size #[.string n, .slice a args.length c, .int .i64 at_] 50 := Blk.new w _ _
  have b0 := hB1.cell 0 rfl
  go_enter Try.func12, Try.ntmps12
  go_wp2_with fail
  clear b0
  have hrow1 := any_row' elemWord hrow hf1
  generalize w.alloc (.cells #[.string n, .slice a args.length c, .int .i64 at_] 50) = w1 at *
  obtain ⟨B, hB⟩ : ∃ B, B = w.heap.size := ⟨_, rfl⟩
  rw [← hB] at hB1 ⊢
  clear hB hrow
  go_loopw [5, 6] (fun v i wr => ∃ (k : Nat) (z : Int), k ≤ args.length ∧ v = .int .i64 z ∧ i = .int .i64 k ∧ Fr (fun _ => False) w1 wr) (fun v i wr => args.length - (intOf i).toNat)
  case atStart => exact ⟨0, _, Nat.zero_le _, rfl, rfl, Fr.refl _ w1⟩
  case round =>
    obtain ⟨k, z, hk, rfl, rfl, hf⟩ := hrel
    have b1 := (hB1.fr hf id).cell 1 rfl
    have hrow := any_row' elemWord hrow1 hf
    by_cases hlt : k < args.length
    · by_cases hle : z ≤ left
      · obtain ⟨kb, off, vc, cs, hv, -, -, -, hE, hc⟩ := hrow.get hlt noWord
        have hmem := wsizes_mem (getD_mem noWord hlt)
        generalize args.getD k noWord = y at *
        obtain ⟨n', args', at'⟩ := y
        obtain ⟨u, rfl, hu⟩ := RWord.row.1 hE
        obtain ⟨ua, uc, rfl⟩ := hu.form
        injection hv with hv1 hv2 hv3
        subst hv1 hv3
        clear hv2 hE
        have c0 : wr.cell? ⟨kb, off + k * 3, none⟩ = some (.string n') := hc 0 _ rfl
        have c1 := hc 1 _ rfl
        have c2 := hc 2 _ rfl
        clear hc
        have hi0 : (0 : Int) ≤ (k : Int) := by omega
        have hi1 : (k : Int) < (args.length : Int) := by omega
        have hsz : wsize (.mk n' args' at') < m ∧ wsize (.mk n' args' at') ≤ 1099511627776 := by omega
        have HS := Lib.hid hsz
        clear hsz hmem
        go_wp2_with fail
        refine (IH HS.out.1 HS.out.2 hu).mono ?_
        rintro e w5 ⟨⟨z5, rfl⟩, hf5⟩
        have hf05 := hf.trans hf5
        go_wp2_with fail
        go_roundw
        case rel => exact ⟨k + 1, _, by omega, rfl, by go_num, hf05⟩
        case measure => simp [intOf]; omega
      · have hi1 : (k : Int) < (args.length : Int) := by omega
        go_wp2_with fail
        go_ret
        exact ⟨⟨_, rfl⟩, hf1.trans hf⟩
    · obtain rfl : k = args.length := by omega
      go_wp2_with fail
      go_ret
      exact ⟨⟨_, rfl⟩, hf1.trans hf⟩
theorem wordsOf_any (m : Nat) : CountHyp 12 m := by
  induction m with
  | zero => intro w n args a c at_ left h; omega
  | succ m ih => exact wordsOf_step m ih
end Go.Proofs.Ytejpmdlokmlmeaa
/- Whether a text is great: it ends with an answer, and changes nothing. Condition: at most 2^40 bytes, as the text is written. -/
namespace Go.Proofs.Ytejpmdlokmlmeaa
open Go.RowKit

/-- One of a row: its cells, read through any frame. -/
theorem RRow.at {α : Type} {w : World} {sz : Nat} {E : α → List Value → Prop} {v : Value} {xs : List α} (h : RRow w Any sz E v xs) {j : Nat} (hj : j < xs.length) (d : α) :
    ∃ k off c cs, v = .slice (some ⟨k, off, none⟩) xs.length c ∧ E (xs.getD j d) cs ∧ ∀ w', Fr (fun _ => False) w w' → ∀ (i : Nat) u, cs[i]? = some u → w'.cell? ⟨k, off + j * sz + i, none⟩ = some u := by
  obtain ⟨k, off, c, cs, hv, -, hk, -, hc, hr⟩ := h.get hj d
  exact ⟨k, off, c, cs, hv, hc, fun w' hf i u hu => (hf.cell (p := ⟨k, _, none⟩) hk id).trans (hr i u hu)⟩
def codeSnd : Code → Code
  | .seq _ b => b
  | c => c
def codeFst : Code → Code
  | .seq a _ => a
  | c => c
def codeIn : Code → Code
  | .block _ b => b
  | c => c
noncomputable def greatTail : Code := codeSnd (codeSnd (codeSnd (Try.f6.body.getD Code.skip)))
noncomputable def greatLoop : Code := codeIn (codeSnd (codeFst greatTail))
noncomputable def greatEnd : Code := codeSnd greatTail
set_option maxRecDepth 100000 in
set_option maxHeartbeats 8000000 in
theorem great_tail {w w1 wr : World} {x : GText} {a b : Option Addr} {c d T : Nat} {z : Int} {K2 : Act → World → Prop} {u0 u4 u5 u7 u8 u9 u10 u11 u12 u13 u14 u15 u16 u17 u18 u19 u20 u21 u22 u23 u24 u25 u26 u27 u28 u29 u30 u31 u32 u33 u34 u35 u36 u37 u38 u39 u40 u41 u42 u43 u44 u45 u46 u47 u48 u49 u50 u51 u52 u53 u54 u55 u56 u57 u58 u59 u60 u61 u62 u63 u64 u65 u66 u67 u68 u69 u70 u71 u72 u73 u74 u75 u76 u77 u78 u79 u80 u81 u82 u83 u84 u85 u86 u87 u88 u89 u90 u91 u92 u93 u94 u95 u96 u97 u98 u99 u100 u101 u102 u103 u104 u105 u106 u107 u108 u109 u110 u111 u112 u113 u114 u115 u116 u117 u118 u119 u120 u121 u122 u123 u124 u125 u126 u127 u128 u129 u130 u131 u132 u133 u134 u135 u136 u137 u138 u139 u140 u141 u142 u143 u144 u145 u146 u147 u148 u149 u150 u151 u152 u153 u154 u155 u156 u157 u158 u159 u160 u161 u162 u163 u164 u165 u166 u167 u168 u169 u170 u171 u172 u173 u174 u175 u176 u177 u178 u179 u180 u181 u182 u183 u184 u185 u186 u187 u188 u189 u190 u191 u192 u193 u194 u195 u196 u197 u198 u199 u200 u201 u202 u203 u204 u205 u206 : Value} (hf1 : Fr (fun _ => False) w w1) (hT1 : Blk w1 T #[.slice a x.decls.length c, .slice b x.rules.length d] 25) (h1 : RT w1 (.slice a x.decls.length c) (.slice b x.rules.length d) x) (hlr : x.rules.length ≤ 1099511627776) (HR : Hid (rsizes x.rules ≤ 1099511627776)) (hf : Fr (fun _ => False) w1 wr)
    (k2 : ∀ a' w', greatEnd.wp Try.prog (bodyPost Try.prog Try.f6 (fun e w' => (∃ z, e = .returned (.bool z)) ∧ Fr (fun _ => False) w w')) a' w' → K2 a' w') :
    greatLoop.wp Try.prog (Exit.inBlock 4 (Exit.then K2 (bodyPost Try.prog Try.f6 (fun e w' => (∃ z, e = .returned (.bool z)) ∧ Fr (fun _ => False) w w')))) ⟨List.toArray (u0 :: .pointer (some ⟨T, 0, none⟩) :: .bool false :: .int .i64 z :: u4 :: u5 :: .int .i64 0 :: u7 :: u8 :: u9 :: u10 :: u11 :: u12 :: u13 :: u14 :: u15 :: u16 :: u17 :: u18 :: u19 :: u20 :: u21 :: u22 :: u23 :: u24 :: u25 :: u26 :: u27 :: u28 :: u29 :: u30 :: u31 :: u32 :: u33 :: u34 :: u35 :: u36 :: u37 :: u38 :: u39 :: u40 :: u41 :: u42 :: u43 :: u44 :: u45 :: u46 :: u47 :: u48 :: u49 :: u50 :: u51 :: u52 :: u53 :: u54 :: u55 :: u56 :: u57 :: u58 :: u59 :: u60 :: u61 :: u62 :: u63 :: u64 :: u65 :: u66 :: u67 :: u68 :: u69 :: u70 :: u71 :: u72 :: u73 :: u74 :: u75 :: u76 :: u77 :: u78 :: u79 :: u80 :: u81 :: u82 :: u83 :: u84 :: u85 :: u86 :: u87 :: u88 :: u89 :: u90 :: u91 :: u92 :: u93 :: u94 :: u95 :: u96 :: u97 :: u98 :: u99 :: u100 :: u101 :: u102 :: u103 :: u104 :: u105 :: u106 :: u107 :: u108 :: u109 :: u110 :: u111 :: u112 :: u113 :: u114 :: u115 :: u116 :: u117 :: u118 :: u119 :: u120 :: u121 :: u122 :: u123 :: u124 :: u125 :: u126 :: u127 :: u128 :: u129 :: u130 :: u131 :: u132 :: u133 :: u134 :: u135 :: u136 :: u137 :: u138 :: u139 :: u140 :: u141 :: u142 :: u143 :: u144 :: u145 :: u146 :: u147 :: u148 :: u149 :: u150 :: u151 :: u152 :: u153 :: u154 :: u155 :: u156 :: u157 :: u158 :: u159 :: u160 :: u161 :: u162 :: u163 :: u164 :: u165 :: u166 :: u167 :: u168 :: u169 :: u170 :: u171 :: u172 :: u173 :: u174 :: u175 :: u176 :: u177 :: u178 :: u179 :: u180 :: u181 :: u182 :: u183 :: u184 :: u185 :: u186 :: u187 :: u188 :: u189 :: u190 :: u191 :: u192 :: u193 :: u194 :: u195 :: u196 :: u197 :: u198 :: u199 :: u200 :: u201 :: u202 :: u203 :: u204 :: u205 :: u206 :: []), []⟩ wr := by
  dsimp only [greatLoop, greatEnd, greatTail, codeSnd, codeFst, codeIn, Try.f6, Option.getD] at k2 ⊢
  go_loopw [3, 6, 7, 8, 9, 10] (fun v i u1 u2 u3 u4 wr => ∃ (m : Nat) (z : Int), m ≤ x.rules.length ∧ v = .int .i64 z ∧ i = .int .i64 m ∧ Fr (fun _ => False) w1 wr) (fun v i u1 u2 u3 u4 wr => x.rules.length - (intOf i).toNat)
  case atStart => exact ⟨0, _, Nat.zero_le _, rfl, rfl, hf⟩
  case round =>
    clear hf
    obtain ⟨q, z3, hq, rfl, rfl, hf⟩ := hrel
    have t1 := (hT1.fr hf id).cell 1 rfl
    have hdone : (x.rules.length ≤ q ∨ (q < x.rules.length ∧ 2000 < z3)) ∨ (q < x.rules.length ∧ z3 ≤ 2000) := by omega
    rcases hdone with hex | ⟨hltX, hleX⟩
    · rcases hex with hex | ⟨hex, hex2⟩
      · obtain rfl : q = x.rules.length := by omega
        go_wp2_with fail
        go_ret
        exact ⟨⟨_, rfl⟩, hf1.trans hf⟩
      · have hj1 : (q : Int) < (x.rules.length : Int) := by omega
        go_wp2_with fail
        go_ret
        exact ⟨⟨_, rfl⟩, hf1.trans hf⟩
    · skip
      obtain ⟨kb, off, vc, cs, hv, ⟨nv, mv, rfl, hNm, hAl⟩, hc⟩ := h1.2.at hltX noRule
      obtain ⟨na, nc, rfl⟩ := hNm.form
      obtain ⟨ma, mc, rfl⟩ := hAl.form
      injection hv with hv1 hv2 hv3
      subst hv1 hv3
      clear hv2
      have hln : (x.rules.getD q noRule).params.length ≤ 1099511627776 ∧ asizes (x.rules.getD q noRule).alts ≤ 1099511627776 := by
        have e1 := rsizes_mem (getD_mem noRule hltX)
        have e2 := HR.out
        have e3 : rsize (x.rules.getD q noRule) = 1 + (x.rules.getD q noRule).params.length + asizes (x.rules.getD q noRule).alts := rfl
        omega
      generalize x.rules.getD q noRule = y at *
      have HA := Lib.hid hln.2
      have hal : y.alts.length ≤ 1099511627776 := Nat.le_trans (sum_len (f := asize) (fun x => by unfold asize; omega) y.alts) hln.2
      replace hln := hln.1
      have c0 : wr.cell? ⟨kb, off + q * 4, none⟩ = some (.string y.name) := hc wr hf 0 _ rfl
      have c1 := hc wr hf 1 _ rfl
      have c2 := hc wr hf 2 _ rfl
      have hi0 : (0 : Int) ≤ (q : Int) := by omega
      have hi1 : (q : Int) < (x.rules.length : Int) := by omega
      go_upto_region 13 with fail
      go_quiet (fail)
      go_wp2_with fail
      clear c0 c1 c2 t1
      go_loopw [3, 7] (fun v i wr => ∃ (m : Nat) (z : Int), m ≤ y.params.length ∧ v = .int .i64 z ∧ i = .int .i64 m ∧ Fr (fun _ => False) w1 wr) (fun v i wr => y.params.length - (intOf i).toNat)
      case atStart => exact ⟨0, _, Nat.zero_le _, rfl, rfl, hf.drewN _⟩
      case round =>
        obtain ⟨m, z2, hm2, rfl, rfl, hf2⟩ := hrel
        have t1 := (hT1.fr hf2 id).cell 1 rfl
        have c1 := hc wr hf2 1 _ rfl
        have c2 := hc wr hf2 2 _ rfl
        have hdone : (y.params.length ≤ m ∨ (m < y.params.length ∧ 2000 < z2)) ∨ (m < y.params.length ∧ z2 ≤ 2000) := by omega
        rcases hdone with hex | ⟨hlt2, hle2⟩
        · rcases hex with hex | ⟨hex, hex2⟩
          · obtain rfl : m = y.params.length := by omega
            go_wp2_with fail
            clear t1 c1 c2
            go_loopw [3, 8, 9, 10] (fun v i u1 u2 wr => ∃ (m : Nat) (z : Int), m ≤ y.alts.length ∧ v = .int .i64 z ∧ i = .int .i64 m ∧ Fr (fun _ => False) w1 wr) (fun v i u1 u2 wr => y.alts.length - (intOf i).toNat)
            case atStart => exact ⟨0, _, Nat.zero_le _, rfl, rfl, hf2⟩
            case round =>
              obtain ⟨i4, z4, hm4, rfl, rfl, hf4⟩ := hrel
              have t1 := (hT1.fr hf4 id).cell 1 rfl
              have c2 := hc wr hf4 2 _ rfl
              have hdone : (y.alts.length ≤ i4 ∨ (i4 < y.alts.length ∧ 2000 < z4)) ∨ (i4 < y.alts.length ∧ z4 ≤ 2000) := by omega
              rcases hdone with hex | ⟨hltX, hleX⟩
              · rcases hex with hex | ⟨hex, hex2⟩
                · obtain rfl : i4 = y.alts.length := by omega
                  go_wp2_with fail
                  go_roundw
                  case rel => exact ⟨q + 1, _, by omega, rfl, by go_num, hf4⟩
                  case measure => simp [intOf]; omega
                · have hj1 : (i4 : Int) < (y.alts.length : Int) := by omega
                  go_wp2_with fail
                  go_roundw
                  case rel => exact ⟨q + 1, _, by omega, rfl, by go_num, hf4⟩
                  case measure => simp [intOf]; omega
              · skip
                obtain ⟨lb, lo, lc, lcs, hlv, ⟨wv, rfl, hWs⟩, hlc⟩ := hAl.at hltX noAlt
                obtain ⟨wa, wc, rfl⟩ := hWs.form
                injection hlv with hl1 hl2 hl3
                subst hl1 hl3
                clear hl2
                have hwz : wsizes (y.alts.getD i4 noAlt).words ≤ 1099511627776 := by
                  have e1 := asizes_mem (getD_mem noAlt hltX)
                  have e2 := HA.out
                  have e3 : asize (y.alts.getD i4 noAlt) = 1 + wsizes (y.alts.getD i4 noAlt).words := rfl
                  omega
                generalize y.alts.getD i4 noAlt = y4 at *
                have hwl := wsizes_len y4.words
                have a0 : wr.cell? ⟨lb, lo + i4 * 6, none⟩ = some (.slice wa y4.words.length wc) := hlc wr hf4 0 _ rfl
                have a1 := hlc wr hf4 1 _ rfl
                have a2 := hlc wr hf4 2 _ rfl
                have a3 := hlc wr hf4 3 _ rfl
                have a4 := hlc wr hf4 4 _ rfl
                have a5 := hlc wr hf4 5 _ rfl
                have hf5 : Fr (fun _ => False) wr (wr.alloc (.cells #[.slice wa y4.words.length wc, .string y4.prec, .bool y4.has, .string y4.action, .int .i64 y4.wher, .int .i64 y4.at_] 47)) := (Fr.refl _ wr).alloc _
                have hB5 : Blk (wr.alloc (.cells #[.slice wa y4.words.length wc, .string y4.prec, .bool y4.has, .string y4.action, .int .i64 y4.wher, .int .i64 y4.at_] 47)) wr.heap.size #[.slice wa y4.words.length wc, .string y4.prec, .bool y4.has, .string y4.action, .int .i64 y4.wher, .int .i64 y4.at_] 47 := Blk.new wr _ _
                have b0 := hB5.cell 0 rfl
                have b1 := hB5.cell 1 rfl
                have b3 := hB5.cell 3 rfl
                have hi0 : (0 : Int) ≤ (i4 : Int) := by omega
                have hi1 : (i4 : Int) < (y.alts.length : Int) := by omega
                go_wp2_with fail
                clear a0 a1 a2 a3 a4 a5 b0 b1 b3 t1 c2
                have hf45 := hf4.trans hf5
                generalize wr.alloc (.cells #[.slice wa y4.words.length wc, .string y4.prec, .bool y4.has, .string y4.action, .int .i64 y4.wher, .int .i64 y4.at_] 47) = w5 at *
                obtain ⟨B5, hB5e⟩ : ∃ B5, B5 = wr.heap.size := ⟨_, rfl⟩
                rw [← hB5e] at hB5 ⊢
                clear hB5e hf5 hf4
                go_loopw [3, 10] (fun v i wr => ∃ (m : Nat) (z : Int), m ≤ y4.words.length ∧ v = .int .i64 z ∧ i = .int .i64 m ∧ Fr (fun _ => False) w5 wr) (fun v i wr => y4.words.length - (intOf i).toNat)
                case atStart => exact ⟨0, _, Nat.zero_le _, rfl, rfl, Fr.refl _ w5⟩
                case round =>
                  obtain ⟨m6, z6, hm6, rfl, rfl, hf6⟩ := hrel
                  have b0 := (hB5.fr hf6 id).cell 0 rfl
                  have hdone : (y4.words.length ≤ m6 ∨ (m6 < y4.words.length ∧ 2000 < z6)) ∨ (m6 < y4.words.length ∧ z6 ≤ 2000) := by omega
                  rcases hdone with hex | ⟨hltX, hleX⟩
                  · rcases hex with hex | ⟨hex, hex2⟩
                    · obtain rfl : m6 = y4.words.length := by omega
                      go_wp2_with fail
                      go_roundw
                      case rel => exact ⟨i4 + 1, _, by omega, rfl, by go_num, hf45.trans hf6⟩
                      case measure => simp [intOf]; omega
                    · have hj1 : (m6 : Int) < (y4.words.length : Int) := by omega
                      go_wp2_with fail
                      go_roundw
                      case rel => exact ⟨i4 + 1, _, by omega, rfl, by go_num, hf45.trans hf6⟩
                      case measure => simp [intOf]; omega
                  · skip
                    have hlt6 := hltX
                    obtain ⟨mb, mo, mw, mcs, hmv, hmE, hmc⟩ := hWs.at hlt6 noWord
                    have hmem := wsizes_mem (getD_mem noWord hlt6)
                    generalize y4.words.getD m6 noWord = yw at *
                    obtain ⟨n', args', at'⟩ := yw
                    obtain ⟨u, rfl, hu⟩ := RWord.row.1 hmE
                    obtain ⟨ua, uc, rfl⟩ := hu.form
                    injection hmv with hw1 hw2 hw3
                    subst hw1 hw3
                    clear hw2 hmE
                    have hsz : wsize (.mk n' args' at') ≤ 1099511627776 := by omega
                    have HS := Lib.hid hsz
                    clear hsz hmem
                    have hi0 : (0 : Int) ≤ (m6 : Int) := by omega
                    have hi1 : (m6 : Int) < (y4.words.length : Int) := by omega
                    go_upto_region 26 with fail
                    have hSS : ∀ w', Fr (fun _ => False) w5 w' → (fun w' : World => w'.cell? ⟨B5, 0, none⟩ = some (.slice (some ⟨mb, mo, none⟩) y4.words.length wc) ∧ w'.cell? ⟨mb, mo + m6 * 3, none⟩ = some (.string n') ∧ w'.cell? ⟨mb, mo + m6 * 3 + 1, none⟩ = some (.slice ua args'.length uc) ∧ w'.cell? ⟨mb, mo + m6 * 3 + 2, none⟩ = some (.int .i64 at')) w' := fun w' hf => ⟨(hB5.fr hf id).cell 0 rfl, hmc w' (hf45.trans hf) 0 _ rfl, hmc w' (hf45.trans hf) 1 _ rfl, hmc w' (hf45.trans hf) 2 _ rfl⟩
                    have hf7 : Fr (fun _ => False) w5 wr.drew := hf6.drew
                    have hS0 := hSS _ hf7
                    refine wp_region_E (S := (fun w' : World => w'.cell? ⟨B5, 0, none⟩ = some (.slice (some ⟨mb, mo, none⟩) y4.words.length wc) ∧ w'.cell? ⟨mb, mo + m6 * 3, none⟩ = some (.string n') ∧ w'.cell? ⟨mb, mo + m6 * 3 + 1, none⟩ = some (.slice ua args'.length uc) ∧ w'.cell? ⟨mb, mo + m6 * 3 + 2, none⟩ = some (.int .i64 at'))) (e := 15) (by kernel_rfl) ?_
                    clear b0 hf6
                    generalize wr.drew = w7 at *
                    refine wpAnyE_take (i := 0) (v := ?_) rfl (by kernel_rfl) (by kernel_rfl) (by kernel_rfl) (fun _ _ _ h => h) (by decide) rfl (by kernel_rfl) (by kernel_rfl) (Or.inl ⟨by rfl, ?_⟩) hS0 ?_
                    rotate_left
                    · intro wq hSw
                      obtain ⟨s0, s1, s2, s3⟩ := hSw
                      go_simp
                      try with_reducible rfl
                    try simp only [Act.put, List.setIfInBounds_toArray, List.set_cons_zero, List.set_cons_succ]
                    refine wpAnyE_take (i := 1) (v := ?_) rfl (by kernel_rfl) (by kernel_rfl) (by kernel_rfl) (fun _ _ _ h => h) (by decide) rfl (by kernel_rfl) (by kernel_rfl) (Or.inl ⟨by rfl, ?_⟩) hS0 ?_
                    rotate_left
                    · intro wq hSw
                      obtain ⟨s0, s1, s2, s3⟩ := hSw
                      go_simp
                      try with_reducible rfl
                    try simp only [Act.put, List.setIfInBounds_toArray, List.set_cons_zero, List.set_cons_succ]
                    refine wpAnyE_take (i := 2) (v := ?_) rfl (by kernel_rfl) (by kernel_rfl) (by kernel_rfl) (fun _ _ _ h => h) (by decide) rfl (by kernel_rfl) (by kernel_rfl) (Or.inl ⟨by rfl, ?_⟩) hS0 ?_
                    rotate_left
                    · intro wq hSw
                      obtain ⟨s0, s1, s2, s3⟩ := hSw
                      go_simp
                      try with_reducible rfl
                    try simp only [Act.put, List.setIfInBounds_toArray, List.set_cons_zero, List.set_cons_succ]
                    refine wpAnyE_take (i := 3) (v := ?_) rfl (by kernel_rfl) (by kernel_rfl) (by kernel_rfl) (fun _ _ _ h => h) (by decide) rfl (by kernel_rfl) (by kernel_rfl) (Or.inl ⟨by rfl, ?_⟩) hS0 ?_
                    rotate_left
                    · intro wq hSw
                      obtain ⟨s0, s1, s2, s3⟩ := hSw
                      go_simp
                      try with_reducible rfl
                    try simp only [Act.put, List.setIfInBounds_toArray, List.set_cons_zero, List.set_cons_succ]
                    refine wpAnyE_take (i := 4) (v := ?_) rfl (by kernel_rfl) (by kernel_rfl) (by kernel_rfl) (fun _ _ _ h => h) (by decide) rfl (by kernel_rfl) (by kernel_rfl) (Or.inl ⟨by rfl, ?_⟩) hS0 ?_
                    rotate_left
                    · intro wq hSw
                      obtain ⟨s0, s1, s2, s3⟩ := hSw
                      go_simp
                      try with_reducible rfl
                    try simp only [Act.put, List.setIfInBounds_toArray, List.set_cons_zero, List.set_cons_succ]
                    refine wpAnyE_take (i := 5) (v := ?_) rfl (by kernel_rfl) (by kernel_rfl) (by kernel_rfl) (fun _ _ _ h => h) (by decide) rfl (by kernel_rfl) (by kernel_rfl) (Or.inl ⟨by rfl, ?_⟩) hS0 ?_
                    rotate_left
                    · intro wq hSw
                      obtain ⟨s0, s1, s2, s3⟩ := hSw
                      go_simp
                      try with_reducible rfl
                    try simp only [Act.put, List.setIfInBounds_toArray, List.set_cons_zero, List.set_cons_succ]
                    refine wpAnyE_take (i := 8) (v := ?_) rfl (by kernel_rfl) (by kernel_rfl) (by kernel_rfl) (fun _ _ _ h => h) (by decide) rfl (by kernel_rfl) (by kernel_rfl) (Or.inl ⟨by rfl, ?_⟩) hS0 ?_
                    rotate_left
                    · intro wq hSw
                      obtain ⟨s0, s1, s2, s3⟩ := hSw
                      go_simp
                      try with_reducible rfl
                    try simp only [Act.put, List.setIfInBounds_toArray, List.set_cons_zero, List.set_cons_succ]
                    refine wpAnyE_take (i := 9) (v := ?_) rfl (by kernel_rfl) (by kernel_rfl) (by kernel_rfl) (fun _ _ _ h => h) (by decide) rfl (by kernel_rfl) (by kernel_rfl) (Or.inl ⟨by rfl, ?_⟩) hS0 ?_
                    rotate_left
                    · intro wq hSw
                      obtain ⟨s0, s1, s2, s3⟩ := hSw
                      go_simp
                      try with_reducible rfl
                    try simp only [Act.put, List.setIfInBounds_toArray, List.set_cons_zero, List.set_cons_succ]
                    refine wpAnyE_take (i := 10) (v := ?_) rfl (by kernel_rfl) (by kernel_rfl) (by kernel_rfl) (fun _ _ _ h => h) (by decide) rfl (by kernel_rfl) (by kernel_rfl) (Or.inl ⟨by rfl, ?_⟩) hS0 ?_
                    rotate_left
                    · intro wq hSw
                      obtain ⟨s0, s1, s2, s3⟩ := hSw
                      go_simp
                      try with_reducible rfl
                    try simp only [Act.put, List.setIfInBounds_toArray, List.set_cons_zero, List.set_cons_succ]
                    refine wpAnyE_take (i := 11) (v := ?_) rfl (by kernel_rfl) (by kernel_rfl) (by kernel_rfl) (fun _ _ _ h => h) (by decide) rfl (by kernel_rfl) (by kernel_rfl) (Or.inl ⟨by rfl, ?_⟩) hS0 ?_
                    rotate_left
                    · intro wq hSw
                      obtain ⟨s0, s1, s2, s3⟩ := hSw
                      go_simp
                      try with_reducible rfl
                    try simp only [Act.put, List.setIfInBounds_toArray, List.set_cons_zero, List.set_cons_succ]
                    refine wpAnyE_take (i := 12) (v := ?_) rfl (by kernel_rfl) (by kernel_rfl) (by kernel_rfl) (fun _ _ _ h => h) (by decide) rfl (by kernel_rfl) (by kernel_rfl) (Or.inl ⟨by rfl, ?_⟩) hS0 ?_
                    rotate_left
                    · intro wq hSw
                      obtain ⟨s0, s1, s2, s3⟩ := hSw
                      go_simp
                      try with_reducible rfl
                    try simp only [Act.put, List.setIfInBounds_toArray, List.set_cons_zero, List.set_cons_succ]
                    refine wpAnyE_all (rs := [6]) (by kernel_rfl) (by simp) ?_
                    intro j hj
                    rcases List.mem_singleton.1 hj with rfl
                    refine wpOp_step rfl (fun K hK => ?_)
                    go_simp
                    refine (wordsOf_any _ (Nat.lt_succ_self _) HS.out (any_row' elemWord hu (hf45.trans hf7))).mono ?_
                    rintro e w8 ⟨⟨z8, rfl⟩, hf8⟩
                    have hf78 := hf7.trans hf8
                    have hS8 := hSS _ hf78
                    refine hK _ _ ⟨fun _ => hS8, ?_⟩
                    clear hK K
                    try simp only [Act.put, List.setIfInBounds_toArray, List.set_cons_zero, List.set_cons_succ]
                    refine wpAnyE_take (i := 7) (v := ?_) rfl (by kernel_rfl) (by kernel_rfl) (by kernel_rfl) (fun _ _ _ h => h) (by decide) rfl (by kernel_rfl) (by kernel_rfl) (Or.inl ⟨by rfl, ?_⟩) hS8 ?_
                    rotate_left
                    · intro wq hSw
                      obtain ⟨s0, s1, s2, s3⟩ := hSw
                      go_simp
                      try with_reducible rfl
                    try simp only [Act.put, List.setIfInBounds_toArray, List.set_cons_zero, List.set_cons_succ]
                    refine wpAnyE_all (rs := [13]) (by kernel_rfl) (by simp) ?_
                    intro j hj
                    rcases List.mem_singleton.1 hj with rfl
                    refine wpOp_step rfl (fun K hK => ?_)
                    go_simp
                    refine (nameCount_any _ (Nat.lt_succ_self _) HS.out (any_row' elemWord hu (hf45.trans hf78))).mono ?_
                    rintro e w9 ⟨⟨z9, rfl⟩, hf9⟩
                    have hf79 := hf78.trans hf9
                    replace hS8 := hSS _ hf79
                    refine hK _ _ ⟨fun _ => hS8, ?_⟩
                    clear hK K
                    try simp only [Act.put, List.setIfInBounds_toArray, List.set_cons_zero, List.set_cons_succ]
                    refine wpAnyE_all (rs := [14]) (by kernel_rfl) (by simp) ?_
                    intro j hj
                    rcases List.mem_singleton.1 hj with rfl
                    refine wpOp_step rfl (fun K hK => ?_)
                    go_simp
                    refine hK _ _ ⟨fun _ => hS8, ?_⟩
                    clear hK K
                    try simp only [Act.put, List.setIfInBounds_toArray, List.set_cons_zero, List.set_cons_succ]
                    refine wpAnyE_all (rs := [15]) (by kernel_rfl) (by simp) ?_
                    intro j hj
                    rcases List.mem_singleton.1 hj with rfl
                    refine wpOp_step rfl (fun K hK => ?_)
                    go_simp
                    refine hK _ _ ⟨fun h => (Bool.false_ne_true (h.symm.trans (by kernel_rfl))).elim, ?_⟩
                    clear hK K
                    try simp only [Act.put, List.setIfInBounds_toArray, List.set_cons_zero, List.set_cons_succ]
                    refine wpAnyE_done (by kernel_rfl) ?_ _
                    go_wp2_with fail
                    go_roundw
                    case rel => exact ⟨m6 + 1, _, by omega, rfl, by go_num, hf79⟩
                    case measure => simp [intOf]; omega
          · have hj1 : (m : Int) < (y.params.length : Int) := by omega
            go_wp2_with fail
            clear t1 c1 c2
            go_loopw [3, 8, 9, 10] (fun v i u1 u2 wr => ∃ (m : Nat) (z : Int), m ≤ y.alts.length ∧ v = .int .i64 z ∧ i = .int .i64 m ∧ Fr (fun _ => False) w1 wr) (fun v i u1 u2 wr => y.alts.length - (intOf i).toNat)
            case atStart => exact ⟨0, _, Nat.zero_le _, rfl, rfl, hf2⟩
            case round =>
              obtain ⟨i4, z4, hm4, rfl, rfl, hf4⟩ := hrel
              have t1 := (hT1.fr hf4 id).cell 1 rfl
              have c2 := hc wr hf4 2 _ rfl
              have hdone : (y.alts.length ≤ i4 ∨ (i4 < y.alts.length ∧ 2000 < z4)) ∨ (i4 < y.alts.length ∧ z4 ≤ 2000) := by omega
              rcases hdone with hex | ⟨hltX, hleX⟩
              · rcases hex with hex | ⟨hex, hex2⟩
                · obtain rfl : i4 = y.alts.length := by omega
                  go_wp2_with fail
                  go_roundw
                  case rel => exact ⟨q + 1, _, by omega, rfl, by go_num, hf4⟩
                  case measure => simp [intOf]; omega
                · have hj1 : (i4 : Int) < (y.alts.length : Int) := by omega
                  go_wp2_with fail
                  go_roundw
                  case rel => exact ⟨q + 1, _, by omega, rfl, by go_num, hf4⟩
                  case measure => simp [intOf]; omega
              · skip
                obtain ⟨lb, lo, lc, lcs, hlv, ⟨wv, rfl, hWs⟩, hlc⟩ := hAl.at hltX noAlt
                obtain ⟨wa, wc, rfl⟩ := hWs.form
                injection hlv with hl1 hl2 hl3
                subst hl1 hl3
                clear hl2
                have hwz : wsizes (y.alts.getD i4 noAlt).words ≤ 1099511627776 := by
                  have e1 := asizes_mem (getD_mem noAlt hltX)
                  have e2 := HA.out
                  have e3 : asize (y.alts.getD i4 noAlt) = 1 + wsizes (y.alts.getD i4 noAlt).words := rfl
                  omega
                generalize y.alts.getD i4 noAlt = y4 at *
                have hwl := wsizes_len y4.words
                have a0 : wr.cell? ⟨lb, lo + i4 * 6, none⟩ = some (.slice wa y4.words.length wc) := hlc wr hf4 0 _ rfl
                have a1 := hlc wr hf4 1 _ rfl
                have a2 := hlc wr hf4 2 _ rfl
                have a3 := hlc wr hf4 3 _ rfl
                have a4 := hlc wr hf4 4 _ rfl
                have a5 := hlc wr hf4 5 _ rfl
                have hf5 : Fr (fun _ => False) wr (wr.alloc (.cells #[.slice wa y4.words.length wc, .string y4.prec, .bool y4.has, .string y4.action, .int .i64 y4.wher, .int .i64 y4.at_] 47)) := (Fr.refl _ wr).alloc _
                have hB5 : Blk (wr.alloc (.cells #[.slice wa y4.words.length wc, .string y4.prec, .bool y4.has, .string y4.action, .int .i64 y4.wher, .int .i64 y4.at_] 47)) wr.heap.size #[.slice wa y4.words.length wc, .string y4.prec, .bool y4.has, .string y4.action, .int .i64 y4.wher, .int .i64 y4.at_] 47 := Blk.new wr _ _
                have b0 := hB5.cell 0 rfl
                have b1 := hB5.cell 1 rfl
                have b3 := hB5.cell 3 rfl
                have hi0 : (0 : Int) ≤ (i4 : Int) := by omega
                have hi1 : (i4 : Int) < (y.alts.length : Int) := by omega
                go_wp2_with fail
                clear a0 a1 a2 a3 a4 a5 b0 b1 b3 t1 c2
                have hf45 := hf4.trans hf5
                generalize wr.alloc (.cells #[.slice wa y4.words.length wc, .string y4.prec, .bool y4.has, .string y4.action, .int .i64 y4.wher, .int .i64 y4.at_] 47) = w5 at *
                obtain ⟨B5, hB5e⟩ : ∃ B5, B5 = wr.heap.size := ⟨_, rfl⟩
                rw [← hB5e] at hB5 ⊢
                clear hB5e hf5 hf4
                go_loopw [3, 10] (fun v i wr => ∃ (m : Nat) (z : Int), m ≤ y4.words.length ∧ v = .int .i64 z ∧ i = .int .i64 m ∧ Fr (fun _ => False) w5 wr) (fun v i wr => y4.words.length - (intOf i).toNat)
                case atStart => exact ⟨0, _, Nat.zero_le _, rfl, rfl, Fr.refl _ w5⟩
                case round =>
                  obtain ⟨m6, z6, hm6, rfl, rfl, hf6⟩ := hrel
                  have b0 := (hB5.fr hf6 id).cell 0 rfl
                  have hdone : (y4.words.length ≤ m6 ∨ (m6 < y4.words.length ∧ 2000 < z6)) ∨ (m6 < y4.words.length ∧ z6 ≤ 2000) := by omega
                  rcases hdone with hex | ⟨hltX, hleX⟩
                  · rcases hex with hex | ⟨hex, hex2⟩
                    · obtain rfl : m6 = y4.words.length := by omega
                      go_wp2_with fail
                      go_roundw
                      case rel => exact ⟨i4 + 1, _, by omega, rfl, by go_num, hf45.trans hf6⟩
                      case measure => simp [intOf]; omega
                    · have hj1 : (m6 : Int) < (y4.words.length : Int) := by omega
                      go_wp2_with fail
                      go_roundw
                      case rel => exact ⟨i4 + 1, _, by omega, rfl, by go_num, hf45.trans hf6⟩
                      case measure => simp [intOf]; omega
                  · skip
                    have hlt6 := hltX
                    obtain ⟨mb, mo, mw, mcs, hmv, hmE, hmc⟩ := hWs.at hlt6 noWord
                    have hmem := wsizes_mem (getD_mem noWord hlt6)
                    generalize y4.words.getD m6 noWord = yw at *
                    obtain ⟨n', args', at'⟩ := yw
                    obtain ⟨u, rfl, hu⟩ := RWord.row.1 hmE
                    obtain ⟨ua, uc, rfl⟩ := hu.form
                    injection hmv with hw1 hw2 hw3
                    subst hw1 hw3
                    clear hw2 hmE
                    have hsz : wsize (.mk n' args' at') ≤ 1099511627776 := by omega
                    have HS := Lib.hid hsz
                    clear hsz hmem
                    have hi0 : (0 : Int) ≤ (m6 : Int) := by omega
                    have hi1 : (m6 : Int) < (y4.words.length : Int) := by omega
                    go_upto_region 26 with fail
                    have hSS : ∀ w', Fr (fun _ => False) w5 w' → (fun w' : World => w'.cell? ⟨B5, 0, none⟩ = some (.slice (some ⟨mb, mo, none⟩) y4.words.length wc) ∧ w'.cell? ⟨mb, mo + m6 * 3, none⟩ = some (.string n') ∧ w'.cell? ⟨mb, mo + m6 * 3 + 1, none⟩ = some (.slice ua args'.length uc) ∧ w'.cell? ⟨mb, mo + m6 * 3 + 2, none⟩ = some (.int .i64 at')) w' := fun w' hf => ⟨(hB5.fr hf id).cell 0 rfl, hmc w' (hf45.trans hf) 0 _ rfl, hmc w' (hf45.trans hf) 1 _ rfl, hmc w' (hf45.trans hf) 2 _ rfl⟩
                    have hf7 : Fr (fun _ => False) w5 wr.drew := hf6.drew
                    have hS0 := hSS _ hf7
                    refine wp_region_E (S := (fun w' : World => w'.cell? ⟨B5, 0, none⟩ = some (.slice (some ⟨mb, mo, none⟩) y4.words.length wc) ∧ w'.cell? ⟨mb, mo + m6 * 3, none⟩ = some (.string n') ∧ w'.cell? ⟨mb, mo + m6 * 3 + 1, none⟩ = some (.slice ua args'.length uc) ∧ w'.cell? ⟨mb, mo + m6 * 3 + 2, none⟩ = some (.int .i64 at'))) (e := 15) (by kernel_rfl) ?_
                    clear b0 hf6
                    generalize wr.drew = w7 at *
                    refine wpAnyE_take (i := 0) (v := ?_) rfl (by kernel_rfl) (by kernel_rfl) (by kernel_rfl) (fun _ _ _ h => h) (by decide) rfl (by kernel_rfl) (by kernel_rfl) (Or.inl ⟨by rfl, ?_⟩) hS0 ?_
                    rotate_left
                    · intro wq hSw
                      obtain ⟨s0, s1, s2, s3⟩ := hSw
                      go_simp
                      try with_reducible rfl
                    try simp only [Act.put, List.setIfInBounds_toArray, List.set_cons_zero, List.set_cons_succ]
                    refine wpAnyE_take (i := 1) (v := ?_) rfl (by kernel_rfl) (by kernel_rfl) (by kernel_rfl) (fun _ _ _ h => h) (by decide) rfl (by kernel_rfl) (by kernel_rfl) (Or.inl ⟨by rfl, ?_⟩) hS0 ?_
                    rotate_left
                    · intro wq hSw
                      obtain ⟨s0, s1, s2, s3⟩ := hSw
                      go_simp
                      try with_reducible rfl
                    try simp only [Act.put, List.setIfInBounds_toArray, List.set_cons_zero, List.set_cons_succ]
                    refine wpAnyE_take (i := 2) (v := ?_) rfl (by kernel_rfl) (by kernel_rfl) (by kernel_rfl) (fun _ _ _ h => h) (by decide) rfl (by kernel_rfl) (by kernel_rfl) (Or.inl ⟨by rfl, ?_⟩) hS0 ?_
                    rotate_left
                    · intro wq hSw
                      obtain ⟨s0, s1, s2, s3⟩ := hSw
                      go_simp
                      try with_reducible rfl
                    try simp only [Act.put, List.setIfInBounds_toArray, List.set_cons_zero, List.set_cons_succ]
                    refine wpAnyE_take (i := 3) (v := ?_) rfl (by kernel_rfl) (by kernel_rfl) (by kernel_rfl) (fun _ _ _ h => h) (by decide) rfl (by kernel_rfl) (by kernel_rfl) (Or.inl ⟨by rfl, ?_⟩) hS0 ?_
                    rotate_left
                    · intro wq hSw
                      obtain ⟨s0, s1, s2, s3⟩ := hSw
                      go_simp
                      try with_reducible rfl
                    try simp only [Act.put, List.setIfInBounds_toArray, List.set_cons_zero, List.set_cons_succ]
                    refine wpAnyE_take (i := 4) (v := ?_) rfl (by kernel_rfl) (by kernel_rfl) (by kernel_rfl) (fun _ _ _ h => h) (by decide) rfl (by kernel_rfl) (by kernel_rfl) (Or.inl ⟨by rfl, ?_⟩) hS0 ?_
                    rotate_left
                    · intro wq hSw
                      obtain ⟨s0, s1, s2, s3⟩ := hSw
                      go_simp
                      try with_reducible rfl
                    try simp only [Act.put, List.setIfInBounds_toArray, List.set_cons_zero, List.set_cons_succ]
                    refine wpAnyE_take (i := 5) (v := ?_) rfl (by kernel_rfl) (by kernel_rfl) (by kernel_rfl) (fun _ _ _ h => h) (by decide) rfl (by kernel_rfl) (by kernel_rfl) (Or.inl ⟨by rfl, ?_⟩) hS0 ?_
                    rotate_left
                    · intro wq hSw
                      obtain ⟨s0, s1, s2, s3⟩ := hSw
                      go_simp
                      try with_reducible rfl
                    try simp only [Act.put, List.setIfInBounds_toArray, List.set_cons_zero, List.set_cons_succ]
                    refine wpAnyE_take (i := 8) (v := ?_) rfl (by kernel_rfl) (by kernel_rfl) (by kernel_rfl) (fun _ _ _ h => h) (by decide) rfl (by kernel_rfl) (by kernel_rfl) (Or.inl ⟨by rfl, ?_⟩) hS0 ?_
                    rotate_left
                    · intro wq hSw
                      obtain ⟨s0, s1, s2, s3⟩ := hSw
                      go_simp
                      try with_reducible rfl
                    try simp only [Act.put, List.setIfInBounds_toArray, List.set_cons_zero, List.set_cons_succ]
                    refine wpAnyE_take (i := 9) (v := ?_) rfl (by kernel_rfl) (by kernel_rfl) (by kernel_rfl) (fun _ _ _ h => h) (by decide) rfl (by kernel_rfl) (by kernel_rfl) (Or.inl ⟨by rfl, ?_⟩) hS0 ?_
                    rotate_left
                    · intro wq hSw
                      obtain ⟨s0, s1, s2, s3⟩ := hSw
                      go_simp
                      try with_reducible rfl
                    try simp only [Act.put, List.setIfInBounds_toArray, List.set_cons_zero, List.set_cons_succ]
                    refine wpAnyE_take (i := 10) (v := ?_) rfl (by kernel_rfl) (by kernel_rfl) (by kernel_rfl) (fun _ _ _ h => h) (by decide) rfl (by kernel_rfl) (by kernel_rfl) (Or.inl ⟨by rfl, ?_⟩) hS0 ?_
                    rotate_left
                    · intro wq hSw
                      obtain ⟨s0, s1, s2, s3⟩ := hSw
                      go_simp
                      try with_reducible rfl
                    try simp only [Act.put, List.setIfInBounds_toArray, List.set_cons_zero, List.set_cons_succ]
                    refine wpAnyE_take (i := 11) (v := ?_) rfl (by kernel_rfl) (by kernel_rfl) (by kernel_rfl) (fun _ _ _ h => h) (by decide) rfl (by kernel_rfl) (by kernel_rfl) (Or.inl ⟨by rfl, ?_⟩) hS0 ?_
                    rotate_left
                    · intro wq hSw
                      obtain ⟨s0, s1, s2, s3⟩ := hSw
                      go_simp
                      try with_reducible rfl
                    try simp only [Act.put, List.setIfInBounds_toArray, List.set_cons_zero, List.set_cons_succ]
                    refine wpAnyE_take (i := 12) (v := ?_) rfl (by kernel_rfl) (by kernel_rfl) (by kernel_rfl) (fun _ _ _ h => h) (by decide) rfl (by kernel_rfl) (by kernel_rfl) (Or.inl ⟨by rfl, ?_⟩) hS0 ?_
                    rotate_left
                    · intro wq hSw
                      obtain ⟨s0, s1, s2, s3⟩ := hSw
                      go_simp
                      try with_reducible rfl
                    try simp only [Act.put, List.setIfInBounds_toArray, List.set_cons_zero, List.set_cons_succ]
                    refine wpAnyE_all (rs := [6]) (by kernel_rfl) (by simp) ?_
                    intro j hj
                    rcases List.mem_singleton.1 hj with rfl
                    refine wpOp_step rfl (fun K hK => ?_)
                    go_simp
                    refine (wordsOf_any _ (Nat.lt_succ_self _) HS.out (any_row' elemWord hu (hf45.trans hf7))).mono ?_
                    rintro e w8 ⟨⟨z8, rfl⟩, hf8⟩
                    have hf78 := hf7.trans hf8
                    have hS8 := hSS _ hf78
                    refine hK _ _ ⟨fun _ => hS8, ?_⟩
                    clear hK K
                    try simp only [Act.put, List.setIfInBounds_toArray, List.set_cons_zero, List.set_cons_succ]
                    refine wpAnyE_take (i := 7) (v := ?_) rfl (by kernel_rfl) (by kernel_rfl) (by kernel_rfl) (fun _ _ _ h => h) (by decide) rfl (by kernel_rfl) (by kernel_rfl) (Or.inl ⟨by rfl, ?_⟩) hS8 ?_
                    rotate_left
                    · intro wq hSw
                      obtain ⟨s0, s1, s2, s3⟩ := hSw
                      go_simp
                      try with_reducible rfl
                    try simp only [Act.put, List.setIfInBounds_toArray, List.set_cons_zero, List.set_cons_succ]
                    refine wpAnyE_all (rs := [13]) (by kernel_rfl) (by simp) ?_
                    intro j hj
                    rcases List.mem_singleton.1 hj with rfl
                    refine wpOp_step rfl (fun K hK => ?_)
                    go_simp
                    refine (nameCount_any _ (Nat.lt_succ_self _) HS.out (any_row' elemWord hu (hf45.trans hf78))).mono ?_
                    rintro e w9 ⟨⟨z9, rfl⟩, hf9⟩
                    have hf79 := hf78.trans hf9
                    replace hS8 := hSS _ hf79
                    refine hK _ _ ⟨fun _ => hS8, ?_⟩
                    clear hK K
                    try simp only [Act.put, List.setIfInBounds_toArray, List.set_cons_zero, List.set_cons_succ]
                    refine wpAnyE_all (rs := [14]) (by kernel_rfl) (by simp) ?_
                    intro j hj
                    rcases List.mem_singleton.1 hj with rfl
                    refine wpOp_step rfl (fun K hK => ?_)
                    go_simp
                    refine hK _ _ ⟨fun _ => hS8, ?_⟩
                    clear hK K
                    try simp only [Act.put, List.setIfInBounds_toArray, List.set_cons_zero, List.set_cons_succ]
                    refine wpAnyE_all (rs := [15]) (by kernel_rfl) (by simp) ?_
                    intro j hj
                    rcases List.mem_singleton.1 hj with rfl
                    refine wpOp_step rfl (fun K hK => ?_)
                    go_simp
                    refine hK _ _ ⟨fun h => (Bool.false_ne_true (h.symm.trans (by kernel_rfl))).elim, ?_⟩
                    clear hK K
                    try simp only [Act.put, List.setIfInBounds_toArray, List.set_cons_zero, List.set_cons_succ]
                    refine wpAnyE_done (by kernel_rfl) ?_ _
                    go_wp2_with fail
                    go_roundw
                    case rel => exact ⟨m6 + 1, _, by omega, rfl, by go_num, hf79⟩
                    case measure => simp [intOf]; omega
        · obtain ⟨nb, no, nvc, ncs, hnv, hnE, hnc⟩ := hNm.at hlt2 ByteArray.empty
          obtain rfl : ncs = [.string _] := hnE
          injection hnv with hn1 hn2 hn3
          subst hn1 hn3
          clear hn2
          have s0 : wr.cell? ⟨nb, no + m, none⟩ = some (.string (y.params.getD m ByteArray.empty)) := by
            have := hnc wr hf2 0 _ rfl
            rw [Nat.mul_one] at this
            exact this
          generalize y.params.getD m ByteArray.empty = st at *
          have hj0 : (0 : Int) ≤ (m : Int) := by omega
          have hj1 : (m : Int) < (y.params.length : Int) := by omega
          go_wp2_with fail
          go_roundw
          case rel => exact ⟨m + 1, _, by omega, rfl, by go_num, hf2⟩
          case measure => simp [intOf]; omega
set_option maxRecDepth 100000 in
set_option maxHeartbeats 8000000 in
theorem great_any {w : World} {x : GText} {a b : Option Addr} {c d : Nat} (h : RT w (.slice a x.decls.length c) (.slice b x.rules.length d) x) (hb : (textOut x).length ≤ 1099511627776) :
    Calls Try.prog 6 #[.agg #[.slice a x.decls.length c, .slice b x.rules.length d]] w (fun e w' => (∃ z, e = .returned (.bool z)) ∧ Fr (fun _ => False) w w') := by
  have hsz := sizes_out x
  have hld : x.decls.length ≤ 1099511627776 := Nat.le_trans (sum_len (f := dsize) (fun x => by unfold dsize; omega) x.decls) (Nat.le_trans hsz.1 hb)
  have hlr : x.rules.length ≤ 1099511627776 := Nat.le_trans (sum_len (f := rsize) (fun x => by unfold rsize; omega) x.rules) (Nat.le_trans hsz.2 hb)
  have HD := Lib.hid (Nat.le_trans hsz.1 hb)
  have HR := Lib.hid (Nat.le_trans hsz.2 hb)
  clear hsz hb
  have hf1 : Fr (fun _ => False) w (w.alloc (.cells #[.slice a x.decls.length c, .slice b x.rules.length d] 25)) := (Fr.refl _ w).alloc _
  have hT1 : Blk (w.alloc (.cells #[.slice a x.decls.length c, .slice b x.rules.length d] 25)) w.heap.size #[.slice a x.decls.length c, .slice b x.rules.length d] 25 := Blk.new w _ _
  have h1 := h.fr hf1
  have t0 := hT1.cell 0 rfl
  have t1 := hT1.cell 1 rfl
  go_enter Try.func6, Try.ntmps6
  go_wp2_with fail
  clear t0 t1 h
  generalize w.alloc (.cells #[.slice a x.decls.length c, .slice b x.rules.length d] 25) = w1 at *
  obtain ⟨T, hT⟩ : ∃ T, T = w.heap.size := ⟨_, rfl⟩
  rw [← hT] at hT1 ⊢
  clear hT
  go_loopw [3, 4, 5] (fun v i u wr => ∃ (k : Nat) (z : Int), k ≤ x.decls.length ∧ v = .int .i64 z ∧ i = .int .i64 k ∧ Fr (fun _ => False) w1 wr) (fun v i u wr => x.decls.length - (intOf i).toNat)
  case atStart => exact ⟨0, _, Nat.zero_le _, rfl, rfl, Fr.refl _ w1⟩
  case round =>
    obtain ⟨k, z, hk, rfl, rfl, hf⟩ := hrel
    have t0 := (hT1.fr hf id).cell 0 rfl
    have hdone : (x.decls.length ≤ k ∨ (k < x.decls.length ∧ 2000 < z)) ∨ (k < x.decls.length ∧ z ≤ 2000) := by omega
    rcases hdone with hex | ⟨hlt, hle⟩
    · rcases hex with hex | ⟨hex, hex2⟩
      · obtain rfl : k = x.decls.length := by omega
        go_wp2_with fail
        exact great_tail hf1 hT1 h1 hlr HR hf (by assumption)
      · have hj1 : (k : Int) < (x.decls.length : Int) := by omega
        go_wp2_with fail
        exact great_tail hf1 hT1 h1 hlr HR hf (by assumption)
    · obtain ⟨kb, off, vc, cs, hv, ⟨nv, rfl, hNm⟩, hc⟩ := h1.1.at hlt noDecl
      obtain ⟨na, nc, rfl⟩ := hNm.form
      injection hv with hv1 hv2 hv3
      subst hv1 hv3
      clear hv2
      have hln : (x.decls.getD k noDecl).names.length ≤ 1099511627776 := by
        have e1 := sum_mem (f := dsize) (getD_mem noDecl hlt)
        have e2 := HD.out
        have e3 : dsize (x.decls.getD k noDecl) = 1 + (x.decls.getD k noDecl).names.length := rfl
        unfold dsizes at e2
        omega
      generalize x.decls.getD k noDecl = y at *
      have c0 : wr.cell? ⟨kb, off + k * 4, none⟩ = some (.string y.kind) := hc wr hf 0 _ rfl
      have c1 := hc wr hf 1 _ rfl
      have c2 := hc wr hf 2 _ rfl
      have hi0 : (0 : Int) ≤ (k : Int) := by omega
      have hi1 : (k : Int) < (x.decls.length : Int) := by omega
      go_upto_region 5 with fail
      go_quiet (fail)
      go_wp2_with fail
      clear c0 c1 c2 t0
      go_loopw [3, 5] (fun v i wr => ∃ (m : Nat) (z : Int), m ≤ y.names.length ∧ v = .int .i64 z ∧ i = .int .i64 m ∧ Fr (fun _ => False) w1 wr) (fun v i wr => y.names.length - (intOf i).toNat)
      case atStart => exact ⟨0, _, Nat.zero_le _, rfl, rfl, hf.drewN _⟩
      case round =>
        obtain ⟨m, z2, hm2, rfl, rfl, hf2⟩ := hrel
        have t0 := (hT1.fr hf2 id).cell 0 rfl
        have c2 := hc wr hf2 2 _ rfl
        have hdone : (y.names.length ≤ m ∨ (m < y.names.length ∧ 2000 < z2)) ∨ (m < y.names.length ∧ z2 ≤ 2000) := by omega
        rcases hdone with hex | ⟨hlt2, hle2⟩
        · rcases hex with hex | ⟨hex, hex2⟩
          · obtain rfl : m = y.names.length := by omega
            go_wp2_with fail
            go_roundw
            case rel => exact ⟨k + 1, _, by omega, rfl, by go_num, hf2⟩
            case measure => simp [intOf]; omega
          · have hj1 : (m : Int) < (y.names.length : Int) := by omega
            go_wp2_with fail
            go_roundw
            case rel => exact ⟨k + 1, _, by omega, rfl, by go_num, hf2⟩
            case measure => simp [intOf]; omega
        · obtain ⟨nb, no, nvc, ncs, hnv, hnE, hnc⟩ := hNm.at hlt2 ByteArray.empty
          obtain rfl : ncs = [.string _] := hnE
          injection hnv with hn1 hn2 hn3
          subst hn1 hn3
          clear hn2
          have s0 : wr.cell? ⟨nb, no + m, none⟩ = some (.string (y.names.getD m ByteArray.empty)) := by
            have := hnc wr hf2 0 _ rfl
            rw [Nat.mul_one] at this
            exact this
          generalize y.names.getD m ByteArray.empty = st at *
          have hj0 : (0 : Int) ≤ (m : Int) := by omega
          have hj1 : (m : Int) < (y.names.length : Int) := by omega
          go_wp2_with fail
          go_roundw
          case rel => exact ⟨m + 1, _, by omega, rfl, by go_num, hf2⟩
          case measure => simp [intOf]; omega
end Go.Proofs.Ytejpmdlokmlmeaa
/- What is written of a text is read as the same, and written alike: the walk of the law. Conditions: the library's variable holds a number; at most 2^40 bytes. -/
namespace Go.Proofs.Ytejpmdlokmlmeaa
open Go.RowKit

set_option maxRecDepth 100000 in
set_option maxHeartbeats 8000000 in
theorem writeBack_any {w : World} {x : GText} {a b : Option Addr} {c d : Nat} (hm : HM w) (h : RT w (.slice a x.decls.length c) (.slice b x.rules.length d) x) (hb : (textOut x).length ≤ 1099511627776) :
    Calls Try.prog 3 #[.agg #[.slice a x.decls.length c, .slice b x.rules.length d]] w fun e w' => e = .returned (.bool true) ∧ Fr (fun _ => False) w w' := by
  have HB := Lib.hid hb
  clear hb
  have hf1 : Fr (fun _ => False) w (w.alloc (.cells #[.slice a x.decls.length c, .slice b x.rules.length d] 25)) := (Fr.refl _ w).alloc _
  have hT1 : Blk (w.alloc (.cells #[.slice a x.decls.length c, .slice b x.rules.length d] 25)) w.heap.size #[.slice a x.decls.length c, .slice b x.rules.length d] 25 := Blk.new w _ _
  have h1 := h.fr hf1
  have hm1 := hm.fr hf1 id
  go_enter Try.func3, Try.ntmps3
  go_wp2_with fail
  clear h hm
  generalize w.alloc (.cells #[.slice a x.decls.length c, .slice b x.rules.length d] 25) = w1 at *
  obtain ⟨T, hT⟩ : ∃ T, T = w.heap.size := ⟨_, rfl⟩
  rw [← hT] at hT1 ⊢
  clear hT
  refine (awake_any hm1).mono ?_
  rintro e w2 ⟨rfl, hf2⟩
  have h2 := h1.fr hf2
  have hm2 := hm1.fr hf2 id
  have hT2 := hT1.fr hf2 id
  have t0 := hT2.cell 0 rfl
  have t1 := hT2.cell 1 rfl
  have hf02 := hf1.trans hf2
  clear h1 hm1 hT1 hf1 hf2
  go_wp2_with fail
  refine (great_any h2 HB.out).mono ?_
  rintro e w3 ⟨⟨z, rfl⟩, hf3⟩
  have h3 := h2.fr hf3
  have hm3 := hm2.fr hf3 id
  have hT3 := hT2.fr hf3 id
  have hf03 := hf02.trans hf3
  clear h2 hm2 hT2 hf02 hf3 t0 t1
  cases z
  · have t0 := hT3.cell 0 rfl
    have t1 := hT3.cell 1 rfl
    go_wp2_with fail
    clear t0 t1
    refine (write_any hm3 h3.1 h3.2 HB.out).mono ?_
    rintro e w4 ⟨hf4, hyes, hno⟩
    have h4 := h3.fr hf4
    have hm4 := hm3.fr hf4 id
    have hT4 := hT3.fr hf4 id
    have hf04 := hf03.trans hf4
    clear h3 hm3 hT3 hf03 hf4
    cases hok : textOk x
    · obtain rfl := hno hok
      clear hyes hno hok
      go_wp2_with fail
      exact bodyPost_ret (v := .bool true) (by simp [results, Try.results3, go_sem]) rfl ⟨rfl, hf04⟩
    · obtain rfl := hyes hok
      clear hyes hno
      obtain ⟨o, ho⟩ : ∃ o : ByteArray, o = ⟨(textOut x).toArray⟩ := ⟨_, rfl⟩
      rw [← ho]
      have hosz : o.size = (textOut x).length := by
        have := congrArg List.length (ba_list (textOut x))
        rw [show ba (textOut x) = o from ho.symm] at this
        simpa using this
      have HO := Lib.hid ho
      have HZ := Lib.hid hosz
      have HK := Lib.hid hok
      clear ho hosz hok
      go_wp2_with fail
      refine (read_any hm4 o).mono ?_
      rintro e w5 ⟨hf5, h5⟩
      have hx5 := h4.fr hf5
      have hT5 := hT4.fr hf5 id
      have hm5 := hm4.fr hf5 id
      have hf05 := hf04.trans hf5
      clear h4 hT4 hf04 hf5 hm4
      by_cases hbig : (65536 : Int) < (o.size : Int)
      · have hE : ∃ n1, e = .returned (.tuple #[.agg #[.slice none 0 0, .slice none 0 0], .agg #[.int .i64 3, .int .i64 n1]]) := by
          have hl := read_long (s := o) (by omega)
          rcases h5 with ⟨n, n1, hr, -, rfl⟩ | ⟨y, ya, yc, yb, yd, hr, -, -⟩
          · rw [hl] at hr
            injection hr with hr
            injection hr with e1 e2
            subst e1
            exact ⟨_, rfl⟩
          · rw [hl] at hr; cases hr
        clear h5
        obtain ⟨n1, rfl⟩ := hE
        have hf6 : Fr (fun _ => False) w5 ((w5.alloc (.cells #[.slice none 0 0, .slice none 0 0] 25)).alloc (.cells #[.int .i64 3, .int .i64 n1] 32)) := ((Fr.refl _ w5).alloc _).alloc _
        have hb3 : Blk ((w5.alloc (.cells #[.slice none 0 0, .slice none 0 0] 25)).alloc (.cells #[.int .i64 3, .int .i64 n1] 32)) (w5.heap.size + 1) #[.int .i64 3, .int .i64 n1] 32 := (blk_next (w := w5.alloc (.cells #[.slice none 0 0, .slice none 0 0] 25)) _ _ (by simp)).1
        have b0 := hb3.cell 0 rfl
        go_wp2_with fail
        exact bodyPost_ret (v := .bool true) (by simp [results, Try.results3, go_sem]) rfl ⟨rfl, hf05.trans hf6⟩
      · have ho := HO.out
        have hosz := HZ.out
        obtain ⟨y, hy, hpl⟩ := read_written HK.out (by omega)
        have ho' : readS o = .ok y := by rw [ho]; exact hy
        rcases h5 with ⟨n, n1, hr, -, -⟩ | ⟨y', ya, yc, yb, yd, hr, rfl, hy5⟩
        · rw [ho'] at hr; cases hr
        · rw [ho'] at hr
          injection hr with hr
          subst hr
          have HY := Lib.hid (show textOut y = textOut x ∧ textOk y = true from ⟨(same_out hpl).1, (same_out hpl).2.trans HK.out⟩)
          have HP := Lib.hid hpl
          clear ho' hy ho hosz hpl
          have hsm : ¬ (65536 : Int) < (o.size : Int) := hbig
          clear hbig
          have hb6 : Blk ((w5.alloc (.cells #[.slice ya y.decls.length yc, .slice yb y.rules.length yd] 25)).alloc (.cells #[.int .i64 0, .int .i64 0] 32)) w5.heap.size #[.slice ya y.decls.length yc, .slice yb y.rules.length yd] 25 := (Blk.new w5 _ _).alloc _
          have hc6 : Blk ((w5.alloc (.cells #[.slice ya y.decls.length yc, .slice yb y.rules.length yd] 25)).alloc (.cells #[.int .i64 0, .int .i64 0] 32)) (w5.heap.size + 1) #[.int .i64 0, .int .i64 0] 32 := (blk_next (w := w5.alloc (.cells #[.slice ya y.decls.length yc, .slice yb y.rules.length yd] 25)) _ _ (by simp)).1
          have hf6 : Fr (fun _ => False) w5 ((w5.alloc (.cells #[.slice ya y.decls.length yc, .slice yb y.rules.length yd] 25)).alloc (.cells #[.int .i64 0, .int .i64 0] 32)) := ((Fr.refl _ w5).alloc _).alloc _
          have hT6 := hT5.fr hf6 id
          have hx6 := hx5.fr hf6
          have hy6 := hy5.fr hf6
          have hm6 := hm5.fr hf6 id
          have hf06 := hf05.trans hf6
          have b0 := hb6.cell 0 rfl
          have b1 := hb6.cell 1 rfl
          go_wp2_with fail
          clear b0 b1 hx5 hy5 hT5 hm5 hf05 hf6
          generalize (w5.alloc (.cells #[.slice ya y.decls.length yc, .slice yb y.rules.length yd] 25)).alloc (.cells #[.int .i64 0, .int .i64 0] 32) = w6 at *
          obtain ⟨V, hV⟩ : ∃ V, V = w5.heap.size := ⟨_, rfl⟩
          rw [← hV] at hb6 hc6 ⊢
          clear hV
          refine (write_any hm6 hy6.1 hy6.2 (by rw [HY.out.1]; exact HB.out)).mono ?_
          rintro e w7 ⟨hf7, hyes, -⟩
          obtain rfl := hyes HY.out.2
          clear hyes
          rw [HY.out.1, ← HO.out]
          have hT7 := hT6.fr hf7 id
          have hx7 := hx6.fr hf7
          have hy7 := hy6.fr hf7
          have hb7 := hb6.fr hf7 id
          have hc7 := hc6.fr hf7 id
          have hf07 := hf06.trans hf7
          clear hT6 hx6 hy6 hb6 hc6 hf06 hf7 hm6
          go_upto_region 12 with fail
          have hSS : ∀ w', Fr (fun _ => False) w7 w' → (fun w' : World => w'.cell? ⟨T, 0, none⟩ = some (.slice a x.decls.length c) ∧ w'.cell? ⟨T, 1, none⟩ = some (.slice b x.rules.length d) ∧ w'.cell? ⟨V, 0, none⟩ = some (.slice ya y.decls.length yc) ∧ w'.cell? ⟨V, 1, none⟩ = some (.slice yb y.rules.length yd) ∧ w'.cell? ⟨V + 1, 0, none⟩ = some (.int .i64 0)) w' := fun w' hf => ⟨(hT7.fr hf id).cell 0 rfl, (hT7.fr hf id).cell 1 rfl, (hb7.fr hf id).cell 0 rfl, (hb7.fr hf id).cell 1 rfl, (hc7.fr hf id).cell 0 rfl⟩
          have hfd : Fr (fun _ => False) w7 w7.drew := (Fr.refl _ w7).drew
          have hS0 := hSS _ hfd
          have c4 := hS0.2.2.2.2
          refine wp_region_E (S := (fun w' : World => w'.cell? ⟨T, 0, none⟩ = some (.slice a x.decls.length c) ∧ w'.cell? ⟨T, 1, none⟩ = some (.slice b x.rules.length d) ∧ w'.cell? ⟨V, 0, none⟩ = some (.slice ya y.decls.length yc) ∧ w'.cell? ⟨V, 1, none⟩ = some (.slice yb y.rules.length yd) ∧ w'.cell? ⟨V + 1, 0, none⟩ = some (.int .i64 0))) (e := 19) (by kernel_rfl) ?_
          have hx8 := hx7.fr hfd
          have hy8 := hy7.fr hfd
          have hf08 := hf07.trans hfd
          clear hx7 hy7 hf07
          generalize w7.drew = w8 at *
          refine wpAnyE_all (rs := [0]) (by kernel_rfl) (by simp) ?_
          intro j hj
          rcases List.mem_singleton.1 hj with rfl
          refine wpOp_step rfl (fun K hK => ?_)
          go_simp
          refine hK _ _ ⟨fun _ => hS0, ?_⟩
          clear hK K
          try simp only [Act.put, List.setIfInBounds_toArray, List.set_cons_zero, List.set_cons_succ]
          refine wpAnyE_all (rs := [1]) (by kernel_rfl) (by simp) ?_
          intro j hj
          rcases List.mem_singleton.1 hj with rfl
          refine wpOp_step rfl (fun K hK => ?_)
          go_simp
          refine hK _ _ ⟨fun _ => hS0, ?_⟩
          clear hK K
          try simp only [Act.put, List.setIfInBounds_toArray, List.set_cons_zero, List.set_cons_succ]
          refine wpAnyE_all (rs := [2]) (by kernel_rfl) (by simp) ?_
          intro j hj
          rcases List.mem_singleton.1 hj with rfl
          refine wpOp_step rfl (fun K hK => ?_)
          go_simp
          refine hK _ _ ⟨fun _ => hS0, ?_⟩
          clear hK K
          try simp only [Act.put, List.setIfInBounds_toArray, List.set_cons_zero, List.set_cons_succ]
          refine wpAnyE_all (rs := [3]) (by kernel_rfl) (by simp) ?_
          intro j hj
          rcases List.mem_singleton.1 hj with rfl
          refine wpOp_step rfl (fun K hK => ?_)
          go_simp
          refine hK _ _ ⟨fun _ => hS0, ?_⟩
          clear hK K
          try simp only [Act.put, List.setIfInBounds_toArray, List.set_cons_zero, List.set_cons_succ]
          refine wpAnyE_all (rs := [4]) (by kernel_rfl) (by simp) ?_
          intro j hj
          rcases List.mem_singleton.1 hj with rfl
          refine wpOp_step rfl (fun K hK => ?_)
          go_simp
          refine hK _ _ ⟨fun _ => hS0, ?_⟩
          clear hK K
          try simp only [Act.put, List.setIfInBounds_toArray, List.set_cons_zero, List.set_cons_succ]
          refine wpAnyE_all (rs := [5]) (by kernel_rfl) (by simp) ?_
          intro j hj
          rcases List.mem_singleton.1 hj with rfl
          refine wpOp_step rfl (fun K hK => ?_)
          go_simp
          refine hK _ _ ⟨fun _ => hS0, ?_⟩
          clear hK K
          try simp only [Act.put, List.setIfInBounds_toArray, List.set_cons_zero, List.set_cons_succ]
          refine wpAnyE_all (rs := [6]) (by kernel_rfl) (by simp) ?_
          intro j hj
          rcases List.mem_singleton.1 hj with rfl
          refine wpOp_step rfl (fun K hK => ?_)
          go_simp
          refine hK _ _ ⟨fun _ => hS0, ?_⟩
          clear hK K
          try simp only [Act.put, List.setIfInBounds_toArray, List.set_cons_zero, List.set_cons_succ]
          refine wpAnyE_all (rs := [7]) (by kernel_rfl) (by simp) ?_
          intro j hj
          rcases List.mem_singleton.1 hj with rfl
          refine wpOp_step rfl (fun K hK => ?_)
          go_simp
          refine hK _ _ ⟨fun _ => hS0, ?_⟩
          clear hK K
          try simp only [Act.put, List.setIfInBounds_toArray, List.set_cons_zero, List.set_cons_succ]
          refine wpAnyE_take (i := 8) (v := ?_) rfl (by kernel_rfl) (by kernel_rfl) (by kernel_rfl) (fun _ _ _ h => h) (by decide) rfl (by kernel_rfl) (by kernel_rfl) (Or.inl ⟨by rfl, ?_⟩) hS0 ?_
          rotate_left
          · intro wq hSw
            obtain ⟨s0, s1, s2, s3, s4⟩ := hSw
            go_simp
            try with_reducible rfl
          try simp only [Act.put, List.setIfInBounds_toArray, List.set_cons_zero, List.set_cons_succ]
          refine wpAnyE_take (i := 9) (v := ?_) rfl (by kernel_rfl) (by kernel_rfl) (by kernel_rfl) (fun _ _ _ h => h) (by decide) rfl (by kernel_rfl) (by kernel_rfl) (Or.inl ⟨by rfl, ?_⟩) hS0 ?_
          rotate_left
          · intro wq hSw
            obtain ⟨s0, s1, s2, s3, s4⟩ := hSw
            go_simp
            try with_reducible rfl
          try simp only [Act.put, List.setIfInBounds_toArray, List.set_cons_zero, List.set_cons_succ]
          refine wpAnyE_all (rs := [10]) (by kernel_rfl) (by simp) ?_
          intro j hj
          rcases List.mem_singleton.1 hj with rfl
          refine wpOp_step rfl (fun K hK => ?_)
          go_simp
          refine hK _ _ ⟨fun _ => hS0, ?_⟩
          clear hK K
          try simp only [Act.put, List.setIfInBounds_toArray, List.set_cons_zero, List.set_cons_succ]
          refine wpAnyE_all (rs := [11]) (by kernel_rfl) (by simp) ?_
          intro j hj
          rcases List.mem_singleton.1 hj with rfl
          refine wpOp_step rfl (fun K hK => ?_)
          go_simp
          refine hK _ _ ⟨fun _ => hS0, ?_⟩
          clear hK K
          try simp only [Act.put, List.setIfInBounds_toArray, List.set_cons_zero, List.set_cons_succ]
          refine wpAnyE_all (rs := [12]) (by kernel_rfl) (by simp) ?_
          intro j hj
          rcases List.mem_singleton.1 hj with rfl
          refine wpOp_step rfl (fun K hK => ?_)
          go_simp
          refine hK _ _ ⟨fun _ => hS0, ?_⟩
          clear hK K
          try simp only [Act.put, List.setIfInBounds_toArray, List.set_cons_zero, List.set_cons_succ]
          refine wpAnyE_take (i := 13) (v := ?_) rfl (by kernel_rfl) (by kernel_rfl) (by kernel_rfl) (fun _ _ _ h => h) (by decide) rfl (by kernel_rfl) (by kernel_rfl) (Or.inl ⟨by rfl, ?_⟩) hS0 ?_
          rotate_left
          · intro wq hSw
            obtain ⟨s0, s1, s2, s3, s4⟩ := hSw
            go_simp
            try with_reducible rfl
          try simp only [Act.put, List.setIfInBounds_toArray, List.set_cons_zero, List.set_cons_succ]
          refine wpAnyE_take (i := 15) (v := ?_) rfl (by kernel_rfl) (by kernel_rfl) (by kernel_rfl) (fun _ _ _ h => h) (by decide) rfl (by kernel_rfl) (by kernel_rfl) (Or.inl ⟨by rfl, ?_⟩) hS0 ?_
          rotate_left
          · intro wq hSw
            obtain ⟨s0, s1, s2, s3, s4⟩ := hSw
            go_simp
            try with_reducible rfl
          try simp only [Act.put, List.setIfInBounds_toArray, List.set_cons_zero, List.set_cons_succ]
          clear c4
          refine wpAnyE_all (rs := [14]) (by kernel_rfl) (by simp) ?_
          intro j hj
          rcases List.mem_singleton.1 hj with rfl
          refine wpOp_step rfl (fun K hK => ?_)
          go_simp
          refine (copy_plain hx8 HB.out).mono ?_
          rintro e w9 ⟨a1, a2, a3, a4, rfl, hp9, hf9⟩
          have hS9 := hSS _ (hfd.trans hf9)
          refine hK _ _ ⟨fun _ => hS9, ?_⟩
          clear hK K
          try simp only [Act.put, List.setIfInBounds_toArray, List.set_cons_zero, List.set_cons_succ]
          refine wpAnyE_all (rs := [16]) (by kernel_rfl) (by simp) ?_
          intro j hj
          rcases List.mem_singleton.1 hj with rfl
          refine wpOp_step rfl (fun K hK => ?_)
          go_simp
          refine (copy_plain (hy8.fr hf9) (by rw [HY.out.1]; exact HB.out)).mono ?_
          rintro e w10 ⟨b1, b2, b3, b4, rfl, hq10, hf10⟩
          have hS10 := hSS _ ((hfd.trans hf9).trans hf10)
          rw [HP.out] at hq10 ⊢
          refine hK _ _ ⟨fun _ => hS10, ?_⟩
          clear hK K
          try simp only [Act.put, List.setIfInBounds_toArray, List.set_cons_zero, List.set_cons_succ]
          refine wpAnyE_all (rs := [17]) (by kernel_rfl) (by simp) ?_
          intro j hj
          rcases List.mem_singleton.1 hj with rfl
          refine wpOp_step rfl (fun K hK => ?_)
          go_simp
          refine (same_plain (hp9.fr hf10) hq10 (by rw [(plainG_out x).1]; exact HB.out)).mono ?_
          rintro e w11 ⟨rfl, hf11⟩
          have hS11 := hSS _ (((hfd.trans hf9).trans hf10).trans hf11)
          refine hK _ _ ⟨fun _ => hS11, ?_⟩
          clear hK K
          try simp only [Act.put, List.setIfInBounds_toArray, List.set_cons_zero, List.set_cons_succ]
          refine wpAnyE_all (rs := [18]) (by kernel_rfl) (by simp) ?_
          intro j hj
          rcases List.mem_singleton.1 hj with rfl
          refine wpOp_step rfl (fun K hK => ?_)
          go_simp
          refine hK _ _ ⟨fun _ => hS11, ?_⟩
          clear hK K
          try simp only [Act.put, List.setIfInBounds_toArray, List.set_cons_zero, List.set_cons_succ]
          refine wpAnyE_all (rs := [19]) (by kernel_rfl) (by simp) ?_
          intro j hj
          rcases List.mem_singleton.1 hj with rfl
          refine wpOp_step rfl (fun K hK => ?_)
          go_simp
          refine hK _ _ ⟨fun h => (Bool.false_ne_true (h.symm.trans (by kernel_rfl))).elim, ?_⟩
          clear hK K
          try simp only [Act.put, List.setIfInBounds_toArray, List.set_cons_zero, List.set_cons_succ]
          refine wpAnyE_done (by kernel_rfl) ?_ _
          go_wp2_with fail
          exact bodyPost_ret (v := .bool true) (by simp [results, Try.results3, go_sem]) rfl ⟨rfl, ((hf08.trans hf9).trans hf10).trans hf11⟩
  · go_wp2_with fail
    exact bodyPost_ret (v := .bool true) (by simp [results, Try.results3, go_sem]) rfl ⟨rfl, hf03⟩
end Go.Proofs.Ytejpmdlokmlmeaa
/- A text that came in is opened: its rows, and how long it is as it is written. No condition. -/
namespace Go.Proofs.Ytejpmdlokmlmeaa
open Go.RowKit

section
variable {H : Type} {enc : TypeId × Value → H} {w : World}
noncomputable abbrev trodA (enc : TypeId × Value → H) (w : World) := DataW.trod enc Try.prog w 0 (fun _ => true) true
theorem bulkAll_sum (l : List (DataW H)) : Rows.uptoBulkAll l = (l.map Rows.uptoBulk).sum := by
  induction l with
  | nil => simp [Rows.uptoBulkAll]
  | cons x l ih => rw [List.map_cons, List.sum_cons, ← ih, Rows.uptoBulkAll]
theorem sum_pair {α β : Type} {f : α → Nat} {g : β → Nat} : ∀ {xs : List α} {ys : List β}, xs.length = ys.length → (∀ (i : Nat) a b, xs[i]? = some a → ys[i]? = some b → f a ≤ g b) → (xs.map f).sum ≤ (ys.map g).sum := by
  intro xs
  induction xs with
  | nil => intro ys _ _; exact Nat.zero_le _
  | cons x xs ih =>
    intro ys hl h
    cases ys with
    | nil => simp at hl
    | cons y ys =>
      have h0 := h 0 x y rfl rfl
      have := ih (ys := ys) (by simpa using hl) (fun i a b ha hb => h (i + 1) a b (by simpa using ha) (by simpa using hb))
      rw [List.map_cons, List.map_cons, List.sum_cons, List.sum_cons]
      omega
theorem sum_scale (l : List Nat) : (l.map (16 * ·)).sum = 16 * l.sum := by
  induction l with
  | nil => rfl
  | cons x l ih => rw [List.map_cons, List.sum_cons, List.sum_cons, ih]; omega
/-- A struct whose fields are single cells. -/
theorem struct_cells {t : TypeId} {fs : Array Field} {fuel : Nat} {cs : List Value} {x : DataW H × List MemPlace} (ht : Try.prog.underlying t = some (.struct fs)) (hc : (decide (Try.prog.cellsOf t = fs.size) && (List.range fs.size).all (fun i => match fs[i]? with | some f => decide (f.offset = i) && decide (Try.prog.cellsOf f.type = 1) | none => true)) = true)
    (h : trodA enc w fuel t cs = some x) : ∃ (n : Nat) (xs : List (DataW H × List MemPlace)), fuel = n + 1 ∧ x.1 = .agg (xs.map (·.1)) ∧ xs.length = fs.size ∧ cs.length = fs.size ∧ ∀ (i : Nat) (f : Field) (v : Value), fs[i]? = some f → cs[i]? = some v → ∃ y, xs[i]? = some y ∧ trodA enc w n f.type [v] = some y := by
  rw [Bool.and_eq_true, decide_eq_true_eq, List.all_eq_true] at hc
  obtain ⟨hc1, hc2⟩ := hc
  obtain ⟨xs, n, rfl, rfl, hl, hx, hf⟩ := DataW.trod_struct ht h
  refine ⟨n, xs, rfl, rfl, hx, by omega, fun i f v hi hv => ?_⟩
  have hi' : i < fs.size := (Array.getElem?_eq_some_iff.1 hi).1
  have h2 := hc2 i (List.mem_range.2 hi')
  rw [hi] at h2
  simp only [Bool.and_eq_true, decide_eq_true_eq] at h2
  have h3 := hf i f hi
  obtain ⟨hiv, hcv⟩ := List.getElem?_eq_some_iff.1 hv
  have e : (cs.drop f.offset).take (Try.prog.cellsOf f.type) = [v] := by
    rw [h2.1, h2.2, List.drop_eq_getElem_cons hiv, hcv]
    rfl
  rw [e] at h3
  have hxi : i < xs.length := by omega
  exact ⟨xs[i], List.getElem?_eq_getElem hxi, by rw [← List.getElem?_eq_getElem hxi]; exact h3⟩
theorem add_plain (b o n : Nat) : (⟨b, o, none⟩ : Addr).add n = ⟨b, o + n, none⟩ := by
  unfold Addr.add
  split
  · rename_i h; subst h; rfl
  · rfl
theorem cell_spot {a : Addr} {u : Value} (h : w.cell? a = some u) : a = ⟨a.block, a.off, none⟩ ∧ a.block < w.heap.size := by
  obtain ⟨b, o, s⟩ := a
  unfold World.cell? at h
  split at h
  · rename_i c t f hb
    split at h
    · cases h
    · rename_i hs
      cases s with
      | none => exact ⟨rfl, lt_of_heap hb⟩
      | some s => exact absurd rfl hs
  · cases h
theorem mapM_list {α β : Type} {f : α → Option β} : ∀ {l0 : List α} {l : List β}, l0.mapM f = some l → l.length = l0.length ∧ ∀ (i : Nat) x, l0[i]? = some x → f x = l[i]? := by
  intro l0
  induction l0 with
  | nil =>
    intro l h
    rw [List.mapM_nil] at h
    injection h with h
    subst h
    exact ⟨rfl, fun i x hx => by simp at hx⟩
  | cons a l0 ih =>
    intro l h
    rw [List.mapM_cons] at h
    obtain ⟨b, hb, h⟩ := Option.bind_eq_some_iff.1 h
    obtain ⟨bs, hbs, h⟩ := Option.bind_eq_some_iff.1 h
    injection h with h
    subst h
    obtain ⟨h1, h2⟩ := ih hbs
    refine ⟨by simp [h1], fun i x hx => ?_⟩
    cases i with
    | zero => injection hx with hx; rw [← hx]; exact hb
    | succ i => exact h2 i x (by simpa using hx)
theorem mapM_get {α : Type} {f : Nat → Option α} {n : Nat} {l : List α} (h : (List.range n).mapM f = some l) : l.length = n ∧ ∀ i, i < n → f i = l[i]? := by
  obtain ⟨h1, h2⟩ := mapM_list h
  exact ⟨by simpa using h1, fun i hi => h2 i i (by simp [hi])⟩
/-- A row that came in. -/
theorem row_open {α : Type} {t e : TypeId} {k fuel : Nat} {E : α → List Value → Prop} {sz : α → Nat} {v : Value} {x : DataW H × List MemPlace} (ht : Try.prog.underlying t = some (.slice e)) (hc : Try.prog.cellsOf e = k) (hk : 0 < k) (h : trodA enc w fuel t [v] = some x)
    (hE : ∀ n cs y, n < fuel → trodA enc w n e cs = some y → ∃ z, E z cs ∧ sz z + 12 ≤ 16 * Rows.uptoBulk y.1) :
    ∃ (ys : List α) (a : Option Addr) (c : Nat), v = .slice a ys.length c ∧ RRow w Any k E v ys ∧ szs sz ys + 16 ≤ 16 * Rows.uptoBulk x.1 := by
  subst hc
  rcases DataW.trod_slice ht h with ⟨h1, rfl⟩ | ⟨a, len, cap, elems, rest, n, rfl, h1, rfl, -, hlc, -, hlen, hel, -⟩
  · injection h1 with h1
    subst h1
    exact ⟨[], none, 0, rfl, RRow.none', by simp [szs, Rows.uptoBulk]⟩
  · injection h1 with h1
    subst h1
    have each : ∀ i : Fin len, ∃ p : List Value × α, E p.2 p.1 ∧ (∀ y, elems[i.1]? = some y → sz p.2 + 12 ≤ 16 * Rows.uptoBulk y.1) ∧ p.1.length = Try.prog.cellsOf e ∧ ∀ (j : Nat) u, p.1[j]? = some u → w.cell? ((a.add (i.1 * Try.prog.cellsOf e)).add j) = some u := by
      intro i
      have h2 := hel i.1 i.2
      have hi : i.1 < elems.length := by rw [hlen]; exact i.2
      rw [List.getElem?_eq_getElem hi] at h2
      obtain ⟨cs, h3, h4⟩ := Option.bind_eq_some_iff.1 h2
      obtain ⟨z, h5, h6⟩ := hE n cs _ (Nat.lt_succ_self n) h4
      unfold World.cells? at h3
      rw [if_pos (Nat.zero_le _)] at h3
      obtain ⟨h7, h8⟩ := mapM_get h3
      refine ⟨(cs, z), h5, fun y hy => ?_, h7, fun j u hu => ?_⟩
      · rw [List.getElem?_eq_getElem hi] at hy
        injection hy with hy
        rw [← hy]; exact h6
      · have hj : j < Try.prog.cellsOf e := by rw [← h7]; exact (List.getElem?_eq_some_iff.1 hu).1
        exact (h8 j hj).trans hu
    obtain ⟨f, hf⟩ := Classical.axiomOfChoice each
    have hyl : (List.ofFn (fun i => (f i).2)).length = len := List.length_ofFn
    refine ⟨List.ofFn (fun i => (f i).2), some a, cap, by rw [hyl], ⟨some a, cap, fun j => if hj : j < len then (f ⟨j, hj⟩).1 else [], by rw [hyl], by rw [hyl]; exact hlc, fun j hj => ?_, fun j z hz => ?_⟩, ?_⟩
    · rw [hyl] at hj
      obtain ⟨-, -, q1, q2⟩ := hf ⟨j, hj⟩
      obtain ⟨-, -, r1, r2⟩ := hf ⟨0, by omega⟩
      obtain ⟨u, hu⟩ : ∃ u, (f ⟨0, by omega⟩).1[0]? = some u := ⟨(f ⟨0, by omega⟩).1[0]'(by omega), List.getElem?_eq_getElem (by omega)⟩
      have hca := r2 0 u hu
      have e0 : (a.add (0 * Try.prog.cellsOf e)).add 0 = a := by unfold Addr.add; simp
      rw [e0] at hca
      obtain ⟨ha, hb⟩ := cell_spot hca
      refine ⟨a.block, a.off, by rw [← ha], trivial, hb, by simp only [dif_pos hj]; exact q1, fun i u hu => ?_⟩
      simp only [dif_pos hj] at hu
      have := q2 i u hu
      rw [ha, add_plain, add_plain] at this
      exact this
    · have hj : j < len := by rw [← hyl]; exact (List.getElem?_eq_some_iff.1 hz).1
      rw [List.getElem?_ofFn, dif_pos hj] at hz
      injection hz with hz
      simp only [dif_pos hj]
      rw [← hz]
      exact (hf ⟨j, hj⟩).1
    · have h2 : szs sz (List.ofFn (fun i => (f i).2)) ≤ (elems.map (fun y => 16 * Rows.uptoBulk y.1)).sum := by
        refine sum_pair (by rw [hyl, hlen]) (fun i z y hz hy => ?_)
        have hi : i < len := by rw [← hyl]; exact (List.getElem?_eq_some_iff.1 hz).1
        rw [List.getElem?_ofFn, dif_pos hi] at hz
        injection hz with hz
        rw [← hz]
        exact (hf ⟨i, hi⟩).2.1 y hy
      have h3 : (elems.map (fun y => 16 * Rows.uptoBulk y.1)).sum = 16 * Rows.uptoBulkAll (elems.map (·.1)) := by
        rw [bulkAll_sum, ← sum_scale, List.map_map, List.map_map]
        rfl
      simp only [Rows.uptoBulk]
      omega
theorem info_str : Try.prog.cellsOf 9 = 1 := by kernel_rfl
theorem cells_word : Try.prog.cellsOf 50 = 3 := by kernel_rfl
theorem cells_alt : Try.prog.cellsOf 47 = 6 := by kernel_rfl
theorem cells_rule : Try.prog.cellsOf 44 = 4 := by kernel_rfl
theorem cells_decl : Try.prog.cellsOf 41 = 4 := by kernel_rfl
theorem str_open {n : Nat} {cs : List Value} {y : DataW H × List MemPlace} (h : trodA enc w n 9 cs = some y) : ∃ z : ByteArray, cs = [.string z] ∧ 16 * z.data.toList.length + 16 ≤ 16 * Rows.uptoBulk y.1 := by
  obtain ⟨s, rfl, rfl, -⟩ := DataW.trod_string Try.underlying9 h
  exact ⟨s, rfl, by simp only [Rows.uptoBulk]; omega⟩
theorem int_open {n : Nat} {cs : List Value} {y : DataW H × List MemPlace} (h : trodA enc w n 3 cs = some y) : ∃ z : Int, cs = [.int .i64 z] ∧ 16 ≤ 16 * Rows.uptoBulk y.1 := by
  obtain ⟨z, rfl, rfl, -⟩ := DataW.trod_int Try.underlying3 h
  exact ⟨z, rfl, by simp [Rows.uptoBulk]⟩
theorem bool_open {n : Nat} {cs : List Value} {y : DataW H × List MemPlace} (h : trodA enc w n 4 cs = some y) : ∃ z : Bool, cs = [.bool z] ∧ 16 ≤ 16 * Rows.uptoBulk y.1 := by
  obtain ⟨z, rfl, rfl⟩ := DataW.trod_bool Try.underlying4 h
  exact ⟨z, rfl, by simp [Rows.uptoBulk]⟩
theorem strs_open {t n : Nat} {v : Value} {y : DataW H × List MemPlace} (ht : Try.prog.underlying t = some (.slice 9)) (h : trodA enc w n t [v] = some y) :
    ∃ (ys : List ByteArray) (a : Option Addr) (c : Nat), v = .slice a ys.length c ∧ RRow w Any 1 EStr v ys ∧ szs (fun x : ByteArray => x.data.toList.length) ys + 16 ≤ 16 * Rows.uptoBulk y.1 :=
  row_open ht info_str (by decide) h (fun m cs z _ hz => by
    obtain ⟨s, rfl, hs⟩ := str_open hz
    exact ⟨s, rfl, by omega⟩)
theorem szs_words (xs : List GWord) : (wordsSp xs).length ≤ szs (fun x => (wordOut x).length) xs := by
  induction xs with
  | nil => exact Nat.le_refl _
  | cons x l ih =>
    have e : wordsSp (x :: l) = [32] ++ wordOut x ++ wordsSp l := rfl
    have e2 : szs (fun x => (wordOut x).length) (x :: l) = (wordOut x).length + 12 + szs (fun x => (wordOut x).length) l := rfl
    rw [e, e2, List.length_append, List.length_append, List.length_singleton]
    omega
theorem szs_names (xs : List ByteArray) : (namesOut ⟨#[32]⟩ xs).length ≤ szs (fun x : ByteArray => x.data.toList.length) xs := by
  induction xs with
  | nil => exact Nat.le_refl _
  | cons x l ih =>
    have e : namesOut ⟨#[32]⟩ (x :: l) = [32] ++ x.data.toList ++ namesOut ⟨#[32]⟩ l := rfl
    have e2 : szs (fun x : ByteArray => x.data.toList.length) (x :: l) = x.data.toList.length + 12 + szs (fun x : ByteArray => x.data.toList.length) l := rfl
    rw [e, e2, List.length_append, List.length_append, List.length_singleton]
    omega
theorem bulk_agg3 (a b c : DataW H) : Rows.uptoBulk (.agg [a, b, c]) = Rows.uptoBulk a + (Rows.uptoBulk b + Rows.uptoBulk c) + 1 := by simp [Rows.uptoBulk, Rows.uptoBulkAll]
theorem bulk_agg4 (a b c d : DataW H) : Rows.uptoBulk (.agg [a, b, c, d]) = Rows.uptoBulk a + (Rows.uptoBulk b + (Rows.uptoBulk c + Rows.uptoBulk d)) + 1 := by simp [Rows.uptoBulk, Rows.uptoBulkAll]
theorem bulk_agg6 (a b c d e f : DataW H) : Rows.uptoBulk (.agg [a, b, c, d, e, f]) = Rows.uptoBulk a + (Rows.uptoBulk b + (Rows.uptoBulk c + (Rows.uptoBulk d + (Rows.uptoBulk e + Rows.uptoBulk f)))) + 1 := by simp [Rows.uptoBulk, Rows.uptoBulkAll]
set_option maxRecDepth 100000 in
theorem word_open : ∀ (m n : Nat) (cs : List Value) (y : DataW H × List MemPlace), n < m → trodA enc w n 50 cs = some y → ∃ z, RWord w Any z cs ∧ (wordOut z).length + 12 ≤ 16 * Rows.uptoBulk y.1 := by
  intro m
  induction m with
  | zero => intro n cs y h; omega
  | succ m ih =>
    intro n cs y hn h
    obtain ⟨n, xs, rfl, hy, hx, hl, hf⟩ := struct_cells Try.underlying50 (by kernel_rfl) h
    match cs, hl with
    | [v0, v1, v2], _ =>
      obtain ⟨y0, x0, g0⟩ := hf 0 _ v0 rfl rfl
      obtain ⟨y1, x1, g1⟩ := hf 1 _ v1 rfl rfl
      obtain ⟨y2, x2, g2⟩ := hf 2 _ v2 rfl rfl
      match xs, hx with
      | [q0, q1, q2], _ =>
        injection x0 with x0; injection x1 with x1; injection x2 with x2
        subst x0 x1 x2
        obtain ⟨s, e0, b0⟩ := str_open g0
        obtain ⟨k, e2, b2⟩ := int_open g2
        obtain ⟨ys, a, c, e1, hr, b1⟩ := row_open (E := RWord w Any) (sz := fun x => (wordOut x).length) Try.underlying45 cells_word (by decide) g1 (fun n' cs' y' hn' h' => ih n' cs' y' (by omega) h')
        injection e0 with e0
        injection e2 with e2
        subst e0 e1 e2
        refine ⟨.mk s ys k, RWord.row.2 ⟨_, rfl, hr⟩, ?_⟩
        have hrb := rowB_len wordOut ys
        have hle : (if ys.length = 0 then 0 else szs (fun x => (wordOut x).length) ys + 20) ≤ szs (fun x => (wordOut x).length) ys + 20 := by split <;> omega
        rw [wordOut, wordsOut_map, rowL_B, List.length_append, hy]
        show _ ≤ 16 * Rows.uptoBulk (.agg [q0.1, q1.1, q2.1])
        rw [bulk_agg3]
        omega
set_option maxRecDepth 100000 in
theorem alt_open {n : Nat} {cs : List Value} {y : DataW H × List MemPlace} (h : trodA enc w n 47 cs = some y) : ∃ z, RAlt w Any z cs ∧ (altOut z).length + 12 ≤ 16 * Rows.uptoBulk y.1 := by
  obtain ⟨n, xs, rfl, hy, hx, hl, hf⟩ := struct_cells Try.underlying47 (by kernel_rfl) h
  match cs, hl with
  | [v0, v1, v2, v3, v4, v5], _ =>
    obtain ⟨y0, x0, g0⟩ := hf 0 _ v0 rfl rfl
    obtain ⟨y1, x1, g1⟩ := hf 1 _ v1 rfl rfl
    obtain ⟨y2, x2, g2⟩ := hf 2 _ v2 rfl rfl
    obtain ⟨y3, x3, g3⟩ := hf 3 _ v3 rfl rfl
    obtain ⟨y4, x4, g4⟩ := hf 4 _ v4 rfl rfl
    obtain ⟨y5, x5, g5⟩ := hf 5 _ v5 rfl rfl
    match xs, hx with
    | [q0, q1, q2, q3, q4, q5], _ =>
      injection x0 with x0; injection x1 with x1; injection x2 with x2; injection x3 with x3; injection x4 with x4; injection x5 with x5
      subst x0 x1 x2 x3 x4 x5
      obtain ⟨ys, a, c, e0, hr, b0⟩ := row_open (E := RWord w Any) (sz := fun x => (wordOut x).length) Try.underlying45 cells_word (by decide) g0 (fun n' cs' y' hn' h' => word_open _ n' cs' y' (Nat.lt_succ_self _) h')
      obtain ⟨p, e1, b1⟩ := str_open g1
      obtain ⟨hs, e2, b2⟩ := bool_open g2
      obtain ⟨ac, e3, b3⟩ := str_open g3
      obtain ⟨k, e4, b4⟩ := int_open g4
      obtain ⟨j, e5, b5⟩ := int_open g5
      injection e1 with e1; injection e2 with e2; injection e3 with e3; injection e4 with e4; injection e5 with e5
      subst e0 e1 e2 e3 e4 e5
      refine ⟨⟨ys, p, hs, ac, k, j⟩, ⟨_, rfl, hr⟩, ?_⟩
      have h1 := szs_words ys
      have h2 : (precOut p).length ≤ 7 + p.data.toList.length := by
        unfold precOut
        split
        · exact Nat.zero_le _
        · rw [namesOut_just, List.length_append, show (sPrec.data.toList).length = 7 from rfl]; omega
      have h3 : (actOut ⟨ys, p, hs, ac, k, j⟩).length ≤ 3 + ac.data.toList.length := by
        unfold actOut
        split
        · simp only [List.length_append, List.length_cons, List.length_nil]; omega
        · exact Nat.zero_le _
      unfold altOut
      rw [List.length_append, List.length_append, List.length_append, hy]
      show _ ≤ 16 * Rows.uptoBulk (.agg [q0.1, q1.1, q2.1, q3.1, q4.1, q5.1])
      rw [bulk_agg6]
      simp only [List.length_cons, List.length_nil]
      omega
set_option maxRecDepth 100000 in
theorem rule_open {n : Nat} {cs : List Value} {y : DataW H × List MemPlace} (h : trodA enc w n 44 cs = some y) : ∃ z, RRule w Any z cs ∧ (ruleOut z).length + 12 ≤ 16 * Rows.uptoBulk y.1 := by
  obtain ⟨n, xs, rfl, hy, hx, hl, hf⟩ := struct_cells Try.underlying44 (by kernel_rfl) h
  match cs, hl with
  | [v0, v1, v2, v3], _ =>
    obtain ⟨y0, x0, g0⟩ := hf 0 _ v0 rfl rfl
    obtain ⟨y1, x1, g1⟩ := hf 1 _ v1 rfl rfl
    obtain ⟨y2, x2, g2⟩ := hf 2 _ v2 rfl rfl
    obtain ⟨y3, x3, g3⟩ := hf 3 _ v3 rfl rfl
    match xs, hx with
    | [q0, q1, q2, q3], _ =>
      injection x0 with x0; injection x1 with x1; injection x2 with x2; injection x3 with x3
      subst x0 x1 x2 x3
      obtain ⟨nm, e0, b0⟩ := str_open g0
      obtain ⟨ps, pa, pc, e1, hp, b1⟩ := strs_open Try.underlying39 g1
      obtain ⟨ys, a, c, e2, hr, b2⟩ := row_open (E := RAlt w Any) (sz := fun x => (altOut x).length) Try.underlying42 cells_alt (by decide) g2 (fun n' cs' y' hn' h' => alt_open h')
      obtain ⟨k, e3, b3⟩ := int_open g3
      injection e0 with e0; injection e3 with e3
      subst e0 e1 e2 e3
      refine ⟨⟨nm, ps, ys, k⟩, ⟨_, _, rfl, hp, hr⟩, ?_⟩
      have h1 := rowB_len (fun x : ByteArray => x.data.toList) ps
      have hle : (if ps.length = 0 then 0 else szs (fun x : ByteArray => x.data.toList.length) ps + 20) ≤ szs (fun x : ByteArray => x.data.toList.length) ps + 20 := by split <;> omega
      have h2 := altsB_len ys
      unfold ruleOut
      rw [namesOut_just, params_B, altsTo_B _ _ (Nat.le_refl _), List.take_length]
      simp only [List.length_append, List.length_cons, List.length_nil, show (ByteArray.mk #[]).data.toList.length = 0 from rfl]
      rw [hy]
      show _ ≤ 16 * Rows.uptoBulk (.agg [q0.1, q1.1, q2.1, q3.1])
      rw [bulk_agg4]
      omega
set_option maxRecDepth 100000 in
theorem decl_open {n : Nat} {cs : List Value} {y : DataW H × List MemPlace} (h : trodA enc w n 41 cs = some y) : ∃ z, RDecl w Any z cs ∧ (declOut z).length + 12 ≤ 16 * Rows.uptoBulk y.1 := by
  obtain ⟨n, xs, rfl, hy, hx, hl, hf⟩ := struct_cells Try.underlying41 (by kernel_rfl) h
  match cs, hl with
  | [v0, v1, v2, v3], _ =>
    obtain ⟨y0, x0, g0⟩ := hf 0 _ v0 rfl rfl
    obtain ⟨y1, x1, g1⟩ := hf 1 _ v1 rfl rfl
    obtain ⟨y2, x2, g2⟩ := hf 2 _ v2 rfl rfl
    obtain ⟨y3, x3, g3⟩ := hf 3 _ v3 rfl rfl
    match xs, hx with
    | [q0, q1, q2, q3], _ =>
      injection x0 with x0; injection x1 with x1; injection x2 with x2; injection x3 with x3
      subst x0 x1 x2 x3
      obtain ⟨kd, e0, b0⟩ := str_open g0
      obtain ⟨ty, e1, b1⟩ := str_open g1
      obtain ⟨ns, a, c, e2, hr, b2⟩ := strs_open Try.underlying39 g2
      obtain ⟨k, e3, b3⟩ := int_open g3
      injection e0 with e0; injection e1 with e1; injection e3 with e3
      subst e0 e1 e2 e3
      refine ⟨⟨kd, ty, ns, k⟩, ⟨_, rfl, hr⟩, ?_⟩
      have h1 := szs_names ns
      have h2 : (typeOut ty).length ≤ 3 + ty.data.toList.length := by
        unfold typeOut
        split
        · exact Nat.zero_le _
        · rw [namesOut_just]
          simp only [List.length_append, List.length_cons, List.length_nil, show (ByteArray.mk #[32, 60]).data.toList.length = 2 from rfl]
          omega
      unfold declOut
      simp only [List.length_append, List.length_cons, List.length_nil]
      rw [hy]
      show _ ≤ 16 * Rows.uptoBulk (.agg [q0.1, q1.1, q2.1, q3.1])
      rw [bulk_agg4]
      omega
theorem szs_flat {α : Type} (out : α → Bs) (xs : List α) : (xs.flatMap out).length ≤ szs (fun x => (out x).length) xs := by
  induction xs with
  | nil => exact Nat.le_refl _
  | cons x l ih =>
    have e2 : szs (fun x => (out x).length) (x :: l) = (out x).length + 12 + szs (fun x => (out x).length) l := rfl
    rw [List.flatMap_cons, List.length_append, e2]
    omega
set_option maxRecDepth 100000 in
/-- A text that came in. -/
theorem text_open {n : Nat} {cs : List Value} {y : DataW H × List MemPlace} (h : trodA enc w n 25 cs = some y) :
    ∃ (x : GText) (a b : Option Addr) (c d : Nat), cs = [.slice a x.decls.length c, .slice b x.rules.length d] ∧ RT w (.slice a x.decls.length c) (.slice b x.rules.length d) x ∧ (textOut x).length ≤ 16 * Rows.uptoBulk y.1 := by
  obtain ⟨n, xs, rfl, hy, hx, hl, hf⟩ := struct_cells Try.underlying25 (by kernel_rfl) h
  match cs, hl with
  | [v0, v1], _ =>
    obtain ⟨y0, x0, g0⟩ := hf 0 _ v0 rfl rfl
    obtain ⟨y1, x1, g1⟩ := hf 1 _ v1 rfl rfl
    match xs, hx with
    | [q0, q1], _ =>
      injection x0 with x0; injection x1 with x1
      subst x0 x1
      obtain ⟨ds, a, c, e0, hr, b0⟩ := row_open (E := RDecl w Any) (sz := fun x => (declOut x).length) Try.underlying22 cells_decl (by decide) g0 (fun n' cs' y' hn' h' => decl_open h')
      obtain ⟨rs, b, d, e1, hr2, b1⟩ := row_open (E := RRule w Any) (sz := fun x => (ruleOut x).length) Try.underlying23 cells_rule (by decide) g1 (fun n' cs' y' hn' h' => rule_open h')
      subst e0 e1
      refine ⟨⟨ds, rs⟩, a, b, c, d, rfl, ⟨hr, hr2⟩, ?_⟩
      have h1 := szs_flat declOut ds
      have h2 := szs_flat ruleOut rs
      unfold textOut declsOut rulesOut
      simp only [List.length_append, List.length_cons, List.length_nil]
      rw [hy]
      have e : Rows.uptoBulk (.agg [q0.1, q1.1]) = Rows.uptoBulk q0.1 + Rows.uptoBulk q1.1 + 1 := by simp [Rows.uptoBulk, Rows.uptoBulkAll]
      show _ ≤ 16 * Rows.uptoBulk (.agg [q0.1, q1.1])
      rw [e]
      omega
end
end Go.Proofs.Ytejpmdlokmlmeaa
/- THE ROW OF THE LAW WriteBack: it returns true at every text of bulk at most 2^20, and the text reads as it did. -/
namespace Go.Proofs.Ytejpmdlokmlmeaa.lawWriteBack
open Go.ChangeShapes Go.WideShapes Go.ChangeAt Go.RowKit

theorem own : ownKnob Try.prog.godebug = none := by kernel_rfl
theorem laidOut : laidOutB Try.prog = true := by kernel_rfl
theorem below {W W' : World} (h : Fr (fun _ => False) W W') : Below W.heap.size W W' := ⟨h.os, h.tape, h.output, h.size, fun k hk => h.block k hk id⟩
set_option maxRecDepth 100000 in
theorem contract (H : Type) (enc : TypeId × Value → H) (W : World) (base : Nat) (args : Array Value) (ds gs : List (DataW H)) (before : List MemPlace)
    (hval : ∀ (j : Nat) t v, Try.f3.params[j]? = some t → args[j]? = some v → Value.okWide Try.prog W .any base t v)
    (hW : DataW.Whole enc Try.prog Try.f3.params.toList Rows.writeBackSpec.vars false W args.toList ds gs before) (hk : Rows.uptoSmall H (ds ++ gs) = true) (hsh : W.ShapedOpen Try.prog) :
    Calls Try.prog 3 args W fun e W' => ∃ v, e = .returned v ∧ Rows.writeBackSpec.post enc Try.prog Try.f3 false true false false W args v W' := by
  have hW' := hW
  obtain ⟨p, q, hA0, hV, rfl, hfz, hnd⟩ := hW
  have hA : DataW.TrodAll enc Try.prog W 0 (fun _ => true) true Try.f3.params.toList args.toList ds p := hA0
  rw [Try.params3] at hA hval
  obtain ⟨v0, vs0, d0, ds0, p0, q0, hargs, rfl, rfl, h0, r0⟩ := trodAll_cons hA
  obtain ⟨rfl, rfl, rfl⟩ := trodAll_nil r0
  obtain rfl : args = #[v0] := by cases args; simp_all
  obtain ⟨rfl, rfl⟩ := trodVars_none hV
  have hok := hval 0 25 v0 rfl rfl
  obtain ⟨cs, rfl, -⟩ := okWide_struct Try.underlying25 hok
  have h0k := h0
  obtain ⟨fuel, hf0⟩ := h0
  obtain ⟨x, a, b, c, d, hcs, hrt, hout⟩ := text_open hf0
  have hcs' : cs = #[.slice a x.decls.length c, .slice b x.rules.length d] := Array.toList_inj.1 hcs
  subst hcs'
  clear hA0
  simp only [List.append_nil] at hW' hk
  have hbulk : Rows.uptoBulkAll [d0] ≤ 1048576 := of_decide_eq_true hk
  have hb : (textOut x).length ≤ 1099511627776 := by
    simp only [Rows.uptoBulkAll] at hbulk
    have hout' : (textOut x).length ≤ 16 * Rows.uptoBulk d0 := hout
    omega
  have hm : HM W := Try.laysM219.s1_3 W hsh
  have hlt : ∀ x ∈ p0, x.block < W.heap.size := fun x hx => by simpa using hW'.lt x (by simpa using hx)
  refine (writeBack_any hm hrt hb).mono fun e W' ⟨he, hf⟩ => ?_
  subst he
  have hn := below hf
  have hret := Below.trod laidOut (by kernel_rfl) (of_decide_eq_true (by kernel_rfl)) h0k hn hlt
  exact ⟨_, rfl, _, _, _, [], _, [], hW', trodAll_cons_mk (shut_bool Try.underlying4 _) trodAll_mk0, trodAll_cons_mk hret trodAll_mk0, rfl, hn.frame _, fun h => by cases h⟩

set_option maxRecDepth 100000 in
theorem lifted (os : Os) (started : os.Started) (H : Type) (enc : TypeId × Value → H) (F : Stop.Interp) :
    ReturnsInHanded {} Try.checked os 3 .any ((Rows.OpenSpec.upto Rows.writeBackSpec).pre6 enc Try.prog Try.f3 Rows.writeBackUptoRow.domain false) (((Rows.OpenSpec.upto Rows.writeBackSpec).at F).post enc Try.prog Try.f3 false true false false) := by
  refine returnsInHanded_of_calls (C := Try.checked) own started (by kernel_rfl)
    (OpenSpec.witness (enc := enc) (C := Try.checked) (fn := Try.f3) (s := Rows.OpenSpec.upto Rows.writeBackSpec) (k := Rows.uptoSmall) rfl false ⟨#[], #[.agg #[.slice none 0 0, .slice none 0 0]], []⟩ 8 (by kernel_rfl) (by kernel_rfl) (by kernel_rfl)
      (x := ([.agg [.nil, .nil]], [], [])) (by kernel_rfl) rfl (by kernel_rfl)) ?_
  intro w tape i _ hsh _ hok hpre _
  obtain ⟨_, _, _, fn', hfn', _, _, _, _, hval⟩ := hok
  have e : fn' = Try.f3 := Option.some.inj (hfn'.symm.trans Try.func3)
  subst e
  obtain ⟨ds, gs, before, hw, hc, hkk⟩ := (OpenSpec.pre_some (k := Rows.uptoSmall) rfl _ _ _ _).1 hpre.1
  have hw' := DataW.Whole.of_heap (w' := w.forCall tape i) (by rfl) hw
  refine (contract H enc (w.forCall tape i) w.heap.size i.args ds gs before hval hw' hkk hsh).mono fun e W' ⟨v, he, hp⟩ => ?_
  subst he
  exact ChangeSpec.post_blind hp

theorem proved : Rows.WriteBackUptoSaid :=
  OpenClaim.holds_of_cond 3 Try.f3 rfl rfl rfl rfl rfl rfl rfl ⟨rfl, rfl, rfl, rfl, rfl⟩ rfl rfl rfl rfl rfl (by kernel_rfl) Try.func3 (by kernel_rfl)
    (of_decide_eq_true (by kernel_rfl)) (by unfold Func.isWrapper; first | (rw [if_pos (by decide +kernel)]; kernel_rfl) | (rw [if_neg (by decide +kernel)]; exact ⟨rfl, rfl⟩))
    (fun os started H enc _ F => lifted os started H enc F)
end Go.Proofs.Ytejpmdlokmlmeaa.lawWriteBack
