/- A text is written: what it gives, in plain Lean, and the walk. Conditions: the bytes are at most 2^40. -/
import Derived.Test.YtejpmdlokmlmeaaWriteI
set_option linter.unusedVariables false
set_option linter.unusedSimpArgs false
namespace Go.Proofs.Ytejpmdlokmlmeaa
open Go.RowKit

def declsOut (l : List GDecl) : List UInt8 := l.flatMap declOut
def rulesOut (l : List GRule) : List UInt8 := l.flatMap ruleOut
def textOut (x : GText) : List UInt8 := declsOut x.decls ++ ([37, 37, 10] ++ rulesOut x.rules)
def textOk (x : GText) : Bool := x.decls.all declOk && x.rules.all ruleOk
theorem flatMap_len {α : Type} (f : α → List UInt8) (h : ∀ x, 1 ≤ (f x).length) (l : List α) : l.length ≤ (l.flatMap f).length := by
  induction l with
  | nil => simp
  | cons x l ih => have := h x; simp only [List.flatMap_cons, List.length_append, List.length_cons]; omega
theorem flatMap_take {α : Type} (f : α → List UInt8) (l : List α) (k : Nat) (d : α) (h : k < l.length) : ((l.take k).flatMap f).length + (f (l.getD k d)).length ≤ (l.flatMap f).length := by
  have e : l = l.take (k + 1) ++ l.drop (k + 1) := (List.take_append_drop _ _).symm
  have e2 : (l.flatMap f).length = ((l.take (k + 1)).flatMap f).length + ((l.drop (k + 1)).flatMap f).length := by rw [← List.length_append, ← List.flatMap_append, ← e]
  rw [e2, take_snoc_getD l k d h, List.flatMap_append, List.length_append]
  simp

theorem assert_wwrong (w : World) : (Instr.typeAssert (.iface 52 (.agg #[])) 20 52 true).run Try.prog w = .ok (.tuple #[.agg #[], .bool true]) w := by kernel_rfl
theorem write_catch_idle (p q : Option Addr) (w : World) :
    CallsD Try.prog 14 #[.pointer p, .pointer q] .returning w fun e u' w' => e = .returned (.tuple #[]) ∧ u' = .returning ∧ w = w' := by
  refine callsD_of_wpS Try.func14 rfl fun c₀ cs hu => ?_
  apply wpS_seq
  apply wpS_region
  simp [wpOpsS, go_sem, recoverD, hu, Try.ntmps14, Exit.thenS, Array.replicate_succ]
  refine wpS_of_wp ?_
  have hn := neq_nil_nil
  go_wp2_with fail
  cases c₀
  simp_all [bodyPostS, results, Try.results14]

set_option maxRecDepth 100000 in
set_option maxHeartbeats 400000 in
theorem write_catch {p q : Nat} {a : ByteArray} {b : Int} {older : List PanicEntry} {w : World} (hp : Blk w p #[.string a] 9) (hq : Blk w q #[.int .i64 b] 28) (hpq : p ≠ q) :
    CallsD Try.prog 14 #[.pointer (some ⟨p, 0, none⟩), .pointer (some ⟨q, 0, none⟩)] (.panicking ({ v := .iface 52 (.agg #[]), recovered := false } :: older)) w fun e u' w' =>
      e = .returned (.tuple #[]) ∧ u' = .panicking ({ v := .iface 52 (.agg #[]), recovered := true } :: older) ∧ Fr (fun k => k = p ∨ k = q) w w' ∧
      Blk w' p #[.string ⟨#[]⟩] 9 ∧ Blk w' q #[.int .i64 4] 28 := by
  refine callsD_of_wpS Try.func14 rfl fun c₀ cs hu => ?_
  apply wpS_seq
  apply wpS_region
  simp [wpOpsS, go_sem, recoverD, hu, Try.ntmps14, Exit.thenS, Array.replicate_succ]
  refine wpS_of_wp ?_
  have hn := neq_nil_any 52 (.agg #[])
  have ht := assert_wwrong
  have hp1 := hp.alloc (.cells #[] 52)
  have hq1 := hq.alloc (.cells #[] 52)
  have c0 := hp1.cell 0 rfl
  have c1 := hq1.cell 0 rfl
  have f0 := hp1.frozen 0
  have f1 := hq1.frozen 0
  have hqp : q ≠ p := Ne.symm hpq
  go_wp2_with fail
  exact ⟨rfl, _, rfl, .tuple #[], results_none rfl _ _ _, rfl, rfl, (((Fr.refl (fun k => k = p ∨ k = q) w).alloc _).setCell (p := ⟨p, 0, none⟩) (fun _ => .inl rfl) _).setCell (p := ⟨q, 0, none⟩) (fun _ => .inr rfl) _,
    (hp1.set 0 (.string ⟨#[]⟩) rfl).far (p := ⟨q, 0, none⟩) (by show q ≠ p; omega) _, (hq1.far (p := ⟨p, 0, none⟩) (by show p ≠ q; omega) _).set 0 (.int .i64 4) rfl⟩

theorem wtext_results {tmps : Array Value} {W : World} {p q : Nat} {s : ByteArray} {n : Int} (h2 : tmps.getD 2 undef = .pointer (some ⟨p, 0, none⟩)) (h3 : tmps.getD 3 undef = .pointer (some ⟨q, 0, none⟩))
    (hp : Blk W p #[.string s] 9) (hq : Blk W q #[.int .i64 n] 28) :
    (results Try.f7 tmps).run Try.prog W = .ok (.tuple #[.string s, .int .i64 n]) W := by
  have c0 := hp.cell 0 rfl
  have c1 := hq.cell 0 rfl
  simp only [Array.getD_eq_getD_getElem?] at h2 h3
  simp [results, Try.results7, h2, h3, go_sem, c0, c1]

/-- Declarations, rules in a row that lies ahead of the writer. -/
def DRow (b : Nat) (w : World) (v : Value) (xs : List GDecl) : Prop := RRow w (· < b) 4 (RDecl w (· < b)) v xs
def URow (b : Nat) (w : World) (v : Value) (xs : List GRule) : Prop := RRow w (· < b) 4 (RRule w (· < b)) v xs
theorem DRow.wf {b : Nat} {w w' : World} {v : Value} {xs : List GDecl} (h : DRow b w v xs) (hf : Wf b w w') : DRow b w' v xs :=
  RRow.fr (E' := RDecl w' (· < b)) h hf.low (fun k hk hlt e => by omega) (fun x cs h => h.fr hf.low (fun k hk hlt e => by omega))
theorem URow.wf {b : Nat} {w w' : World} {v : Value} {xs : List GRule} (h : URow b w v xs) (hf : Wf b w w') : URow b w' v xs :=
  RRow.fr (E' := RRule w' (· < b)) h hf.low (fun k hk hlt e => by omega) (fun x cs h => h.fr hf.low (fun k hk hlt e => by omega))
def noDecl : GDecl := ⟨⟨#[]⟩, ⟨#[]⟩, [], 0⟩
def noRule : GRule := ⟨⟨#[]⟩, [], [], 0⟩
theorem DRow.get {b : Nat} {w : World} {v : Value} {xs : List GDecl} (h : DRow b w v xs) {j : Nat} (hj : j < xs.length) :
    ∃ k off c a ac, v = .slice (some ⟨k, off, none⟩) xs.length c ∧ SRow b w (.slice a (xs.getD j noDecl).names.length ac) (xs.getD j noDecl).names ∧
      w.cell? ⟨k, off + j * 4, none⟩ = some (.string (xs.getD j noDecl).kind) ∧ w.cell? ⟨k, off + j * 4 + 1, none⟩ = some (.string (xs.getD j noDecl).type) ∧ w.cell? ⟨k, off + j * 4 + 2, none⟩ = some (.slice a (xs.getD j noDecl).names.length ac) ∧
      w.cell? ⟨k, off + j * 4 + 3, none⟩ = some (.int .i64 (xs.getD j noDecl).at_) := by
  obtain ⟨a0, c, css, hv, hl, hr, he⟩ := h
  obtain ⟨k, off, ha, -, -, hlen, hc⟩ := hr j hj
  subst ha
  have hx : xs[j]? = some (xs.getD j noDecl) := by simp [List.getD_eq_getElem?_getD, hj]
  obtain ⟨u, hu, hrow⟩ := he j _ hx
  obtain ⟨a, ac, hform⟩ := hrow.form
  subst hform
  exact ⟨k, off, c, a, ac, hv, SRow.low hrow (fun k hk _ => hk), hc 0 _ (by rw [hu]; rfl), hc 1 _ (by rw [hu]; rfl), hc 2 _ (by rw [hu]; rfl), hc 3 _ (by rw [hu]; rfl)⟩
theorem URow.get {b : Nat} {w : World} {v : Value} {xs : List GRule} (h : URow b w v xs) {j : Nat} (hj : j < xs.length) :
    ∃ k off c a ac a' ac', v = .slice (some ⟨k, off, none⟩) xs.length c ∧ SRow b w (.slice a (xs.getD j noRule).params.length ac) (xs.getD j noRule).params ∧ ARow b w (.slice a' (xs.getD j noRule).alts.length ac') (xs.getD j noRule).alts ∧
      w.cell? ⟨k, off + j * 4, none⟩ = some (.string (xs.getD j noRule).name) ∧ w.cell? ⟨k, off + j * 4 + 1, none⟩ = some (.slice a (xs.getD j noRule).params.length ac) ∧ w.cell? ⟨k, off + j * 4 + 2, none⟩ = some (.slice a' (xs.getD j noRule).alts.length ac') ∧
      w.cell? ⟨k, off + j * 4 + 3, none⟩ = some (.int .i64 (xs.getD j noRule).at_) := by
  obtain ⟨a0, c, css, hv, hl, hr, he⟩ := h
  obtain ⟨k, off, ha, -, -, hlen, hc⟩ := hr j hj
  subst ha
  have hx : xs[j]? = some (xs.getD j noRule) := by simp [List.getD_eq_getElem?_getD, hj]
  obtain ⟨u, u', hu, hrow, hrow'⟩ := he j _ hx
  obtain ⟨a, ac, hform⟩ := hrow.form
  obtain ⟨a', ac', hform'⟩ := hrow'.form
  subst hform hform'
  exact ⟨k, off, c, a, ac, a', ac', hv, SRow.low hrow (fun k hk _ => hk), hrow', hc 0 _ (by rw [hu]; rfl), hc 1 _ (by rw [hu]; rfl), hc 2 _ (by rw [hu]; rfl), hc 3 _ (by rw [hu]; rfl)⟩

/-- What 'write.Text' gives. -/
def WTPost (w : World) (x : GText) (e : Ending) (w' : World) : Prop :=
  Fr (fun _ => False) w w' ∧ (textOk x = true → e = .returned (.tuple #[.string ⟨(textOut x).toArray⟩, .int .i64 0])) ∧ (textOk x = false → e = .returned (.tuple #[.string ⟨#[]⟩, .int .i64 4]))
theorem WTPost.good {w w' : World} {x : GText} {e : Ending} (h : textOk x = true) (hf : Fr (fun _ => False) w w') (he : e = .returned (.tuple #[.string ⟨(textOut x).toArray⟩, .int .i64 0])) : WTPost w x e w' :=
  ⟨hf, fun _ => he, fun h' => (by rw [h] at h'; cases h')⟩
theorem WTPost.bad {w w' : World} {x : GText} {e : Ending} (h : textOk x = false) (hf : Fr (fun _ => False) w w') (he : e = .returned (.tuple #[.string ⟨#[]⟩, .int .i64 4])) : WTPost w x e w' :=
  ⟨hf, fun h' => (by rw [h] at h'; cases h'), fun _ => he⟩

set_option maxRecDepth 100000 in
set_option maxHeartbeats 4000000 in
theorem wtext_any {w : World} {x : GText} {va ua : Option Addr} {vc uc : Nat} (hm : HM w) (hv : RRow w (· < w.heap.size) 4 (RDecl w (· < w.heap.size)) (.slice va x.decls.length vc) x.decls) (hu : RRow w (· < w.heap.size) 4 (RRule w (· < w.heap.size)) (.slice ua x.rules.length uc) x.rules) (hlen : (textOut x).length ≤ 1099511627776) :
    Calls Try.prog 7 #[.agg #[.slice va x.decls.length vc, .slice ua x.rules.length uc]] w (WTPost w x) := by
  have hO1 : (textOut x).length = (declsOut x.decls).length + (3 + (rulesOut x.rules).length) := by simp [textOut]; omega
  have hdl : x.decls.length ≤ (declsOut x.decls).length := flatMap_len declOut (fun x => by simp [declOut]) _
  have hul : x.rules.length ≤ (rulesOut x.rules).length := flatMap_len ruleOut (fun x => by simp [ruleOut]; omega) _
  rw [hO1] at hlen
  clear hO1
  have hmf := mkFunc_run
  have hf1 : Fr (fun _ => False) w ((((w.alloc (.cells #[.slice va x.decls.length vc, .slice ua x.rules.length uc] 25)).alloc (.cells #[.string ⟨#[]⟩] 9)).alloc (.cells #[.int .i64 0] 28)).alloc (.cells #[.pointer none, .slice none 0 0] 60)) := ((((Fr.refl _ w).alloc _).alloc _).alloc _).alloc _
  have hm1 : HM ((((w.alloc (.cells #[.slice va x.decls.length vc, .slice ua x.rules.length uc] 25)).alloc (.cells #[.string ⟨#[]⟩] 9)).alloc (.cells #[.int .i64 0] 28)).alloc (.cells #[.pointer none, .slice none 0 0] 60)) := hm.fr hf1 id
  have hz := (show 0 < w.heap.size by obtain ⟨mm, h⟩ := hm; exact World.block_lt_of_cell? w _ h)
  have hS1 : ((w.alloc (.cells #[.slice va x.decls.length vc, .slice ua x.rules.length uc] 25)).alloc (.cells #[.string ⟨#[]⟩] 9)).heap.size = w.heap.size + 1 + 1 := by simp
  have hS2 : (((w.alloc (.cells #[.slice va x.decls.length vc, .slice ua x.rules.length uc] 25)).alloc (.cells #[.string ⟨#[]⟩] 9)).alloc (.cells #[.int .i64 0] 28)).heap.size = w.heap.size + 1 + 1 + 1 := by simp
  have hw1 : WB ((((w.alloc (.cells #[.slice va x.decls.length vc, .slice ua x.rules.length uc] 25)).alloc (.cells #[.string ⟨#[]⟩] 9)).alloc (.cells #[.int .i64 0] 28)).alloc (.cells #[.pointer none, .slice none 0 0] 60)) (w.heap.size + 1 + 1 + 1) [] := by
    have := WB.new (((w.alloc (.cells #[.slice va x.decls.length vc, .slice ua x.rules.length uc] 25)).alloc (.cells #[.string ⟨#[]⟩] 9)).alloc (.cells #[.int .i64 0] 28))
    rwa [hS2] at this
  have hT1 : Blk ((((w.alloc (.cells #[.slice va x.decls.length vc, .slice ua x.rules.length uc] 25)).alloc (.cells #[.string ⟨#[]⟩] 9)).alloc (.cells #[.int .i64 0] 28)).alloc (.cells #[.pointer none, .slice none 0 0] 60)) w.heap.size #[.slice va x.decls.length vc, .slice ua x.rules.length uc] 25 := (((Blk.new w _ _).alloc _).alloc _).alloc _
  have hP1 : Blk ((((w.alloc (.cells #[.slice va x.decls.length vc, .slice ua x.rules.length uc] 25)).alloc (.cells #[.string ⟨#[]⟩] 9)).alloc (.cells #[.int .i64 0] 28)).alloc (.cells #[.pointer none, .slice none 0 0] 60)) (w.heap.size + 1) #[.string ⟨#[]⟩] 9 := by
    have := ((Blk.new (w.alloc (.cells #[.slice va x.decls.length vc, .slice ua x.rules.length uc] 25)) #[.string ⟨#[]⟩] 9).alloc (.cells #[.int .i64 0] 28)).alloc (.cells #[.pointer none, .slice none 0 0] 60)
    rwa [show (w.alloc (.cells #[.slice va x.decls.length vc, .slice ua x.rules.length uc] 25)).heap.size = w.heap.size + 1 by simp] at this
  have hQ1 : Blk ((((w.alloc (.cells #[.slice va x.decls.length vc, .slice ua x.rules.length uc] 25)).alloc (.cells #[.string ⟨#[]⟩] 9)).alloc (.cells #[.int .i64 0] 28)).alloc (.cells #[.pointer none, .slice none 0 0] 60)) (w.heap.size + 1 + 1) #[.int .i64 0] 28 := by
    have := (Blk.new ((w.alloc (.cells #[.slice va x.decls.length vc, .slice ua x.rules.length uc] 25)).alloc (.cells #[.string ⟨#[]⟩] 9)) #[.int .i64 0] 28).alloc (.cells #[.pointer none, .slice none 0 0] 60)
    rwa [hS1] at this
  have hd1 : DRow (w.heap.size + 1 + 1 + 1) ((((w.alloc (.cells #[.slice va x.decls.length vc, .slice ua x.rules.length uc] 25)).alloc (.cells #[.string ⟨#[]⟩] 9)).alloc (.cells #[.int .i64 0] 28)).alloc (.cells #[.pointer none, .slice none 0 0] 60)) (.slice va x.decls.length vc) x.decls :=
    (hv.fr (E' := RDecl _ (· < w.heap.size)) hf1 (fun _ _ _ => id) (fun x cs h => h.fr hf1 (fun _ _ _ => id))).mono (fun k hk _ => by omega) (fun x cs h => h.mono (fun k hk _ => by omega))
  have hu1 : URow (w.heap.size + 1 + 1 + 1) ((((w.alloc (.cells #[.slice va x.decls.length vc, .slice ua x.rules.length uc] 25)).alloc (.cells #[.string ⟨#[]⟩] 9)).alloc (.cells #[.int .i64 0] 28)).alloc (.cells #[.pointer none, .slice none 0 0] 60)) (.slice ua x.rules.length uc) x.rules :=
    (hu.fr (E' := RRule _ (· < w.heap.size)) hf1 (fun _ _ _ => id) (fun x cs h => h.fr hf1 (fun _ _ _ => id))).mono (fun k hk _ => by omega) (fun x cs h => h.mono (fun k hk _ => by omega))
  clear hv hu hm hS1 hS2
  have c0 := hT1.cell 0 rfl
  go_enter_defers Try.func7, Try.ntmps7
  go_wp2_with fail
  clear hmf c0
  generalize (((w.alloc (.cells #[.slice va x.decls.length vc, .slice ua x.rules.length uc] 25)).alloc (.cells #[.string ⟨#[]⟩] 9)).alloc (.cells #[.int .i64 0] 28)).alloc (.cells #[.pointer none, .slice none 0 0] 60) = w1 at *
  have hb : 0 < w.heap.size + 1 + 1 + 1 := by omega
  generalize hbe : w.heap.size + 1 + 1 + 1 = b at *
  generalize hqe : w.heap.size + 1 + 1 = q at *
  generalize hpe : w.heap.size + 1 = p at *
  have hpb : p < b := by omega
  have hqb : q < b := by omega
  have hpq : p ≠ q := by omega
  have hwp : w.heap.size < p := by omega
  have hwq : w.heap.size < q := by omega
  have hwb : w.heap.size < b := by omega
  clear hbe hqe hpe
  -- how a panic ends
  have HB := Lib.hid (show ∀ wx, Wf b w1 wx → textOk x = false → CallsD Try.prog 14 #[.pointer (some ⟨p, 0, none⟩), .pointer (some ⟨q, 0, none⟩)] (.panicking writePanic) wx fun e u' w' =>
      e = .returned (.tuple #[]) ∧ u' = .panicking [{ v := .iface 52 (.agg #[]), recovered := true }] ∧ Fr (fun _ => False) w w' ∧ Blk w' p #[.string ⟨#[]⟩] 9 ∧ Blk w' q #[.int .i64 4] 28 from fun wx hf _ =>
    CallsD.mono (write_catch (older := []) (hf.keep hP1 (by decide) (by omega)) (hf.keep hQ1 (by decide) (by omega)) hpq) (fun e u' w' h => ⟨h.1, h.2.1, (hf1.mono (T := fun k => w.heap.size ≤ k) (fun _ _ => False.elim) |>.trans (hf.low.mono (fun k _ e => by have e' : b ≤ k := e; omega)) |>.trans (h.2.2.1.mono (fun k _ e => by have e' : k = p ∨ k = q := e; omega))) |>.mono (fun k hk e => by have e' : w.heap.size ≤ k := e; omega), h.2.2.2⟩))
  go_loopw [6, 15] (fun u1 i wr => ∃ k : Nat, k ≤ x.decls.length ∧ i = .int .i64 k ∧ Wf b w1 wr ∧ WB wr b (declsOut (x.decls.take k)) ∧ Aside ((x.decls.take k).all declOk = true)) (fun u1 i wr => x.decls.length - (intOf i).toNat)
  case atStart => exact ⟨0, Nat.zero_le _, rfl, Wf.refl b w1, hw1, rfl⟩
  case round =>
    obtain ⟨k, hk, rfl, hf, hw2, hA⟩ := hrel
    clear hw1
    have hm2 := hm1.wf hf hb
    by_cases hlt : k < x.decls.length
    · obtain ⟨kb, off, c, a1, ac1, hv, hr2, d0, d1, d2, d3⟩ := (hd1.wf hf).get hlt
      injection hv with hv1 hv2 hv3
      subst hv1
      clear hv2 hv3
      have hT0 := take_snoc_getD x.decls k noDecl hlt
      have hX0 : declOk (x.decls.getD k noDecl) = false → x.decls.all declOk = false := all_getD _ hlt
      have hM0 : (declsOut (x.decls.take k)).length + (declOut (x.decls.getD k noDecl)).length ≤ (declsOut x.decls).length := flatMap_take declOut x.decls k noDecl hlt
      generalize x.decls.getD k noDecl = y at *
      have hT := Lib.hid hT0
      have hX := Lib.hid hX0
      clear hT0 hX0
      obtain ⟨yk, yt, yn, ya⟩ := y
      dsimp only at d0 d1 d2 d3 hr2
      have hN := Blk.new wr #[.string yk, .string yt, .slice a1 yn.length ac1, .int .i64 ya] 41
      have hwn := hw2.alloc (.cells #[.string yk, .string yt, .slice a1 yn.length ac1, .int .i64 ya] 41)
      have hmn := hm2.alloc (.cells #[.string yk, .string yt, .slice a1 yn.length ac1, .int .i64 ya] 41)
      have hfn := hf.alloc (.cells #[.string yk, .string yt, .slice a1 yn.length ac1, .int .i64 ya] 41)
      have hrn := hr2.wf ((Wf.refl b wr).alloc (.cells #[.string yk, .string yt, .slice a1 yn.length ac1, .int .i64 ya] 41))
      have e0 := hN.cell 0 rfl
      have e1 := hN.cell 1 rfl
      have e2 := hN.cell 2 rfl
      have e3 := hN.cell 3 rfl
      go_wp2_with fail
      refine WPost.call (wdecl_any (x := ⟨yk, yt, yn, ya⟩) hmn hb hwn hrn (by omega)) ?_ ?_
      · intro w6 hq hf6
        refine leaves_cons (f := 14) (args := #[.pointer (some ⟨p, 0, none⟩), .pointer (some ⟨q, 0, none⟩)]) (by simp) (by simp [go_sem]) ?_
        have hok : textOk x = false := by rw [textOk, hX.out hq.out]; rfl
        refine CallsD.mono (HB.out w6 (hfn.trans hf6) hok) ?_
        rintro e u w7 ⟨rfl, rfl, hf7, b1, b2⟩
        exact ⟨_, wtext_results rfl rfl b1 b2, WTPost.bad hok hf7 rfl⟩
      intro w6 hq hf6 hw6
      go_wp2_with fail
      go_roundw
      case rel =>
        refine ⟨k + 1, by omega, by go_num, hfn.trans hf6, ?_, ?_⟩
        · rw [hT.out, declsOut, List.flatMap_append]
          simpa [declsOut] using hw6
        · show _ = _
          rw [hT.out, List.all_append, hA.out]
          simp [hq.out]
      case measure => simp [intOf]; omega
    · obtain rfl : k = x.decls.length := by omega
      clear hlt
      rw [List.take_length] at hw2 hA
      have HD := Lib.hid hA.out
      clear hA
      go_wp2_with fail
      refine WPost.call (put_any (hw2.alloc _) (SRow.lit wr [⟨#[37, 37, 10]⟩] (n := 1) rfl rfl rfl hw2.lt) (by simp) (by simp [outS]; omega)) (fun w' h => by have := h.out; cases this) ?_
      intro w4 _ hf4 hw4
      have hf14 := (hf.alloc _).trans hf4
      have hw4' : WB w4 b (declsOut x.decls ++ [37, 37, 10]) := by simpa [outS] using hw4
      have hT4 : Blk w4 w.heap.size _ _ := hf14.keep hT1 (by decide) (by omega)
      have c1 := hT4.cell 1 rfl
      clear hw2 hf hf4 hm2 hw4 hT4
      go_wp2_with fail
      clear c1
      go_loopw [8, 29] (fun u1 i wr => ∃ k : Nat, k ≤ x.rules.length ∧ i = .int .i64 k ∧ Wf b w1 wr ∧ WB wr b (declsOut x.decls ++ [37, 37, 10] ++ rulesOut (x.rules.take k)) ∧ Aside ((x.rules.take k).all ruleOk = true)) (fun u1 i wr => x.rules.length - (intOf i).toNat)
      case atStart => exact ⟨0, Nat.zero_le _, rfl, hf14, by simpa [rulesOut] using hw4', rfl⟩
      case round =>
        clear hw4' hf14
        obtain ⟨k, hk, rfl, hf, hw2, hA⟩ := hrel
        have hm2 := hm1.wf hf hb
        by_cases hlt : k < x.rules.length
        · obtain ⟨kb, off, c, a1, ac1, a2, ac2, hv, hr2, hr3, d0, d1, d2, d3⟩ := (hu1.wf hf).get hlt
          injection hv with hv1 hv2 hv3
          subst hv1
          clear hv2 hv3
          have hT0 := take_snoc_getD x.rules k noRule hlt
          have hX0 : ruleOk (x.rules.getD k noRule) = false → x.rules.all ruleOk = false := all_getD _ hlt
          have hM0 : (rulesOut (x.rules.take k)).length + (ruleOut (x.rules.getD k noRule)).length ≤ (rulesOut x.rules).length := flatMap_take ruleOut x.rules k noRule hlt
          generalize x.rules.getD k noRule = y at *
          have hT := Lib.hid hT0
          have hX := Lib.hid hX0
          clear hT0 hX0
          obtain ⟨yn, yp, ya, yat⟩ := y
          dsimp only at d0 d1 d2 d3 hr2 hr3
          have hN := Blk.new wr #[.string yn, .slice a1 yp.length ac1, .slice a2 ya.length ac2, .int .i64 yat] 44
          have hwn := hw2.alloc (.cells #[.string yn, .slice a1 yp.length ac1, .slice a2 ya.length ac2, .int .i64 yat] 44)
          have hmn := hm2.alloc (.cells #[.string yn, .slice a1 yp.length ac1, .slice a2 ya.length ac2, .int .i64 yat] 44)
          have hfn := hf.alloc (.cells #[.string yn, .slice a1 yp.length ac1, .slice a2 ya.length ac2, .int .i64 yat] 44)
          have hrn := hr2.wf ((Wf.refl b wr).alloc (.cells #[.string yn, .slice a1 yp.length ac1, .slice a2 ya.length ac2, .int .i64 yat] 44))
          have hrm := hr3.wf ((Wf.refl b wr).alloc (.cells #[.string yn, .slice a1 yp.length ac1, .slice a2 ya.length ac2, .int .i64 yat] 44))
          have e0 := hN.cell 0 rfl
          have e1 := hN.cell 1 rfl
          have e2 := hN.cell 2 rfl
          have e3 := hN.cell 3 rfl
          go_wp2_with fail
          refine WPost.call (wrule_any (x := ⟨yn, yp, ya, yat⟩) hmn hb hwn hrn hrm (by simp only [List.length_append]; simp; omega)) ?_ ?_
          · intro w6 hq hf6
            refine leaves_cons (f := 14) (args := #[.pointer (some ⟨p, 0, none⟩), .pointer (some ⟨q, 0, none⟩)]) (by simp) (by simp [go_sem]) ?_
            have hok : textOk x = false := by rw [textOk, hX.out hq.out]; simp
            refine CallsD.mono (HB.out w6 (hfn.trans hf6) hok) ?_
            rintro e u w7 ⟨rfl, rfl, hf7, b1, b2⟩
            exact ⟨_, wtext_results rfl rfl b1 b2, WTPost.bad hok hf7 rfl⟩
          intro w6 hq hf6 hw6
          go_wp2_with fail
          go_roundw
          case rel =>
            refine ⟨k + 1, by omega, by go_num, hfn.trans hf6, ?_, ?_⟩
            · rw [hT.out, rulesOut, List.flatMap_append]
              simpa [rulesOut] using hw6
            · show _ = _
              rw [hT.out, List.all_append, hA.out]
              simp [hq.out]
          case measure => simp [intOf]; omega
        · obtain rfl : k = x.rules.length := by omega
          clear hlt
          rw [List.take_length] at hw2 hA
          have HR := Lib.hid hA.out
          clear hA
          have hne : declsOut x.decls ++ [37, 37, 10] ++ rulesOut x.rules ≠ [] := by simp
          have hoe : textOut x = declsOut x.decls ++ [37, 37, 10] ++ rulesOut x.rules := by simp [textOut]
          generalize declsOut x.decls ++ [37, 37, 10] ++ rulesOut x.rules = out at *
          have HO := Lib.hid hoe
          clear hoe
          go_wp2_with fail
          refine (builder_string hw2 hne).mono ?_
          rintro e w5 ⟨rfl, hf5⟩
          have hf15 := hf.trans hf5
          have hP5 : Blk w5 p _ _ := hf15.keep hP1 (by decide) (by omega)
          have hQ5 : Blk w5 q _ _ := hf15.keep hQ1 (by decide) (by omega)
          have p0 := hP5.cell 0 rfl
          have p1 := hP5.frozen 0
          have q0 := hQ5.cell 0 rfl
          have q1 := hQ5.frozen 0
          have hqp : q ≠ p := Ne.symm hpq
          clear hw2 hf hf5 hm2
          go_wp2_with fail
          refine leaves_cons (f := 14) (args := #[.pointer (some ⟨p, 0, none⟩), .pointer (some ⟨q, 0, none⟩)]) (by simp) (by simp [go_sem]) ?_
          refine CallsD.mono (write_catch_idle _ _ _) ?_
          rintro e u w6 ⟨rfl, rfl, rfl⟩
          have hP6 : Blk _ p #[.string ⟨out.toArray⟩] 9 := (hP5.set 0 (.string ⟨out.toArray⟩) rfl).far (p := ⟨q, 0, none⟩) hqp (.int .i64 0)
          have hQ6 : Blk _ q #[.int .i64 0] 28 := (hQ5.far (p := ⟨p, 0, none⟩) hpq (.string ⟨out.toArray⟩)).set 0 (.int .i64 0) rfl
          refine ⟨_, wtext_results rfl rfl hP6 hQ6, WTPost.good (by rw [textOk, HD.out, HR.out]; rfl) ?_ ?_⟩
          · refine (((hf1.mono (T := fun k => w.heap.size ≤ k) (fun _ _ => False.elim) |>.trans (hf15.low.mono (fun k _ e => by have e' : b ≤ k := e; omega))).setCell (p := ⟨p, 0, none⟩) (fun _ => by show w.heap.size ≤ p; omega) _).setCell (p := ⟨q, 0, none⟩) (fun _ => by show w.heap.size ≤ q; omega) _).mono (fun k hk e => by have e' : w.heap.size ≤ k := e; omega)
          · rw [HO.out]
end Go.Proofs.Ytejpmdlokmlmeaa
