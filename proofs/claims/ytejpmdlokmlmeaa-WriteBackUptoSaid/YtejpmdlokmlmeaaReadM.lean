/- A text is read: what it gives, in plain Lean, and the walk. Condition: the library's variable is there. -/
import Derived.Test.YtejpmdlokmlmeaaReadL
set_option linter.unusedVariables false
set_option linter.unusedSimpArgs false
namespace Go.Proofs.Ytejpmdlokmlmeaa
open Go.RowKit

def declsN : Nat → List Tk → RE (List GDecl × List Tk)
  | 0, l => .ok ([], l)
  | n + 1, l => if isK 1 [] l then do
      let (x, l1) ← declS l
      let (xs, l2) ← declsN n l1
      .ok (x :: xs, l2)
    else .ok ([], l)
def rulesN : Nat → List Tk → RE (List GRule)
  | 0, _ => .ok []
  | n + 1, l => if isK 7 [] l then .ok [] else do
      let (x, l1) ← ruleS l
      let xs ← rulesN n l1
      .ok (x :: xs)
def textS (l : List Tk) : RE GText := do
  let (ds, l1) ← declsN l.length l
  let (_, l2) ← mustS 6 [⟨#[37, 37]⟩] l1
  let rs ← rulesN l2.length l2
  .ok ⟨ds, rs⟩
def readS (s : ByteArray) : RE GText := match lexS s with
  | .error (n, i) => .error (n, (i : Int))
  | .ok l => textS l

theorem lexN_len (s : ByteArray) : ∀ (f i : Nat) (l l' : List Tk), i ≤ s.size → lexN s f i l = .ok l' → l'.length ≤ l.length + (s.size - i) := by
  intro f
  induction f with
  | zero => intro i l l' hi h; cases h; omega
  | succ f ih =>
    intro i l l' hi h
    rw [lexN] at h
    split at h
    · rename_i hlt
      split at h
      · have := ih _ _ _ (by omega) h; omega
      · split at h
        · rename_i hc
          have h1 := com_pos hc hlt
          have h2 := lineN_le s i (by omega)
          have := ih _ _ _ (by omega) h; omega
        · split at h
          · cases h
          · rename_i t j ht
            have hj := tokS_le hlt ht
            have := ih _ _ _ (by omega) h
            simp at this
            omega
    · cases h; omega
theorem lexS_ok {s : ByteArray} {l : List Tk} (h : lexS s = .ok l) : l.length ≤ 100000 ∧ ∀ t, l.getLast? = some t → t.kind = 7 := by
  unfold lexS at h
  split at h
  · cases h
  · split at h
    · cases h
    · rename_i hs l' hl
      cases h
      have := lexN_len s _ _ _ _ (Nat.zero_le _) hl
      simp only [List.length_nil] at this
      refine ⟨by simp; omega, fun t ht => ?_⟩
      rw [List.getLast?_append] at ht
      simp at ht
      rw [← ht]
theorem mustS_lt {k : Nat} {ts : List ByteArray} {l l' : List Tk} {x : ByteArray} (hk : k ≠ 7) (h : mustS k ts l = .ok (x, l')) : l'.length < l.length := by
  unfold mustS at h
  split at h
  · rename_i hq
    cases h
    cases l with
    | nil => simp [isK, hd] at hq; exact absurd hq.1.symm hk
    | cons t l => simp
  · cases h
theorem declS_len {l l' : List Tk} {x : GDecl} (h : declS l = .ok (x, l')) : l'.length < l.length := by
  unfold declS at h
  cases hq : mustS 1 sDirs l with
  | error e => rw [hq] at h; cases h
  | ok xl =>
    obtain ⟨k, l1⟩ := xl
    rw [hq, exOk] at h
    have h1 := mustS_lt (by decide) hq
    cases hr : typeS k l1 with
    | error e => simp only [hr, exErr] at h; cases h
    | ok yl =>
      obtain ⟨t, l2⟩ := yl
      simp only [hr, exOk] at h
      have h2 : l2.length ≤ l1.length := by
        unfold typeS at hr
        split at hr
        · cases ha : mustS 6 [⟨#[60]⟩] l1 with
          | error e => simp only [ha, exErr] at hr; cases hr
          | ok al =>
            obtain ⟨a, la⟩ := al
            simp only [ha, exOk] at hr
            cases hb : nameS la with
            | error e => simp only [hb, exErr] at hr; cases hr
            | ok bl =>
              obtain ⟨b, lb⟩ := bl
              simp only [hb, exOk] at hr
              cases hc : mustS 6 [⟨#[62]⟩] lb with
              | error e => simp only [hc, exErr] at hr; cases hr
              | ok cl =>
                obtain ⟨c, lc⟩ := cl
                simp only [hc, exOk] at hr
                cases hr
                have := mustS_len ha
                have := nameS_len hb
                have := mustS_len hc
                omega
        · cases hr; exact Nat.le_refl _
      cases hs : nameS l2 with
      | error e => simp only [hs, exErr] at h; cases h
      | ok zl =>
        obtain ⟨n, l3⟩ := zl
        simp only [hs, exOk] at h
        have h3 := nameS_len hs
        have h4 : ∀ l : List Tk, (namesR l).2.length ≤ l.length := by
          intro l
          induction l with
          | nil => simp [namesR]
          | cons t l ih => unfold namesR; split <;> simp <;> omega
        have h4' := h4 l3
        cases hu : mustS 6 [⟨#[59]⟩] (namesR l3).2 with
        | error e => simp only [hu, exErr] at h; cases h
        | ok ul =>
          obtain ⟨u, l5⟩ := ul
          simp only [hu, exOk] at h
          cases h
          have := mustS_len hu
          omega
theorem ruleS_len {l l' : List Tk} {x : GRule} (h : ruleS l = .ok (x, l')) : l'.length < l.length := by
  unfold ruleS at h
  cases hq : nameS l with
  | error e => rw [hq] at h; cases h
  | ok xl =>
    obtain ⟨k, l1⟩ := xl
    rw [hq, exOk] at h
    have h1 := nameS_len hq
    cases hr : givenS nameS l1 with
    | error e => simp only [hr, exErr] at h; cases h
    | ok yl =>
      obtain ⟨t, l2⟩ := yl
      simp only [hr, exOk] at h
      have h2 := givenS_len (fun h => Nat.le_of_lt (nameS_len h)) hr
      cases hs : mustS 6 [⟨#[58]⟩] l2 with
      | error e => simp only [hs, exErr] at h; cases h
      | ok zl =>
        obtain ⟨n, l3⟩ := zl
        simp only [hs, exOk] at h
        have h3 := mustS_len hs
        cases hu : listS ⟨#[124]⟩ altS l3 with
        | error e => simp only [hu, exErr] at h; cases h
        | ok ul =>
          obtain ⟨u, l4⟩ := ul
          simp only [hu, exOk] at h
          have h4 := listS_len (fun h => altS_len h) hu
          cases hv : mustS 6 [⟨#[59]⟩] l4 with
          | error e => simp only [hv, exErr] at h; cases h
          | ok vl =>
            obtain ⟨v, l5⟩ := vl
            simp only [hv, exOk] at h
            cases h
            have := mustS_len hv
            omega

theorem assert_fault (n a : Int) (w : World) : (Instr.typeAssert (.iface 32 (.agg #[.int .i64 n, .int .i64 a])) 20 32 true).run Try.prog w = .ok (.tuple #[.agg #[.int .i64 n, .int .i64 a], .bool true]) w := by kernel_rfl
theorem read_catch_idle (p q : Option Addr) (w : World) :
    CallsD Try.prog 20 #[.pointer p, .pointer q] .returning w fun e u' w' => e = .returned (.tuple #[]) ∧ u' = .returning ∧ w = w' := by
  refine callsD_of_wpS Try.func20 rfl fun c₀ cs hu => ?_
  apply wpS_seq
  apply wpS_region
  simp [wpOpsS, go_sem, recoverD, hu, Try.ntmps20, Exit.thenS, Array.replicate_succ]
  refine wpS_of_wp ?_
  have hn := neq_nil_nil
  go_wp2_with fail
  cases c₀
  simp_all [bodyPostS, results, Try.results20]

set_option maxRecDepth 100000 in
set_option maxHeartbeats 400000 in
theorem read_catch {p q : Nat} {v u : Value} {a b n i : Int} {older : List PanicEntry} {w : World} (hp : Blk w p #[v, u] 25) (hq : Blk w q #[.int .i64 a, .int .i64 b] 32) (hpq : p ≠ q) :
    CallsD Try.prog 20 #[.pointer (some ⟨q, 0, none⟩), .pointer (some ⟨p, 0, none⟩)] (.panicking ({ v := .iface 32 (.agg #[.int .i64 n, .int .i64 i]), recovered := false } :: older)) w fun e u' w' =>
      e = .returned (.tuple #[]) ∧ u' = .panicking ({ v := .iface 32 (.agg #[.int .i64 n, .int .i64 i]), recovered := true } :: older) ∧ Fr (fun k => k = p ∨ k = q) w w' ∧
      Blk w' p #[.slice none 0 0, .slice none 0 0] 25 ∧ Blk w' q #[.int .i64 n, .int .i64 i] 32 := by
  refine callsD_of_wpS Try.func20 rfl fun c₀ cs hu => ?_
  apply wpS_seq
  apply wpS_region
  simp [wpOpsS, go_sem, recoverD, hu, Try.ntmps20, Exit.thenS, Array.replicate_succ]
  refine wpS_of_wp ?_
  have hn := neq_nil_any 32 (.agg #[.int .i64 n, .int .i64 i])
  have ht := assert_fault n i
  have c0 := hp.cell 0 rfl
  have c1 := hp.cell 1 rfl
  have d0 := hq.cell 0 rfl
  have d1 := hq.cell 1 rfl
  have f0 := hp.frozen 0
  have f1 := hp.frozen 1
  have f2 := hq.frozen 0
  have f3 := hq.frozen 1
  have hqp : q ≠ p := Ne.symm hpq
  go_wp2_with fail
  exact ⟨rfl, _, rfl, .tuple #[], results_none rfl _ _ _, rfl, rfl, ((((Fr.refl (fun k => k = p ∨ k = q) w).setCell (p := ⟨q, 0, none⟩) (fun _ => .inr rfl) _).setCell (p := ⟨q, 1, none⟩) (fun _ => .inr rfl) _).setCell (p := ⟨p, 0, none⟩) (fun _ => .inl rfl) _).setCell (p := ⟨p, 1, none⟩) (fun _ => .inl rfl) _,
    (((hp.far (p := ⟨q, 0, none⟩) (by show q ≠ p; omega) _).far (p := ⟨q, 1, none⟩) (by show q ≠ p; omega) _).set 0 (.slice none 0 0) rfl).set 1 (.slice none 0 0) rfl, (((hq.set 0 (.int .i64 n) rfl).set 1 (.int .i64 i) rfl).far (p := ⟨p, 0, none⟩) (by show p ≠ q; omega) _).far (p := ⟨p, 1, none⟩) (by show p ≠ q; omega) _⟩
theorem rtext_results {tmps : Array Value} {W : World} {p q : Nat} {v u : Value} {n i : Int} (h2 : tmps.getD 2 undef = .pointer (some ⟨p, 0, none⟩)) (h3 : tmps.getD 3 undef = .pointer (some ⟨q, 0, none⟩))
    (hp : Blk W p #[v, u] 25) (hq : Blk W q #[.int .i64 n, .int .i64 i] 32) :
    (results Try.f8 tmps).run Try.prog W = .ok (.tuple #[.agg #[v, u], .agg #[.int .i64 n, .int .i64 i]]) W := by
  have c0 := hp.cell 0 rfl
  have c1 := hp.cell 1 rfl
  have d0 := hq.cell 0 rfl
  have d1 := hq.cell 1 rfl
  simp only [Array.getD_eq_getD_getElem?] at h2 h3
  simp [results, Try.results8, h2, h3, go_sem, c0, c1, d0, d1]
theorem Try.infoDecl : (Try.prog.info? 41).map (fun i => (i.zero, i.size, i.bytes)) = some (some (.agg #[.string ⟨#[]⟩, .string ⟨#[]⟩, .slice none 0 0, .int .i64 0]), 4, 64) := by kernel_rfl
theorem Try.infoRule : (Try.prog.info? 44).map (fun i => (i.zero, i.size, i.bytes)) = some (some (.agg #[.string ⟨#[]⟩, .slice none 0 0, .slice none 0 0, .int .i64 0]), 4, 72) := by kernel_rfl
end Go.Proofs.Ytejpmdlokmlmeaa
