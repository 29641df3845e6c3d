/- The deferred end of lex's Tokens. No condition. -/
import Derived.Test.YtejpmdlokmlmeaaLexK
import Derived.WideLaws
import Derived.Deep.AppendLies
set_option linter.unusedVariables false
set_option linter.unusedSimpArgs false
namespace Go.Proofs.Ytejpmdlokmlmeaa
open Go.RowKit

theorem neq_nil_any (t : TypeId) (v : Value) (w : World) : (binOp .neq 20 (.iface t v) .nilIface).run Try.prog w = .ok (.bool true) w := by kernel_rfl
theorem neq_nil_nil (w : World) : (binOp .neq 20 .nilIface .nilIface).run Try.prog w = .ok (.bool false) w := by kernel_rfl

theorem assert_wrong (n : Int) (w : World) : (Instr.typeAssert (.iface 99 (.agg #[.int .i64 n])) 20 99 true).run Try.prog w = .ok (.tuple #[.agg #[.int .i64 n], .bool true]) w := by kernel_rfl

theorem lex_catch_idle (p q r : Option Addr) (w : World) :
    CallsD Try.prog 35 #[.pointer p, .pointer q, .pointer r] .returning w fun e u' w' => e = .returned (.tuple #[]) ∧ u' = .returning ∧ w = w' := by
  refine callsD_of_wpS Try.func35 rfl fun c₀ cs hu => ?_
  apply wpS_seq
  apply wpS_region
  simp [wpOpsS, go_sem, recoverD, hu, Try.ntmps35, Exit.thenS, Array.replicate_succ]
  refine wpS_of_wp ?_
  have hn := neq_nil_nil
  go_wp2_with fail
  cases c₀
  simp_all [bodyPostS, results, Try.results35]

set_option maxRecDepth 100000 in
set_option maxHeartbeats 400000 in
theorem lex_catch {p q r : Nat} {i n : Int} {v : Value} {a b : Int} {older : List PanicEntry} {w : World} (hp : w.cell? ⟨p, 0, none⟩ = some (.int .i64 i)) (hq : w.cell? ⟨q, 0, none⟩ = some v)
    (hr0 : w.cell? ⟨r, 0, none⟩ = some (.int .i64 a)) (hr1 : w.cell? ⟨r, 1, none⟩ = some (.int .i64 b)) (fq : w.frozen? ⟨q, 0, none⟩ = false) (fr0 : w.frozen? ⟨r, 0, none⟩ = false) (fr1 : w.frozen? ⟨r, 1, none⟩ = false)
    (lp : p < w.heap.size) (lq : q < w.heap.size) (lr : r < w.heap.size) (hqr : q ≠ r) :
    CallsD Try.prog 35 #[.pointer (some ⟨p, 0, none⟩), .pointer (some ⟨q, 0, none⟩), .pointer (some ⟨r, 0, none⟩)] (.panicking ({ v := .iface 99 (.agg #[.int .i64 n]), recovered := false } :: older)) w fun e u' w' =>
      e = .returned (.tuple #[]) ∧ u' = .panicking ({ v := .iface 99 (.agg #[.int .i64 n]), recovered := true } :: older) ∧ Fr (fun k => k = q ∨ k = r) w w' ∧
      w'.cell? ⟨q, 0, none⟩ = some (.slice none 0 0) ∧ w'.cell? ⟨r, 0, none⟩ = some (.int .i64 n) ∧ w'.cell? ⟨r, 1, none⟩ = some (.int .i64 i) := by
  refine callsD_of_wpS Try.func35 rfl fun c₀ cs hu => ?_
  apply wpS_seq
  apply wpS_region
  simp [wpOpsS, go_sem, recoverD, hu, Try.ntmps35, Exit.thenS, Array.replicate_succ]
  refine wpS_of_wp ?_
  have hn := neq_nil_any 99 (.agg #[.int .i64 n])
  have ht := assert_wrong n
  go_wp2_with fail
  have hf : Fr (fun _ => False) w (w.alloc (.cells #[.int .i64 n] 99)) := (Fr.refl _ w).alloc _
  have g0 : (w.alloc (.cells #[.int .i64 n] 99)).cell? ⟨w.heap.size, 0, none⟩ = some (.int .i64 n) := by
    simp
  rw [← hf.cell (p := ⟨p, 0, none⟩) lp id] at hp
  rw [← hf.cell (p := ⟨q, 0, none⟩) lq id] at hq
  rw [← hf.cell (p := ⟨r, 0, none⟩) lr id] at hr0
  rw [← hf.cell (p := ⟨r, 1, none⟩) lr id] at hr1
  rw [← hf.frozen (p := ⟨q, 0, none⟩) lq id] at fq
  rw [← hf.frozen (p := ⟨r, 0, none⟩) lr id] at fr0
  rw [← hf.frozen (p := ⟨r, 1, none⟩) lr id] at fr1
  have hF : Fr (fun k => k = q ∨ k = r) w (w.alloc (.cells #[.int .i64 n] 99)) := hf.mono (fun _ _ => False.elim)
  clear hf hn ht hu
  generalize w.alloc (.cells #[.int .i64 n] 99) = w1 at *
  have hqr' : r ≠ q := Ne.symm hqr
  go_region
  exact ⟨rfl, _, rfl, .tuple #[], results_none rfl _ _ _, rfl, rfl, (((hF.setCell (fun _ => .inl rfl) _).setCell (fun _ => .inr rfl) _).setCell (fun _ => .inr rfl) _).drew, by go_simp, by go_simp, by go_simp⟩
end Go.Proofs.Ytejpmdlokmlmeaa
