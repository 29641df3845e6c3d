/- Maps by bytes that a call makes out of a literal: laid and looked up. No condition. -/
import Derived.Test.YtejpmdlokmlmeaaBase
set_option linter.unusedVariables false
set_option linter.unusedSimpArgs false
namespace Go.Proofs.Ytejpmdlokmlmeaa
open Go.RowKit Go.MapKept

theorem run_insert_byte {P : Program} (w : World) {mty kt et : TypeId} {r clock : Nat} {es : Array MapEntry} (k : Int) (val : Value) (hm : P.underlying mty = some (.map kt et)) (hk : P.underlying kt = some (.int .u8))
    (hb : w.heap[r]? = some (.map es clock)) (hn : Instr.findNow (.int .u8) (.int .u8 k) es.toList 0 = some none) :
    (Instr.mapUpdate mty (.map (some r)) (.int .u8 k) val).run P w = .ok () { w with heap := w.heap.setIfInBounds r (.map (es.push { key := .int .u8 k, val := val, born := clock }) (clock + 1)) } := by
  have hc : (Instr.checkKey false 10000 kt (.int .u8 k)).run P w = .ok () w := MapKept.run_checkKey (k := .int .u8 k) hk (by simp [MapKept.IsKey]) false 9999
  have hf : (Instr.findKey kt (.int .u8 k) es.toList).run P w = .ok none w := by simp [Instr.findKey, run_underlying hk, hn, Result.andThen]
  simp [Instr.mapUpdate, run_underlying hm, MapKept.run_getObj_map hb, hc, hf, MapKept.run_setObj_map _ hb, Result.andThen]
theorem alloc_put (w : World) (o o' : Obj) : ({ w.alloc o with heap := (w.alloc o).heap.setIfInBounds w.heap.size o' } : World) = w.alloc o' := by
  show ({ heap := (w.heap.push o).setIfInBounds w.heap.size o', tape := w.tape, drawn := w.drawn, os := w.os, output := w.output } : World) = { heap := w.heap.push o', tape := w.tape, drawn := w.drawn, os := w.os, output := w.output }
  congr 1
  apply Array.ext
  · simp
  · intro i h1 h2
    simp only [Array.size_setIfInBounds, Array.size_push] at h1
    rw [Array.getElem_setIfInBounds (by simpa using h1)]
    by_cases e : w.heap.size = i
    · subst e; simp
    · rw [if_neg e, Array.getElem_push_lt (by omega), Array.getElem_push_lt (by omega)]
/-- An entry is laid into a map that was just made. -/
theorem wpList_insert_new {P : Program} (w : World) {ops : Array Oper} {rest : List Oper} {o : Oper} {a : Act} {Q : Exit → Act → World → Prop}
    (hg : o.guard = none) (t kt et : TypeId) (m k x : Operand) (hop : o.op = Op.insert t m k x) (h1 : P.underlying t = some (.map kt et)) (h2 : P.underlying kt = some (.int .u8))
    (es : Array MapEntry) (c : Nat) (key : Int) (hm : a.eval m = .map (some w.heap.size)) (hk : a.eval k = .int .u8 key) (hn : Instr.findNow (.int .u8) (.int .u8 key) es.toList 0 = some none)
    (h : wpList P ops Q rest (a.put o.dst undef) (w.alloc (.map (es.push { key := .int .u8 key, val := a.eval x, born := c }) (c + 1)))) : wpList P ops Q (o :: rest) a (w.alloc (.map es c)) := by
  refine wpList_plain hg fun K hK => ?_
  have hb : (w.alloc (.map es c)).heap[w.heap.size]? = some (.map es c) := (MapKept.heap_alloc w (.map es c)).1
  have hrun := run_insert_byte (w.alloc (.map es c)) key (a.eval x) h1 h2 hb hn
  rw [alloc_put] at hrun
  unfold Oper.wp
  simp only [execOp, hop, hm, hk, Sem.run_bind, hrun, Result.andThen]
  exact hK _ _ h
/-- A look: the entry is there. -/
theorem run_lookup_byte {P : Program} (w : World) {mty kt et : TypeId} {r clock : Nat} {es : Array MapEntry} (k : Int) (i : Nat) (v : Value) (hm : P.underlying mty = some (.map kt et)) (hk : P.underlying kt = some (.int .u8))
    (hb : w.heap[r]? = some (.map es clock)) (hn : Instr.findNow (.int .u8) (.int .u8 k) es.toList 0 = some (some (i, v))) :
    (Instr.lookup mty (.map (some r)) (.int .u8 k) true).run P w = .ok (.tuple #[v, .bool true]) w := by
  have hc : ∀ e, (Instr.checkKey e 10000 kt (.int .u8 k)).run P w = .ok () w := fun e => MapKept.run_checkKey (k := .int .u8 k) hk (by simp [MapKept.IsKey]) e 9999
  have hf : (Instr.findKey kt (.int .u8 k) es.toList).run P w = .ok (some (i, v)) w := by simp [Instr.findKey, run_underlying hk, hn, Result.andThen]
  simp [Instr.lookup, run_underlying hm, MapKept.run_getObj_map hb, hc, hf, Result.andThen]
/-- A look: there is none. -/
theorem run_lookup_none {P : Program} (w : World) {mty kt et : TypeId} {r clock : Nat} {es : Array MapEntry} (k : Int) (z : Value) (hm : P.underlying mty = some (.map kt et)) (hk : P.underlying kt = some (.int .u8))
    (hz : ∀ w : World, (zeroValue et).run P w = .ok z w) (hb : w.heap[r]? = some (.map es clock)) (hn : Instr.findNow (.int .u8) (.int .u8 k) es.toList 0 = some none) :
    (Instr.lookup mty (.map (some r)) (.int .u8 k) true).run P w = .ok (.tuple #[z, .bool false]) w := by
  have hc : ∀ e, (Instr.checkKey e 10000 kt (.int .u8 k)).run P w = .ok () w := fun e => MapKept.run_checkKey (k := .int .u8 k) hk (by simp [MapKept.IsKey]) e 9999
  have hf : (Instr.findKey kt (.int .u8 k) es.toList).run P w = .ok none w := by simp [Instr.findKey, run_underlying hk, hn, Result.andThen]
  simp [Instr.lookup, run_underlying hm, MapKept.run_getObj_map hb, hc, hf, hz, Result.andThen]
end Go.Proofs.Ytejpmdlokmlmeaa
