/- All tokens of a text are read: the walk. Condition: texts to a hundred thousand bytes. -/
import Derived.Test.YtejpmdlokmlmeaaLexL
set_option linter.unusedVariables false
set_option linter.unusedSimpArgs false
namespace Go.Proofs.Ytejpmdlokmlmeaa
open Go.RowKit

/-- What 'Tokens' gives. -/
def LexPost (w : World) (s : ByteArray) (e : Ending) (w' : World) : Prop :=
  Fr (fun _ => False) w w' ∧ match lexS s with
    | .error (n, i) => e = .returned (.tuple #[.slice none 0 0, .agg #[.int .i64 n, .int .i64 (i : Int)]])
    | .ok l => ∃ v, e = .returned (.tuple #[v, .agg #[.int .i64 0, .int .i64 0]]) ∧ w'.ownsRow w.heap.size 103 3 v l.length (tkCells l)
theorem LexPost.bad {w w' : World} {s : ByteArray} {n : Int} {i : Nat} {e : Ending} (h : lexS s = .error (n, i)) (hf : Fr (fun _ => False) w w') (he : e = .returned (.tuple #[.slice none 0 0, .agg #[.int .i64 n, .int .i64 (i : Int)]])) : LexPost w s e w' := by
  unfold LexPost; rw [h]; exact ⟨hf, he⟩

theorem lex_results {tmps : Array Value} {W : World} {p q : Nat} {a : Option Addr} {n c : Nat} {e i : Int} (h2 : tmps.getD 2 undef = .pointer (some ⟨p, 0, none⟩)) (h3 : tmps.getD 3 undef = .pointer (some ⟨q, 0, none⟩))
    (hp : W.cell? ⟨p, 0, none⟩ = some (.slice a n c)) (hq0 : W.cell? ⟨q, 0, none⟩ = some (.int .i64 e)) (hq1 : W.cell? ⟨q, 1, none⟩ = some (.int .i64 i)) :
    (results Try.f19 tmps).run Try.prog W = .ok (.tuple #[.slice a n c, .agg #[.int .i64 e, .int .i64 i]]) W := by
  simp only [Array.getD_eq_getD_getElem?] at h2 h3
  simp [results, Try.results19, h2, h3, go_sem, hp, hq0, hq1]

set_option maxRecDepth 100000 in
set_option maxHeartbeats 1000000 in
theorem tokens_long {w : World} {s : ByteArray} (h : 65536 < s.size) : Calls Try.prog 19 #[.string s] w (LexPost w s) := by
  have hq := Lib.hid (show lexS s = .error (3, 0) by rw [lexS, if_pos h])
  go_enter_defers Try.func19, Try.ntmps19
  go_wp2_with fail
  refine ⟨_, lex_results (p := w.heap.size) (q := w.heap.size + 1) rfl rfl ?_ ?_ ?_, LexPost.bad hq.out (((Fr.refl _ w).alloc _).alloc _) rfl⟩
  · go_simp
  · go_simp
  · go_simp

theorem own_weaken' {w : World} {base base' e size n : Nat} {v : Value} {xs : List Value} (h : w.ownsRow base e size v n xs) (hb : base' ≤ base) : w.ownsRow base' e size v n xs := by
  obtain ⟨h1, h2⟩ := h
  refine ⟨h1, ?_⟩
  rcases h2 with h2 | ⟨g, cap, cur, rfl, hg, r⟩
  · exact .inl h2
  · exact .inr ⟨g, cap, cur, rfl, Nat.le_trans hb hg, r⟩
/-- What stands at the head of a round of 'Tokens'. -/
structure LexIn (w W : World) (p q b g : Nat) (s : ByteArray) (k : Nat) (x : Int) (v : Value) (l : List Tk) : Prop where
  lr : LR W b s k v 0
  own : W.ownsRow (g + 1) 103 3 v l.length (tkCells l)
  pc : W.heap[p]? = some (.cells #[.slice none 0 0] 65 (0, 0))
  qc : W.heap[q]? = some (.cells #[.int .i64 0, .int .i64 0] 32 (0, 0))
  gc : W.heap[g]? = some (.cells #[.int .i64 x] 3 (0, 0))
  fr : Fr (fun k => w.heap.size ≤ k) w W
  hp : w.heap.size ≤ p
  pq : p < q
  qb : q < b
  bg : b < g
theorem one_cell_at {W : World} {p : Nat} {v : Value} {T : TypeId} (h : W.heap[p]? = some (.cells #[v] T (0, 0))) : W.cell? ⟨p, 0, none⟩ = some v ∧ W.frozen? ⟨p, 0, none⟩ = false := by
  simp [World.cell?, World.frozen?, h]
theorem two_cells_at {W : World} {p : Nat} {v u : Value} {T : TypeId} (h : W.heap[p]? = some (.cells #[v, u] T (0, 0))) : W.cell? ⟨p, 0, none⟩ = some v ∧ W.cell? ⟨p, 1, none⟩ = some u ∧ W.frozen? ⟨p, 0, none⟩ = false ∧ W.frozen? ⟨p, 1, none⟩ = false := by
  simp [World.cell?, World.frozen?, h]
namespace LexIn
variable {w W W' : World} {p q b g : Nat} {s : ByteArray} {k k' : Nat} {x : Int} {v v' : Value} {l l' : List Tk}
theorem drewN (h : LexIn w W p q b g s k x v l) (n : Nat) : LexIn w (W.drewN n) p q b g s k x v l := ⟨h.lr, h.own, h.pc, h.qc, h.gc, h.fr.drewN n, h.hp, h.pq, h.qb, h.bg⟩
theorem start (w : World) (s : ByteArray) : LexIn w ((((w.alloc (.cells #[.slice none 0 0] 65)).alloc (.cells #[.int .i64 0, .int .i64 0] 32)).alloc (.cells #[.string s, .int .i64 0, .slice none 0 0, .int .i64 0] 97)).alloc (.cells #[.int .i64 0] 3))
    w.heap.size (w.heap.size + 1) (w.heap.size + 1 + 1) (w.heap.size + 1 + 1 + 1) s 0 0 (.slice none 0 0) [] := by
  have e : ∀ (W : World) (o o' : Obj), (W.alloc o').heap[W.heap.size]? = some o' := fun W _ o' => (MapKept.heap_alloc W o').1
  have f : ∀ (W : World) (o : Obj) (k : Nat), k < W.heap.size → (W.alloc o).heap[k]? = W.heap[k]? := fun W o k hk => Below.heap_alloc W o k hk
  have z : ∀ (W : World) (o : Obj), (W.alloc o).heap.size = W.heap.size + 1 := fun W o => by simp
  refine ⟨?_, ⟨rfl, .inl ⟨rfl, rfl⟩⟩, ?_, ?_, ?_, ((((Fr.refl _ w).alloc _).alloc _).alloc _).alloc _, Nat.le_refl _, by omega, by omega, by omega⟩
  · show _ = _
    rw [f _ _ _ (by simp only [z]; omega)]
    have := e ((w.alloc (.cells #[.slice none 0 0] 65)).alloc (.cells #[.int .i64 0, .int .i64 0] 32)) (.cells #[] 0) (.cells #[.string s, .int .i64 0, .slice none 0 0, .int .i64 0] 97)
    simp only [z] at this
    exact this
  · rw [f _ _ _ (by simp only [z]; omega), f _ _ _ (by simp only [z]; omega), f _ _ _ (by simp only [z]; omega)]
    exact e w (.cells #[] 0) _
  · rw [f _ _ _ (by simp only [z]; omega), f _ _ _ (by simp only [z]; omega)]
    have := e (w.alloc (.cells #[.slice none 0 0] 65)) (.cells #[] 0) (.cells #[.int .i64 0, .int .i64 0] 32)
    simpa only [z] using this
  · have := e (((w.alloc (.cells #[.slice none 0 0] 65)).alloc (.cells #[.int .i64 0, .int .i64 0] 32)).alloc (.cells #[.string s, .int .i64 0, .slice none 0 0, .int .i64 0] 97)) (.cells #[] 0) (.cells #[.int .i64 0] 3)
    simpa only [z] using this
/-- Behind what writes the reader's block alone. -/
theorem step (h : LexIn w W p q b g s k x v l) (hf : Fr (· = b) W W') (hr : LR W' b s k' v 0) : LexIn w W' p q b g s k' x v l := by
  have := h.hp; have := h.pq; have := h.qb; have := h.bg
  exact ⟨hr, own_fr h.own hf (fun i hi _ e => by have e' : i = b := e; omega), (hf.block _ (lt_of_heap h.pc) (by show ¬ p = b; omega)).trans h.pc, (hf.block _ (lt_of_heap h.qc) (by show ¬ q = b; omega)).trans h.qc, (hf.block _ (lt_of_heap h.gc) (by show ¬ g = b; omega)).trans h.gc,
    h.fr.trans (hf.mono (fun i _ e => by have e' : i = b := e; omega)), h.hp, h.pq, h.qb, h.bg⟩
/-- Behind a token. -/
theorem tok (h : LexIn w W p q b g s k x v l) (hf : Fr (fun i => i = b ∨ g + 1 ≤ i) W W') (hr : LR W' b s k' v' 0) (ho : W'.ownsRow (g + 1) 103 3 v' l'.length (tkCells l')) : LexIn w W' p q b g s k' x v' l' := by
  have := h.hp; have := h.pq; have := h.qb; have := h.bg
  exact ⟨hr, ho, (hf.block _ (lt_of_heap h.pc) (by show ¬ (p = b ∨ g + 1 ≤ p); omega)).trans h.pc, (hf.block _ (lt_of_heap h.qc) (by show ¬ (q = b ∨ g + 1 ≤ q); omega)).trans h.qc, (hf.block _ (lt_of_heap h.gc) (by show ¬ (g = b ∨ g + 1 ≤ g); omega)).trans h.gc,
    h.fr.trans (hf.mono (fun i _ e => by have e' : i = b ∨ g + 1 ≤ i := e; omega)), h.hp, h.pq, h.qb, h.bg⟩
/-- Where the token begins is noted. -/
theorem note (h : LexIn w W p q b g s k x v l) (y : Int) : LexIn w (W.setCell ⟨g, 0, none⟩ (.int .i64 y)) p q b g s k y v l := by
  have := h.hp; have := h.pq; have := h.qb; have := h.bg
  have e : ∀ i, i ≠ g → (W.setCell ⟨g, 0, none⟩ (.int .i64 y)).heap[i]? = W.heap[i]? := fun i hi => Below.heap_setCell _ _ _ _ hi
  refine ⟨(e b (by omega)).trans h.lr, own_far h.own (fun i hi => by have := (own_lt h.own i hi).1; simp; omega) _, (e p (by omega)).trans h.pc, (e q (by omega)).trans h.qc, ?_, h.fr.setCell (fun _ => by show w.heap.size ≤ g; omega) _, h.hp, h.pq, h.qb, h.bg⟩
  have := h.gc
  simp [World.setCell, Array.getElem?_modify, this]
theorem fin (h : LexIn w W p q b g s k x v l) : Fr (fun _ => False) w W := h.fr.mono (fun i hi e => by have e' : w.heap.size ≤ i := e; omega)
end LexIn

set_option maxRecDepth 100000 in
set_option maxHeartbeats 2000000 in
theorem tokens_short {w : World} {s : ByteArray} (h : ¬ 65536 < s.size) {mm : Int} (hm : w.cell? ⟨0, 0, none⟩ = some (.int .i64 mm)) : Calls Try.prog 19 #[.string s] w (LexPost w s) := by
  have hmf : ∀ (fn : Fn) (first cap : Array Value) (w : World), (Instr.makeFunc fn first cap).run Try.prog w = .ok (.func fn first cap) w := fun _ _ _ _ => rfl
  have hI := LexIn.start w s
  go_enter_defers Try.func19, Try.ntmps19
  go_wp2_with fail
  have Hm := Lib.hid hm
  have hz := World.block_lt_of_cell? w _ hm
  clear hm hmf
  generalize (((w.alloc (.cells #[.slice none 0 0] 65)).alloc (.cells #[.int .i64 0, .int .i64 0] 32)).alloc (.cells #[.string s, .int .i64 0, .slice none 0 0, .int .i64 0] 97)).alloc (.cells #[.int .i64 0] 3) = W at *
  generalize w.heap.size + 1 + 1 + 1 = g at *
  generalize w.heap.size + 1 + 1 = b at *
  generalize w.heap.size + 1 = q at *
  obtain ⟨p, hp⟩ : ∃ p, p = w.heap.size := ⟨_, rfl⟩
  rw [← hp] at hI
  rw [← hp]
  clear hp
  have hs : s.size ≤ 65536 := by omega
  clear h
  go_loopg [] (s.size + 1) (fun n wr => ∃ (k : Nat) (x : Int) (v : Value) (l : List Tk), n = s.size + 1 - k ∧ k ≤ s.size ∧ l.length ≤ k ∧ LexIn w wr p q b g s k x v l ∧ Aside (lexN s (s.size + 1) 0 [] = lexN s (s.size + 1) k l))
  case atStart => exact ⟨0, 0, _, [], rfl, Nat.zero_le _, Nat.le_refl _, hI, rfl⟩
  case round =>
    clear hI
    obtain ⟨k, x, v, l, hg, hk, hlk, hI, hl⟩ := hrel
    have Hg := Lib.hid hg
    clear hg
    go_wp2_with fail
    by_cases hlt : k < s.size
    · refine (hI.lr.more_yes hlt).mono ?_
      rintro e w1 ⟨rfl, n1, rfl⟩
      have hI1 := hI.drewN n1
      clear hI
      generalize wr.drewN n1 = w1 at *
      obtain ⟨c0, c1, c2, c3, f1, f2, f3⟩ := hI1.lr.cells
      obtain ⟨g1, g2⟩ := one_cell_at hI1.gc
      go_wp2_with fail
      have hI2 := hI1.note (k : Int)
      clear c0 c1 c2 c3 f1 f2 f3 g1 g2 hI1
      generalize w1.setCell ⟨g, 0, none⟩ (.int .i64 (k : Int)) = w2 at *
      refine (hI2.lr.now (by omega) (by omega)).mono ?_
      rintro e w3 ⟨rfl, n3, rfl⟩
      have hI3 := hI2.drewN n3
      clear hI2
      generalize w2.drewN n3 = w3 at *
      have HL := Lib.hid (lexN_at s l hlt)
      by_cases hbl : isBlank (bAt s k) = true
      · have HL1 := Lib.hid (show lexN s (s.size + 1) k l = lexN s (s.size + 1) (k + 1) l by rw [HL.out, if_pos hbl])
        clear HL
        have hor : bAt s k = 32 ∨ bAt s k = 9 ∨ bAt s k = 10 ∨ bAt s k = 13 := by simpa [isBlank, or_assoc] using hbl
        clear hbl
        obtain ⟨c0, c1, c2, c3, f1, f2, f3⟩ := hI3.lr.cells
        rcases hor with e | e | e | e
        all_goals
          rw [e]
          clear e
          go_wp2_with fail
          go_roundg (s.size + 1 - (k + 1))
          case measure => have := Hg.out; omega
          case rel => exact ⟨k + 1, (k : Int), v, l, rfl, by omega, by omega, hI3.step ((Fr.refl (· = b) _).setCell (fun _ => rfl) _) (hI3.lr.setI _ (k + 1) (by omega)), by show _ = _; rw [hl.out, HL1.out]⟩
      · have HL1 := Lib.hid (show lexN s (s.size + 1) k l = if isCom s k then lexN s (s.size + 1) (k + lineN s k) l else match tokS s k with
            | .error e => .error (e, k)
            | .ok (t, j) => lexN s (s.size + 1) j (l ++ [t]) from HL.out.trans (if_neg hbl))
        clear HL
        have hnb : ¬ (bAt s k = 32) ∧ ¬ (bAt s k = 9) ∧ ¬ (bAt s k = 10) ∧ ¬ (bAt s k = 13) := by simpa [isBlank, not_or, and_assoc] using hbl
        clear hbl
        have k1 : (((bAt s k).toNat : Int) == 32) = false := by rw [b_eq _ 32 32 rfl]; simpa using hnb.1
        have k2 : (((bAt s k).toNat : Int) == 9) = false := by rw [b_eq _ 9 9 rfl]; simpa using hnb.2.1
        have k3 : (((bAt s k).toNat : Int) == 10) = false := by rw [b_eq _ 10 10 rfl]; simpa using hnb.2.2.1
        have k4 : (((bAt s k).toNat : Int) == 13) = false := by rw [b_eq _ 13 13 rfl]; simpa using hnb.2.2.2
        clear hnb
        go_wp2_with fail
        clear k1 k2 k3 k4
        refine (comment_any hI3.lr (by omega) (by omega)).mono ?_
        rintro e w4 ⟨rfl, n4, rfl⟩
        have hI4 := hI3.drewN n4
        clear hI3
        generalize w3.drewN n4 = w4 at *
        cases hc : isCom s k
        · have HL2 := Lib.hid (show lexN s (s.size + 1) k l = match tokS s k with
            | .error e => .error (e, k)
            | .ok (t, j) => lexN s (s.size + 1) j (l ++ [t]) from HL1.out.trans (if_neg (by rw [hc]; decide)))
          clear HL1 hc
          go_wp2_with fail
          have hm4 : w4.cell? ⟨0, 0, none⟩ = some (.int .i64 mm) := (hI4.fr.cell hz (by show ¬ w.heap.size ≤ 0; omega)).trans Hm.out
          have hgl := lt_of_heap hI4.gc
          refine (token_any hI4.lr hI4.own (by have := hI4.bg; omega) (by omega) hlt (by omega) (by omega) hm4 (by have := hI4.hp; have := hI4.pq; have := hI4.qb; omega)).mono ?_
          clear hm4
          rintro e w5 ⟨hf5, hp5⟩
          cases ht : tokS s k with
          | error n =>
            rw [ht] at hp5
            simp only at hp5
            subst hp5
            have HQ := Lib.hid (show lexS s = .error (n, k) by rw [lexS, if_neg (by omega), hl.out, HL2.out, ht])
            clear HL2 ht
            have hI5 : Fr (fun i => w.heap.size ≤ i) w w5 := hI4.fr.trans (hf5.mono (fun i _ e => by have e' : i = b ∨ g + 1 ≤ i := e; have := hI4.hp; have := hI4.pq; have := hI4.qb; have := hI4.bg; omega))
            have r1 := hI4.hp; have r2 := hI4.pq; have r3 := hI4.qb; have r4 := hI4.bg
            obtain ⟨gc1, gf1⟩ := one_cell_at ((hf5.block _ hgl (by show ¬ (g = b ∨ g + 1 ≤ g); omega)).trans hI4.gc)
            obtain ⟨pc1, pf1⟩ := one_cell_at ((hf5.block _ (lt_of_heap hI4.pc) (by show ¬ (p = b ∨ g + 1 ≤ p); omega)).trans hI4.pc)
            obtain ⟨qc1, qc2, qf1, qf2⟩ := two_cells_at ((hf5.block _ (lt_of_heap hI4.qc) (by show ¬ (q = b ∨ g + 1 ≤ q); omega)).trans hI4.qc)
            have hs5 := hf5.size
            refine leaves_cons (f := 35) (args := #[.pointer (some ⟨g, 0, none⟩), .pointer (some ⟨p, 0, none⟩), .pointer (some ⟨q, 0, none⟩)]) (by simp) (by simp [go_sem]) ?_
            refine CallsD.mono (lex_catch (older := []) gc1 pc1 qc1 qc2 pf1 qf1 qf2 (by omega) (by omega) (by omega) (by omega)) ?_
            rintro e u w6 ⟨rfl, rfl, hf6, d1, d2, d3⟩
            refine ⟨_, lex_results rfl rfl d1 d2 d3, LexPost.bad HQ.out ((hI5.trans (hf6.mono (T := fun i => w.heap.size ≤ i) (fun i _ e => by have e' : i = p ∨ i = q := e; omega))).mono (fun i hi e => by have e' : w.heap.size ≤ i := e; omega)) rfl⟩
          | ok tj =>
            obtain ⟨t, j⟩ := tj
            rw [ht] at hp5
            obtain ⟨rfl, v5, hr5, ho5⟩ := hp5
            have hj := tokS_le hlt ht
            have HL3 := Lib.hid (show lexN s (s.size + 1) k l = lexN s (s.size + 1) j (l ++ [t]) by rw [HL2.out, ht])
            clear HL2 ht
            go_wp2_with fail
            go_roundg (s.size + 1 - j)
            case measure => have := Hg.out; omega
            case rel => exact ⟨j, (k : Int), v5, l ++ [t], rfl, by omega, by simp; omega, hI4.tok hf5 hr5 (by simpa using ho5), by show _ = _; rw [hl.out, HL3.out]⟩
        · have HL2 := Lib.hid (show lexN s (s.size + 1) k l = lexN s (s.size + 1) (k + lineN s k) l by rw [HL1.out, if_pos hc])
          have hcp := com_pos hc hlt
          have hcl := lineN_le s k (by omega)
          clear HL1 hc
          go_wp2_with fail
          refine (line_any hI4.lr (by omega) (by omega)).mono ?_
          rintro e w5 ⟨rfl, hf5, hr5⟩
          go_wp2_with fail
          go_roundg (s.size + 1 - (k + lineN s k))
          case measure => have := Hg.out; omega
          case rel => exact ⟨k + lineN s k, (k : Int), v, l, rfl, by omega, by omega, hI4.step hf5 hr5, by show _ = _; rw [hl.out, HL2.out]⟩
    · have HQ := Lib.hid (show lexS s = .ok (l ++ [⟨7, ⟨#[]⟩, s.size⟩]) by rw [lexS, if_neg (by omega), hl.out, lexN_end s l hlt])
      refine (hI.lr.more_no hlt).mono ?_
      rintro e w1 ⟨rfl, n1, rfl⟩
      have hI1 := hI.drewN n1
      clear hI
      generalize wr.drewN n1 = w1 at *
      obtain ⟨c0, c1, c2, c3, f1, f2, f3⟩ := hI1.lr.cells
      obtain ⟨i0, hi0, hz0, hz1, hz2⟩ := info_parts Try.infoTok
      have hlb : l.length + 1 ≤ maxLen := by unfold maxLen; omega
      have hown := own_fr hI1.own ((Fr.refl (fun _ => False) w1).alloc (.cells #[.int .u8 7, .string ⟨#[]⟩, .int .i64 s.size] 103)) (fun _ _ _ => id)
      have hgl := lt_of_heap hI1.gc
      have r1 := hI1.hp; have r2 := hI1.pq; have r3 := hI1.qb; have r4 := hI1.bg
      go_wp2_with (at_builtin; refine wpList_append_lies _ rfl _ _ _ rfl (g + 1) 103 i0 _ 3 32 Try.underlying65 hi0 hz0 hz1 hz2 rfl (by omega) v l.length (tkCells l) rfl hown ⟨w1.heap.size, 0, none⟩ 1 1 [.int .u8 7, .string ⟨#[]⟩, .int .i64 s.size] rfl rfl (World.news_of_block (cs := #[.int .u8 7, .string ⟨#[]⟩, .int .i64 s.size]) (t := 103) (fr := (0, 0)) (heap_alloc_new w1 _)) (by simp [Value.oneCell']) (by omega) hlb (by omega) (by simp; omega) (w1.heap.size + 1) (by simp) ?_)
      intro gg cap w4 hown1 hgrow hat hlt4
      have hrow : ∀ i, v.ownBlock = some i → g + 1 ≤ i := fun i hi => (own_lt hI1.own i hi).1
      have hf4 : Fr (fun i => g + 1 ≤ i) w1 w4 := (((Fr.refl _ w1).alloc _).grown hgrow (fun i hi _ => hrow i hi))
      obtain ⟨pc1, pf1⟩ := one_cell_at ((hf4.block _ (lt_of_heap hI1.pc) (by show ¬ g + 1 ≤ p; omega)).trans hI1.pc)
      obtain ⟨qc1, qc2, qf1, qf2⟩ := two_cells_at ((hf4.block _ (lt_of_heap hI1.qc) (by show ¬ g + 1 ≤ q; omega)).trans hI1.qc)
      have hI5 : Fr (fun i => w.heap.size ≤ i) w w4 := hI1.fr.trans (hf4.mono (fun i _ e => by have e' : g + 1 ≤ i := e; omega))
      have hpq : p ≠ q := by omega
      have hqp : q ≠ p := by omega
      clear hown hgrow hat c0 c1 c2 c3 f1 f2 f3 hI1 hrow hlb hz0 hz1 hz2 hi0
      go_wp2_with fail
      have hown2 := own_far (own_far (own_far hown1 (p := ⟨p, 0, none⟩) (fun k hk => by have := (own_lt hown1 k hk).1; simp; omega) (.slice (some ⟨gg, 0, none⟩) (l.length + 1) cap)) (p := ⟨q, 0, none⟩) (fun k hk => by have := (own_lt hown1 k hk).1; simp; omega) (.int .i64 0)) (p := ⟨q, 1, none⟩) (fun k hk => by have := (own_lt hown1 k hk).1; simp; omega) (.int .i64 0)
      refine leaves_cons (f := 35) (args := #[.pointer (some ⟨g, 0, none⟩), .pointer (some ⟨p, 0, none⟩), .pointer (some ⟨q, 0, none⟩)]) (by simp) (by simp [go_sem]) ?_
      refine CallsD.mono (lex_catch_idle _ _ _ _) ?_
      rintro e u w6 ⟨rfl, rfl, rfl⟩
      refine ⟨_, lex_results (p := p) (q := q) rfl rfl (a := some ⟨gg, 0, none⟩) (n := l.length + 1) (c := cap) (e := 0) (i := 0) (by go_simp) (by go_simp) (by go_simp), ?_⟩
      unfold LexPost
      rw [HQ.out]
      refine ⟨(((hI5.setCell (fun _ => r1) _).setCell (fun _ => by show w.heap.size ≤ q; omega) _).setCell (fun _ => by show w.heap.size ≤ q; omega) _).mono (fun i hi e => by have e' : w.heap.size ≤ i := e; omega), _, rfl, ?_⟩
      have h3 := own_weaken' hown2 (show w.heap.size ≤ g + 1 by omega)
      simpa [tkCells, Tk.cells] using h3

theorem tokens_any (w : World) (s : ByteArray) {mm : Int} (hm : w.cell? ⟨0, 0, none⟩ = some (.int .i64 mm)) : Calls Try.prog 19 #[.string s] w (LexPost w s) := by
  by_cases h : 65536 < s.size
  · exact tokens_long h
  · exact tokens_short h hm
end Go.Proofs.Ytejpmdlokmlmeaa
