/- A text is read: the walk. Condition: the library's variable is there. -/
import Derived.Test.YtejpmdlokmlmeaaReadM
import Derived.Test.YtejpmdlokmlmeaaOrdE
import Derived.Test.YtejpmdlokmlmeaaWriteB
set_option linter.unusedVariables false
set_option linter.unusedSimpArgs false
namespace Go.Proofs.Ytejpmdlokmlmeaa
open Go.RowKit

/-- What 'read.Text' gives. -/
def RTPost (w : World) (s : ByteArray) (e : Ending) (w' : World) : Prop :=
  Fr (fun _ => False) w w' ∧ match readS s with
    | .error (n, a) => e = .returned (.tuple #[.agg #[.slice none 0 0, .slice none 0 0], .agg #[.int .i64 n, .int .i64 a]])
    | .ok x => ∃ v u, e = .returned (.tuple #[.agg #[v, u], .agg #[.int .i64 0, .int .i64 0]]) ∧ RRow w' (w.heap.size ≤ ·) 4 (RDecl w' (w.heap.size ≤ ·)) v x.decls ∧ RRow w' (w.heap.size ≤ ·) 4 (RRule w' (w.heap.size ≤ ·)) u x.rules
theorem RTPost.bad {w w' : World} {s : ByteArray} {n a : Int} {e : Ending} (h : readS s = .error (n, a)) (hf : Fr (fun _ => False) w w') (he : e = .returned (.tuple #[.agg #[.slice none 0 0, .slice none 0 0], .agg #[.int .i64 n, .int .i64 a]])) : RTPost w s e w' := by
  unfold RTPost; rw [h]; exact ⟨hf, he⟩
theorem RTPost.good {w w' : World} {s : ByteArray} {x : GText} {v u : Value} {e : Ending} (h : readS s = .ok x) (hf : Fr (fun _ => False) w w') (he : e = .returned (.tuple #[.agg #[v, u], .agg #[.int .i64 0, .int .i64 0]]))
    (h1 : RRow w' (w.heap.size ≤ ·) 4 (RDecl w' (w.heap.size ≤ ·)) v x.decls) (h2 : RRow w' (w.heap.size ≤ ·) 4 (RRule w' (w.heap.size ≤ ·)) u x.rules) : RTPost w s e w' := by
  unfold RTPost; rw [h]; exact ⟨hf, v, u, he, h1, h2⟩

theorem RDecl.form {w : World} {P : Nat → Prop} {x : GDecl} {cs : List Value} (h : RDecl w P x cs) : ∃ k y a m c j, cs = [.string k, .string y, .slice a m c, .int .i64 j] := by
  obtain ⟨v, rfl, hr⟩ := h
  obtain ⟨a, c, rfl⟩ := hr.form
  exact ⟨_, _, _, _, _, _, rfl⟩
theorem RRule.form {w : World} {P : Nat → Prop} {x : GRule} {cs : List Value} (h : RRule w P x cs) : ∃ k a m c b n d j, cs = [.string k, .slice a m c, .slice b n d, .int .i64 j] := by
  obtain ⟨v, u, rfl, hr, hr2⟩ := h
  obtain ⟨a, c, rfl⟩ := hr.form
  obtain ⟨b, d, rfl⟩ := hr2.form
  exact ⟨_, _, _, _, _, _, _, _, rfl⟩
theorem own_toks {w : World} {base : Nat} {v : Value} {l : List Tk} (h : w.ownsRow base 103 3 v l.length (tkCells l)) (h0 : 0 < l.length) :
    ∃ R cap cur, v = .slice (some ⟨R, 0, none⟩) l.length cap ∧ base ≤ R ∧ w.heap[R]? = some (.cells cur 103 (0, 0)) ∧ cur.toList.take (l.length * 3) = tkCells l := by
  obtain ⟨h1, h2⟩ := h
  rcases h2 with ⟨-, h2⟩ | ⟨g, cap, cur, rfl, hg, hh, hn, hcap, hcs, ht⟩
  · omega
  · exact ⟨g, cap, cur, rfl, hg, hh, ht⟩
/-- What stands while a text is read. -/
structure TIn (w0 w : World) (r R cap : Nat) (cur : Array Value) (toks : List Tk) (p q pos : Nat) : Prop where
  rin : RIn w r R cap cur toks pos
  qb : Blk w q #[.int .i64 0, .int .i64 0] 32
  fr : Fr (fun k => w0.heap.size ≤ k) w0 w
  hp : w0.heap.size ≤ p
  pq : p < q
  qR : q < R
  Rr : R < r
namespace TIn
variable {w0 w w' : World} {r R cap p q pos pos' : Nat} {cur : Array Value} {toks : List Tk}
theorem still (h : TIn w0 w r R cap cur toks p q pos) (hf : Fr (fun _ => False) w w') : TIn w0 w' r R cap cur toks p q pos :=
  ⟨h.rin.fr hf id id, h.qb.fr hf id, h.fr.trans (hf.mono (fun _ _ => False.elim)), h.hp, h.pq, h.qR, h.Rr⟩
theorem step (h : TIn w0 w r R cap cur toks p q pos) (hf : Fr (· = r) w w') (hr : RIn w' r R cap cur toks pos') : TIn w0 w' r R cap cur toks p q pos' := by
  have h1 := h.hp; have h2 := h.pq; have h3 := h.qR; have h4 := h.Rr
  exact ⟨hr, h.qb.fr hf (by show ¬ q = r; omega), h.fr.trans (hf.mono (fun k _ e => by have e' : k = r := e; omega)), h1, h2, h3, h4⟩
/-- A row that is the call's own grows, and is stored. -/
theorem put (h : TIn w0 w r R cap cur toks p q pos) {base : Nat} (hb : r < base) (hf : Fr (fun k => base ≤ k ∨ k = p) w w') : TIn w0 w' r R cap cur toks p q pos := by
  have h1 := h.hp; have h2 := h.pq; have h3 := h.qR; have h4 := h.Rr
  exact ⟨h.rin.fr hf (by show ¬ (base ≤ r ∨ r = p); omega) (by show ¬ (base ≤ R ∨ R = p); omega), h.qb.fr hf (by show ¬ (base ≤ q ∨ q = p); omega), h.fr.trans (hf.mono (fun k _ e => by have e' : base ≤ k ∨ k = p := e; omega)), h1, h2, h3, h4⟩
/-- How a fault ends. -/
theorem caught (h : TIn w0 w r R cap cur toks p q pos) {v u : Value} (hpb : Blk w p #[v, u] 25) (hf : Fr (· = r) w w') (n a : Int) :
    CallsD Try.prog 20 #[.pointer (some ⟨q, 0, none⟩), .pointer (some ⟨p, 0, none⟩)] (.panicking (readPanic n a)) w' fun e u' w' =>
      e = .returned (.tuple #[]) ∧ u' = .panicking [{ v := .iface 32 (.agg #[.int .i64 n, .int .i64 a]), recovered := true }] ∧ Fr (fun _ => False) w0 w' ∧ Blk w' p #[.slice none 0 0, .slice none 0 0] 25 ∧ Blk w' q #[.int .i64 n, .int .i64 a] 32 := by
  have h1 := h.hp; have h2 := h.pq; have h3 := h.qR; have h4 := h.Rr
  refine CallsD.mono (read_catch (older := []) (hpb.fr hf (by show ¬ p = r; omega)) (h.qb.fr hf (by show ¬ q = r; omega)) (by omega)) (fun e u' w'' h => ⟨h.1, h.2.1, ?_, h.2.2.2⟩)
  exact ((‹TIn w0 w r R cap cur toks p q pos›.fr.trans (hf.mono (fun k _ e => by have e' : k = r := e; omega))).trans (h.2.2.1.mono (T := fun k => w0.heap.size ≤ k) (fun k _ e => by have e' : k = p ∨ k = q := e; omega))).mono (fun k hk e => by have e' : w0.heap.size ≤ k := e; omega)
end TIn

/-- Behind a panic: where the results lie, what is deferred, and how it ends. -/
def RFault (w0 : World) (s : ByteArray) (p q : Nat) (c : List PanicEntry) (a : Act) (w : World) : Prop :=
  a.tmps.getD 2 undef = .pointer (some ⟨p, 0, none⟩) ∧ a.tmps.getD 3 undef = .pointer (some ⟨q, 0, none⟩) ∧ a.defers = [{ target := .fn (.func 20) #[.pointer (some ⟨q, 0, none⟩), .pointer (some ⟨p, 0, none⟩)], args := #[] }] ∧
  ∃ n i, c = readPanic n i ∧ readS s = .error (n, i) ∧ CallsD Try.prog 20 #[.pointer (some ⟨q, 0, none⟩), .pointer (some ⟨p, 0, none⟩)] (.panicking (readPanic n i)) w fun e u' w' =>
      e = .returned (.tuple #[]) ∧ u' = .panicking [{ v := .iface 32 (.agg #[.int .i64 n, .int .i64 i]), recovered := true }] ∧ Fr (fun _ => False) w0 w' ∧ Blk w' p #[.slice none 0 0, .slice none 0 0] 25 ∧ Blk w' q #[.int .i64 n, .int .i64 i] 32
theorem RFault.put {w0 w : World} {s : ByteArray} {p q : Nat} {c : List PanicEntry} {a : Act} {d : Tmp} {v : Value} (h2 : d ≠ 2) (h3 : d ≠ 3) (h : RFault w0 s p q c (a.put (some d) v) w) : RFault w0 s p q c a w := by
  obtain ⟨e2, e3, e4, e5⟩ := h
  refine ⟨?_, ?_, e4, e5⟩
  · rw [← e2]
    simp [Act.put, Array.getD_eq_getD_getElem?, Array.getElem?_setIfInBounds, h2]
  · rw [← e3]
    simp [Act.put, Array.getD_eq_getD_getElem?, Array.getElem?_setIfInBounds, h3]
theorem RFault.ends {w0 w : World} {s : ByteArray} {p q : Nat} {c : List PanicEntry} {a : Act} (h : RFault w0 s p q c a w) : bodyPostD Try.prog Try.f8 (RTPost w0 s) (.panic c) a w := by
  obtain ⟨h2, h3, h4, n, i, rfl, he, hc⟩ := h
  show Leaves Try.prog Try.f8 a.tmps (RTPost w0 s) a.defers (.panicking (readPanic n i)) w
  rw [h4]
  refine leaves_cons (f := 20) (args := #[.pointer (some ⟨q, 0, none⟩), .pointer (some ⟨p, 0, none⟩)]) (by simp) (by simp [go_sem]) ?_
  refine CallsD.mono hc ?_
  rintro e u w7 ⟨rfl, rfl, hf7, b1, b2⟩
  exact ⟨_, rtext_results h2 h3 b1 b2, RTPost.bad he hf7 rfl⟩
/-- A post that says of a panic what does not hang on the frame's other slots. -/
def PanicTo (PF : List PanicEntry → Act → World → Prop) (Q : Exit → Act → World → Prop) : Exit → Act → World → Prop
  | .panic c, a, w => PF c a w
  | e, a, w => Q e a w
theorem wp_panicTo {P : Program} {c : Code} {Q : Exit → Act → World → Prop} {a : Act} {w : World} (PF : List PanicEntry → Act → World → Prop) (h : ∀ ch a w, PF ch a w → Q (.panic ch) a w) (hw : c.wp P (PanicTo PF Q) a w) : c.wp P Q a w :=
  Code.wp_mono (fun e a w h' => by cases e <;> first | exact h _ _ _ h' | exact h') hw

set_option maxRecDepth 100000 in
set_option maxHeartbeats 4000000 in
theorem rtext_any {w : World} (hm : HM w) (s : ByteArray) : Calls Try.prog 8 #[.string s] w (RTPost w s) := by
  have hmf := makeFunc_run
  have hp1 := (Blk.new w #[.slice none 0 0, .slice none 0 0] 25).alloc (.cells #[.int .i64 0, .int .i64 0] 32)
  have hq1 := Blk.new (w.alloc (.cells #[.slice none 0 0, .slice none 0 0] 25)) #[.int .i64 0, .int .i64 0] 32
  rw [show (w.alloc (.cells #[.slice none 0 0, .slice none 0 0] 25)).heap.size = w.heap.size + 1 by simp] at hq1
  have hf1 : Fr (fun _ => False) w ((w.alloc (.cells #[.slice none 0 0, .slice none 0 0] 25)).alloc (.cells #[.int .i64 0, .int .i64 0] 32)) := ((Fr.refl _ w).alloc _).alloc _
  obtain ⟨mm, hm1⟩ := hm.fr hf1 id
  clear hm
  go_enter_defers Try.func8, Try.ntmps8
  go_wp2_with fail
  generalize (w.alloc (.cells #[.slice none 0 0, .slice none 0 0] 25)).alloc (.cells #[.int .i64 0, .int .i64 0] 32) = w1 at *
  obtain ⟨p, hpe⟩ : ∃ p, p = w.heap.size := ⟨_, rfl⟩
  rw [← hpe] at hp1 hq1 ⊢
  obtain ⟨q, hqe⟩ : ∃ q, q = p + 1 := ⟨_, rfl⟩
  rw [← hqe] at hq1 ⊢
  have hpw : w.heap.size ≤ p := by omega
  have hpq : p < q := by omega
  have hqp : q ≠ p := by omega
  clear hpe hqe
  refine (tokens_any w1 s hm1).mono ?_
  clear hm1
  rintro e w2 ⟨hf2, hl⟩
  have hp2 := hp1.fr hf2 id
  have hq2 := hq1.fr hf2 id
  have hq1l := hq1.lt
  clear hp1 hq1
  cases hs : lexS s with
  | error ni =>
    obtain ⟨n, i⟩ := ni
    rw [hs] at hl
    simp only at hl
    subst hl
    have hn0 : (n != 0) = true := by rw [bne_iff_ne]; exact lexS_err hs
    have HS := Lib.hid (show readS s = .error (n, (i : Int)) by rw [readS, hs])
    clear hs
    have c0 := hp2.cell 0 rfl
    have c1 := hp2.cell 1 rfl
    have d0 := hq2.cell 0 rfl
    have d1 := hq2.cell 1 rfl
    have g0 := hp2.frozen 0
    have g1 := hp2.frozen 1
    have f0 := hq2.frozen 0
    have f1 := hq2.frozen 1
    go_upto_region 3 with fail
    have hq3 : Blk _ q #[.int .i64 n, .int .i64 (i : Int)] 32 := (hq2.set 0 (.int .i64 n) rfl).set 1 (.int .i64 (i : Int)) rfl
    have hp3 := (hp2.far (p := ⟨q, 0, none⟩) hqp (.int .i64 n)).far (p := ⟨q, 1, none⟩) hqp (.int .i64 (i : Int))
    have hf3 := (((hf1.trans hf2).mono (T := fun k => w.heap.size ≤ k) (fun _ _ => False.elim)).setCell (p := ⟨q, 0, none⟩) (fun _ => by show w.heap.size ≤ q; omega) (.int .i64 n)).setCell (p := ⟨q, 1, none⟩) (fun _ => by show w.heap.size ≤ q; omega) (.int .i64 (i : Int))
    clear c0 c1 d0 d1 g0 g1 f0 f1 hp2 hq2
    generalize (w2.setCell ⟨q, 0, none⟩ (.int .i64 n)).setCell ⟨q, 1, none⟩ (.int .i64 (i : Int)) = w3 at *
    have c0 := hp3.cell 0 rfl
    have c1 := hp3.cell 1 rfl
    have d0 := hq3.cell 0 rfl
    have d1 := hq3.cell 1 rfl
    have g0 := hp3.frozen 0
    have g1 := hp3.frozen 1
    have f0 := hq3.frozen 0
    have f1 := hq3.frozen 1
    have hpq' : p ≠ q := by omega
    go_region
    all_goals
      go_wp2_with fail
      refine ⟨_, rtext_results (v := .slice none 0 0) (u := .slice none 0 0) (n := n) (i := i) rfl rfl ?_ ?_, RTPost.bad HS.out ((((((hf3.setCell (p := ⟨p, 0, none⟩) (fun _ => hpw) _).setCell (p := ⟨p, 1, none⟩) (fun _ => hpw) _).setCell (p := ⟨q, 0, none⟩) (fun _ => by show w.heap.size ≤ q; omega) _).setCell (p := ⟨q, 1, none⟩) (fun _ => by show w.heap.size ≤ q; omega) _).drew).mono (fun k hk e => by have e' : w.heap.size ≤ k := e; omega)) rfl⟩
      · exact (((hp3.set 0 (.slice none 0 0) rfl).set 1 (.slice none 0 0) rfl).far (p := ⟨q, 0, none⟩) hqp _).far (p := ⟨q, 1, none⟩) hqp _
      · exact (((hq3.far (p := ⟨p, 0, none⟩) hpq' _).far (p := ⟨p, 1, none⟩) hpq' _).set 0 (.int .i64 n) rfl).set 1 (.int .i64 (i : Int)) rfl
  | ok toks =>
    rw [hs] at hl
    obtain ⟨v, rfl, hv⟩ := hl
    obtain ⟨hlen, hend⟩ := lexS_ok hs
    obtain ⟨R, cap, cur, rfl, hR0, hRb, hRc⟩ := own_toks hv (lexS_len hs)
    have HS := Lib.hid (show readS s = textS toks by rw [readS, hs])
    have htl := lexS_len hs
    clear hs
    have d0 := hq2.cell 0 rfl
    have d1 := hq2.cell 1 rfl
    have f0 := hq2.frozen 0
    have f1 := hq2.frozen 1
    go_wp2_with fail
    have hq3 : Blk _ q #[.int .i64 0, .int .i64 0] 32 := (hq2.set 0 (.int .i64 0) rfl).set 1 (.int .i64 0) rfl
    have hp3 := (hp2.far (p := ⟨q, 0, none⟩) hqp (.int .i64 0)).far (p := ⟨q, 1, none⟩) hqp (.int .i64 0)
    have hRl := lt_of_heap hRb
    have hw1q : q < w1.heap.size := hq1l
    have hf3 := (((hf1.trans hf2).mono (T := fun k => w.heap.size ≤ k) (fun _ _ => False.elim)).setCell (p := ⟨q, 0, none⟩) (fun _ => by show w.heap.size ≤ q; omega) (.int .i64 0)).setCell (p := ⟨q, 1, none⟩) (fun _ => by show w.heap.size ≤ q; omega) (.int .i64 0)
    have hRb3 : Blk _ R cur 103 := ((show Blk w2 R cur 103 from hRb).far (p := ⟨q, 0, none⟩) (by show q ≠ R; omega) (.int .i64 0)).far (p := ⟨q, 1, none⟩) (by show q ≠ R; omega) (.int .i64 0)
    have hqR : q < R := by omega
    have hsz : ((w2.setCell ⟨q, 0, none⟩ (.int .i64 0)).setCell ⟨q, 1, none⟩ (.int .i64 0)).heap.size = w2.heap.size := by simp
    clear d0 d1 f0 f1 hp2 hq2 hRb hv
    generalize (w2.setCell ⟨q, 0, none⟩ (.int .i64 0)).setCell ⟨q, 1, none⟩ (.int .i64 0) = w3 at *
    have hRl3 := hRb3.lt
    have hT4 : TIn w (w3.alloc (.cells #[.slice (some ⟨R, 0, none⟩) toks.length cap, .int .i64 0] 72)) w3.heap.size R cap cur toks p q 0 :=
      ⟨⟨(MapKept.heap_alloc w3 _).1, hRb3.alloc _, hRc, by omega, htl, hlen⟩, hq3.alloc _, hf3.alloc _, hpw, hpq, hqR, hRl3⟩
    have hp4 := hp3.alloc (.cells #[.slice (some ⟨R, 0, none⟩) toks.length cap, .int .i64 0] 72)
    have hO4 : Own (w3.alloc (.cells #[.slice (some ⟨R, 0, none⟩) toks.length cap, .int .i64 0] 72)) (w3.heap.size + 1) 41 4 (RDecl (w3.alloc (.cells #[.slice (some ⟨R, 0, none⟩) toks.length cap, .int .i64 0] 72))) (.slice none 0 0) [] := Own.nil
    have hB4 : w3.heap.size + 1 ≤ (w3.alloc (.cells #[.slice (some ⟨R, 0, none⟩) toks.length cap, .int .i64 0] 72)).heap.size := by simp
    clear hf3 hq3 hp3 hRb3 hRc hRl hRl3 hmf hf1 hf2
    generalize w3.alloc (.cells #[.slice (some ⟨R, 0, none⟩) toks.length cap, .int .i64 0] 72) = w4 at *
    rw [hsz] at hT4 hO4 hB4
    clear hsz
    generalize w2.heap.size = r at *
    obtain ⟨B, hBe⟩ : ∃ B, B = r + 1 := ⟨_, rfl⟩
    rw [← hBe] at hO4 hB4
    have hrB : r < B := by omega
    clear hBe
    obtain ⟨i0, hi0, hz0, hz1, hz2⟩ := info_parts Try.infoDecl
    go_loopg [] (toks.length - 0) (fun g wr => ∃ v ds pp n, g = toks.length - pp ∧ toks.length - pp ≤ n ∧ TIn w wr r R cap cur toks p q pp ∧ Blk wr p #[v, .slice none 0 0] 25 ∧ Own wr B 41 4 (RDecl wr) v ds ∧ B ≤ wr.heap.size ∧ ds.length ≤ pp ∧ Aside (declsN toks.length toks = (do let (zs, l2) ← declsN n (toks.drop pp); .ok (ds ++ zs, l2))))
    case atStart =>
      refine ⟨_, [], 0, toks.length, rfl, by omega, hT4, hp4, hO4, hB4, by simp, ?_⟩
      show _ = _
      rw [List.drop_zero]
      cases declsN toks.length toks <;> rfl
    case round =>
      clear hT4 hp4 hO4 hB4
      obtain ⟨v, ds, pp, n, hg, hn, hT, hP, hO, hB, hlen2, hA⟩ := hrel
      have Hg := Lib.hid hg
      clear hg
      have hpp := hT.rin.hp
      obtain ⟨m, rfl⟩ : ∃ m, n = m + 1 := ⟨n - 1, by omega⟩
      go_wp2_with fail
      refine (is_any hT.rin 1 (Strs.nil _)).mono ?_
      rintro e w9 ⟨rfl, hf9⟩
      have hT9 := hT.still hf9
      have hP9 := hP.fr hf9 id
      have hO9 := hO.fr elemDecl hf9 (fun _ _ _ => id)
      have hB9 : B ≤ w9.heap.size := Nat.le_trans hB hf9.size
      clear hT hP hO hf9 hB
      cases hq : isK 1 [] (toks.drop pp)
      · have HM := Lib.hid (show declsN toks.length toks = .ok (ds, toks.drop pp) by
          rw [hA.out, declsN, if_neg (by rw [hq]; decide), exOk, List.append_nil])
        clear hq hA hn hi0 hz0 hz1 hz2 i0
        go_wp2_with fail
        refine RPost.call (must_lit hT9.rin hend 6 (by decide) (ts := [⟨#[37, 37]⟩]) (n := 1) rfl (by decide) (by decide) rfl rfl) ?_ ?_
        · intro w10 n a H1 hf10
          exact RFault.ends ⟨rfl, rfl, rfl, n, a, rfl, (by rw [HS.out, textS, HM.out, exOk]; simp only [H1.out, exErr]), hT9.caught hP9 hf10 n a⟩
        intro w10 x10 l2 v10 p10 H1 hf10 hv10 hr10 H2
        have hR9 := hO9.all elemDecl (by decide)
        have hpl := hT9.pq; have hRr := hT9.Rr; have hqR9 := hT9.qR
        have hT10 := hT9.step hf10 hr10
        have hP10 := hP9.fr hf10 (by show ¬ p = r; omega)
        have hR10 : RRow w10 (fun k => B ≤ k ∧ k < w10.heap.size) 4 (RDecl w10 (fun k => B ≤ k ∧ k < w10.heap.size)) v ds :=
          (hR9.fr (E' := RDecl w10 (B ≤ ·)) hf10 (fun k hk _ e => by have e' : k = r := e; have e2 : B ≤ k := hk; omega) (fun x cs h => h.fr hf10 (fun k hk _ e => by have e' : k = r := e; have e2 : B ≤ k := hk; omega))).mono (fun k hk hlt => ⟨hk, hlt⟩) (fun x cs h => h.mono (fun k hk hlt => ⟨hk, hlt⟩))
        have hB10 : B ≤ w10.heap.size := Nat.le_trans hB9 hf10.size
        have HM2 := Lib.hid (show readS s = (do let rs ← rulesN (toks.length - p10) (toks.drop p10); .ok ⟨ds, rs⟩) by
          have e : l2.length = toks.length - p10 := by rw [← H2.out]; simp
          rw [HS.out, textS, HM.out, exOk]
          simp only [H1.out, exOk]
          rw [e, H2.out])
        clear HM H1 H2 hT9 hP9 hO9 hB9 hf10 hr10 hR9
        generalize hdv : v = dv at *
        clear hdv v
        obtain ⟨da, dc, hdf⟩ := hR10.form
        subst hdf
        obtain ⟨C, hCe⟩ : ∃ C, C = w10.heap.size := ⟨_, rfl⟩
        rw [← hCe] at hR10 hB10
        have hC10 : C ≤ w10.heap.size := by omega
        clear hCe
        have hO10 : Own w10 C 44 4 (RRule w10) (.slice none 0 0) [] := Own.nil
        obtain ⟨i0, hi0, hz0, hz1, hz2⟩ := info_parts Try.infoRule
        have hrC : r < C := by omega
        go_wp2_with fail
        clear hlen2 Hg hpp
        go_loopg [] (toks.length - p10) (fun g wr => ∃ v rs pp n, g = toks.length - pp ∧ toks.length - pp ≤ n ∧ TIn w wr r R cap cur toks p q pp ∧ Blk wr p #[.slice da ds.length dc, v] 25 ∧ RRow wr (fun k => B ≤ k ∧ k < C) 4 (RDecl wr (fun k => B ≤ k ∧ k < C)) (.slice da ds.length dc) ds ∧ Own wr C 44 4 (RRule wr) v rs ∧ C ≤ wr.heap.size ∧ rs.length ≤ pp ∧ Aside (readS s = (do let zs ← rulesN n (toks.drop pp); .ok ⟨ds, rs ++ zs⟩)))
        case atStart =>
          refine ⟨_, [], p10, toks.length - p10, rfl, Nat.le_refl _, hT10, hP10, hR10, hO10, hC10, by simp, ?_⟩
          show _ = _
          rw [HM2.out]
          rfl
        case round =>
          clear hT10 hP10 hR10 hO10 hC10 HM2
          obtain ⟨v, rs, pp, n, hg, hn, hT, hP, hR, hO, hB, hlen2, hA⟩ := hrel
          have Hg := Lib.hid hg
          clear hg
          have hpp := hT.rin.hp
          obtain ⟨m, rfl⟩ : ∃ m, n = m + 1 := ⟨n - 1, by omega⟩
          go_wp2_with fail
          refine (is_any hT.rin 7 (Strs.nil _)).mono ?_
          rintro e w9 ⟨rfl, hf9⟩
          have hT9 := hT.still hf9
          have hP9 := hP.fr hf9 id
          have hR9 := hR.fr (E' := RDecl w9 (fun k => B ≤ k ∧ k < C)) hf9 (fun _ _ _ => id) (fun x cs h => h.fr hf9 (fun _ _ _ => id))
          have hO9 := hO.fr elemRule hf9 (fun _ _ _ => id)
          have hB9 : C ≤ w9.heap.size := Nat.le_trans hB hf9.size
          clear hT hP hR hO hf9 hB
          cases hq : isK 7 [] (toks.drop pp)
          · have HM := Lib.hid (show readS s = (do let (x, l1) ← ruleS (toks.drop pp); let zs ← rulesN m l1; .ok ⟨ds, rs ++ (x :: zs)⟩) by
              rw [hA.out, rulesN, if_neg (by rw [hq]; decide)]
              cases ruleS (toks.drop pp) with
              | error e => rfl
              | ok xl =>
                obtain ⟨y, l3⟩ := xl
                simp only [exOk]
                cases rulesN m l3 <;> rfl)
            clear hq hA
            go_upto_region 10 with fail
            have hTd := hT9.still (Fr.refl (fun _ => False) w9).drew
            have hPd : Blk w9.drew p _ _ := hP9
            have hOd : Own w9.drew C 44 4 (RRule w9.drew) v rs := hO9.fr elemRule (Fr.refl (fun _ => False) w9).drew (fun _ _ _ => id)
            have hvb : ∀ i, v.ownBlock = some i → C ≤ i := fun i hi => (hO9.blk i hi).1
            refine wp_panicTo (RFault w s p q) (fun ch a w' h => h.ends) ?_
            have hS0 : (fun w' : World => w'.cell? ⟨p, 1, none⟩ = some v) w9.drew := hPd.cell 1 rfl
            refine wp_region_E (S := fun w' : World => w'.cell? ⟨p, 1, none⟩ = some v) (e := 7) (by kernel_rfl) ?_
            refine wpAnyE_take (i := 0) (v := ?_) rfl (by kernel_rfl) (by kernel_rfl) (by kernel_rfl) (fun c a w h => RFault.put (d := 40) (by decide) (by decide) h) (by decide) rfl (by kernel_rfl) (by kernel_rfl) (Or.inl ⟨by rfl, ?_⟩) hS0 ?_
            rotate_left
            · intro wq hSw
              replace hSw : wq.cell? ⟨p, 1, none⟩ = some v := hSw
              go_simp
              try with_reducible rfl
            try simp only [Act.put, List.setIfInBounds_toArray, List.set_cons_zero, List.set_cons_succ]
            refine wpAnyE_take (i := 1) (v := ?_) rfl (by kernel_rfl) (by kernel_rfl) (by kernel_rfl) (fun c a w h => RFault.put (d := 41) (by decide) (by decide) h) (by decide) rfl (by kernel_rfl) (by kernel_rfl) (Or.inl ⟨by rfl, ?_⟩) hS0 ?_
            rotate_left
            · intro wq hSw
              replace hSw : wq.cell? ⟨p, 1, none⟩ = some v := hSw
              go_simp
              try with_reducible rfl
            try simp only [Act.put, List.setIfInBounds_toArray, List.set_cons_zero, List.set_cons_succ]
            refine wpAnyE_take (i := 2) (v := ?_) rfl (by kernel_rfl) (by kernel_rfl) (by kernel_rfl) (fun c a w h => RFault.put (d := 42) (by decide) (by decide) h) (by decide) rfl (by kernel_rfl) (by kernel_rfl) (Or.inl ⟨by rfl, ?_⟩) hS0 ?_
            rotate_left
            · intro wq hSw
              replace hSw : wq.cell? ⟨p, 1, none⟩ = some v := hSw
              go_simp
              try with_reducible rfl
            try simp only [Act.put, List.setIfInBounds_toArray, List.set_cons_zero, List.set_cons_succ]
            refine wpAnyE_all (rs := [3]) (by kernel_rfl) (by simp) ?_
            intro j hj
            rcases List.mem_singleton.1 hj with rfl
            refine wpOp_step rfl (fun K hK => ?_)
            go_simp
            refine RPost.call (rule_any hTd.rin hend) (fun w8 nn aa H4 hf8 => ⟨rfl, rfl, rfl, nn, aa, rfl, (by rw [HM.out, H4.out]; rfl), hTd.caught hPd hf8 nn aa⟩) ?_
            intro w11 x l11 v11 p11 H6 hf11 hv11 hr11 H7
            obtain ⟨cs8, rfl, hw8⟩ := hv11
            obtain ⟨k8, a8, m8, c8, b8, n8, d8, j8, rfl⟩ := hw8.form
            have hT11 := hTd.step hf11 hr11
            have hP11 := hPd.fr hf11 (by show ¬ p = r; omega)
            have hs11 := hf11.size
            have hB11 : C ≤ w11.heap.size := Nat.le_trans (show C ≤ w9.drew.heap.size from hB9) hs11
            obtain ⟨L, hL, ho11, hfin⟩ := Own.snoc elemRule hOd hf11 (fun k hk _ e => by have e' : k = r := e; omega) hB9 hw8 rfl ((Fr.refl (fun _ => False) w11).alloc (.cells #[.string k8, .slice a8 m8 c8, .slice b8 n8 d8, .int .i64 j8] 44))
            have hS1 : (fun w' : World => w'.cell? ⟨p, 1, none⟩ = some v) w11 := hP11.cell 1 rfl
            refine hK _ _ ⟨fun _ => hS1, ?_⟩
            clear hK K
            try simp only [Act.put, List.setIfInBounds_toArray, List.set_cons_zero, List.set_cons_succ]
            refine wpAnyE_all (rs := [4]) (by kernel_rfl) (by simp) ?_
            intro j hj
            rcases List.mem_singleton.1 hj with rfl
            refine wpOp_step rfl (fun K hK => ?_)
            go_simp
            have hS2 : (fun w' : World => w'.cell? ⟨p, 1, none⟩ = some v) (w11.alloc (.cells #[.string k8, .slice a8 m8 c8, .slice b8 n8 d8, .int .i64 j8] 44)) := (hP11.alloc _).cell 1 rfl
            refine hK _ _ ⟨fun _ => hS2, ?_⟩
            clear hK K
            try simp only [Act.put, List.setIfInBounds_toArray, List.set_cons_zero, List.set_cons_succ]
            refine wpAnyE_all (rs := [5]) (by kernel_rfl) (by simp) ?_
            intro j hj
            rcases List.mem_singleton.1 hj with rfl
            refine wpOp_step rfl (fun K hK => ?_)
            refine step_append_lies _ (by rfl) _ _ _ (by rfl) C 44 i0 _ 4 72 Try.underlying23 hi0 hz0 hz1 hz2 rfl (by omega) v rs.length L.flatten (by rfl) ho11 ⟨w11.heap.size, 0, none⟩ 1 1 [.string k8, .slice a8 m8 c8, .slice b8 n8 d8, .int .i64 j8] (by rfl) (by rfl)
              (World.news_of_block (cs := #[.string k8, .slice a8 m8 c8, .slice b8 n8 d8, .int .i64 j8]) (t := 44) (fr := (0, 0)) (heap_alloc_new w11 _)) (by simp [Value.oneCell']) (by omega) (by unfold maxLen; omega) (by omega) (by simp; omega) (w11.heap.size + 1) (by simp) ?_
            intro gg cp w12 hown1 hgrow hat hlt
            have hF12 : Fr (fun k => C ≤ k ∨ k = p) w11 (w12.setCell ⟨p, 1, none⟩ (.slice (some ⟨gg, 0, none⟩) (rs.length + 1) cp)) := (((Fr.refl _ w11).alloc _).grown hgrow (fun k hk _ => .inl (hvb k hk))).setCell (p := ⟨p, 1, none⟩) (fun _ => .inr rfl) _
            have hP12 := (hP11.alloc (.cells #[.string k8, .slice a8 m8 c8, .slice b8 n8 d8, .int .i64 j8] 44)).grown hgrow (fun e => by have := hvb p e.symm; omega)
            have hO12 := (hfin hown1 hgrow (by simpa using hat)).far elemRule (p := ⟨p, 1, none⟩) (by show p < C; omega) (.slice (some ⟨gg, 0, none⟩) (rs.length + 1) cp)
            have t2 := hP12.cell 1 rfl
            have t3 := hP12.frozen 1
            refine hK _ _ ⟨fun _ => t2, ?_⟩
            clear hK K
            try simp only [Act.put, List.setIfInBounds_toArray, List.set_cons_zero, List.set_cons_succ]
            refine wpAnyE_all (rs := [6]) (by kernel_rfl) (by simp) ?_
            intro j hj
            rcases List.mem_singleton.1 hj with rfl
            refine wpOp_step rfl (fun K hK => ?_)
            go_simp
            refine hK _ _ ⟨fun _ => t2, ?_⟩
            clear hK K
            try simp only [Act.put, List.setIfInBounds_toArray, List.set_cons_zero, List.set_cons_succ]
            refine wpAnyE_all (rs := [7]) (by kernel_rfl) (by simp) ?_
            intro j hj
            rcases List.mem_singleton.1 hj with rfl
            refine wpOp_step rfl (fun K hK => ?_)
            go_simp
            refine hK _ _ ⟨fun h => (Bool.false_ne_true (h.symm.trans (by kernel_rfl))).elim, ?_⟩
            clear hK K
            try simp only [Act.put, List.setIfInBounds_toArray, List.set_cons_zero, List.set_cons_succ]
            refine wpAnyE_done (by kernel_rfl) ?_ _
            have hwl := ruleS_len H6.out
            have hT12 := hT11.put hrC hF12
            have hF9 : Fr (fun k => k = r ∨ C ≤ k ∨ k = p) w9 (w12.setCell ⟨p, 1, none⟩ (.slice (some ⟨gg, 0, none⟩) (rs.length + 1) cp)) := ((Fr.refl (fun k => k = r ∨ C ≤ k ∨ k = p) w9).drew.trans (hf11.mono (fun k _ e => .inl e))).trans (hF12.mono (fun k _ e => .inr e))
            have hR12 := hR9.fr (E' := RDecl _ (fun k => B ≤ k ∧ k < C)) hF9 (fun k hk _ e => by have e' : k = r ∨ C ≤ k ∨ k = p := e; omega) (fun x cs h => h.fr hF9 (fun k hk _ e => by have e' : k = r ∨ C ≤ k ∨ k = p := e; omega))
            have hp11 : toks.length - p11 + 1 ≤ toks.length - pp := by
              rw [← H7.out] at hwl
              simp at hwl
              have := hT12.rin.hp
              omega
            have hp12 := hT12.rin.hp
            have HX := Lib.hid (show readS s = (do let zs ← rulesN m (toks.drop p11); .ok ⟨ds, (rs ++ [x]) ++ zs⟩) by
              rw [HM.out, H6.out, exOk, H7.out]
              simp only
              cases rulesN m l11 <;> simp [exOk, exErr])
            have hB12 := hF12.size
            clear HM hwl
            dsimp only [PanicTo]
            go_wp2_with fail
            go_roundg (toks.length - p11)
            case measure => have := Hg.out; omega
            case rel => exact ⟨_, rs ++ [x], p11, m, rfl, by omega, hT12, hP12.set 1 _ rfl, hR12, hO12, by omega, by simp; omega, HX⟩
          · have HM := Lib.hid (show readS s = .ok ⟨ds, rs⟩ by
              rw [hA.out, rulesN, if_pos hq, exOk, List.append_nil])
            clear hq hA hn hi0 hz0 hz1 hz2 i0
            have hU9 := hO9.all elemRule (by decide)
            obtain ⟨va, vc, hvf⟩ := hU9.form
            subst hvf
            have hq9 := hT9.qb
            have hpq' : p ≠ q := by omega
            have c0 := hP9.cell 0 rfl
            have c1 := hP9.cell 1 rfl
            have d0 := hq9.cell 0 rfl
            have d1 := hq9.cell 1 rfl
            have g0 := hP9.frozen 0
            have g1 := hP9.frozen 1
            have f0 := hq9.frozen 0
            have f1 := hq9.frozen 1
            go_wp2_with fail
            refine leaves_cons (f := 20) (args := #[.pointer (some ⟨q, 0, none⟩), .pointer (some ⟨p, 0, none⟩)]) (by simp) (by simp [go_sem]) ?_
            refine CallsD.mono (read_catch_idle _ _ _) ?_
            rintro e u w7 ⟨rfl, rfl, rfl⟩
            have hF : Fr (fun k => k = p ∨ k = q) w9 ((((w9.setCell ⟨p, 0, none⟩ (.slice da ds.length dc)).setCell ⟨p, 1, none⟩ (.slice va rs.length vc)).setCell ⟨q, 0, none⟩ (.int .i64 0)).setCell ⟨q, 1, none⟩ (.int .i64 0)) :=
              ((((Fr.refl _ w9).setCell (p := ⟨p, 0, none⟩) (fun _ => .inl rfl) _).setCell (p := ⟨p, 1, none⟩) (fun _ => .inl rfl) _).setCell (p := ⟨q, 0, none⟩) (fun _ => .inr rfl) _).setCell (p := ⟨q, 1, none⟩) (fun _ => .inr rfl) _
            have hPz : Blk ((((w9.setCell ⟨p, 0, none⟩ (.slice da ds.length dc)).setCell ⟨p, 1, none⟩ (.slice va rs.length vc)).setCell ⟨q, 0, none⟩ (.int .i64 0)).setCell ⟨q, 1, none⟩ (.int .i64 0)) p #[.slice da ds.length dc, .slice va rs.length vc] 25 :=
              (((hP9.set 0 (.slice da ds.length dc) rfl).set 1 (.slice va rs.length vc) rfl).far (p := ⟨q, 0, none⟩) hqp _).far (p := ⟨q, 1, none⟩) hqp _
            have hQz : Blk ((((w9.setCell ⟨p, 0, none⟩ (.slice da ds.length dc)).setCell ⟨p, 1, none⟩ (.slice va rs.length vc)).setCell ⟨q, 0, none⟩ (.int .i64 0)).setCell ⟨q, 1, none⟩ (.int .i64 0)) q #[.int .i64 0, .int .i64 0] 32 :=
              (((hq9.far (p := ⟨p, 0, none⟩) hpq' _).far (p := ⟨p, 1, none⟩) hpq' _).set 0 (.int .i64 0) rfl).set 1 (.int .i64 0) rfl
            have q1 := hT9.hp; have q2 := hT9.pq; have q3 := hT9.qR; have q4 := hT9.Rr
            refine ⟨_, rtext_results rfl rfl hPz hQz, RTPost.good HM.out ((hT9.fr.trans (hF.mono (T := fun k => w.heap.size ≤ k) (fun k _ e => by have e' : k = p ∨ k = q := e; omega))).mono (fun k hk e => by have e' : w.heap.size ≤ k := e; omega)) rfl ?_ ?_⟩
            · exact (hR9.fr (E' := RDecl _ (fun k => B ≤ k ∧ k < C)) hF (fun k hk _ e => by have e' : k = p ∨ k = q := e; omega) (fun x cs h => h.fr hF (fun k hk _ e => by have e' : k = p ∨ k = q := e; omega))).mono (fun k hk _ => by omega) (fun x cs h => h.mono (fun k hk _ => by omega))
            · exact (hU9.fr (E' := RRule _ (C ≤ ·)) hF (fun k hk _ e => by have e' : k = p ∨ k = q := e; have e2 : C ≤ k := hk; omega) (fun x cs h => h.fr hF (fun k hk _ e => by have e' : k = p ∨ k = q := e; have e2 : C ≤ k := hk; omega))).mono (fun k hk _ => by have e2 : C ≤ k := hk; omega) (fun x cs h => h.mono (fun k hk _ => by have e2 : C ≤ k := hk; omega))
      · have HM := Lib.hid (show declsN toks.length toks = (do let (x, l1) ← declS (toks.drop pp); let (zs, l2) ← declsN m l1; .ok (ds ++ (x :: zs), l2)) by
          rw [hA.out, declsN, if_pos hq]
          cases declS (toks.drop pp) with
          | error e => rfl
          | ok xl =>
            obtain ⟨y, l3⟩ := xl
            simp only [exOk]
            cases declsN m l3 <;> rfl)
        clear hq hA
        go_upto_region 7 with fail
        have hTd := hT9.still (Fr.refl (fun _ => False) w9).drew
        have hPd : Blk w9.drew p _ _ := hP9
        have hOd : Own w9.drew B 41 4 (RDecl w9.drew) v ds := hO9.fr elemDecl (Fr.refl (fun _ => False) w9).drew (fun _ _ _ => id)
        have hvb : ∀ i, v.ownBlock = some i → B ≤ i := fun i hi => (hO9.blk i hi).1
        have hpl := hT9.pq; have hRr := hT9.Rr
        refine wp_panicTo (RFault w s p q) (fun ch a w' h => h.ends) ?_
        have hS0 : (fun w' : World => w'.cell? ⟨p, 0, none⟩ = some v) w9.drew := hPd.cell 0 rfl
        refine wp_region_E (S := fun w' : World => w'.cell? ⟨p, 0, none⟩ = some v) (e := 7) (by kernel_rfl) ?_
        refine wpAnyE_take (i := 0) (v := ?_) rfl (by kernel_rfl) (by kernel_rfl) (by kernel_rfl) (fun c a w h => RFault.put (d := 25) (by decide) (by decide) h) (by decide) rfl (by kernel_rfl) (by kernel_rfl) (Or.inl ⟨by rfl, ?_⟩) hS0 ?_
        rotate_left
        · intro wq hSw
          replace hSw : wq.cell? ⟨p, 0, none⟩ = some v := hSw
          go_simp
          try with_reducible rfl
        try simp only [Act.put, List.setIfInBounds_toArray, List.set_cons_zero, List.set_cons_succ]
        refine wpAnyE_take (i := 1) (v := ?_) rfl (by kernel_rfl) (by kernel_rfl) (by kernel_rfl) (fun c a w h => RFault.put (d := 26) (by decide) (by decide) h) (by decide) rfl (by kernel_rfl) (by kernel_rfl) (Or.inl ⟨by rfl, ?_⟩) hS0 ?_
        rotate_left
        · intro wq hSw
          replace hSw : wq.cell? ⟨p, 0, none⟩ = some v := hSw
          go_simp
          try with_reducible rfl
        try simp only [Act.put, List.setIfInBounds_toArray, List.set_cons_zero, List.set_cons_succ]
        refine wpAnyE_take (i := 2) (v := ?_) rfl (by kernel_rfl) (by kernel_rfl) (by kernel_rfl) (fun c a w h => RFault.put (d := 27) (by decide) (by decide) h) (by decide) rfl (by kernel_rfl) (by kernel_rfl) (Or.inl ⟨by rfl, ?_⟩) hS0 ?_
        rotate_left
        · intro wq hSw
          replace hSw : wq.cell? ⟨p, 0, none⟩ = some v := hSw
          go_simp
          try with_reducible rfl
        try simp only [Act.put, List.setIfInBounds_toArray, List.set_cons_zero, List.set_cons_succ]
        refine wpAnyE_all (rs := [3]) (by kernel_rfl) (by simp) ?_
        intro j hj
        rcases List.mem_singleton.1 hj with rfl
        refine wpOp_step rfl (fun K hK => ?_)
        go_simp
        refine RPost.call (decl_any hTd.rin hend) (fun w8 nn aa H4 hf8 => ⟨rfl, rfl, rfl, nn, aa, rfl, (by rw [HS.out, textS, HM.out, H4.out]; rfl), hTd.caught hPd hf8 nn aa⟩) ?_
        intro w11 x l11 v11 p11 H6 hf11 hv11 hr11 H7
        obtain ⟨cs8, rfl, hw8⟩ := hv11
        obtain ⟨k8, y8, a8, m8, c8, j8, rfl⟩ := hw8.form
        have hT11 := hTd.step hf11 hr11
        have hP11 := hPd.fr hf11 (by show ¬ p = r; omega)
        have hs11 := hf11.size
        have hB11 : B ≤ w11.heap.size := Nat.le_trans (show B ≤ w9.drew.heap.size from hB9) hs11
        obtain ⟨L, hL, ho11, hfin⟩ := Own.snoc elemDecl hOd hf11 (fun k hk _ e => by have e' : k = r := e; omega) hB9 hw8 rfl ((Fr.refl (fun _ => False) w11).alloc (.cells #[.string k8, .string y8, .slice a8 m8 c8, .int .i64 j8] 41))
        have hS1 : (fun w' : World => w'.cell? ⟨p, 0, none⟩ = some v) w11 := hP11.cell 0 rfl
        refine hK _ _ ⟨fun _ => hS1, ?_⟩
        clear hK K
        try simp only [Act.put, List.setIfInBounds_toArray, List.set_cons_zero, List.set_cons_succ]
        refine wpAnyE_all (rs := [4]) (by kernel_rfl) (by simp) ?_
        intro j hj
        rcases List.mem_singleton.1 hj with rfl
        refine wpOp_step rfl (fun K hK => ?_)
        go_simp
        have hS2 : (fun w' : World => w'.cell? ⟨p, 0, none⟩ = some v) (w11.alloc (.cells #[.string k8, .string y8, .slice a8 m8 c8, .int .i64 j8] 41)) := (hP11.alloc _).cell 0 rfl
        refine hK _ _ ⟨fun _ => hS2, ?_⟩
        clear hK K
        try simp only [Act.put, List.setIfInBounds_toArray, List.set_cons_zero, List.set_cons_succ]
        refine wpAnyE_all (rs := [5]) (by kernel_rfl) (by simp) ?_
        intro j hj
        rcases List.mem_singleton.1 hj with rfl
        refine wpOp_step rfl (fun K hK => ?_)
        refine step_append_lies _ (by rfl) _ _ _ (by rfl) B 41 i0 _ 4 64 Try.underlying22 hi0 hz0 hz1 hz2 rfl (by omega) v ds.length L.flatten (by rfl) ho11 ⟨w11.heap.size, 0, none⟩ 1 1 [.string k8, .string y8, .slice a8 m8 c8, .int .i64 j8] (by rfl) (by rfl)
          (World.news_of_block (cs := #[.string k8, .string y8, .slice a8 m8 c8, .int .i64 j8]) (t := 41) (fr := (0, 0)) (heap_alloc_new w11 _)) (by simp [Value.oneCell']) (by omega) (by unfold maxLen; omega) (by omega) (by simp; omega) (w11.heap.size + 1) (by simp) ?_
        intro gg cp w12 hown1 hgrow hat hlt
        have hF12 : Fr (fun k => B ≤ k ∨ k = p) w11 (w12.setCell ⟨p, 0, none⟩ (.slice (some ⟨gg, 0, none⟩) (ds.length + 1) cp)) := (((Fr.refl _ w11).alloc _).grown hgrow (fun k hk _ => .inl (hvb k hk))).setCell (p := ⟨p, 0, none⟩) (fun _ => .inr rfl) _
        have hP12 := (hP11.alloc (.cells #[.string k8, .string y8, .slice a8 m8 c8, .int .i64 j8] 41)).grown hgrow (fun e => by have := hvb p e.symm; omega)
        have hO12 := (hfin hown1 hgrow (by simpa using hat)).far elemDecl (p := ⟨p, 0, none⟩) (by show p < B; omega) (.slice (some ⟨gg, 0, none⟩) (ds.length + 1) cp)
        have t2 := hP12.cell 0 rfl
        have t3 := hP12.frozen 0
        refine hK _ _ ⟨fun _ => t2, ?_⟩
        clear hK K
        try simp only [Act.put, List.setIfInBounds_toArray, List.set_cons_zero, List.set_cons_succ]
        refine wpAnyE_all (rs := [6]) (by kernel_rfl) (by simp) ?_
        intro j hj
        rcases List.mem_singleton.1 hj with rfl
        refine wpOp_step rfl (fun K hK => ?_)
        go_simp
        refine hK _ _ ⟨fun _ => t2, ?_⟩
        clear hK K
        try simp only [Act.put, List.setIfInBounds_toArray, List.set_cons_zero, List.set_cons_succ]
        refine wpAnyE_all (rs := [7]) (by kernel_rfl) (by simp) ?_
        intro j hj
        rcases List.mem_singleton.1 hj with rfl
        refine wpOp_step rfl (fun K hK => ?_)
        go_simp
        refine hK _ _ ⟨fun h => (Bool.false_ne_true (h.symm.trans (by kernel_rfl))).elim, ?_⟩
        clear hK K
        try simp only [Act.put, List.setIfInBounds_toArray, List.set_cons_zero, List.set_cons_succ]
        refine wpAnyE_done (by kernel_rfl) ?_ _
        have hwl := declS_len H6.out
        have hT12 := hT11.put hrB hF12
        have hp11 : toks.length - p11 + 1 ≤ toks.length - pp := by
          rw [← H7.out] at hwl
          simp at hwl
          have := hT12.rin.hp
          omega
        have hp12 := hT12.rin.hp
        have HX := Lib.hid (show declsN toks.length toks = (do let (zs, l2) ← declsN m (toks.drop p11); .ok ((ds ++ [x]) ++ zs, l2)) by
          rw [HM.out, H6.out, exOk, H7.out]
          simp only
          cases declsN m l11 <;> simp [exOk, exErr])
        have hB12 := hF12.size
        clear HM hwl
        dsimp only [PanicTo]
        go_wp2_with fail
        go_roundg (toks.length - p11)
        case measure => have := Hg.out; omega
        case rel => exact ⟨_, ds ++ [x], p11, m, rfl, by omega, hT12, hP12.set 0 _ rfl, hO12, by omega, by simp; omega, HX⟩
end Go.Proofs.Ytejpmdlokmlmeaa
