/- A rule is written: what it gives, in plain Lean, and the walk. Conditions: the bytes are at most 2^40. -/
import Derived.Test.YtejpmdlokmlmeaaWriteH
set_option linter.unusedVariables false
set_option linter.unusedSimpArgs false
namespace Go.Proofs.Ytejpmdlokmlmeaa
open Go.RowKit

def noAlt : GAlt := ⟨[], ⟨#[]⟩, false, ⟨#[]⟩, 0, 0⟩
def altsTo (l : List GAlt) : Nat → List UInt8
  | 0 => []
  | k + 1 => altsTo l k ++ ((if k = 0 then [58] else [9, 124]) ++ altOut (l.getD k noAlt))
def paramOut (l : List ByteArray) (i : Nat) : List UInt8 := namesOut ⟨#[]⟩ [l.getD i ByteArray.empty]
def ruleOut (x : GRule) : List UInt8 := namesOut ⟨#[]⟩ [x.name] ++ (rowOut x.params.length (paramOut x.params) ++ (altsTo x.alts x.alts.length ++ [9, 59, 10]))
def ruleOk (x : GRule) : Bool := decide (0 < x.alts.length) && (nameB x.name && (okTo (fun i => nameB (x.params.getD i ByteArray.empty)) x.params.length && x.alts.all altOk))
theorem altsTo_mono (l : List GAlt) : ∀ (n k : Nat), k ≤ n → (altsTo l k).length ≤ (altsTo l n).length := by
  intro n
  induction n with
  | zero => intro k h; obtain rfl : k = 0 := by omega
            exact Nat.le_refl _
  | succ n ih =>
    intro k h
    by_cases e : k = n + 1
    · subst e; exact Nat.le_refl _
    · have := ih k (by omega)
      rw [altsTo, List.length_append]
      omega
theorem altsTo_len (l : List GAlt) (n : Nat) : n ≤ (altsTo l n).length := by
  induction n with
  | zero => exact Nat.zero_le _
  | succ n ih =>
    rw [altsTo, List.length_append, List.length_append]
    have : 1 ≤ (if n = 0 then [58] else [9, 124] : List UInt8).length := by split <;> simp
    omega

/-- Alternatives in a row that lies ahead of the writer. -/
def ARow (b : Nat) (w : World) (v : Value) (xs : List GAlt) : Prop := RRow w (· < b) 6 (RAlt w (· < b)) v xs
theorem ARow.wf {b : Nat} {w w' : World} {v : Value} {xs : List GAlt} (h : ARow b w v xs) (hf : Wf b w w') : ARow b w' v xs :=
  RRow.fr (E' := RAlt w' (· < b)) h hf.low (fun k hk hlt e => by omega) (fun x cs h => h.fr hf.low (fun k hk hlt e => by omega))
theorem ARow.get {b : Nat} {w : World} {v : Value} {xs : List GAlt} (h : ARow b w v xs) {j : Nat} (hj : j < xs.length) :
    ∃ k off c a ac, v = .slice (some ⟨k, off, none⟩) xs.length c ∧ WRow b w (.slice a (xs.getD j noAlt).words.length ac) (xs.getD j noAlt).words ∧
      w.cell? ⟨k, off + j * 6, none⟩ = some (.slice a (xs.getD j noAlt).words.length ac) ∧ w.cell? ⟨k, off + j * 6 + 1, none⟩ = some (.string (xs.getD j noAlt).prec) ∧ w.cell? ⟨k, off + j * 6 + 2, none⟩ = some (.bool (xs.getD j noAlt).has) ∧
      w.cell? ⟨k, off + j * 6 + 3, none⟩ = some (.string (xs.getD j noAlt).action) ∧ w.cell? ⟨k, off + j * 6 + 4, none⟩ = some (.int .i64 (xs.getD j noAlt).wher) ∧ w.cell? ⟨k, off + j * 6 + 5, none⟩ = some (.int .i64 (xs.getD j noAlt).at_) := by
  obtain ⟨a0, c, css, hv, hl, hr, he⟩ := h
  obtain ⟨k, off, ha, -, -, hlen, hc⟩ := hr j hj
  subst ha
  have hx : xs[j]? = some (xs.getD j noAlt) := by simp [List.getD_eq_getElem?_getD, hj]
  obtain ⟨u, hu, hrow⟩ := he j _ hx
  obtain ⟨a, ac, hform⟩ := hrow.form
  subst hform
  exact ⟨k, off, c, a, ac, hv, hrow, hc 0 _ (by rw [hu]; rfl), hc 1 _ (by rw [hu]; rfl), hc 2 _ (by rw [hu]; rfl), hc 3 _ (by rw [hu]; rfl), hc 4 _ (by rw [hu]; rfl), hc 5 _ (by rw [hu]; rfl)⟩

/-- What stands while a rule's parameters are written. -/
def WpInv (b N : Nat) (nm : ByteArray) (pa : Option Addr) (pc : Nat) (ps : List ByteArray) (u : Value) (at_ : Int) (w : World) : Prop :=
  HM w ∧ Blk w N #[.pointer (some ⟨b, 0, none⟩)] 54 ∧ Blk w (N + 1) #[.string nm, .slice pa ps.length pc, u, .int .i64 at_] 44 ∧ SRow b w (.slice pa ps.length pc) ps ∧ 0 < b ∧ b < N
theorem WpInv.wf {b N : Nat} {nm : ByteArray} {pa : Option Addr} {pc : Nat} {ps : List ByteArray} {u : Value} {at_ : Int} {w w' : World} (h : WpInv b N nm pa pc ps u at_ w) (hf : Wf b w w') : WpInv b N nm pa pc ps u at_ w' := by
  obtain ⟨h1, h2, h3, h5, h6, h7⟩ := h
  exact ⟨h1.wf hf h6, hf.keep h2 (by decide) (by omega), hf.keep h3 (by decide) (by omega), h5.wf hf, h6, h7⟩

set_option maxRecDepth 100000 in
set_option maxHeartbeats 1000000 in
theorem wrule_part {b N : Nat} {nm : ByteArray} {pa : Option Addr} {pc : Nat} {ps : List ByteArray} {u : Value} {at_ : Int} {w : World} {acc : List UInt8} {i : Nat} {z : Int} (hz : z = (i : Int)) (h : WpInv b N nm pa pc ps u at_ w) (hw : WB w b acc) (hi : i < ps.length)
    (hlen : acc.length + (paramOut ps i).length ≤ 1099511627776) :
    Calls Try.prog 33 (#[.int .i64 z] ++ #[.pointer (some ⟨N, 0, none⟩), .pointer (some ⟨N + 1, 0, none⟩)]) w (WPost b acc w (nameB (ps.getD i ByteArray.empty)) (paramOut ps i)) := by
  subst hz
  obtain ⟨h1, h2, h3, h5, h6, h7⟩ := h
  obtain ⟨ta, tc, hv, hc⟩ := h5.now.cells
  injection hv with hv1 hv2 hv3
  subst hv1 hv3
  clear hv2
  obtain ⟨k, off, rfl, c0⟩ := hc i hi
  clear hc
  unfold paramOut at *
  generalize ps.getD i ByteArray.empty = x at *
  have x0 := h2.cell 0 rfl
  have x1 := h3.cell 1 rfl
  have x0' := (h2.alloc (.cells #[.string x] 9)).cell 0 rfl
  have hi0 : (0 : Int) ≤ (i : Int) := by omega
  have hi1 : (i : Int) < (ps.length : Int) := by omega
  clear h2 h3 h5 hi
  go_enter Try.func33, Try.ntmps33
  have hfd : Wf b w w.drew := (Wf.refl b w).drew
  have h1d : HM w.drew := h1.wf hfd h6
  have hwd : WB w.drew b acc := hw
  have hNk : k < w.heap.size := World.block_lt_of_cell? w _ c0
  have c0' : (w.alloc (.cells #[.string x] 9)).cell? ⟨k, off + i, none⟩ = some (.string x) := ((Fr.refl (fun _ => False) w).alloc _).cell (p := ⟨k, off + i, none⟩) hNk id |>.trans c0
  have HD := Lib.hid (And.intro hfd (And.intro h1d hwd))
  clear hfd h1d hwd h1 hw
  go_region_law (first
    | (go_simp
       go_at_call 30
       refine WPost.call (names_any (HD.out.2.1.alloc _) h6 (HD.out.2.2.alloc _) ⟨#[]⟩ (SRow.lit w.drew [x] (n := 1) rfl rfl rfl HD.out.2.2.lt) (by simp) hlen) (fun w2 hq hf2 => ⟨rfl, WPost.bad (by simpa using hq.out) (HD.out.1.trans (((Wf.refl b w.drew).alloc _).trans hf2)) rfl⟩) ?_
       intro w2 hq hf2 hw2))
  all_goals
    go_wp2_with fail
    go_end0
    exact WPost.good (by simpa using hq.out) (HD.out.1.trans (((Wf.refl b w.drew).alloc _).trans hf2)) rfl hw2

set_option maxRecDepth 100000 in
set_option maxHeartbeats 4000000 in
theorem wrule_any {w : World} {b : Nat} {acc : List UInt8} {x : GRule} {pa a : Option Addr} {pc ac : Nat} (hm : HM w) (hb : 0 < b) (hw : WB w b acc) (hp : SRow b w (.slice pa x.params.length pc) x.params) (hr : ARow b w (.slice a x.alts.length ac) x.alts) (hlen : acc.length + (ruleOut x).length ≤ 1099511627776) :
    Calls Try.prog 17 #[.pointer (some ⟨b, 0, none⟩), .agg #[.string x.name, .slice pa x.params.length pc, .slice a x.alts.length ac, .int .i64 x.at_]] w (WPost b acc w (ruleOk x) (ruleOut x)) := by
  obtain ⟨nm, ps, als, at_⟩ := x
  dsimp only at hp hr ⊢
  have hO1 : (ruleOut ⟨nm, ps, als, at_⟩).length = (namesOut ⟨#[]⟩ [nm]).length + ((rowOut ps.length (paramOut ps)).length + ((altsTo als als.length).length + 3)) := by simp [ruleOut]
  have hal := altsTo_len als als.length
  have hpl := rowOut_len ps.length (paramOut ps)
  rw [hO1] at hlen
  clear hO1
  have hlb := hw.lt
  have hf1 : Wf b w ((w.alloc (.cells #[.pointer (some ⟨b, 0, none⟩)] 54)).alloc (.cells #[.string nm, .slice pa ps.length pc, .slice a als.length ac, .int .i64 at_] 44)) := ((Wf.refl b w).alloc _).alloc _
  have hw1 : WB ((w.alloc (.cells #[.pointer (some ⟨b, 0, none⟩)] 54)).alloc (.cells #[.string nm, .slice pa ps.length pc, .slice a als.length ac, .int .i64 at_] 44)) b acc := (hw.alloc _).alloc _
  have hI1 : WpInv b w.heap.size nm pa pc ps (.slice a als.length ac) at_ ((w.alloc (.cells #[.pointer (some ⟨b, 0, none⟩)] 54)).alloc (.cells #[.string nm, .slice pa ps.length pc, .slice a als.length ac, .int .i64 at_] 44)) := by
    refine ⟨hm.wf hf1 hb, (Blk.new w _ _).alloc _, ?_, hp.wf hf1, hb, hlb⟩
    have := Blk.new (w.alloc (.cells #[.pointer (some ⟨b, 0, none⟩)] 54)) #[.string nm, .slice pa ps.length pc, .slice a als.length ac, .int .i64 at_] 44
    rwa [show (w.alloc (.cells #[.pointer (some ⟨b, 0, none⟩)] 54)).heap.size = w.heap.size + 1 by simp] at this
  have hr1 := hr.wf hf1
  have HS := Lib.hid (show ((w.alloc (.cells #[.pointer (some ⟨b, 0, none⟩)] 54)).alloc (.cells #[.string nm, .slice pa ps.length pc, .slice a als.length ac, .int .i64 at_] 44)).heap.size = w.heap.size + 1 + 1 by simp)
  have hmf := mkFunc_run
  clear hm hw hp hr
  by_cases hns : 0 < als.length
  rotate_left
  · have hns' : decide ((0 : Int) < (als.length : Int)) = false := decide_eq_false (by omega)
    have hns2 : decide (0 < als.length) = false := decide_eq_false hns
    go_enter Try.func17, Try.ntmps17
    go_wp2_with fail
    generalize (w.alloc (.cells #[.pointer (some ⟨b, 0, none⟩)] 54)).alloc (.cells #[.string nm, .slice pa ps.length pc, .slice a als.length ac, .int .i64 at_] 44) = w1 at *
    refine (must_one false (n := 1) HS.out rfl).mono ?_
    rintro e w3 ⟨he, rfl⟩
    rcases he with ⟨h, -⟩ | ⟨-, rfl⟩
    · cases h
    refine ⟨rfl, WPost.bad ?_ (hf1.alloc _) rfl⟩
    rw [ruleOk, decide_eq_false hns]
    rfl
  have hns' : decide ((0 : Int) < (als.length : Int)) = true := decide_eq_true (by omega)
  have hns2 : decide (0 < als.length) = true := decide_eq_true hns
  go_enter Try.func17, Try.ntmps17
  go_wp2_with fail
  generalize (w.alloc (.cells #[.pointer (some ⟨b, 0, none⟩)] 54)).alloc (.cells #[.string nm, .slice pa ps.length pc, .slice a als.length ac, .int .i64 at_] 44) = w1 at *
  generalize w.heap.size = N at *
  refine (must_one true (n := 1) HS.out rfl).mono ?_
  rintro e w3 ⟨he, rfl⟩
  rcases he with ⟨-, rfl⟩ | ⟨h, -⟩
  rotate_left
  · cases h
  have hw3 := hw1.alloc (.cells #[.bool true] 4)
  have hf3 : Wf b w1 (w1.alloc (.cells #[.bool true] 4)) := (Wf.refl b w1).alloc _
  have hI3 := hI1.wf hf3
  clear hw1 hns' hns2 HS
  generalize w1.alloc (.cells #[.bool true] 4) = w3 at *
  obtain ⟨hm3, y0, y1, -⟩ := id hI3
  have c0 := y0.cell 0 rfl
  have c1 := y1.cell 0 rfl
  clear y0 y1
  go_wp2_with fail
  refine WPost.call (names_any (hm3.alloc _) hb (hw3.alloc _) ⟨#[]⟩ (SRow.lit w3 [nm] (n := 1) rfl rfl rfl hw3.lt) (by simp) (by omega)) ?_ ?_
  · intro w4 hq hf4
    refine ⟨rfl, WPost.bad ?_ (hf1.trans ((hf3.alloc _).trans hf4)) rfl⟩
    have hq' : nameB nm = false := by simpa using hq.out
    rw [ruleOk, hq']
    simp
  intro w4 hq hf4 hw4
  have hf14 : Wf b w1 w4 := (hf3.alloc _).trans hf4
  have hI4 := hI1.wf hf14
  have HN := Lib.hid (show nameB nm = true by simpa using hq.out)
  clear hI3 hw3 hf4 hm3 c0 c1 hf3 hq
  obtain ⟨hm4, y0, y1, -⟩ := id hI4
  have c0 := y0.cell 0 rfl
  have c1 := y1.cell 1 rfl
  clear y0 y1 hm4
  go_wp2_with fail
  refine WPost.call (row_any (n := ps.length) (ok := fun i => nameB (ps.getD i ByteArray.empty)) (out := paramOut ps) hw4 (Inv := WpInv b N nm pa pc ps (.slice a als.length ac) at_) ⟨fun hz hI hw hi hl => wrule_part hz hI hw hi hl, fun hI hf => hI.wf hf, fun args w => by kernel_rfl⟩ hI4 (by omega) (by rw [List.length_append]; omega)) ?_ ?_
  · intro w6 hq6 hf6
    refine ⟨rfl, WPost.bad ?_ (hf1.trans (hf14.trans hf6)) rfl⟩
    rw [ruleOk, hq6.out]
    simp
  intro w6 hq6 hf6 hw6
  have hf16 := hf14.trans hf6
  clear hf14 hf6 hI4 c0 c1 hw4
  obtain ⟨hm6, y0, y1, -⟩ := hI1.wf hf16
  have c0 := y0.cell 0 rfl
  have c2 := y1.cell 2 rfl
  clear y0 y1
  go_wp2_with fail
  clear c0 c2
  go_loopw [4, 5, 26] (fun u1 u2 i wr => ∃ k : Nat, k ≤ als.length ∧ i = .int .i64 k ∧ Wf b w1 wr ∧ WB wr b (acc ++ namesOut ⟨#[]⟩ [nm] ++ rowOut ps.length (paramOut ps) ++ altsTo als k) ∧ Aside ((als.take k).all altOk = true)) (fun u1 u2 i wr => als.length - (intOf i).toNat)
  case atStart => exact ⟨0, Nat.zero_le _, rfl, hf16, by simpa [altsTo] using hw6, rfl⟩
  case round =>
    obtain ⟨k, hk, rfl, hf, hw2, hA⟩ := hrel
    clear hw6 hf16 hm6
    obtain ⟨hm2, y0, y1, -⟩ := hI1.wf hf
    have c0 := y0.cell 0 rfl
    by_cases hlt : k < als.length
    · obtain ⟨kb, off, c, a1, ac1, hv, hr2, d0, d1, d2, d3, d4, d5⟩ := (hr1.wf hf).get hlt
      injection hv with hv1 hv2 hv3
      subst hv1
      clear hv2 hv3
      have hT0 := take_snoc_getD als k noAlt hlt
      have hX0 : altOk (als.getD k noAlt) = false → als.all altOk = false := all_getD _ hlt
      have hM0 := altsTo_mono als als.length (k + 1) hlt
      have hE0 : (altsTo als (k + 1)) = altsTo als k ++ ((if k = 0 then [58] else [9, 124]) ++ altOut (als.getD k noAlt)) := rfl
      generalize als.getD k noAlt = x at *
      have hT := Lib.hid hT0
      have hX := Lib.hid hX0
      have hE := Lib.hid hE0
      have hEL : (altsTo als k).length + ((if k = 0 then [58] else [9, 124] : List UInt8).length + (altOut x).length) ≤ (altsTo als als.length).length := by
        rw [hE0] at hM0
        simpa using hM0
      clear hT0 hX0 hE0 hM0
      obtain ⟨xw, xp, xh, xa, xwh, xat⟩ := x
      dsimp only at d0 d1 d2 d3 d4 d5 hr2
      have hN := Blk.new wr #[.slice a1 xw.length ac1, .string xp, .bool xh, .string xa, .int .i64 xwh, .int .i64 xat] 47
      have hwn := hw2.alloc (.cells #[.slice a1 xw.length ac1, .string xp, .bool xh, .string xa, .int .i64 xwh, .int .i64 xat] 47)
      have hfn := hf.alloc (.cells #[.slice a1 xw.length ac1, .string xp, .bool xh, .string xa, .int .i64 xwh, .int .i64 xat] 47)
      have hNb : wr.heap.size ≠ b := by have := hw2.lt; omega
      have hr3 := hr2.wf ((Wf.refl b wr).alloc (.cells #[.slice a1 xw.length ac1, .string xp, .bool xh, .string xa, .int .i64 xwh, .int .i64 xat] 47))
      have HS := Lib.hid (show (wr.alloc (.cells #[.slice a1 xw.length ac1, .string xp, .bool xh, .string xa, .int .i64 xwh, .int .i64 xat] 47)).heap.size = wr.heap.size + 1 by simp)
      have c0' := (y0.alloc (.cells #[.slice a1 xw.length ac1, .string xp, .bool xh, .string xa, .int .i64 xwh, .int .i64 xat] 47)).cell 0 rfl
      clear y0 y1
      by_cases hk0 : k = 0
      · subst hk0
        rw [Nat.zero_mul, Nat.add_zero] at d0 d1 d2 d3 d4 d5
        have hEL' : (altsTo als 0).length + (1 + (altOut ⟨xw, xp, xh, xa, xwh, xat⟩).length) ≤ (altsTo als als.length).length := hEL
        clear hEL
        go_wp2_with fail
        clear d0 d1 d2 d3 d4 d5 c0
        generalize wr.alloc (.cells #[.slice a1 xw.length ac1, .string xp, .bool xh, .string xa, .int .i64 xwh, .int .i64 xat] 47) = w2 at *
        generalize wr.heap.size = M at *
        refine WPost.call (put_any (hwn.alloc _) (SRow.lit w2 [⟨#[58]⟩] (n := 1) rfl rfl HS.out hwn.lt) (by simp) (by simp only [List.length_append]; simp [outS]; omega)) (fun w' h => by have := h.out; cases this) ?_
        intro w4 _ hf4 hw4
        have hf24 : Wf b w2 w4 := ((Wf.refl b w2).alloc _).trans hf4
        have hN4 : Blk w4 M _ _ := hf24.keep hN (by decide) hNb
        have hr4 := hr3.wf hf24
        have hf14 := hfn.trans hf24
        obtain ⟨hm4, z0, z1, -⟩ := hI1.wf hf14
        have c4 := z0.cell 0 rfl
        have e0 := hN4.cell 0 rfl
        have e1 := hN4.cell 1 rfl
        have e2 := hN4.cell 2 rfl
        have e3 := hN4.cell 3 rfl
        have e4 := hN4.cell 4 rfl
        have e5 := hN4.cell 5 rfl
        clear hf4 hf24 hN hr3 hr2 hwn hfn HS hw2 hN4 z0 z1 c0' hm2
        go_wp2_with fail
        refine WPost.call (walt_any (x := ⟨xw, xp, xh, xa, xwh, xat⟩) hm4 hb hw4 hr4 (by simp only [List.length_append]; simp [outS]; omega)) ?_ ?_
        · intro w6 hq hf6
          refine ⟨rfl, WPost.bad ?_ (hf1.trans (hf14.trans hf6)) rfl⟩
          rw [ruleOk, hX.out hq.out]
          simp
        intro w6 hq hf6 hw6
        go_wp2_with fail
        go_roundw
        case rel =>
          refine ⟨0 + 1, by omega, by go_num, hf14.trans hf6, ?_, ?_⟩
          · rw [hE.out]
            simpa [outS] using hw6
          · show _ = _
            rw [hT.out, List.all_append, hA.out]
            simp [hq.out]
        case measure => simp [intOf]; omega
      · have hEL' : (altsTo als k).length + (2 + (altOut ⟨xw, xp, xh, xa, xwh, xat⟩).length) ≤ (altsTo als als.length).length := by rw [if_neg hk0] at hEL; exact hEL
        have hk1 : ((k : Int) == 0) = false := by rw [beq_eq_false_iff_ne]; omega
        clear hEL
        go_wp2_with fail
        clear d0 d1 d2 d3 d4 d5 c0
        generalize wr.alloc (.cells #[.slice a1 xw.length ac1, .string xp, .bool xh, .string xa, .int .i64 xwh, .int .i64 xat] 47) = w2 at *
        generalize wr.heap.size = M at *
        refine WPost.call (put_any (hwn.alloc _) (SRow.lit w2 [⟨#[9, 124]⟩] (n := 1) rfl rfl HS.out hwn.lt) (by simp) (by simp only [List.length_append]; simp [outS]; omega)) (fun w' h => by have := h.out; cases this) ?_
        intro w4 _ hf4 hw4
        have hf24 : Wf b w2 w4 := ((Wf.refl b w2).alloc _).trans hf4
        have hN4 : Blk w4 M _ _ := hf24.keep hN (by decide) hNb
        have hr4 := hr3.wf hf24
        have hf14 := hfn.trans hf24
        obtain ⟨hm4, z0, z1, -⟩ := hI1.wf hf14
        have c4 := z0.cell 0 rfl
        have e0 := hN4.cell 0 rfl
        have e1 := hN4.cell 1 rfl
        have e2 := hN4.cell 2 rfl
        have e3 := hN4.cell 3 rfl
        have e4 := hN4.cell 4 rfl
        have e5 := hN4.cell 5 rfl
        clear hf4 hf24 hN hr3 hr2 hwn hfn HS hw2 hN4 z0 z1 c0' hm2
        go_wp2_with fail
        refine WPost.call (walt_any (x := ⟨xw, xp, xh, xa, xwh, xat⟩) hm4 hb hw4 hr4 (by simp only [List.length_append]; simp [outS]; omega)) ?_ ?_
        · intro w6 hq hf6
          refine ⟨rfl, WPost.bad ?_ (hf1.trans (hf14.trans hf6)) rfl⟩
          rw [ruleOk, hX.out hq.out]
          simp
        intro w6 hq hf6 hw6
        go_wp2_with fail
        go_roundw
        case rel =>
          refine ⟨k + 1, by omega, by go_num, hf14.trans hf6, ?_, ?_⟩
          · rw [hE.out]
            simpa [outS, hk0] using hw6
          · show _ = _
            rw [hT.out, List.all_append, hA.out]
            simp [hq.out]
        case measure => simp [intOf]; omega
    · obtain rfl : k = als.length := by omega
      clear hlt
      rw [List.take_length] at hA
      have HA := Lib.hid hA.out
      clear hA y0 y1
      go_wp2_with fail
      refine WPost.call (put_any (hw2.alloc _) (SRow.lit wr [⟨#[9, 59, 10]⟩] (n := 1) rfl rfl rfl hw2.lt) (by simp) (by simp only [List.length_append]; simp [outS]; omega)) (fun w' h => by have := h.out; cases this) ?_
      intro w7 _ hf7 hw7
      go_wp2_with fail
      go_end0
      refine WPost.good ?_ (hf1.trans ((hf.alloc _).trans hf7)) rfl ?_
      · rw [ruleOk, HA.out, HN.out, hq6.out, decide_eq_true hns]
        rfl
      · have e : acc ++ ruleOut ⟨nm, ps, als, at_⟩ = acc ++ namesOut ⟨#[]⟩ [nm] ++ rowOut ps.length (paramOut ps) ++ altsTo als als.length ++ outS [⟨#[9, 59, 10]⟩] := by simp [ruleOut, outS]
        rw [e]
        exact hw7
end Go.Proofs.Ytejpmdlokmlmeaa
