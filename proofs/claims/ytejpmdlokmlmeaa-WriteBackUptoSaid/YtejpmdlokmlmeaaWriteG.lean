/- An alternative is written: what it gives, in plain Lean, and the walk. Conditions: the bytes are at most 2^40. -/
import Derived.Test.YtejpmdlokmlmeaaWriteF
import Derived.Deep.CutRange
import Derived.Deep.CutBlock
set_option linter.unusedVariables false
set_option linter.unusedSimpArgs false
namespace Go.Proofs.Ytejpmdlokmlmeaa
open Go.RowKit

abbrev sPrec : ByteArray := ⟨#[32, 37, 112, 114, 101, 99, 32]⟩
def wordsSp (ws : List GWord) : List UInt8 := ws.flatMap (fun x => [32] ++ wordOut x)
def precOut (p : ByteArray) : List UInt8 := if p = ⟨#[]⟩ then [] else namesOut sPrec [p]
def actOut (x : GAlt) : List UInt8 := if x.has then [32] ++ ([123] ++ x.action.data.toList ++ [125]) else []
def altOut (x : GAlt) : List UInt8 := wordsSp x.words ++ (precOut x.prec ++ (actOut x ++ [10]))
def precOk (p : ByteArray) : Bool := if p = ⟨#[]⟩ then true else nameB p
def braced (s : ByteArray) : ByteArray := ⟨#[123]⟩ ++ s ++ ⟨#[125]⟩
theorem braced_data (s : ByteArray) : (braced s).data.toList = [123] ++ s.data.toList ++ [125] := by
  simp [braced]
def actOk (x : GAlt) : Bool := if x.has then oneB (braced x.action) 9 x.action else decide (x.action = ⟨#[]⟩)
def altOk (x : GAlt) : Bool := x.words.all (wordOk · 0) && (precOk x.prec && actOk x)
theorem wordsSp_append (a c : List GWord) : wordsSp (a ++ c) = wordsSp a ++ wordsSp c := by simp [wordsSp]
theorem wordsSp_one (x : GWord) : wordsSp [x] = [32] ++ wordOut x := by simp [wordsSp]
theorem wordsSp_len (ws : List GWord) : ws.length ≤ (wordsSp ws).length := by
  induction ws with
  | nil => simp
  | cons x l ih => rw [show wordsSp (x :: l) = ([32] ++ wordOut x) ++ wordsSp l from rfl]; simp; omega
theorem empty_test {s : ByteArray} {c : Bool} (h : c = !s.toList.isEmpty) : (c = false → s = ⟨#[]⟩) ∧ (c = true → s ≠ ⟨#[]⟩) := by
  rw [ByteArray.toList_eq] at h
  cases s with | mk a =>
  constructor
  · intro hc
    rw [hc] at h
    have : a.toList = [] := by simpa using h.symm
    have : a = #[] := Array.toList_inj.1 this
    rw [this]
  · intro hc e
    injection e with e
    rw [hc, e] at h
    simp at h
theorem empty_test' {s : ByteArray} {c : Bool} (h : c = s.toList.isEmpty) : (c = true → s = ⟨#[]⟩) ∧ (c = false → s ≠ ⟨#[]⟩) := by
  have := empty_test (s := s) (c := !c) (by rw [h])
  exact ⟨fun e => this.1 (by rw [e]; rfl), fun e => this.2 (by rw [e]; rfl)⟩
theorem empty_facts {s : ByteArray} (h : s ≠ ⟨#[]⟩) : ¬ s.toList = [] ∧ s.toList.isEmpty = false := by
  have : ¬ s.toList = [] := by
    rw [ByteArray.toList_eq]
    intro e
    apply h
    cases s with | mk a =>
    have : a = #[] := Array.toList_inj.1 e
    rw [this]
  exact ⟨this, by simpa using this⟩

set_option maxRecDepth 100000 in
set_option maxHeartbeats 2000000 in
theorem walt_any {w : World} {b : Nat} {acc : List UInt8} {x : GAlt} {a : Option Addr} {ac : Nat} (hm : HM w) (hb : 0 < b) (hw : WB w b acc) (hr : WRow b w (.slice a x.words.length ac) x.words) (hlen : acc.length + (altOut x).length ≤ 1099511627776) :
    Calls Try.prog 34 #[.pointer (some ⟨b, 0, none⟩), .agg #[.slice a x.words.length ac, .string x.prec, .bool x.has, .string x.action, .int .i64 x.wher, .int .i64 x.at_]] w (WPost b acc w (altOk x) (altOut x)) := by
  obtain ⟨ws, pr, has, act, wher, at_⟩ := x
  have hO1 : (altOut ⟨ws, pr, has, act, wher, at_⟩).length = (wordsSp ws).length + ((precOut pr).length + ((actOut ⟨ws, pr, has, act, wher, at_⟩).length + 1)) := by simp [altOut]
  rw [hO1] at hlen
  clear hO1
  dsimp only at hr ⊢
  have hlb := hw.lt
  have hwl := wordsSp_len ws
  have hT1 := Blk.new w #[.slice a ws.length ac, .string pr, .bool has, .string act, .int .i64 wher, .int .i64 at_] 47
  have hf1 : Wf b w (w.alloc (.cells #[.slice a ws.length ac, .string pr, .bool has, .string act, .int .i64 wher, .int .i64 at_] 47)) := (Wf.refl b w).alloc _
  have hw1 := hw.alloc (.cells #[.slice a ws.length ac, .string pr, .bool has, .string act, .int .i64 wher, .int .i64 at_] 47)
  have hm1 := hm.alloc (.cells #[.slice a ws.length ac, .string pr, .bool has, .string act, .int .i64 wher, .int .i64 at_] 47)
  have hr1 := hr.wf hf1
  have t0 := hT1.cell 0 rfl
  clear hm hw hr
  go_enter Try.func34, Try.ntmps34
  go_wp2_with fail
  generalize w.alloc (.cells #[.slice a ws.length ac, .string pr, .bool has, .string act, .int .i64 wher, .int .i64 at_] 47) = w1 at *
  generalize w.heap.size = T at *
  clear t0
  have hTb : T ≠ b := by omega
  go_loopw [5, 10] (fun u i wr => ∃ k : Nat, k ≤ ws.length ∧ i = .int .i64 k ∧ Wf b w1 wr ∧ WB wr b (acc ++ wordsSp (ws.take k)) ∧ Aside ((ws.take k).all (wordOk · 0) = true)) (fun u i wr => ws.length - (intOf i).toNat)
  case atStart => exact ⟨0, Nat.zero_le _, rfl, Wf.refl b w1, by simpa [wordsSp] using hw1, rfl⟩
  case round =>
    obtain ⟨k, hk, rfl, hf, hw2, hA⟩ := hrel
    clear hw1
    by_cases hlt : k < ws.length
    · obtain ⟨kb, off, c, n, args, at1, a1, ac1, hv, hx, hr2, c0, c1, c2⟩ := (hr1.wf hf).get hlt
      injection hv with hv1 hv2 hv3
      subst hv1
      clear hv2 hv3
      have hT0 := take_snoc_getD ws k noWord hlt
      have hX0 : wordOk (ws.getD k noWord) 0 = false → ws.all (wordOk · 0) = false := all_getD (p := (wordOk · 0)) _ hlt
      rw [hx] at hT0 hX0
      have hT := Lib.hid hT0
      have hX := Lib.hid hX0
      clear hT0 hX0 hx
      have hO : (wordsSp (ws.take k)).length + (1 + (wordOut (.mk n args at1)).length) ≤ (wordsSp ws).length := by
        have e : ws = ws.take (k + 1) ++ ws.drop (k + 1) := (List.take_append_drop _ _).symm
        have e2 : (wordsSp ws).length = (wordsSp (ws.take (k + 1))).length + (wordsSp (ws.drop (k + 1))).length := by rw [← List.length_append, ← wordsSp_append, ← e]
        rw [e2, hT.out, wordsSp_append, List.length_append, wordsSp_one, List.length_append]
        have : ([32] : List UInt8).length = 1 := rfl
        omega
      have hN := Blk.new wr #[.string n, .slice a1 args.length ac1, .int .i64 at1] 50
      have hwn := hw2.alloc (.cells #[.string n, .slice a1 args.length ac1, .int .i64 at1] 50)
      have hfn := hf.alloc (.cells #[.string n, .slice a1 args.length ac1, .int .i64 at1] 50)
      have hNb : wr.heap.size ≠ b := by have := hw2.lt; omega
      have hr3 := hr2.wf ((Wf.refl b wr).alloc (.cells #[.string n, .slice a1 args.length ac1, .int .i64 at1] 50))
      have HS := Lib.hid (show (wr.alloc (.cells #[.string n, .slice a1 args.length ac1, .int .i64 at1] 50)).heap.size = wr.heap.size + 1 by simp)
      go_wp2_with fail
      clear c0 c1 c2
      generalize wr.alloc (.cells #[.string n, .slice a1 args.length ac1, .int .i64 at1] 50) = w2 at *
      generalize wr.heap.size = N at *
      refine WPost.call (put_any (hwn.alloc _) (SRow.lit w2 [⟨#[32]⟩] (n := 1) rfl rfl HS.out hwn.lt) (by simp) (by rw [List.length_append]; simp [outS]; omega)) (fun w' h => by have := h.out; cases this) ?_
      intro w4 _ hf4 hw4
      have hf24 : Wf b w2 w4 := ((Wf.refl b w2).alloc _).trans hf4
      have hN4 : Blk w4 N _ _ := hf24.keep hN (by decide) hNb
      have hr4 := hr3.wf hf24
      have hm4 := hm1.wf (hfn.trans hf24) hb
      have d0 := hN4.cell 0 rfl
      have d1 := hN4.cell 1 rfl
      have d2 := hN4.cell 2 rfl
      have hf14 := hfn.trans hf24
      clear hf4 hf24 hN hr3 hr2 hwn hfn HS hw2 hN4
      go_wp2_with fail
      refine WPost.call (wword_any _ (Nat.lt_succ_self _) (d := 0) rfl (by omega) hm4 hb hw4 hr4 (by simp only [List.length_append]; simp [outS]; omega)) ?_ ?_
      · intro w6 hq hf6
        refine ⟨rfl, WPost.bad ?_ (hf1.trans (hf14.trans hf6)) rfl⟩
        rw [altOk, hX.out hq.out]
        rfl
      intro w6 hq hf6 hw6
      go_wp2_with fail
      go_roundw
      case rel =>
        refine ⟨k + 1, by omega, by go_num, hf14.trans hf6, ?_, ?_⟩
        · rw [hT.out, wordsSp_append, wordsSp_one]
          simpa [outS] using hw6
        · show _ = _
          rw [hT.out, List.all_append, hA.out]
          simp [hq.out]
      case measure => simp [intOf]; omega
    · obtain rfl : k = ws.length := by omega
      clear hlt
      rw [List.take_length] at hw2 hA
      have HW := Lib.hid hA.out
      clear hA
      have hTr : Blk wr T _ _ := hf.keep hT1 (by decide) hTb
      have a1 := hTr.cell 1 rfl
      go_upto_if 23 with fail
      obtain ⟨c, hc⟩ : ∃ c, c = !pr.toList.isEmpty := ⟨_, rfl⟩
      rw [← hc]
      have Hc := Lib.hid (empty_test hc)
      clear hc
      go_cut [] from 24 to 28 (fun wx => Wf b w1 wx ∧ WB wx b (acc ++ (wordsSp ws ++ precOut pr)) ∧ Aside (precOk pr = true))
      case first =>
        cases c
        · have HP := Lib.hid (show precOk pr = true ∧ precOut pr = [] by rw [Hc.out.1 rfl]; simp [precOk, precOut])
          go_wp2_with fail
          go_meet
          exact ⟨hf, (by rw [HP.out.2, List.append_nil]; exact hw2), HP.out.1⟩
        · have HP := Lib.hid (show precOk pr = nameB pr ∧ precOut pr = namesOut sPrec [pr] by simp [precOk, precOut, Hc.out.2 rfl])
          have HPL := Lib.hid (show (precOut pr).length = (namesOut sPrec [pr]).length by rw [HP.out.2])
          go_wp2_with fail
          refine WPost.call (names_any ((hm1.wf hf hb).alloc _) hb (hw2.alloc _) sPrec (SRow.lit wr [pr] (n := 1) rfl rfl rfl hw2.lt) (by simp) (by have := HPL.out; rw [List.length_append]; omega)) ?_ ?_
          · intro w4 hq hf4
            refine ⟨rfl, WPost.bad ?_ (hf1.trans (hf.trans (((Wf.refl b wr).alloc _).trans hf4))) rfl⟩
            have hq' : nameB pr = false := by simpa using hq.out
            rw [altOk, HP.out.1, hq']
            simp
          intro w4 hq hf4 hw4
          go_wp2_with fail
          go_meet
          have hq' : nameB pr = true := by simpa using hq.out
          exact ⟨hf.trans (((Wf.refl b wr).alloc _).trans hf4), (by rw [HP.out.2, ← List.append_assoc]; exact hw4), show _ = _ by rw [HP.out.1, hq']⟩
      case rest =>
        clear hw2 hf hTr a1 Hc
        obtain ⟨hf, hw2, hP⟩ := hcut
        generalize wc = w2 at *
        have hT2 : Blk w2 T _ _ := hf.keep hT1 (by decide) hTb
        have a2 := hT2.cell 2 rfl
        have a3 := hT2.cell 3 rfl
        have hm2 := hm1.wf hf hb
        have hf02 := hf1.trans hf
        have hw2' : WB w2 b (acc ++ (wordsSp ws ++ precOut pr)) := hw2
        cases has
        · have HAL := Lib.hid (show actOut ⟨ws, pr, false, act, wher, at_⟩ = [] by simp [actOut])
          have HAO := Lib.hid (show actOk ⟨ws, pr, false, act, wher, at_⟩ = decide (act = ⟨#[]⟩) by simp [actOk])
          go_wp2_with fail
          obtain ⟨c, hc⟩ : ∃ c, c = act.toList.isEmpty := ⟨_, rfl⟩
          rw [← hc]
          have Hc := Lib.hid (empty_test' hc)
          clear hc
          refine (must_one c (n := 1) rfl rfl).mono ?_
          rintro e w3 ⟨he, rfl⟩
          have hT3 := hT2.alloc (.cells #[.bool c] 4)
          have hw3 := hw2.alloc (.cells #[.bool c] 4)
          have hf3 := hf.alloc (.cells #[.bool c] 4)
          have b2 := hT3.cell 2 rfl
          clear a2 a3 hT2 hw2 hf hm2
          generalize w2.alloc (.cells #[.bool c] 4) = w3 at *
          rcases he with ⟨hc, rfl⟩ | ⟨hc, rfl⟩
          rotate_left
          · refine ⟨rfl, WPost.bad ?_ (hf1.trans hf3) rfl⟩
            rw [altOk, HAO.out, decide_eq_false (Hc.out.2 hc)]
            simp
          have HC := Lib.hid hc
          clear hc
          go_wp2_with fail
          refine WPost.call (put_any (hw3.alloc _) (SRow.lit w3 [⟨#[10]⟩] (n := 1) rfl rfl rfl hw3.lt) (by simp) (by simp only [List.length_append]; simp [outS]; omega)) (fun w' h => by have := h.out; cases this) ?_
          intro w7 _ hf7 hw7
          go_wp2_with fail
          go_end0
          refine WPost.good ?_ (hf1.trans ((hf3.alloc _).trans hf7)) rfl ?_
          · rw [altOk, HAO.out, decide_eq_true (Hc.out.1 HC.out), HW.out, hP.out]
            rfl
          · have e : acc ++ altOut ⟨ws, pr, false, act, wher, at_⟩ = acc ++ (wordsSp ws ++ precOut pr) ++ outS [⟨#[10]⟩] := by simp [altOut, actOut, outS]
            rw [e]
            exact hw7
        · have hact : act.size ≤ 1099511627776 := by simp [actOut] at hlen; omega
          have hal : (actOut ⟨ws, pr, true, act, wher, at_⟩).length = 1 + (1 + act.size + 1) := by simp [actOut]; omega
          have HAO := Lib.hid (show actOk ⟨ws, pr, true, act, wher, at_⟩ = oneB (braced act) 9 act by simp [actOk])
          have HAL := Lib.hid hal
          clear hal
          go_wp2_with fail
          refine (must_one true (n := 1) rfl rfl).mono ?_
          rintro e w3 ⟨he, rfl⟩
          rcases he with ⟨-, rfl⟩ | ⟨h, -⟩
          rotate_left
          · cases h
          have hT3 := hT2.alloc (.cells #[.bool true] 4)
          have hw3 := hw2.alloc (.cells #[.bool true] 4)
          have hf3 := hf.alloc (.cells #[.bool true] 4)
          have hm3 := hm2.alloc (.cells #[.bool true] 4)
          have b2 := hT3.cell 2 rfl
          have b3 := hT3.cell 3 rfl
          clear a2 a3 hT2 hw2 hf hm2
          generalize w2.alloc (.cells #[.bool true] 4) = w3 at *
          go_wp2_with fail
          refine (one_any hm3 (braced act) 9 act).mono ?_
          rintro e w4 ⟨rfl, hf4⟩
          obtain ⟨c, hc⟩ : ∃ c, c = oneB (braced act) 9 act := ⟨_, rfl⟩
          rw [← hc]
          have Hc := Lib.hid hc
          clear hc
          have hw4 := hw3.still hf4
          have hf14 := hf3.trans (Wf.still hf4)
          clear hw3 hf3 hf4 b2 b3 hT3
          go_wp2_with fail
          refine (must_one c (n := 1) rfl rfl).mono ?_
          rintro e w5 ⟨he, rfl⟩
          have hw5 := hw4.alloc (.cells #[.bool c] 4)
          have hf5 := hf14.alloc (.cells #[.bool c] 4)
          clear hw4 hf14
          rcases he with ⟨rfl, rfl⟩ | ⟨rfl, rfl⟩
          rotate_left
          · refine ⟨rfl, WPost.bad ?_ (hf1.trans hf5) rfl⟩
            rw [altOk, HAO.out, ← Hc.out]
            simp
          generalize w4.alloc (.cells #[.bool true] 4) = w5 at *
          go_wp2_with fail
          refine WPost.call (put_any (hw5.alloc _) (SRow.lit w5 [⟨#[32]⟩, braced act] (n := 2) rfl rfl rfl hw5.lt) (by simp) (by have := HAL.out; simp only [List.length_append]; simp [outS, braced_data]; omega)) (fun w' h => by have := h.out; cases this) ?_
          intro w6 _ hf6 hw6
          have hf16 := (hf5.alloc _).trans hf6
          clear hf5 hf6 hw5
          go_wp2_with fail
          refine WPost.call (put_any (hw6.alloc _) (SRow.lit w6 [⟨#[10]⟩] (n := 1) rfl rfl rfl hw6.lt) (by simp) (by have := HAL.out; simp only [List.length_append]; simp [outS, braced_data]; omega)) (fun w' h => by have := h.out; cases this) ?_
          intro w7 _ hf7 hw7
          go_wp2_with fail
          go_end0
          refine WPost.good ?_ (hf1.trans ((hf16.alloc _).trans hf7)) rfl ?_
          · rw [altOk, HAO.out, ← Hc.out, HW.out, hP.out]
            rfl
          · have e : acc ++ altOut ⟨ws, pr, true, act, wher, at_⟩ = acc ++ (wordsSp ws ++ precOut pr) ++ outS [⟨#[32]⟩, braced act] ++ outS [⟨#[10]⟩] := by simp [altOut, actOut, outS, braced_data]
            rw [e]
            exact hw7
end Go.Proofs.Ytejpmdlokmlmeaa
