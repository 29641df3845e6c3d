/- A declaration is written: what it gives, in plain Lean, and the walk. Conditions: the bytes are at most 2^40. -/
import Derived.Test.YtejpmdlokmlmeaaWriteG
set_option linter.unusedVariables false
set_option linter.unusedSimpArgs false
namespace Go.Proofs.Ytejpmdlokmlmeaa
open Go.RowKit

abbrev kToken : ByteArray := ⟨#[116, 111, 107, 101, 110]⟩
abbrev kType : ByteArray := ⟨#[116, 121, 112, 101]⟩
abbrev kLeft : ByteArray := ⟨#[108, 101, 102, 116]⟩
abbrev kRight : ByteArray := ⟨#[114, 105, 103, 104, 116]⟩
abbrev kNonassoc : ByteArray := ⟨#[110, 111, 110, 97, 115, 115, 111, 99]⟩
abbrev kStart : ByteArray := ⟨#[115, 116, 97, 114, 116]⟩
def kindOk (k t : ByteArray) : Bool := if k = kToken then true else if k = kType then decide (t ≠ ⟨#[]⟩) else if k = kLeft ∨ k = kRight ∨ k = kNonassoc ∨ k = kStart then decide (t = ⟨#[]⟩) else false
def typeOut (t : ByteArray) : List UInt8 := if t = ⟨#[]⟩ then [] else namesOut ⟨#[32, 60]⟩ [t] ++ [62]
def declOut (x : GDecl) : List UInt8 := ([37] ++ x.kind.data.toList) ++ (typeOut x.type ++ (namesOut ⟨#[32]⟩ x.names ++ [59, 10]))
def declOk (x : GDecl) : Bool := kindOk x.kind x.type && (decide (0 < x.names.length) && (precOk x.type && x.names.all nameB))
theorem namesOut_len (a : ByteArray) (l : List ByteArray) (h : 0 < a.size) : l.length ≤ (namesOut a l).length := by
  induction l with
  | nil => simp
  | cons x l ih =>
    rw [show namesOut a (x :: l) = (a.data.toList ++ x.data.toList) ++ namesOut a l from rfl]
    simp
    omega

set_option maxRecDepth 100000 in
set_option maxHeartbeats 4000000 in
theorem wdecl_any {w : World} {b : Nat} {acc : List UInt8} {x : GDecl} {v : Value} (hm : HM w) (hb : 0 < b) (hw : WB w b acc) (hr : SRow b w v x.names) (hlen : acc.length + (declOut x).length ≤ 1099511627776) :
    Calls Try.prog 15 #[.pointer (some ⟨b, 0, none⟩), .agg #[.string x.kind, .string x.type, v, .int .i64 x.at_]] w (WPost b acc w (declOk x) (declOut x)) := by
  obtain ⟨kd, ty, ns, at_⟩ := x
  dsimp only at hr ⊢
  obtain ⟨sa, sc, rfl, -⟩ := hr.now.cells
  have hO1 : (declOut ⟨kd, ty, ns, at_⟩).length = 1 + kd.size + ((typeOut ty).length + ((namesOut ⟨#[32]⟩ ns).length + 2)) := by simp [declOut]; omega
  have hnl := namesOut_len ⟨#[32]⟩ ns (by decide)
  rw [hO1] at hlen
  clear hO1
  have hlb := hw.lt
  have hT1 := Blk.new w #[.string kd, .string ty, .slice sa ns.length sc, .int .i64 at_] 41
  have hf1 : Wf b w (w.alloc (.cells #[.string kd, .string ty, .slice sa ns.length sc, .int .i64 at_] 41)) := (Wf.refl b w).alloc _
  have hw1 := hw.alloc (.cells #[.string kd, .string ty, .slice sa ns.length sc, .int .i64 at_] 41)
  have hm1 := hm.alloc (.cells #[.string kd, .string ty, .slice sa ns.length sc, .int .i64 at_] 41)
  have hr1 := hr.wf hf1
  have t0 := hT1.cell 0 rfl
  clear hm hw hr
  go_enter Try.func15, Try.ntmps15
  go_upto_block 0 with fail
  generalize w.alloc (.cells #[.string kd, .string ty, .slice sa ns.length sc, .int .i64 at_] 41) = w1 at *
  generalize w.heap.size = T at *
  have hTb : T ≠ b := by omega
  have t1 := hT1.cell 1 rfl
  go_cut [] from 6 to 26 (fun wx => Wf b w1 wx ∧ WB wx b acc ∧ Aside (kindOk kd ty = true))
  case first =>
    by_cases h1 : kd = kToken
    · have e1 := bstr_eq h1
      have HK := Lib.hid (show kindOk kd ty = true by simp [kindOk, h1])
      clear h1
      go_wp2_with fail
      go_meet
      exact ⟨Wf.refl b w1, hw1, HK.out⟩
    have e1 := bstr_ne h1
    by_cases h2 : kd = kType
    · have e2 := bstr_eq h2
      have HK := Lib.hid (show kindOk kd ty = decide (ty ≠ ⟨#[]⟩) by rw [kindOk, if_neg h1, if_pos h2])
      clear h1 h2
      go_wp2_with fail
      obtain ⟨c, hc⟩ : ∃ c, c = !ty.toList.isEmpty := ⟨_, rfl⟩
      rw [← hc]
      have Hc := Lib.hid (empty_test hc)
      clear hc
      refine (must_one c (n := 1) rfl rfl).mono ?_
      rintro e w3 ⟨he, rfl⟩
      rcases he with ⟨hc, rfl⟩ | ⟨hc, rfl⟩
      rotate_left
      · refine ⟨rfl, WPost.bad ?_ (hf1.alloc _) rfl⟩
        rw [declOk, show kindOk kd ty = false by rw [HK.out]; exact decide_eq_false (fun e => e (Hc.out.1 hc))]
        rfl
      have HC := Lib.hid hc
      clear hc
      go_wp2_with fail
      go_meet
      exact ⟨(Wf.refl b w1).alloc _, hw1.alloc _, show _ = _ by rw [HK.out]; exact decide_eq_true (Hc.out.2 HC.out)⟩
    have e2 := bstr_ne h2
    by_cases h3 : kd = kLeft
    · have e3 := bstr_eq h3
      have HK := Lib.hid (show kindOk kd ty = decide (ty = ⟨#[]⟩) by rw [kindOk, if_neg h1, if_neg h2, if_pos (by simp [h3])])
      clear h1 h2 h3
      go_wp2_with fail
      obtain ⟨c, hc⟩ : ∃ c, c = ty.toList.isEmpty := ⟨_, rfl⟩
      rw [← hc]
      have Hc := Lib.hid (empty_test' hc)
      clear hc
      refine (must_one c (n := 1) rfl rfl).mono ?_
      rintro e w3 ⟨he, rfl⟩
      rcases he with ⟨hc, rfl⟩ | ⟨hc, rfl⟩
      rotate_left
      · refine ⟨rfl, WPost.bad ?_ (hf1.alloc _) rfl⟩
        rw [declOk, show kindOk kd ty = false by rw [HK.out]; exact decide_eq_false (Hc.out.2 hc)]
        rfl
      have HC := Lib.hid hc
      clear hc
      go_wp2_with fail
      go_meet
      exact ⟨(Wf.refl b w1).alloc _, hw1.alloc _, show _ = _ by rw [HK.out]; exact decide_eq_true (Hc.out.1 HC.out)⟩
    have e3 := bstr_ne h3
    by_cases h4 : kd = kRight
    · have e4 := bstr_eq h4
      have HK := Lib.hid (show kindOk kd ty = decide (ty = ⟨#[]⟩) by rw [kindOk, if_neg h1, if_neg h2, if_pos (by simp [h4])])
      clear h1 h2 h3 h4
      go_wp2_with fail
      obtain ⟨c, hc⟩ : ∃ c, c = ty.toList.isEmpty := ⟨_, rfl⟩
      rw [← hc]
      have Hc := Lib.hid (empty_test' hc)
      clear hc
      refine (must_one c (n := 1) rfl rfl).mono ?_
      rintro e w3 ⟨he, rfl⟩
      rcases he with ⟨hc, rfl⟩ | ⟨hc, rfl⟩
      rotate_left
      · refine ⟨rfl, WPost.bad ?_ (hf1.alloc _) rfl⟩
        rw [declOk, show kindOk kd ty = false by rw [HK.out]; exact decide_eq_false (Hc.out.2 hc)]
        rfl
      have HC := Lib.hid hc
      clear hc
      go_wp2_with fail
      go_meet
      exact ⟨(Wf.refl b w1).alloc _, hw1.alloc _, show _ = _ by rw [HK.out]; exact decide_eq_true (Hc.out.1 HC.out)⟩
    have e4 := bstr_ne h4
    by_cases h5 : kd = kNonassoc
    · have e5 := bstr_eq h5
      have HK := Lib.hid (show kindOk kd ty = decide (ty = ⟨#[]⟩) by rw [kindOk, if_neg h1, if_neg h2, if_pos (by simp [h5])])
      clear h1 h2 h3 h4 h5
      go_wp2_with fail
      obtain ⟨c, hc⟩ : ∃ c, c = ty.toList.isEmpty := ⟨_, rfl⟩
      rw [← hc]
      have Hc := Lib.hid (empty_test' hc)
      clear hc
      refine (must_one c (n := 1) rfl rfl).mono ?_
      rintro e w3 ⟨he, rfl⟩
      rcases he with ⟨hc, rfl⟩ | ⟨hc, rfl⟩
      rotate_left
      · refine ⟨rfl, WPost.bad ?_ (hf1.alloc _) rfl⟩
        rw [declOk, show kindOk kd ty = false by rw [HK.out]; exact decide_eq_false (Hc.out.2 hc)]
        rfl
      have HC := Lib.hid hc
      clear hc
      go_wp2_with fail
      go_meet
      exact ⟨(Wf.refl b w1).alloc _, hw1.alloc _, show _ = _ by rw [HK.out]; exact decide_eq_true (Hc.out.1 HC.out)⟩
    have e5 := bstr_ne h5
    by_cases h6 : kd = kStart
    · have e6 := bstr_eq h6
      have HK := Lib.hid (show kindOk kd ty = decide (ty = ⟨#[]⟩) by rw [kindOk, if_neg h1, if_neg h2, if_pos (by simp [h6])])
      clear h1 h2 h3 h4 h5 h6
      go_wp2_with fail
      obtain ⟨c, hc⟩ : ∃ c, c = ty.toList.isEmpty := ⟨_, rfl⟩
      rw [← hc]
      have Hc := Lib.hid (empty_test' hc)
      clear hc
      refine (must_one c (n := 1) rfl rfl).mono ?_
      rintro e w3 ⟨he, rfl⟩
      rcases he with ⟨hc, rfl⟩ | ⟨hc, rfl⟩
      rotate_left
      · refine ⟨rfl, WPost.bad ?_ (hf1.alloc _) rfl⟩
        rw [declOk, show kindOk kd ty = false by rw [HK.out]; exact decide_eq_false (Hc.out.2 hc)]
        rfl
      have HC := Lib.hid hc
      clear hc
      go_wp2_with fail
      go_meet
      exact ⟨(Wf.refl b w1).alloc _, hw1.alloc _, show _ = _ by rw [HK.out]; exact decide_eq_true (Hc.out.1 HC.out)⟩
    have e6 := bstr_ne h6
    have HK := Lib.hid (show kindOk kd ty = false by rw [kindOk, if_neg h1, if_neg h2, if_neg (by simp [h3, h4, h5, h6])])
    clear h1 h2 h3 h4 h5 h6
    go_wp2_with fail
    refine (must_one false (n := 1) rfl rfl).mono ?_
    rintro e w3 ⟨he, rfl⟩
    rcases he with ⟨h, -⟩ | ⟨-, rfl⟩
    · cases h
    refine ⟨rfl, WPost.bad ?_ (hf1.alloc _) rfl⟩
    rw [declOk, HK.out]
    rfl
  case rest =>
    clear t0 t1 hw1
    obtain ⟨hf, hw2, hK⟩ := hcut
    have HK := Lib.hid hK.out
    clear hK
    generalize wc = w2 at *
    have hT2 : Blk w2 T _ _ := hf.keep hT1 (by decide) hTb
    have a0 := hT2.cell 0 rfl
    have a1 := hT2.cell 1 rfl
    have a2 := hT2.cell 2 rfl
    have hf02 := hf1.trans hf
    by_cases hns : 0 < ns.length
    rotate_left
    · have hns' : decide ((0 : Int) < (ns.length : Int)) = false := decide_eq_false (by omega)
      have hns2 : decide (0 < ns.length) = false := decide_eq_false hns
      go_wp2_with fail
      refine (must_one false (n := 1) rfl rfl).mono ?_
      rintro e w3 ⟨he, rfl⟩
      rcases he with ⟨h, -⟩ | ⟨-, rfl⟩
      · cases h
      refine ⟨rfl, WPost.bad ?_ (hf02.alloc _) rfl⟩
      rw [declOk, decide_eq_false hns, HK.out]
      rfl
    have hns' : decide ((0 : Int) < (ns.length : Int)) = true := decide_eq_true (by omega)
    have hns2 : decide (0 < ns.length) = true := decide_eq_true hns
    go_wp2_with fail
    refine (must_one true (n := 1) rfl rfl).mono ?_
    rintro e w3 ⟨he, rfl⟩
    rcases he with ⟨-, rfl⟩ | ⟨h, -⟩
    rotate_left
    · cases h
    have hT3 := hT2.alloc (.cells #[.bool true] 4)
    have hw3 := hw2.alloc (.cells #[.bool true] 4)
    have hf3 := hf.alloc (.cells #[.bool true] 4)
    clear a0 a1 a2 hT2 hw2 hf hf02 hns' hns2
    generalize w2.alloc (.cells #[.bool true] 4) = w3 at *
    have a0 := hT3.cell 0 rfl
    go_wp2_with fail
    refine WPost.call (put_any (hw3.alloc _) (SRow.lit w3 [⟨#[37]⟩, kd] (n := 2) rfl rfl rfl hw3.lt) (by simp) (by simp [outS]; omega)) (fun w' h => by have := h.out; cases this) ?_
    intro w4 _ hf4 hw4
    have hf14 := (hf3.alloc _).trans hf4
    have hT4 : Blk w4 T _ _ := hf14.keep hT1 (by decide) hTb
    clear a0 hT3 hw3 hf3 hf4
    have a1 := hT4.cell 1 rfl
    go_upto_if 40 with fail
    obtain ⟨c, hc⟩ : ∃ c, c = !ty.toList.isEmpty := ⟨_, rfl⟩
    rw [← hc]
    have Hc := Lib.hid (empty_test hc)
    clear hc
    go_cut [] from 41 to 48 (fun wx => Wf b w1 wx ∧ WB wx b (acc ++ ([37] ++ kd.data.toList ++ typeOut ty)) ∧ Aside (precOk ty = true))
    case first =>
      cases c
      · have HP := Lib.hid (show precOk ty = true ∧ typeOut ty = [] by rw [Hc.out.1 rfl]; simp [precOk, typeOut])
        go_wp2_with fail
        go_meet
        exact ⟨hf14, (by rw [HP.out.2, List.append_nil]; simpa [outS] using hw4), HP.out.1⟩
      · have HP := Lib.hid (show precOk ty = nameB ty ∧ typeOut ty = namesOut ⟨#[32, 60]⟩ [ty] ++ [62] by simp [precOk, typeOut, Hc.out.2 rfl])
        have HPL := Lib.hid (show (typeOut ty).length = (namesOut ⟨#[32, 60]⟩ [ty]).length + 1 by rw [HP.out.2]; simp)
        go_wp2_with fail
        refine WPost.call (names_any ((hm1.wf hf14 hb).alloc _) hb (hw4.alloc _) ⟨#[32, 60]⟩ (SRow.lit w4 [ty] (n := 1) rfl rfl rfl hw4.lt) (by simp) (by have := HPL.out; rw [List.length_append]; simp [outS]; omega)) ?_ ?_
        · intro w5 hq hf5
          refine ⟨rfl, WPost.bad ?_ (hf1.trans ((hf14.alloc _).trans hf5)) rfl⟩
          have hq' : nameB ty = false := by simpa using hq.out
          rw [declOk, HP.out.1, hq']
          simp
        intro w5 hq hf5 hw5
        have hf15 := (hf14.alloc _).trans hf5
        go_wp2_with fail
        refine WPost.call (put_any (hw5.alloc _) (SRow.lit w5 [⟨#[62]⟩] (n := 1) rfl rfl rfl hw5.lt) (by simp) (by have := HPL.out; simp only [List.length_append]; simp [outS]; omega)) (fun w' h => by have := h.out; cases this) ?_
        intro w6 _ hf6 hw6
        go_wp2_with fail
        go_meet
        have hq' : nameB ty = true := by simpa using hq.out
        refine ⟨(hf15.alloc _).trans hf6, ?_, show _ = _ by rw [HP.out.1, hq']⟩
        rw [HP.out.2]
        simpa [outS] using hw6
    case rest =>
      clear hw4 hf14 hT4 a1 Hc
      obtain ⟨hf, hw2, hP⟩ := hcut
      have HP := Lib.hid hP.out
      clear hP
      generalize wc = w7 at *
      have hT7 : Blk w7 T _ _ := hf.keep hT1 (by decide) hTb
      have a2 := hT7.cell 2 rfl
      go_wp2_with fail
      refine WPost.call (names_any (hm1.wf hf hb) hb hw2 ⟨#[32]⟩ (hr1.wf hf) (by omega) (by simp only [List.length_append]; simp; omega)) ?_ ?_
      · intro w8 hq hf8
        refine ⟨rfl, WPost.bad ?_ (hf1.trans (hf.trans hf8)) rfl⟩
        rw [declOk, hq.out]
        simp
      intro w8 hq hf8 hw8
      have hf18 := hf.trans hf8
      go_wp2_with fail
      refine WPost.call (put_any (hw8.alloc _) (SRow.lit w8 [⟨#[59, 10]⟩] (n := 1) rfl rfl rfl hw8.lt) (by simp) (by simp only [List.length_append]; simp [outS]; omega)) (fun w' h => by have := h.out; cases this) ?_
      intro w9 _ hf9 hw9
      go_wp2_with fail
      go_end0
      refine WPost.good ?_ (hf1.trans ((hf18.alloc _).trans hf9)) rfl ?_
      · rw [declOk, hq.out, HP.out, HK.out, decide_eq_true hns]
        rfl
      · have e : acc ++ declOut ⟨kd, ty, ns, at_⟩ = acc ++ ([37] ++ kd.data.toList ++ typeOut ty) ++ namesOut ⟨#[32]⟩ ns ++ outS [⟨#[59, 10]⟩] := by simp [declOut, outS]
        rw [e]
        exact hw9
end Go.Proofs.Ytejpmdlokmlmeaa
