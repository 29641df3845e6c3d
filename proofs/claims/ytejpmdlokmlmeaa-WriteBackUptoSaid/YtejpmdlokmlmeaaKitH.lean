/- A text without places: the walk. Conditions: the rows have at most 2^40 parts. -/
import Derived.Test.YtejpmdlokmlmeaaKitG
set_option linter.unusedVariables false
set_option linter.unusedSimpArgs false
namespace Go.Proofs.Ytejpmdlokmlmeaa
open Go.RowKit

theorem wsizes_bare (l : List GWord) : wsizes (l.map bareG) = wsizes l := by
  induction l with
  | nil => rfl
  | cons y l ih => rw [List.map_cons, wsizes, wsizes, wsize_bare, ih]
theorem asize_plain (x : GAlt) : asize (plainA x) = asize x := by
  simp only [asize, plainA, wsizes_bare]
theorem asizes_plain (l : List GAlt) : asizes (l.map plainA) = asizes l := by
  simp only [asizes, List.map_map]
  congr 1
  exact List.map_congr_left (fun y _ => asize_plain y)
theorem rsize_plain (x : GRule) : rsize (plainR x) = rsize x := by
  simp only [rsize, plainR, asizes_plain]
theorem asizes_mem {l : List GAlt} {x : GAlt} (h : x ∈ l) : asize x ≤ asizes l := sum_mem h
theorem rsizes_mem {l : List GRule} {x : GRule} (h : x ∈ l) : rsize x ≤ rsizes l := sum_mem h

set_option maxRecDepth 100000 in
set_option maxHeartbeats 8000000 in
theorem plain_any {w : World} {x : GText} {a b : Option Addr} {c d : Nat} (hrow : RRow w Any 4 (RDecl w Any) (.slice a x.decls.length c) x.decls) (hsow : RRow w Any 4 (RRule w Any) (.slice b x.rules.length d) x.rules) (hn : dsizes x.decls ≤ 1099511627776) (hm : rsizes x.rules ≤ 1099511627776) :
    Calls Try.prog 10 #[.agg #[.slice a x.decls.length c, .slice b x.rules.length d]] w (CText w (plainG x)) := by
  have hf1 : Fr (fun _ => False) w ((w.alloc (.cells #[.slice a x.decls.length c, .slice b x.rules.length d] 25)).alloc (.cells #[.slice none 0 0, .slice none 0 0] 25)) := ((Fr.refl _ w).alloc _).alloc _
  have hT1 : Blk ((w.alloc (.cells #[.slice a x.decls.length c, .slice b x.rules.length d] 25)).alloc (.cells #[.slice none 0 0, .slice none 0 0] 25)) w.heap.size #[.slice a x.decls.length c, .slice b x.rules.length d] 25 := (Blk.new w _ _).alloc _
  have hD1 : Blk ((w.alloc (.cells #[.slice a x.decls.length c, .slice b x.rules.length d] 25)).alloc (.cells #[.slice none 0 0, .slice none 0 0] 25)) (w.heap.size + 1) #[.slice none 0 0, .slice none 0 0] 25 := by
    have := Blk.new (w.alloc (.cells #[.slice a x.decls.length c, .slice b x.rules.length d] 25)) #[.slice none 0 0, .slice none 0 0] 25
    rwa [show (w.alloc (.cells #[.slice a x.decls.length c, .slice b x.rules.length d] 25)).heap.size = w.heap.size + 1 by simp] at this
  have hrow1 := any_row' elemDecl hrow hf1
  have hsow1 := any_row' elemRule hsow hf1
  have t0 := hT1.cell 0 rfl
  have t1 := hT1.cell 1 rfl
  go_enter Try.func10, Try.ntmps10
  go_wp2_with fail
  clear t0 t1
  generalize (w.alloc (.cells #[.slice a x.decls.length c, .slice b x.rules.length d] 25)).alloc (.cells #[.slice none 0 0, .slice none 0 0] 25) = w1 at *
  obtain ⟨D, hD⟩ : ∃ D, D = w.heap.size + 1 := ⟨_, rfl⟩
  rw [← hD] at hD1 ⊢
  obtain ⟨T, hT⟩ : ∃ T, T = w.heap.size := ⟨_, rfl⟩
  rw [← hT] at hT1 ⊢
  have hTD : T < D := by omega
  have hTD' : T ≠ D := by omega
  have hwT : w.heap.size ≤ T := by omega
  have hDl := hD1.lt
  clear hD hT
  refine (copySource_any hrow1 hsow1 hn hm).mono ?_
  rintro e w2 ⟨v, u, rfl, hR, hU, hf2⟩
  obtain ⟨va, vc, rfl⟩ := hR.form
  obtain ⟨ua, uc, rfl⟩ := hU.form
  have hs2 := hf2.size
  have hT2 := hT1.fr hf2 id
  have hD2 := hD1.fr hf2 id
  clear hrow hsow hrow1 hsow1
  obtain ⟨P, hPd⟩ : ∃ P : Nat → Prop, ∀ k, P k ↔ (w1.heap.size ≤ k ∧ NF w2 k ∧ k < w2.heap.size) := ⟨_, fun _ => Iff.rfl⟩
  have hTP : ¬ P T := fun h => by have := ((hPd T).1 h).1; omega
  have hDP : ¬ P D := fun h => by have := ((hPd D).1 h).1; omega
  have hX2 : ZCtx P w2 := ⟨fun k h => ((hPd k).1 h).2.2, fun k h => ((hPd k).1 h).2.1⟩
  have hRP : RRow w2 P 4 (RDecl w2 P) (.slice va x.decls.length vc) x.decls := hR.mono (fun k h1 h2 => (hPd k).2 ⟨h1.1, h1.2, h2⟩) (fun _ _ h => h.mono (fun k h1 h2 => (hPd k).2 ⟨h1.1, h1.2, h2⟩))
  have hUP : RRow w2 P 4 (RRule w2 P) (.slice ua x.rules.length uc) x.rules := hU.mono (fun k h1 h2 => (hPd k).2 ⟨h1.1, h1.2, h2⟩) (fun _ _ h => h.mono (fun k h1 h2 => (hPd k).2 ⟨h1.1, h1.2, h2⟩))
  have hPw1 : ∀ k, P k → w1.heap.size ≤ k := fun k h => ((hPd k).1 h).1
  clear hR hU hPd
  have t0 := hT2.cell 0 rfl
  have t1 := hT2.cell 1 rfl
  have f0 := hT2.frozen 0
  have f1 := hT2.frozen 1
  have hT3 : Blk _ T #[.slice va x.decls.length vc, .slice ua x.rules.length uc] 25 := (hT2.set 0 (.slice va x.decls.length vc) rfl).set 1 (.slice ua x.rules.length uc) rfl
  have hD3 : Blk _ D #[.slice none 0 0, .slice none 0 0] 25 := (hD2.far (p := ⟨T, 0, none⟩) hTD' (.slice va x.decls.length vc)).far (p := ⟨T, 1, none⟩) hTD' (.slice ua x.rules.length uc)
  have hf3 := ((Fr.refl (fun k => k = T) w2).setCell (p := ⟨T, 0, none⟩) (fun _ => rfl) (.slice va x.decls.length vc)).setCell (p := ⟨T, 1, none⟩) (fun _ => rfl) (.slice ua x.rules.length uc)
  have hz3 : (w2.setCell ⟨T, 0, none⟩ (.slice va x.decls.length vc)).heap.size = w2.heap.size ∧ ((w2.setCell ⟨T, 0, none⟩ (.slice va x.decls.length vc)).setCell ⟨T, 1, none⟩ (.slice ua x.rules.length uc)).heap.size = w2.heap.size := by simp [World.setCell]
  go_wp2_with fail
  clear t0 t1 f0 f1
  generalize (w2.setCell ⟨T, 0, none⟩ (.slice va x.decls.length vc)).setCell ⟨T, 1, none⟩ (.slice ua x.rules.length uc) = w3 at *
  have hnT : ∀ k, P k → ¬ (k = T) := fun k h e => hTP (e ▸ h)
  have hX3 : ZCtx P w3 := ⟨fun k h => Nat.lt_of_lt_of_le (hX2.lt k h) hf3.size, fun k h => (hX2.nf k h).fr hf3 (hX2.lt k h) (hnT k h)⟩
  have hR3 := ZG.start (f := plainD) (hRP.fr (E' := RDecl w3 P) hf3 (fun k h _ => hnT k h) (fun _ _ h => h.fr hf3 (fun k h _ => hnT k h)))
  have hU3 := ZG.start (f := plainR) (hUP.fr (E' := RRule w3 P) hf3 (fun k h _ => hnT k h) (fun _ _ h => h.fr hf3 (fun k h _ => hnT k h)))
  have hfin : Fr (fun k => w.heap.size ≤ k) w w3 := (((hf1.trans hf2).mono (T := fun k => w.heap.size ≤ k) (fun _ _ => False.elim)).trans (hf3.mono (fun k _ e => by have e' : k = T := e; omega)))
  have hw1 := hf1.size
  have hPw : ∀ k, P k → w.heap.size ≤ k := fun k h => Nat.le_trans hw1 (hPw1 k h)
  have hld := sum_len (f := dsize) (fun x => by unfold dsize; omega) x.decls
  have hlr := sum_len (f := rsize) (fun x => by unfold rsize; omega) x.rules
  rw [show (x.decls.map dsize).sum = dsizes x.decls from rfl] at hld
  rw [show (x.rules.map rsize).sum = rsizes x.rules from rfl] at hlr
  replace hld : x.decls.length ≤ 1099511627776 := Nat.le_trans hld hn
  replace hlr : x.rules.length ≤ 1099511627776 := Nat.le_trans hlr hm
  clear hRP hUP hX2 hPw1 hf3 hf2 hf1 hT2 hD2 hT1 hD1 hz3 hs2 hDl hn
  clear hw1
  go_loopw [3] (fun i wr => ∃ k : Nat, k ≤ x.decls.length ∧ i = .int .i64 k ∧ Zf P w3 wr ∧ Blk wr T #[.slice va x.decls.length vc, .slice ua x.rules.length uc] 25 ∧ Blk wr D #[.slice none 0 0, .slice none 0 0] 25 ∧ ZG RDecl plainD P wr 4 (.slice va x.decls.length vc) x.decls k ∧ ZG RRule plainR P wr 4 (.slice ua x.rules.length uc) x.rules 0) (fun i wr => x.decls.length - (intOf i).toNat)
  case atStart => exact ⟨0, Nat.zero_le _, rfl, Zf.refl P w3, hT3, hD3, hR3, hU3⟩
  case round =>
    clear hT3 hD3 hR3 hU3
    obtain ⟨k, hk, rfl, hz, hT, hD, hR, hU⟩ := hrel
    have t0 := hT.cell 0 rfl
    have hX := hX3.zf hz
    by_cases hlt : k < x.decls.length
    · obtain ⟨kb, off, vc', cs, y, hv, hPk, hkb, hy, ⟨nv, rfl, hNm⟩, hc⟩ := hR.get hlt noDecl
      obtain ⟨na, nc, rfl⟩ := hNm.form
      injection hv with hv1 hv2 hv3
      subst hv1 hv3
      clear hv2
      have c0 : wr.cell? ⟨kb, off + k * 4, none⟩ = some (.string y.kind) := hc 0 _ rfl
      have c1 := hc 1 _ rfl
      have c2 := hc 2 _ rfl
      have c3 := hc 3 _ rfl
      have n3 := hX.nf kb hPk (off + k * 4 + 3)
      have hz' := Zf.set wr hPk c3 (.inr ⟨⟨_, rfl⟩, rfl⟩)
      have HY := Lib.hid hy
      clear hy hc
      have hkT : kb ≠ T := fun e => hTP (e ▸ hPk)
      have hkD : kb ≠ D := fun e => hDP (e ▸ hPk)
      have e3 := World.cell?_setCell_same wr _ (.int .i64 0) c3
      have hi0 : (0 : Int) ≤ (k : Int) := by omega
      have hi1 : (k : Int) < (x.decls.length : Int) := by omega
      go_wp2_with fail
      generalize wr.setCell ⟨kb, off + k * 4 + 3, none⟩ (.int .i64 0) = wn at *
      have hN := (hR.zf zDecl plainD_idem hz').next plainD_idem noDecl hlt (plainD y) HY.out (fun cs hl hc => by
        rw [cells4 hl hc (hz'.string hkb c0) (hz'.string hkb c1) (hz'.slice hkb c2) e3]
        exact ⟨_, rfl, strs_zr hNm hz'⟩)
      have hU' := hU.zf zRule plainR_idem hz'
      have hT' := hT.fr hz'.fr hTP
      have hD' := hD.fr hz'.fr hDP
      have hzz := hz.trans hz'
      go_roundw
      case rel => exact ⟨k + 1, by omega, by go_num, hzz, hT', hD', hN, hU'⟩
      case measure => simp [intOf]; omega
    · obtain rfl : k = x.decls.length := by omega
      clear hk hlt
      go_wp2_with fail
      clear t0
      have hX4 := hX
      go_loopw [4, 5, 6, 7] (fun i z1 z2 z3 wr => ∃ k : Nat, k ≤ x.rules.length ∧ i = .int .i64 k ∧ Zf P w3 wr ∧ Blk wr T #[.slice va x.decls.length vc, .slice ua x.rules.length uc] 25 ∧ Blk wr D #[.slice none 0 0, .slice none 0 0] 25 ∧ ZG RDecl plainD P wr 4 (.slice va x.decls.length vc) x.decls x.decls.length ∧ ZG RRule plainR P wr 4 (.slice ua x.rules.length uc) x.rules k) (fun i z1 z2 z3 wr => x.rules.length - (intOf i).toNat)
      case atStart => exact ⟨0, Nat.zero_le _, rfl, hz, hT, hD, hR, hU⟩
      case round =>
        clear hT hD hR hU hz hX hX4
        obtain ⟨k, hk, rfl, hz, hT, hD, hR, hU⟩ := hrel
        have t1 := hT.cell 1 rfl
        have hX := hX3.zf hz
        by_cases hlt : k < x.rules.length
        · obtain ⟨kb, off, uc', cs, y, hv, hPk, hkb, hy, ⟨nv, mv, rfl, hNm, hAl⟩, hc⟩ := hU.get hlt noRule
          obtain ⟨na, nc, rfl⟩ := hNm.form
          obtain ⟨ma, mc, rfl⟩ := hAl.form
          injection hv with hv1 hv2 hv3
          subst hv1 hv3
          clear hv2
          have c0 : wr.cell? ⟨kb, off + k * 4, none⟩ = some (.string y.name) := hc 0 _ rfl
          have c1 := hc 1 _ rfl
          have c2 := hc 2 _ rfl
          have c3 := hc 3 _ rfl
          have n3 := hX.nf kb hPk (off + k * 4 + 3)
          have hz' := Zf.set wr hPk c3 (.inr ⟨⟨_, rfl⟩, rfl⟩)
          have hszy : asizes y.alts ≤ 1099511627776 := by
            have e1 : rsize y = rsize (x.rules.getD k noRule) := by rw [← rsize_plain, hy, rsize_plain]
            have e2 := rsizes_mem (getD_mem noRule hlt)
            have e3 : rsize y = 1 + y.params.length + asizes y.alts := rfl
            omega
          have hly : y.alts.length ≤ 1099511627776 := Nat.le_trans (sum_len (f := asize) (fun x => by unfold asize; omega) y.alts) hszy
          have HY := Lib.hid hy
          clear hy hc
          have e3 := World.cell?_setCell_same wr _ (.int .i64 0) c3
          have hi0 : (0 : Int) ≤ (k : Int) := by omega
          have hi1 : (k : Int) < (x.rules.length : Int) := by omega
          go_wp2_with fail
          clear t1 n3
          have d0 := hz'.string hkb c0
          have d1 := hz'.slice hkb c1
          have d2 := hz'.slice hkb c2
          have hR' := hR.zf zDecl plainD_idem hz'
          have hU' := hU.zf zRule plainR_idem hz'
          have hT' := hT.fr hz'.fr hTP
          have hD' := hD.fr hz'.fr hDP
          have hzo := hz.trans hz'
          have hA' := (ZG.start (f := plainA) hAl).zf zAlt plainA_idem hz'
          have hNo := strs_zr hNm hz'
          have hXo := hX.zf hz'
          have hkbo := Nat.lt_of_lt_of_le hkb hz'.fr.size
          clear c0 c1 c2 c3 hz hT hD hR hU hAl hNm hX hz' hkb
          generalize wr.setCell ⟨kb, off + k * 4 + 3, none⟩ (.int .i64 0) = wo at *
          go_loopw [5, 6, 7] (fun i z1 z2 wr => ∃ m : Nat, m ≤ y.alts.length ∧ i = .int .i64 m ∧ Zf P wo wr ∧ Blk wr T #[.slice va x.decls.length vc, .slice (some ⟨kb, off, none⟩) x.rules.length uc] 25 ∧ Blk wr D #[.slice none 0 0, .slice none 0 0] 25 ∧ ZG RAlt plainA P wr 6 (.slice ma y.alts.length mc) y.alts m) (fun i z1 z2 wr => y.alts.length - (intOf i).toNat)
          case atStart => exact ⟨0, Nat.zero_le _, rfl, Zf.refl P wo, hT', hD', hA'⟩
          case round =>
            clear hT' hD' hA'
            obtain ⟨i, hi, rfl, hzi, hT, hD, hA⟩ := hrel
            have t1 := hT.cell 1 rfl
            have g2 := hzi.slice hkbo d2
            have hXi := hXo.zf hzi
            by_cases hlti : i < y.alts.length
            · obtain ⟨lb, off2, mc', cs, y2, hv, hPl, hlb, hy2, ⟨wv, rfl, hWs⟩, hc⟩ := hA.get hlti noAlt
              obtain ⟨wa, wc, rfl⟩ := hWs.form
              injection hv with hv1 hv2 hv3
              subst hv1 hv3
              clear hv2
              have a0 : wr.cell? ⟨lb, off2 + i * 6, none⟩ = some (.slice wa y2.words.length wc) := hc 0 _ rfl
              have a1 := hc 1 _ rfl
              have a2 := hc 2 _ rfl
              have a3 := hc 3 _ rfl
              have a4 := hc 4 _ rfl
              have a5 := hc 5 _ rfl
              have n5 := hXi.nf lb hPl (off2 + i * 6 + 5)
              have n4 := hXi.nf lb hPl (off2 + i * 6 + 4)
              have n45 : (⟨lb, off2 + i * 6 + 5, none⟩ : Addr) ≠ ⟨lb, off2 + i * 6 + 4, none⟩ := fun e => by injection e with _ e _; omega
              have n54 : (⟨lb, off2 + i * 6 + 4, none⟩ : Addr) ≠ ⟨lb, off2 + i * 6 + 5, none⟩ := fun e => by injection e with _ e _; omega
              have n40 : (⟨lb, off2 + i * 6 + 5, none⟩ : Addr) ≠ ⟨lb, off2 + i * 6, none⟩ := fun e => by injection e with _ e _; omega
              have n41 : (⟨lb, off2 + i * 6 + 4, none⟩ : Addr) ≠ ⟨lb, off2 + i * 6, none⟩ := fun e => by injection e with _ e _; omega
              have a4' := (World.cell?_setCell_other wr _ _ (.int .i64 0) n45).trans a4
              have q4 := World.cell?_setCell_same (wr.setCell ⟨lb, off2 + i * 6 + 5, none⟩ (.int .i64 0)) _ (.int .i64 0) a4'
              have q5 : ((wr.setCell ⟨lb, off2 + i * 6 + 5, none⟩ (.int .i64 0)).setCell ⟨lb, off2 + i * 6 + 4, none⟩ (.int .i64 0)).cell? ⟨lb, off2 + i * 6 + 5, none⟩ = some (.int .i64 0) := (World.cell?_setCell_other _ _ _ _ n54).trans (World.cell?_setCell_same wr _ _ a5)
              have hz' : Zf P wr ((wr.setCell ⟨lb, off2 + i * 6 + 5, none⟩ (.int .i64 0)).setCell ⟨lb, off2 + i * 6 + 4, none⟩ (.int .i64 0)) := (Zf.set wr hPl a5 (.inr ⟨⟨_, rfl⟩, rfl⟩)).trans (Zf.set _ hPl a4' (.inr ⟨⟨_, rfl⟩, rfl⟩))
              have hsz2 : wsizes y2.words ≤ 1099511627776 := by
                have e1 : asize y2 = asize (y.alts.getD i noAlt) := by rw [← asize_plain, hy2, asize_plain]
                have e2 := asizes_mem (getD_mem noAlt hlti)
                have e3 : asize y2 = 1 + wsizes y2.words := rfl
                omega
              have hl2 : y2.words.length ≤ 1099511627776 := Nat.le_trans (wsizes_len y2.words) hsz2
              have HY2 := Lib.hid hy2
              clear hy2 hc
              have hi0 : (0 : Int) ≤ (i : Int) := by omega
              have hi1 : (i : Int) < (y.alts.length : Int) := by omega
              go_wp2_with fail
              clear t1 n4 n5 a4'
              have q0 := hz'.slice hlb a0
              have q1 := hz'.string hlb a1
              have q2 := hz'.bool hlb a2
              have q3 := hz'.string hlb a3
              have hT' := hT.fr hz'.fr hTP
              have hD' := hD.fr hz'.fr hDP
              have hzz := hzi.trans hz'
              have hW' := (ZRow.start hWs).zf hz'
              have hA' := hA.zf zAlt plainA_idem hz'
              have hXi' := hXi.zf hz'
              have hlb' := Nat.lt_of_lt_of_le hlb hz'.fr.size
              clear a0 a1 a2 a3 a4 a5 hzi hT hD hA hWs hXi hz' hlb g2
              generalize (wr.setCell ⟨lb, off2 + i * 6 + 5, none⟩ (.int .i64 0)).setCell ⟨lb, off2 + i * 6 + 4, none⟩ (.int .i64 0) = wi at *
              go_loopw [7] (fun j wr => ∃ n : Nat, n ≤ y2.words.length ∧ j = .int .i64 n ∧ Zf P wi wr ∧ Blk wr T #[.slice va x.decls.length vc, .slice (some ⟨kb, off, none⟩) x.rules.length uc] 25 ∧ Blk wr D #[.slice none 0 0, .slice none 0 0] 25 ∧ ZRow P wr (.slice wa y2.words.length wc) y2.words n) (fun j wr => y2.words.length - (intOf j).toNat)
              case atStart => exact ⟨0, Nat.zero_le _, rfl, Zf.refl P wi, hT', hD', hW'⟩
              case round =>
                clear hT' hD' hW'
                obtain ⟨n, hn, rfl, hzq, hT, hD, hW⟩ := hrel
                have s0 := hzq.slice hlb' q0
                by_cases hltn : n < y2.words.length
                · obtain ⟨mb, off3, wc', n', args', a', ac', at', hv, hPm, hmb, hb, hrow, c0, c1, c2⟩ := hW.get hltn
                  injection hv with hv1 hv2 hv3
                  subst hv1 hv3
                  clear hv2
                  have hXq := hXi'.zf hzq
                  have hsz : wsize (.mk n' args' at') ≤ 1099511627776 := by
                    have e : wsize (.mk n' args' at') = wsize (y2.words.getD n noWord) := by rw [← wsize_bare, hb, wsize_bare]
                    have := wsizes_mem (getD_mem noWord hltn)
                    omega
                  have HB := Lib.hid hb
                  clear hb
                  have hi0 : (0 : Int) ≤ (n : Int) := by omega
                  have hi1 : (n : Int) < (y2.words.length : Int) := by omega
                  go_upto_region 19 with fail
                  have hS0 : (fun w' : World => w'.cell? ⟨lb, off2 + i * 6, none⟩ = some (.slice (some ⟨mb, off3, none⟩) y2.words.length wc)) wr.drew := s0
                  refine wp_region_E (S := fun w' : World => w'.cell? ⟨lb, off2 + i * 6, none⟩ = some (.slice (some ⟨mb, off3, none⟩) y2.words.length wc)) (e := 14) (by kernel_rfl) ?_
                  have hXd := hXq.still (Fr.refl (fun _ => False) wr).drew
                  have hrd : RRow wr.drew P 3 (RWord wr.drew P) (.slice a' args'.length ac') args' := hrow.fr (E' := RWord wr.drew P) (Fr.refl (fun _ => False) wr).drew (fun _ _ _ => id) (fun x cs h => h.fr (Fr.refl (fun _ => False) wr).drew (fun _ _ _ => id))
                  have hzd : Zf P wi wr.drew := hzq.trans (Zf.still (Fr.refl (fun _ => False) wr).drew)
                  have hTd : Blk wr.drew T _ _ := hT
                  have hDd : Blk wr.drew D _ _ := hD
                  have hZd : ZRow P wr.drew (.slice (some ⟨mb, off3, none⟩) y2.words.length wc) y2.words n := hW.zf (Zf.still (Fr.refl (fun _ => False) wr).drew)
                  have d0' : wr.drew.cell? ⟨mb, off3 + n * 3, none⟩ = some (.string n') := c0
                  have d1' : wr.drew.cell? ⟨mb, off3 + n * 3 + 1, none⟩ = some (.slice a' args'.length ac') := c1
                  have d2' : wr.drew.cell? ⟨mb, off3 + n * 3 + 2, none⟩ = some (.int .i64 at') := c2
                  have hmbd : mb < wr.drew.heap.size := hmb
                  clear c0 c1 c2 hzq hW hrow hXq hT hD s0
                  generalize wr.drew = w6 at *
                  refine wpAnyE_take (i := 0) (v := ?_) rfl (by kernel_rfl) (by kernel_rfl) (by kernel_rfl) (fun _ _ _ h => h) (by decide) rfl (by kernel_rfl) (by kernel_rfl) (Or.inl ⟨by rfl, ?_⟩) hS0 ?_
                  rotate_left
                  · intro wr hSw
                    replace hSw : wr.cell? ⟨lb, off2 + i * 6, none⟩ = some (.slice (some ⟨mb, off3, none⟩) y2.words.length wc) := hSw
                    go_simp
                    try with_reducible rfl
                  try simp only [Act.put, List.setIfInBounds_toArray, List.set_cons_zero, List.set_cons_succ]
                  refine wpAnyE_take (i := 1) (v := ?_) rfl (by kernel_rfl) (by kernel_rfl) (by kernel_rfl) (fun _ _ _ h => h) (by decide) rfl (by kernel_rfl) (by kernel_rfl) (Or.inl ⟨by rfl, ?_⟩) hS0 ?_
                  rotate_left
                  · intro wr hSw
                    replace hSw : wr.cell? ⟨lb, off2 + i * 6, none⟩ = some (.slice (some ⟨mb, off3, none⟩) y2.words.length wc) := hSw
                    go_simp
                    try with_reducible rfl
                  try simp only [Act.put, List.setIfInBounds_toArray, List.set_cons_zero, List.set_cons_succ]
                  refine wpAnyE_take (i := 2) (v := ?_) rfl (by kernel_rfl) (by kernel_rfl) (by kernel_rfl) (fun _ _ _ h => h) (by decide) rfl (by kernel_rfl) (by kernel_rfl) (Or.inl ⟨by rfl, ?_⟩) hS0 ?_
                  rotate_left
                  · intro wr hSw
                    replace hSw : wr.cell? ⟨lb, off2 + i * 6, none⟩ = some (.slice (some ⟨mb, off3, none⟩) y2.words.length wc) := hSw
                    go_simp
                    try with_reducible rfl
                  try simp only [Act.put, List.setIfInBounds_toArray, List.set_cons_zero, List.set_cons_succ]
                  refine wpAnyE_take (i := 3) (v := ?_) rfl (by kernel_rfl) (by kernel_rfl) (by kernel_rfl) (fun _ _ _ h => h) (by decide) rfl (by kernel_rfl) (by kernel_rfl) (Or.inl ⟨by rfl, ?_⟩) hS0 ?_
                  rotate_left
                  · intro wr hSw
                    replace hSw : wr.cell? ⟨lb, off2 + i * 6, none⟩ = some (.slice (some ⟨mb, off3, none⟩) y2.words.length wc) := hSw
                    go_simp
                    try with_reducible rfl
                  try simp only [Act.put, List.setIfInBounds_toArray, List.set_cons_zero, List.set_cons_succ]
                  refine wpAnyE_take (i := 4) (v := ?_) rfl (by kernel_rfl) (by kernel_rfl) (by kernel_rfl) (fun _ _ _ h => h) (by decide) rfl (by kernel_rfl) (by kernel_rfl) (Or.inl ⟨by rfl, ?_⟩) hS0 ?_
                  rotate_left
                  · intro wr hSw
                    replace hSw : wr.cell? ⟨lb, off2 + i * 6, none⟩ = some (.slice (some ⟨mb, off3, none⟩) y2.words.length wc) := hSw
                    go_simp
                    try with_reducible rfl
                  try simp only [Act.put, List.setIfInBounds_toArray, List.set_cons_zero, List.set_cons_succ]
                  refine wpAnyE_take (i := 5) (v := ?_) rfl (by kernel_rfl) (by kernel_rfl) (by kernel_rfl) (fun _ _ _ h => h) (by decide) rfl (by kernel_rfl) (by kernel_rfl) (Or.inl ⟨by rfl, ?_⟩) hS0 ?_
                  rotate_left
                  · intro wr hSw
                    replace hSw : wr.cell? ⟨lb, off2 + i * 6, none⟩ = some (.slice (some ⟨mb, off3, none⟩) y2.words.length wc) := hSw
                    go_simp
                    try with_reducible rfl
                  try simp only [Act.put, List.setIfInBounds_toArray, List.set_cons_zero, List.set_cons_succ]
                  refine wpAnyE_take (i := 6) (v := ?_) rfl (by kernel_rfl) (by kernel_rfl) (by kernel_rfl) (fun _ _ _ h => h) (by decide) rfl (by kernel_rfl) (by kernel_rfl) (Or.inl ⟨by rfl, ?_⟩) hS0 ?_
                  rotate_left
                  · intro wr hSw
                    replace hSw : wr.cell? ⟨lb, off2 + i * 6, none⟩ = some (.slice (some ⟨mb, off3, none⟩) y2.words.length wc) := hSw
                    go_simp
                    try with_reducible rfl
                  try simp only [Act.put, List.setIfInBounds_toArray, List.set_cons_zero, List.set_cons_succ]
                  refine wpAnyE_take (i := 7) (v := ?_) rfl (by kernel_rfl) (by kernel_rfl) (by kernel_rfl) (fun _ _ _ h => h) (by decide) rfl (by kernel_rfl) (by kernel_rfl) (Or.inl ⟨by rfl, ?_⟩) hS0 ?_
                  rotate_left
                  · intro wr hSw
                    replace hSw : wr.cell? ⟨lb, off2 + i * 6, none⟩ = some (.slice (some ⟨mb, off3, none⟩) y2.words.length wc) := hSw
                    go_simp
                    try with_reducible rfl
                  try simp only [Act.put, List.setIfInBounds_toArray, List.set_cons_zero, List.set_cons_succ]
                  refine wpAnyE_take (i := 8) (v := ?_) rfl (by kernel_rfl) (by kernel_rfl) (by kernel_rfl) (fun _ _ _ h => h) (by decide) rfl (by kernel_rfl) (by kernel_rfl) (Or.inl ⟨by rfl, ?_⟩) hS0 ?_
                  rotate_left
                  · intro wr hSw
                    replace hSw : wr.cell? ⟨lb, off2 + i * 6, none⟩ = some (.slice (some ⟨mb, off3, none⟩) y2.words.length wc) := hSw
                    go_simp
                    try with_reducible rfl
                  try simp only [Act.put, List.setIfInBounds_toArray, List.set_cons_zero, List.set_cons_succ]
                  refine wpAnyE_take (i := 9) (v := ?_) rfl (by kernel_rfl) (by kernel_rfl) (by kernel_rfl) (fun _ _ _ h => h) (by decide) rfl (by kernel_rfl) (by kernel_rfl) (Or.inl ⟨by rfl, ?_⟩) hS0 ?_
                  rotate_left
                  · intro wr hSw
                    replace hSw : wr.cell? ⟨lb, off2 + i * 6, none⟩ = some (.slice (some ⟨mb, off3, none⟩) y2.words.length wc) := hSw
                    go_simp
                    try with_reducible rfl
                  try simp only [Act.put, List.setIfInBounds_toArray, List.set_cons_zero, List.set_cons_succ]
                  refine wpAnyE_take (i := 10) (v := ?_) rfl (by kernel_rfl) (by kernel_rfl) (by kernel_rfl) (fun _ _ _ h => h) (by decide) rfl (by kernel_rfl) (by kernel_rfl) (Or.inl ⟨by rfl, ?_⟩) hS0 ?_
                  rotate_left
                  · intro wr hSw
                    replace hSw : wr.cell? ⟨lb, off2 + i * 6, none⟩ = some (.slice (some ⟨mb, off3, none⟩) y2.words.length wc) := hSw
                    go_simp
                    try with_reducible rfl
                  try simp only [Act.put, List.setIfInBounds_toArray, List.set_cons_zero, List.set_cons_succ]
                  refine wpAnyE_all (rs := [11]) (by kernel_rfl) (by simp) ?_
                  intro j hj
                  rcases List.mem_singleton.1 hj with rfl
                  refine wpOp_step rfl (fun K hK => ?_)
                  go_simp
                  refine hK _ _ ⟨fun _ => hS0, ?_⟩
                  clear hK K
                  try simp only [Act.put, List.setIfInBounds_toArray, List.set_cons_zero, List.set_cons_succ]
                  refine wpAnyE_all (rs := [12]) (by kernel_rfl) (by simp) ?_
                  intro j hj
                  rcases List.mem_singleton.1 hj with rfl
                  refine wpOp_step rfl (fun K hK => ?_)
                  go_simp
                  refine (bare_any _ (Nat.lt_succ_self _) hsz hXd hrd).mono ?_
                  rintro e w7 ⟨rfl, hz7, hr7⟩
                  have hT7 := hTd.fr hz7.fr hTP
                  have hD7 := hDd.fr hz7.fr hDP
                  have hS7 : (fun w' : World => w'.cell? ⟨lb, off2 + i * 6, none⟩ = some (.slice (some ⟨mb, off3, none⟩) y2.words.length wc)) w7 := (hzd.trans hz7).slice hlb' q0
                  obtain ⟨u0, g0, y0⟩ := hz7.cell hmbd d0'
                  obtain ⟨u1, g1, y1⟩ := hz7.cell hmbd d1'
                  obtain ⟨u2, g2, y2'⟩ := hz7.cell hmbd d2'
                  obtain ⟨j2, rfl, -⟩ := zc_int y2'
                  rw [zc_string y0] at g0
                  rw [zc_slice y1] at g1
                  clear y0 y1 y2' d0' d1' d2'
                  have hX7 := hXd.zf hz7
                  have hnf := hX7.nf mb hPm
                  have n0 := hnf (off3 + n * 3)
                  have n1 := hnf (off3 + n * 3 + 1)
                  have n2 := hnf (off3 + n * 3 + 2)
                  refine hK _ _ ⟨fun _ => hS7, ?_⟩
                  clear hK K
                  try simp only [Act.put, List.setIfInBounds_toArray, List.set_cons_zero, List.set_cons_succ]
                  refine wpAnyE_all (rs := [13]) (by kernel_rfl) (by simp) ?_
                  intro j hj
                  rcases List.mem_singleton.1 hj with rfl
                  refine wpOp_step rfl (fun K hK => ?_)
                  go_simp
                  refine hK _ _ ⟨fun _ => hS7, ?_⟩
                  clear hK K
                  try simp only [Act.put, List.setIfInBounds_toArray, List.set_cons_zero, List.set_cons_succ]
                  refine wpAnyE_all (rs := [14]) (by kernel_rfl) (by simp) ?_
                  intro j hj
                  rcases List.mem_singleton.1 hj with rfl
                  refine wpOp_step rfl (fun K hK => ?_)
                  go_simp
                  refine hK _ _ ⟨fun h => (Bool.false_ne_true (h.symm.trans (by kernel_rfl))).elim, ?_⟩
                  clear hK K
                  try simp only [Act.put, List.setIfInBounds_toArray, List.set_cons_zero, List.set_cons_succ]
                  refine wpAnyE_done (by kernel_rfl) ?_ _
                  obtain ⟨hz8, e0, e1, e2⟩ := store_again hPm g0 g1 g2
                  have hT8 := hT7.fr hz8.fr hTP
                  have hD8 := hD7.fr hz8.fr hDP
                  have hz08 := (hzd.trans hz7).trans hz8
                  have hZ8 := (hZd.zf hz7).zf hz8
                  obtain ⟨zs, hzs, hr8⟩ := zWords hr7 hz8
                  rw [hzs.plain (by rw [List.map_map]; exact List.map_congr_left (fun y _ => bareG_idem y))] at hr8
                  have hN := ZRow.next hZ8 hltn HB.out hr8 e0 e1 e2
                  go_wp2_with fail
                  go_roundw
                  case rel => exact ⟨n + 1, by omega, by go_num, hz08, hT8, hD8, hN⟩
                  case measure => simp [intOf]; omega
                · obtain rfl : n = y2.words.length := by omega
                  clear hn hltn
                  have hWd := hW.done (Nat.le_refl _)
                  have hN := (hA'.zf zAlt plainA_idem hzq).next plainA_idem noAlt hlti (plainA y2) HY2.out (fun cs hl hc => by
                    rw [cells6 hl hc (hzq.slice hlb' q0) (hzq.string hlb' q1) (hzq.bool hlb' q2) (hzq.string hlb' q3) (hzq.nought hlb' q4) (hzq.nought hlb' q5)]
                    exact ⟨_, rfl, hWd⟩)
                  have hzn := hzz.trans hzq
                  go_wp2_with fail
                  go_roundw
                  case rel => exact ⟨i + 1, by omega, by go_num, hzn, hT, hD, hN⟩
                  case measure => simp [intOf]; omega
            · obtain rfl : i = y.alts.length := by omega
              clear hi hlti
              have hAd := hA.done (Nat.le_refl _)
              have hN := (hU'.zf zRule plainR_idem hzi).next plainR_idem noRule hlt (plainR y) HY.out (fun cs hl hc => by
                rw [cells4 hl hc (hzi.string hkbo d0) (hzi.slice hkbo d1) (hzi.slice hkbo d2) (hzi.nought hkbo e3)]
                exact ⟨_, _, rfl, strs_zr hNo hzi, hAd⟩)
              have hzn := hzo.trans hzi
              have hRn := hR'.zf zDecl plainD_idem hzi
              go_wp2_with fail
              go_roundw
              case rel => exact ⟨k + 1, by omega, by go_num, hzn, hT, hD, hRn, hN⟩
              case measure => simp [intOf]; omega
        · obtain rfl : k = x.rules.length := by omega
          have hRd := hR.done (Nat.le_refl _)
          have hUd := hU.done (Nat.le_refl _)
          have t0 := hT.cell 0 rfl
          have z0 := hD.cell 0 rfl
          have y0 := hD.frozen 0
          have z1 := hD.cell 1 rfl
          have y1 := hD.frozen 1
          have hFz := (((Fr.refl (fun k => k = D) wr).setCell (p := ⟨D, 0, none⟩) (fun _ => rfl) (.slice va x.decls.length vc)).setCell (p := ⟨D, 1, none⟩) (fun _ => rfl) (.slice ua x.rules.length uc))
          have hDz := ((hD.set 0 (.slice va x.decls.length vc) rfl).set 1 (.slice ua x.rules.length uc) rfl)
          go_wp2_with fail
          have g0 := hDz.cell 0 rfl
          have g1 := hDz.cell 1 rfl
          refine bodyPost_ret (v := .agg #[.slice va x.decls.length vc, .slice ua x.rules.length uc]) (by simp [results, Try.results10, go_sem, g0, g1]) rfl ?_
          have hn' : ∀ k, P k → k < wr.heap.size → ¬ (k = D) := fun k h _ e => hDP (e ▸ h)
          have hPz : ∀ k, P k → NB w.heap.size ((wr.setCell ⟨D, 0, none⟩ (.slice va x.decls.length vc)).setCell ⟨D, 1, none⟩ (.slice ua x.rules.length uc)) k := fun k h => ⟨hPw k h, (hX.nf k h).fr hFz (hX.lt k h) (hn' k h (hX.lt k h))⟩
          have hRz := (hRd.fr (E' := RDecl _ P) hFz hn' (fun _ _ h => h.fr hFz hn')).mono (E' := RDecl _ _) (fun k h _ => hPz k h) (fun _ _ h => h.mono (fun k h _ => hPz k h))
          have hUz := (hUd.fr (E' := RRule _ P) hFz hn' (fun _ _ h => h.fr hFz hn')).mono (E' := RRule _ _) (fun k h _ => hPz k h) (fun _ _ h => h.mono (fun k h _ => hPz k h))
          exact ⟨_, _, rfl, hRz, hUz, ((hfin.trans (hz.fr.mono (fun k _ h => hPw k h))).trans (hFz.mono (fun k _ e => by have e' : k = D := e; omega))).mono (fun k hk e => by have e' : w.heap.size ≤ k := e; omega)⟩
end Go.Proofs.Ytejpmdlokmlmeaa
