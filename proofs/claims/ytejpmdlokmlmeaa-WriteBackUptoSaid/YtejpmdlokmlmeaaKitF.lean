/- A word without places: the walk. Conditions: the word's rows lie in blocks of which nothing is frozen, and have at most 2^40 parts. -/
import Derived.Test.YtejpmdlokmlmeaaKitE
import Derived.Test.YtejpmdlokmlmeaaOrdE
set_option linter.unusedVariables false
set_option linter.unusedSimpArgs false
namespace Go.Proofs.Ytejpmdlokmlmeaa
open Go.RowKit

/-- Blocks that are there, and of which nothing is frozen. -/
structure ZCtx (P : Nat → Prop) (w : World) : Prop where
  lt : ∀ k, P k → k < w.heap.size
  nf : ∀ k, P k → NF w k
theorem ZCtx.zf {P : Nat → Prop} {w w' : World} (h : ZCtx P w) (hz : Zf P w w') : ZCtx P w' := ⟨fun k hk => Nat.lt_of_lt_of_le (h.lt k hk) hz.fr.size, fun k hk => hz.nf k (h.lt k hk) (h.nf k hk)⟩
theorem ZCtx.still {P : Nat → Prop} {w w' : World} (h : ZCtx P w) (hf : Fr (fun _ => False) w w') : ZCtx P w' := h.zf (Zf.still hf)
/-- A row of words, the first so many without places. -/
def ZRow (P : Nat → Prop) (w : World) (v : Value) (xs : List GWord) (k : Nat) : Prop :=
  ∃ ys : List GWord, ys.length = xs.length ∧ (∀ (j : Nat) (x : GWord), xs[j]? = some x → ∃ y, ys[j]? = some y ∧ bareG y = bareG x ∧ (j < k → y = bareG x)) ∧ RRow w P 3 (RWord w P) v ys
theorem bareG_bare (m : Nat) : ∀ x, wsize x < m → bareG (bareG x) = bareG x := by
  induction m with
  | zero => intro x hx; omega
  | succ m ih =>
    intro x hx
    obtain ⟨n, args, k⟩ := x
    rw [wsize] at hx
    rw [bareG, bareG, bareGs_map, bareGs_map, List.map_map]
    congr 1
    exact List.map_congr_left (fun y hy => ih y (by have := wsizes_mem hy; omega))
theorem bareG_idem (x : GWord) : bareG (bareG x) = bareG x := bareG_bare _ x (Nat.lt_succ_self _)
theorem wsize_bareN (m : Nat) : ∀ x, wsize x < m → wsize (bareG x) = wsize x := by
  induction m with
  | zero => intro x hx; omega
  | succ m ih =>
    intro x hx
    obtain ⟨n, args, k⟩ := x
    rw [wsize] at hx
    rw [bareG, wsize, wsize]
    congr 1
    clear k
    induction args with
    | nil => rfl
    | cons y l ihl =>
      rw [wsizes] at hx
      rw [bareGs, wsizes, wsizes, ih y (by omega), ihl (by omega)]
theorem wsize_bare (x : GWord) : wsize (bareG x) = wsize x := wsize_bareN _ x (Nat.lt_succ_self _)
theorem ZRow.start {P : Nat → Prop} {w : World} {v : Value} {xs : List GWord} (h : RRow w P 3 (RWord w P) v xs) : ZRow P w v xs 0 :=
  ⟨xs, rfl, fun j x hx => ⟨x, hx, rfl, fun h => absurd h (Nat.not_lt_zero j)⟩, h⟩
theorem ZRow.zf {P : Nat → Prop} {w w' : World} {v : Value} {xs : List GWord} {k : Nat} (h : ZRow P w v xs k) (hz : Zf P w w') : ZRow P w' v xs k := by
  obtain ⟨ys, hl, hy, hr⟩ := h
  obtain ⟨zs, hzz, hr'⟩ := zWords hr hz
  refine ⟨zs, hzz.1.trans hl, fun j x hx => ?_, hr'⟩
  obtain ⟨y, h1, h2, h3⟩ := hy j x hx
  obtain ⟨z, h4, h5⟩ := hzz.2 j y h1
  refine ⟨z, h4, h5.1.trans h2, fun hj => ?_⟩
  have e := h3 hj
  have : bareG y = y := by rw [e, bareG_idem]
  rw [h5.2 this, e]
theorem ZRow.done {P : Nat → Prop} {w : World} {v : Value} {xs : List GWord} {k : Nat} (h : ZRow P w v xs k) (hk : xs.length ≤ k) : RRow w P 3 (RWord w P) v (xs.map bareG) := by
  obtain ⟨ys, hl, hy, hr⟩ := h
  have e : ys = xs.map bareG := by
    apply List.ext_getElem?
    intro j
    rw [List.getElem?_map]
    rcases Nat.lt_or_ge j xs.length with hj | hj
    · obtain ⟨y, h1, h2, h3⟩ := hy j _ (List.getElem?_eq_getElem hj)
      rw [h1, List.getElem?_eq_getElem hj, h3 (by omega)]
      rfl
    · rw [List.getElem?_eq_none hj, List.getElem?_eq_none (Nat.le_trans (Nat.le_of_eq hl) hj)]
      rfl
  rwa [e] at hr
/-- One of such a row: its cells, its own row; what it is without places. -/
theorem ZRow.get {P : Nat → Prop} {w : World} {v : Value} {xs : List GWord} {k : Nat} (h : ZRow P w v xs k) {j : Nat} (hj : j < xs.length) :
    ∃ kb off vc n args a ac at_, v = .slice (some ⟨kb, off, none⟩) xs.length vc ∧ P kb ∧ kb < w.heap.size ∧ bareG (.mk n args at_) = bareG (xs.getD j noWord) ∧ RRow w P 3 (RWord w P) (.slice a args.length ac) args ∧
      w.cell? ⟨kb, off + j * 3, none⟩ = some (.string n) ∧ w.cell? ⟨kb, off + j * 3 + 1, none⟩ = some (.slice a args.length ac) ∧ w.cell? ⟨kb, off + j * 3 + 2, none⟩ = some (.int .i64 at_) := by
  obtain ⟨ys, hl, hy, hr⟩ := h
  obtain ⟨kb, off, vc, cs, hv, hP, hk, -, hE, hc⟩ := hr.get (j := j) (by omega) noWord
  obtain ⟨y, h1, h2, -⟩ := hy j (xs.getD j noWord) (by simp [List.getD_eq_getElem?_getD, hj])
  have e : ys.getD j noWord = y := by rw [List.getD_eq_getElem?_getD, h1]; rfl
  rw [e] at hE
  obtain ⟨n, args, at_⟩ := y
  obtain ⟨u, rfl, hu⟩ := RWord.row.1 hE
  obtain ⟨a, ac, rfl⟩ := hu.form
  exact ⟨kb, off, vc, n, args, a, ac, at_, by rw [hv, hl], hP, hk, h2, hu, hc 0 _ rfl, hc 1 _ rfl, hc 2 _ rfl⟩
/-- One more of such a row is without places. -/
theorem ZRow.next {P : Nat → Prop} {w : World} {xs : List GWord} {k kb off vc : Nat} {n : ByteArray} {args : List GWord} {a : Option Addr} {ac : Nat} {at_ : Int} (h : ZRow P w (.slice (some ⟨kb, off, none⟩) xs.length vc) xs k) (hk : k < xs.length)
    (hb : bareG (.mk n args at_) = bareG (xs.getD k noWord)) (hr : RRow w P 3 (RWord w P) (.slice a args.length ac) (args.map bareG)) (c0 : w.cell? ⟨kb, off + k * 3, none⟩ = some (.string n)) (c1 : w.cell? ⟨kb, off + k * 3 + 1, none⟩ = some (.slice a args.length ac)) (c2 : w.cell? ⟨kb, off + k * 3 + 2, none⟩ = some (.int .i64 0)) :
    ZRow P w (.slice (some ⟨kb, off, none⟩) xs.length vc) xs (k + 1) := by
  obtain ⟨ys, hl, hy, hrow⟩ := h
  have hx : xs[k]? = some (xs.getD k noWord) := by simp [List.getD_eq_getElem?_getD, hk]
  refine ⟨ys.set k (.mk n (args.map bareG) 0), by rw [List.length_set, hl], fun j x hxj => ?_, hrow.swap (by omega) _ (fun cs hcs => ?_)⟩
  · by_cases e : j = k
    · subst e
      rw [hx] at hxj
      injection hxj with hxj
      subst hxj
      have e2 : (GWord.mk n (args.map bareG) 0) = bareG (xs.getD j noWord) := by rw [← hb, bareG, bareGs_map]
      exact ⟨_, List.getElem?_set_self (by omega), by rw [e2, bareG_idem], fun _ => e2⟩
    · obtain ⟨y, h1, h2, h3⟩ := hy j x hxj
      exact ⟨y, by rw [List.getElem?_set_ne (Ne.symm e)]; exact h1, h2, fun hj => h3 (by omega)⟩
  · obtain ⟨k', off', c', hv, hlen, hc⟩ := hcs
    injection hv with hv
    injection hv with hv
    injection hv with e1 e2
    subst e1 e2
    have hcs : cs = [.string n, .slice a args.length ac, .int .i64 0] := by
      match cs, hlen with
      | [x0, x1, x2], _ =>
        have g0 := hc 0 x0 rfl
        have g1 := hc 1 x1 rfl
        have g2 := hc 2 x2 rfl
        rw [Nat.add_zero] at g0
        rw [c0] at g0
        rw [c1] at g1
        rw [c2] at g2
        injection g0 with g0
        injection g1 with g1
        injection g2 with g2
        rw [← g0, ← g1, ← g2]
    subst hcs
    exact RWord.row.2 ⟨_, rfl, hr⟩

/-- How 'bare' ends. -/
def BPost (P : Nat → Prop) (w : World) (n : ByteArray) (a : Option Addr) (c : Nat) (args : List GWord) (e : Ending) (w' : World) : Prop :=
  e = .returned (.agg #[.string n, .slice a args.length c, .int .i64 0]) ∧ Zf P w w' ∧ RRow w' P 3 (RWord w' P) (.slice a args.length c) (args.map bareG)
def BareHyp (m : Nat) : Prop := ∀ {P : Nat → Prop} {w : World} {n : ByteArray} {args : List GWord} {a : Option Addr} {c : Nat} {at_ : Int}, wsize (.mk n args at_) < m → wsize (.mk n args at_) ≤ 1099511627776 → ZCtx P w → RRow w P 3 (RWord w P) (.slice a args.length c) args →
    Calls Try.prog 28 #[.agg #[.string n, .slice a args.length c, .int .i64 at_]] w (BPost P w n a c args)
/-- What a word is stored as again. -/
theorem store_again {P : Nat → Prop} {w : World} {kb o : Nat} {n : ByteArray} {v : Value} {j : Int} (hP : P kb) (c0 : w.cell? ⟨kb, o, none⟩ = some (.string n)) (c1 : w.cell? ⟨kb, o + 1, none⟩ = some v) (c2 : w.cell? ⟨kb, o + 2, none⟩ = some (.int .i64 j)) :
    Zf P w (((w.setCell ⟨kb, o, none⟩ (.string n)).setCell ⟨kb, o + 1, none⟩ v).setCell ⟨kb, o + 2, none⟩ (.int .i64 0)) ∧
      (((w.setCell ⟨kb, o, none⟩ (.string n)).setCell ⟨kb, o + 1, none⟩ v).setCell ⟨kb, o + 2, none⟩ (.int .i64 0)).cell? ⟨kb, o, none⟩ = some (.string n) ∧ (((w.setCell ⟨kb, o, none⟩ (.string n)).setCell ⟨kb, o + 1, none⟩ v).setCell ⟨kb, o + 2, none⟩ (.int .i64 0)).cell? ⟨kb, o + 1, none⟩ = some v ∧
      (((w.setCell ⟨kb, o, none⟩ (.string n)).setCell ⟨kb, o + 1, none⟩ v).setCell ⟨kb, o + 2, none⟩ (.int .i64 0)).cell? ⟨kb, o + 2, none⟩ = some (.int .i64 0) := by
  have n01 : (⟨kb, o, none⟩ : Addr) ≠ ⟨kb, o + 1, none⟩ := fun e => by injection e with _ e _; omega
  have n02 : (⟨kb, o, none⟩ : Addr) ≠ ⟨kb, o + 2, none⟩ := fun e => by injection e with _ e _; omega
  have n12 : (⟨kb, o + 1, none⟩ : Addr) ≠ ⟨kb, o + 2, none⟩ := fun e => by injection e with _ e _; omega
  have e1 : (w.setCell ⟨kb, o, none⟩ (.string n)).cell? ⟨kb, o + 1, none⟩ = some v := (World.cell?_setCell_other w _ _ _ n01).trans c1
  have e2 : ((w.setCell ⟨kb, o, none⟩ (.string n)).setCell ⟨kb, o + 1, none⟩ v).cell? ⟨kb, o + 2, none⟩ = some (.int .i64 j) := (World.cell?_setCell_other _ _ _ _ n12).trans ((World.cell?_setCell_other w _ _ _ n02).trans c2)
  refine ⟨((Zf.set w hP c0 (ZC.refl _)).trans (Zf.set _ hP e1 (ZC.refl _))).trans (Zf.set _ hP e2 (.inr ⟨⟨j, rfl⟩, rfl⟩)), ?_, ?_, World.cell?_setCell_same _ _ _ e2⟩
  · exact (World.cell?_setCell_other _ _ _ _ (Ne.symm n02)).trans ((World.cell?_setCell_other _ _ _ _ (Ne.symm n01)).trans (World.cell?_setCell_same w _ _ c0))
  · exact (World.cell?_setCell_other _ _ _ _ (Ne.symm n12)).trans (World.cell?_setCell_same _ _ _ e1)

set_option maxRecDepth 100000 in
set_option maxHeartbeats 4000000 in
theorem bare_step (m : Nat) (IH : BareHyp m) : BareHyp (m + 1) := by
  intro P w n args a c at_ hm hs hX hrow
  rw [wsize] at hm hs
  have hal := wsizes_len args
  have hf1 : Fr (fun _ => False) w ((w.alloc (.cells #[.string n, .slice a args.length c, .int .i64 0] 50)).alloc (.cells #[.string ⟨#[]⟩, .slice none 0 0, .int .i64 0] 50)) := ((Fr.refl _ w).alloc _).alloc _
  have hT2 : Blk ((w.alloc (.cells #[.string n, .slice a args.length c, .int .i64 0] 50)).alloc (.cells #[.string ⟨#[]⟩, .slice none 0 0, .int .i64 0] 50)) w.heap.size #[.string n, .slice a args.length c, .int .i64 0] 50 := (Blk.new w _ _).alloc _
  have hD2 : Blk ((w.alloc (.cells #[.string n, .slice a args.length c, .int .i64 0] 50)).alloc (.cells #[.string ⟨#[]⟩, .slice none 0 0, .int .i64 0] 50)) (w.heap.size + 1) #[.string ⟨#[]⟩, .slice none 0 0, .int .i64 0] 50 := by
    have := Blk.new (w.alloc (.cells #[.string n, .slice a args.length c, .int .i64 0] 50)) #[.string ⟨#[]⟩, .slice none 0 0, .int .i64 0] 50
    rwa [show (w.alloc (.cells #[.string n, .slice a args.length c, .int .i64 0] 50)).heap.size = w.heap.size + 1 by simp] at this
  have hlt := hX.lt
  go_enter Try.func28, Try.ntmps28
  go_wp2_with fail
  generalize (w.alloc (.cells #[.string n, .slice a args.length c, .int .i64 0] 50)).alloc (.cells #[.string ⟨#[]⟩, .slice none 0 0, .int .i64 0] 50) = w2 at *
  obtain ⟨D, hD⟩ : ∃ D, D = w.heap.size + 1 := ⟨_, rfl⟩
  rw [← hD] at hD2 ⊢
  obtain ⟨T, hT⟩ : ∃ T, T = w.heap.size := ⟨_, rfl⟩
  rw [← hT] at hT2 ⊢
  have hTD : T < D := by omega
  have hwT : w.heap.size ≤ T := by omega
  have hTP : ¬ P T := fun h => by have := hlt T h; omega
  have hDP : ¬ P D := fun h => by have := hlt D h; omega
  clear hD hT
  have hz2 : Zf P w w2 := Zf.still hf1
  have hr2 := (ZRow.start hrow).zf hz2
  clear hf1 hrow
  go_loopw [3] (fun i wr => ∃ k : Nat, k ≤ args.length ∧ i = .int .i64 k ∧ Zf P w wr ∧ Blk wr T #[.string n, .slice a args.length c, .int .i64 0] 50 ∧ Blk wr D #[.string ⟨#[]⟩, .slice none 0 0, .int .i64 0] 50 ∧ ZRow P wr (.slice a args.length c) args k) (fun i wr => args.length - (intOf i).toNat)
  case atStart => exact ⟨0, Nat.zero_le _, rfl, hz2, hT2, hD2, hr2⟩
  case round =>
    clear hT2 hD2 hz2 hr2
    obtain ⟨k, hk, rfl, hz, hT, hD, hr⟩ := hrel
    have t1 := hT.cell 1 rfl
    by_cases hlt2 : k < args.length
    · obtain ⟨kb, off, vc, n', args', a', ac', at', hv, hPk, hkb, hb, hrow, c0, c1, c2⟩ := hr.get hlt2
      injection hv with hv1 hv2 hv3
      subst hv1 hv3
      clear hv2
      have hX2 := hX.zf hz
      have hsz : wsize (.mk n' args' at') < m ∧ wsize (.mk n' args' at') ≤ 1099511627776 := by
        have e : wsize (.mk n' args' at') = wsize (args.getD k noWord) := by rw [← wsize_bare, hb, wsize_bare]
        have := wsizes_mem (getD_mem noWord hlt2)
        omega
      have HB := Lib.hid hb
      clear hb
      have hi0 : (0 : Int) ≤ (k : Int) := by omega
      have hi1 : (k : Int) < (args.length : Int) := by omega
      go_upto_region 5 with fail
      have hS0 : (fun w' : World => w'.cell? ⟨T, 1, none⟩ = some (.slice (some ⟨kb, off, none⟩) args.length c)) wr.drew := t1
      refine wp_region_E (S := fun w' : World => w'.cell? ⟨T, 1, none⟩ = some (.slice (some ⟨kb, off, none⟩) args.length c)) (e := 10) (by kernel_rfl) ?_
      have hXd := hX2.still (Fr.refl (fun _ => False) wr).drew
      have hrd : RRow wr.drew P 3 (RWord wr.drew P) (.slice a' args'.length ac') args' := hrow.fr (E' := RWord wr.drew P) (Fr.refl (fun _ => False) wr).drew (fun _ _ _ => id) (fun x cs h => h.fr (Fr.refl (fun _ => False) wr).drew (fun _ _ _ => id))
      have hzd : Zf P w wr.drew := hz.trans (Zf.still (Fr.refl (fun _ => False) wr).drew)
      have hTd : Blk wr.drew T _ _ := hT
      have hDd : Blk wr.drew D _ _ := hD
      have hZd : ZRow P wr.drew (.slice (some ⟨kb, off, none⟩) args.length c) args k := hr.zf (Zf.still (Fr.refl (fun _ => False) wr).drew)
      have d0 : wr.drew.cell? ⟨kb, off + k * 3, none⟩ = some (.string n') := c0
      have d1 : wr.drew.cell? ⟨kb, off + k * 3 + 1, none⟩ = some (.slice a' args'.length ac') := c1
      have d2 : wr.drew.cell? ⟨kb, off + k * 3 + 2, none⟩ = some (.int .i64 at') := c2
      have hkbd : kb < wr.drew.heap.size := hkb
      clear c0 c1 c2 hz hr hrow hX2 hT hD t1
      generalize wr.drew = w3 at *
      refine wpAnyE_take (i := 0) (v := ?_) rfl (by kernel_rfl) (by kernel_rfl) (by kernel_rfl) (fun _ _ _ h => h) (by decide) rfl (by kernel_rfl) (by kernel_rfl) (Or.inl ⟨by rfl, ?_⟩) hS0 ?_
      rotate_left
      · intro wq hSw
        replace hSw : wq.cell? ⟨T, 1, none⟩ = some (.slice (some ⟨kb, off, none⟩) args.length c) := hSw
        go_simp
        try with_reducible rfl
      try simp only [Act.put, List.setIfInBounds_toArray, List.set_cons_zero, List.set_cons_succ]
      refine wpAnyE_take (i := 1) (v := ?_) rfl (by kernel_rfl) (by kernel_rfl) (by kernel_rfl) (fun _ _ _ h => h) (by decide) rfl (by kernel_rfl) (by kernel_rfl) (Or.inl ⟨by rfl, ?_⟩) hS0 ?_
      rotate_left
      · intro wq hSw
        replace hSw : wq.cell? ⟨T, 1, none⟩ = some (.slice (some ⟨kb, off, none⟩) args.length c) := hSw
        go_simp
        try with_reducible rfl
      try simp only [Act.put, List.setIfInBounds_toArray, List.set_cons_zero, List.set_cons_succ]
      refine wpAnyE_take (i := 2) (v := ?_) rfl (by kernel_rfl) (by kernel_rfl) (by kernel_rfl) (fun _ _ _ h => h) (by decide) rfl (by kernel_rfl) (by kernel_rfl) (Or.inl ⟨by rfl, ?_⟩) hS0 ?_
      rotate_left
      · intro wq hSw
        replace hSw : wq.cell? ⟨T, 1, none⟩ = some (.slice (some ⟨kb, off, none⟩) args.length c) := hSw
        go_simp
        try with_reducible rfl
      try simp only [Act.put, List.setIfInBounds_toArray, List.set_cons_zero, List.set_cons_succ]
      refine wpAnyE_take (i := 3) (v := ?_) rfl (by kernel_rfl) (by kernel_rfl) (by kernel_rfl) (fun _ _ _ h => h) (by decide) rfl (by kernel_rfl) (by kernel_rfl) (Or.inl ⟨by rfl, ?_⟩) hS0 ?_
      rotate_left
      · intro wq hSw
        replace hSw : wq.cell? ⟨T, 1, none⟩ = some (.slice (some ⟨kb, off, none⟩) args.length c) := hSw
        go_simp
        try with_reducible rfl
      try simp only [Act.put, List.setIfInBounds_toArray, List.set_cons_zero, List.set_cons_succ]
      refine wpAnyE_take (i := 4) (v := ?_) rfl (by kernel_rfl) (by kernel_rfl) (by kernel_rfl) (fun _ _ _ h => h) (by decide) rfl (by kernel_rfl) (by kernel_rfl) (Or.inl ⟨by rfl, ?_⟩) hS0 ?_
      rotate_left
      · intro wq hSw
        replace hSw : wq.cell? ⟨T, 1, none⟩ = some (.slice (some ⟨kb, off, none⟩) args.length c) := hSw
        go_simp
        try with_reducible rfl
      try simp only [Act.put, List.setIfInBounds_toArray, List.set_cons_zero, List.set_cons_succ]
      refine wpAnyE_take (i := 5) (v := ?_) rfl (by kernel_rfl) (by kernel_rfl) (by kernel_rfl) (fun _ _ _ h => h) (by decide) rfl (by kernel_rfl) (by kernel_rfl) (Or.inl ⟨by rfl, ?_⟩) hS0 ?_
      rotate_left
      · intro wq hSw
        replace hSw : wq.cell? ⟨T, 1, none⟩ = some (.slice (some ⟨kb, off, none⟩) args.length c) := hSw
        go_simp
        try with_reducible rfl
      try simp only [Act.put, List.setIfInBounds_toArray, List.set_cons_zero, List.set_cons_succ]
      refine wpAnyE_take (i := 6) (v := ?_) rfl (by kernel_rfl) (by kernel_rfl) (by kernel_rfl) (fun _ _ _ h => h) (by decide) rfl (by kernel_rfl) (by kernel_rfl) (Or.inl ⟨by rfl, ?_⟩) hS0 ?_
      rotate_left
      · intro wq hSw
        replace hSw : wq.cell? ⟨T, 1, none⟩ = some (.slice (some ⟨kb, off, none⟩) args.length c) := hSw
        go_simp
        try with_reducible rfl
      try simp only [Act.put, List.setIfInBounds_toArray, List.set_cons_zero, List.set_cons_succ]
      refine wpAnyE_all (rs := [7]) (by kernel_rfl) (by simp) ?_
      intro j hj
      rcases List.mem_singleton.1 hj with rfl
      refine wpOp_step rfl (fun K hK => ?_)
      go_simp
      refine hK _ _ ⟨fun _ => hS0, ?_⟩
      clear hK K
      try simp only [Act.put, List.setIfInBounds_toArray, List.set_cons_zero, List.set_cons_succ]
      refine wpAnyE_all (rs := [8]) (by kernel_rfl) (by simp) ?_
      intro j hj
      rcases List.mem_singleton.1 hj with rfl
      refine wpOp_step rfl (fun K hK => ?_)
      go_simp
      refine (IH hsz.1 hsz.2 hXd hrd).mono ?_
      rintro e w4 ⟨rfl, hz4, hr4⟩
      have hT4 := hTd.fr hz4.fr hTP
      have hD4 := hDd.fr hz4.fr hDP
      have hS4 : (fun w' : World => w'.cell? ⟨T, 1, none⟩ = some (.slice (some ⟨kb, off, none⟩) args.length c)) w4 := hT4.cell 1 rfl
      obtain ⟨u0, g0, y0⟩ := hz4.cell hkbd d0
      obtain ⟨u1, g1, y1⟩ := hz4.cell hkbd d1
      obtain ⟨u2, g2, y2⟩ := hz4.cell hkbd d2
      obtain ⟨j2, rfl, -⟩ := zc_int y2
      rw [zc_string y0] at g0
      rw [zc_slice y1] at g1
      clear y0 y1 y2 d0 d1 d2
      have hX4 := hXd.zf hz4
      have hnf := hX4.nf kb hPk
      have n0 := hnf (off + k * 3)
      have n1 := hnf (off + k * 3 + 1)
      have n2 := hnf (off + k * 3 + 2)
      refine hK _ _ ⟨fun _ => hS4, ?_⟩
      clear hK K
      try simp only [Act.put, List.setIfInBounds_toArray, List.set_cons_zero, List.set_cons_succ]
      refine wpAnyE_all (rs := [9]) (by kernel_rfl) (by simp) ?_
      intro j hj
      rcases List.mem_singleton.1 hj with rfl
      refine wpOp_step rfl (fun K hK => ?_)
      go_simp
      refine hK _ _ ⟨fun _ => hS4, ?_⟩
      clear hK K
      try simp only [Act.put, List.setIfInBounds_toArray, List.set_cons_zero, List.set_cons_succ]
      refine wpAnyE_all (rs := [10]) (by kernel_rfl) (by simp) ?_
      intro j hj
      rcases List.mem_singleton.1 hj with rfl
      refine wpOp_step rfl (fun K hK => ?_)
      go_simp
      refine hK _ _ ⟨fun h => (Bool.false_ne_true (h.symm.trans (by kernel_rfl))).elim, ?_⟩
      clear hK K
      try simp only [Act.put, List.setIfInBounds_toArray, List.set_cons_zero, List.set_cons_succ]
      refine wpAnyE_done (by kernel_rfl) ?_ _
      obtain ⟨hz5, e0, e1, e2⟩ := store_again hPk g0 g1 g2
      have hkT : kb ≠ T := fun e => hTP (e ▸ hPk)
      have hkD : kb ≠ D := fun e => hDP (e ▸ hPk)
      have hT5 := hT4.fr hz5.fr hTP
      have hD5 := hD4.fr hz5.fr hDP
      have hz05 := (hzd.trans hz4).trans hz5
      have hZ5 := (hZd.zf hz4).zf hz5
      obtain ⟨zs, hzs, hr5⟩ := zWords hr4 hz5
      rw [hzs.plain (by rw [List.map_map]; exact List.map_congr_left (fun y _ => bareG_idem y))] at hr5
      have hN := ZRow.next hZ5 hlt2 HB.out hr5 e0 e1 e2
      go_wp2_with fail
      go_roundw
      case rel => exact ⟨k + 1, by omega, by go_num, hz05, hT5, hD5, hN⟩
      case measure => simp [intOf]; omega
    · obtain rfl : k = args.length := by omega
      have hr' := hr.done (Nat.le_refl _)
      have hTz := hT
      have v0 := hT.cell 0 rfl
      have v1 := hT.cell 1 rfl
      have v2 := hT.cell 2 rfl
      have z0 := hD.cell 0 rfl
      have z1 := hD.cell 1 rfl
      have z2 := hD.cell 2 rfl
      have y0 := hD.frozen 0
      have y1 := hD.frozen 1
      have y2 := hD.frozen 2
      have hFz := (((Fr.refl (· = D) wr).setCell (p := ⟨D, 0, none⟩) (fun _ => rfl) (.string n)).setCell (p := ⟨D, 1, none⟩) (fun _ => rfl) (.slice a args.length c)).setCell (p := ⟨D, 2, none⟩) (fun _ => rfl) (.int .i64 0)
      have hDz := ((hD.set 0 (.string n) rfl).set 1 (.slice a args.length c) rfl).set 2 (.int .i64 0) rfl
      go_wp2_with fail
      have g0 := hDz.cell 0 rfl
      have g1 := hDz.cell 1 rfl
      have g2 := hDz.cell 2 rfl
      refine bodyPost_ret (v := .agg #[.string n, .slice a args.length c, .int .i64 0]) (by simp [results, Try.results28, go_sem, g0, g1, g2]) rfl ⟨rfl, hz.far hFz (fun k hk e => by have e' : k = D := e; omega), ?_⟩
      exact hr'.fr (E' := RWord _ P) hFz (fun k hk _ e => hDP (by have e' : k = D := e; exact e' ▸ hk)) (fun x cs h => h.fr hFz (fun k hk _ e => hDP (by have e' : k = D := e; exact e' ▸ hk)))
theorem bare_any (m : Nat) : BareHyp m := by
  induction m with
  | zero => intro P w n args a c at_ h; omega
  | succ m ih => exact bare_step m ih
end Go.Proofs.Ytejpmdlokmlmeaa
