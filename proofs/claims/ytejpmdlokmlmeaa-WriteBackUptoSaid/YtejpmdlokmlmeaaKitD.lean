/- The kit's questions whether two are the same, where they are: each says yes. Conditions: the rows have at most 2^40 parts. -/
import Derived.Test.YtejpmdlokmlmeaaKitC
set_option linter.unusedVariables false
set_option linter.unusedSimpArgs false
namespace Go.Proofs.Ytejpmdlokmlmeaa
open Go.RowKit

def SPost (w : World) (e : Ending) (w' : World) : Prop := e = .returned (.bool true) ∧ Fr (fun _ => False) w w'

set_option maxRecDepth 100000 in
set_option maxHeartbeats 1000000 in
theorem sameTexts_any {w : World} {v v' : Value} {xs : List ByteArray} (h1 : RRow w Any 1 (EStrs w Any) v xs) (h2 : RRow w Any 1 (EStrs w Any) v' xs) (hn : xs.length ≤ 1099511627776) :
    Calls Try.prog 67 #[v, v'] w (SPost w) := by
  obtain ⟨a, c, rfl, -⟩ := h1.cells
  obtain ⟨b, d, rfl, -⟩ := h2.cells
  go_enter Try.func67, Try.ntmps67
  go_wp2_with fail
  go_loopw [5] (fun i wr => ∃ k : Nat, k ≤ xs.length ∧ i = .int .i64 k ∧ Fr (fun _ => False) w wr) (fun i wr => xs.length - (intOf i).toNat)
  case atStart => exact ⟨0, Nat.zero_le _, rfl, Fr.refl _ w⟩
  case round =>
    obtain ⟨k, hk, rfl, hf⟩ := hrel
    by_cases hlt : k < xs.length
    · obtain ⟨a', c', hv, hc⟩ := (any_row' elemStr h1 hf).cells
      obtain ⟨b', d', hv', hd⟩ := (any_row' elemStr h2 hf).cells
      injection hv with hv1 hv2 hv3
      injection hv' with hv1' hv2' hv3'
      subst hv1 hv1'
      clear hv2 hv3 hv2' hv3'
      obtain ⟨ka, oa, rfl, q1⟩ := hc k hlt
      obtain ⟨kb, ob, rfl, q2⟩ := hd k hlt
      clear hc hd
      generalize xs.getD k ByteArray.empty = x at *
      have hi0 : (0 : Int) ≤ (k : Int) := by omega
      have hi1 : (k : Int) < (xs.length : Int) := by omega
      go_upto_region 6 with fail
      go_quiet (fail)
      go_wp2_with fail
      go_roundw
      case rel => exact ⟨k + 1, by omega, by go_num, hf.drewN _⟩
      case measure => simp [intOf]; omega
    · obtain rfl : k = xs.length := by omega
      go_wp2_with fail
      go_ret
      exact ⟨rfl, hf⟩

set_option maxRecDepth 100000 in
set_option maxHeartbeats 1000000 in
theorem sameWords_of {w : World} {v v' : Value} {xs : List GWord} (hel : ∀ x, x ∈ xs → ∀ (w' : World) (cs cs' : List Value), RWord w' Any x cs → RWord w' Any x cs' → Calls Try.prog 91 #[.agg ⟨cs⟩, .agg ⟨cs'⟩] w' (SPost w')) (h1 : RRow w Any 3 (RWord w Any) v xs) (h2 : RRow w Any 3 (RWord w Any) v' xs) (hn : xs.length ≤ 1099511627776) :
    Calls Try.prog 86 #[v, v'] w (SPost w) := by
  obtain ⟨va, vc, rfl⟩ := h1.form
  obtain ⟨ua, uc, rfl⟩ := h2.form
  have Hel := Lib.hid hel
  clear hel
  go_enter Try.func86, Try.ntmps86
  go_wp2_with fail
  go_loopw [5] (fun i wr => ∃ k : Nat, k ≤ xs.length ∧ i = .int .i64 k ∧ Fr (fun _ => False) w wr) (fun i wr => xs.length - (intOf i).toNat)
  case atStart => exact ⟨0, Nat.zero_le _, rfl, Fr.refl _ w⟩
  case round =>
    obtain ⟨k, hk, rfl, hf⟩ := hrel
    by_cases hlt : k < xs.length
    · obtain ⟨ka, oa, ca, cs1, hv, -, -, -, hE1, hc1⟩ := (any_row' elemWord h1 hf).get hlt noWord
      obtain ⟨kb, ob, cb, cs2, hv', -, -, -, hE2, hc2⟩ := (any_row' elemWord h2 hf).get hlt noWord
      injection hv with hv1 hv2 hv3
      injection hv' with hv1' hv2' hv3'
      subst hv1 hv1'
      clear hv2 hv3 hv2' hv3'
      have hM0 := getD_mem noWord hlt
      generalize xs.getD k noWord = x at *
      have HM := Lib.hid hM0
      clear hM0
      obtain ⟨n1, a1, m1, c1, k1, rfl⟩ := hE1.form
      obtain ⟨n2, a2, m2, c2, k2, rfl⟩ := hE2.form
      have q0 := hc1 0 _ rfl
      have r0 := hc2 0 _ rfl
      have q1 := hc1 1 _ rfl
      have r1 := hc2 1 _ rfl
      have q2 := hc1 2 _ rfl
      have r2 := hc2 2 _ rfl
      rw [Nat.add_zero] at q0 r0
      clear hc1 hc2
      have hi0 : (0 : Int) ≤ (k : Int) := by omega
      have hi1 : (k : Int) < (xs.length : Int) := by omega
      go_upto_region 6 with fail
      go_still_tail 8, (by kernel_rfl)
      change wpList _ _ _ _ _ wr.drew
      have hE1d := elemWord.fr hE1 (Fr.refl (fun _ => False) wr).drew (fun _ _ _ => id)
      have hE2d := elemWord.fr hE2 (Fr.refl (fun _ => False) wr).drew (fun _ _ _ => id)
      clear q0 r0 q1 r1 q2 r2
      go_wp2_with fail
      refine (Hel.out x HM.out wr.drew _ _ hE1d hE2d).mono ?_
      rintro e w2 ⟨rfl, hf2⟩
      go_wp2_with fail
      go_roundw
      case rel => exact ⟨k + 1, by omega, by go_num, hf.drew.trans hf2⟩
      case measure => simp [intOf]; omega
    · obtain rfl : k = xs.length := by omega
      go_wp2_with fail
      go_ret
      exact ⟨rfl, hf⟩

set_option maxRecDepth 100000 in
set_option maxHeartbeats 1000000 in
theorem sameAlts_of {w : World} {v v' : Value} {xs : List GAlt} (hel : ∀ x, x ∈ xs → ∀ (w' : World) (cs cs' : List Value), RAlt w' Any x cs → RAlt w' Any x cs' → Calls Try.prog 81 #[.agg ⟨cs⟩, .agg ⟨cs'⟩] w' (SPost w')) (h1 : RRow w Any 6 (RAlt w Any) v xs) (h2 : RRow w Any 6 (RAlt w Any) v' xs) (hn : xs.length ≤ 1099511627776) :
    Calls Try.prog 68 #[v, v'] w (SPost w) := by
  obtain ⟨va, vc, rfl⟩ := h1.form
  obtain ⟨ua, uc, rfl⟩ := h2.form
  have Hel := Lib.hid hel
  clear hel
  go_enter Try.func68, Try.ntmps68
  go_wp2_with fail
  go_loopw [5] (fun i wr => ∃ k : Nat, k ≤ xs.length ∧ i = .int .i64 k ∧ Fr (fun _ => False) w wr) (fun i wr => xs.length - (intOf i).toNat)
  case atStart => exact ⟨0, Nat.zero_le _, rfl, Fr.refl _ w⟩
  case round =>
    obtain ⟨k, hk, rfl, hf⟩ := hrel
    by_cases hlt : k < xs.length
    · obtain ⟨ka, oa, ca, cs1, hv, -, -, -, hE1, hc1⟩ := (any_row' elemAlt h1 hf).get hlt noAlt
      obtain ⟨kb, ob, cb, cs2, hv', -, -, -, hE2, hc2⟩ := (any_row' elemAlt h2 hf).get hlt noAlt
      injection hv with hv1 hv2 hv3
      injection hv' with hv1' hv2' hv3'
      subst hv1 hv1'
      clear hv2 hv3 hv2' hv3'
      have hM0 := getD_mem noAlt hlt
      generalize xs.getD k noAlt = x at *
      have HM := Lib.hid hM0
      clear hM0
      obtain ⟨a1, m1, c1, p1, b1, s1, k1, j1, rfl⟩ := hE1.form
      obtain ⟨a2, m2, c2, p2, b2, s2, k2, j2, rfl⟩ := hE2.form
      have q0 := hc1 0 _ rfl
      have r0 := hc2 0 _ rfl
      have q1 := hc1 1 _ rfl
      have r1 := hc2 1 _ rfl
      have q2 := hc1 2 _ rfl
      have r2 := hc2 2 _ rfl
      have q3 := hc1 3 _ rfl
      have r3 := hc2 3 _ rfl
      have q4 := hc1 4 _ rfl
      have r4 := hc2 4 _ rfl
      have q5 := hc1 5 _ rfl
      have r5 := hc2 5 _ rfl
      rw [Nat.add_zero] at q0 r0
      clear hc1 hc2
      have hi0 : (0 : Int) ≤ (k : Int) := by omega
      have hi1 : (k : Int) < (xs.length : Int) := by omega
      go_upto_region 6 with fail
      go_still_tail 8, (by kernel_rfl)
      change wpList _ _ _ _ _ wr.drew
      have hE1d := elemAlt.fr hE1 (Fr.refl (fun _ => False) wr).drew (fun _ _ _ => id)
      have hE2d := elemAlt.fr hE2 (Fr.refl (fun _ => False) wr).drew (fun _ _ _ => id)
      clear q0 r0 q1 r1 q2 r2 q3 r3 q4 r4 q5 r5
      go_wp2_with fail
      refine (Hel.out x HM.out wr.drew _ _ hE1d hE2d).mono ?_
      rintro e w2 ⟨rfl, hf2⟩
      go_wp2_with fail
      go_roundw
      case rel => exact ⟨k + 1, by omega, by go_num, hf.drew.trans hf2⟩
      case measure => simp [intOf]; omega
    · obtain rfl : k = xs.length := by omega
      go_wp2_with fail
      go_ret
      exact ⟨rfl, hf⟩

set_option maxRecDepth 100000 in
set_option maxHeartbeats 1000000 in
theorem sameRules_of {w : World} {v v' : Value} {xs : List GRule} (hel : ∀ x, x ∈ xs → ∀ (w' : World) (cs cs' : List Value), RRule w' Any x cs → RRule w' Any x cs' → Calls Try.prog 52 #[.agg ⟨cs⟩, .agg ⟨cs'⟩] w' (SPost w')) (h1 : RRow w Any 4 (RRule w Any) v xs) (h2 : RRow w Any 4 (RRule w Any) v' xs) (hn : xs.length ≤ 1099511627776) :
    Calls Try.prog 26 #[v, v'] w (SPost w) := by
  obtain ⟨va, vc, rfl⟩ := h1.form
  obtain ⟨ua, uc, rfl⟩ := h2.form
  have Hel := Lib.hid hel
  clear hel
  go_enter Try.func26, Try.ntmps26
  go_wp2_with fail
  go_loopw [5] (fun i wr => ∃ k : Nat, k ≤ xs.length ∧ i = .int .i64 k ∧ Fr (fun _ => False) w wr) (fun i wr => xs.length - (intOf i).toNat)
  case atStart => exact ⟨0, Nat.zero_le _, rfl, Fr.refl _ w⟩
  case round =>
    obtain ⟨k, hk, rfl, hf⟩ := hrel
    by_cases hlt : k < xs.length
    · obtain ⟨ka, oa, ca, cs1, hv, -, -, -, hE1, hc1⟩ := (any_row' elemRule h1 hf).get hlt noRule
      obtain ⟨kb, ob, cb, cs2, hv', -, -, -, hE2, hc2⟩ := (any_row' elemRule h2 hf).get hlt noRule
      injection hv with hv1 hv2 hv3
      injection hv' with hv1' hv2' hv3'
      subst hv1 hv1'
      clear hv2 hv3 hv2' hv3'
      have hM0 := getD_mem noRule hlt
      generalize xs.getD k noRule = x at *
      have HM := Lib.hid hM0
      clear hM0
      obtain ⟨n1, a1, m1, c1, b1, l1, f1, k1, rfl⟩ := hE1.form
      obtain ⟨n2, a2, m2, c2, b2, l2, f2, k2, rfl⟩ := hE2.form
      have q0 := hc1 0 _ rfl
      have r0 := hc2 0 _ rfl
      have q1 := hc1 1 _ rfl
      have r1 := hc2 1 _ rfl
      have q2 := hc1 2 _ rfl
      have r2 := hc2 2 _ rfl
      have q3 := hc1 3 _ rfl
      have r3 := hc2 3 _ rfl
      rw [Nat.add_zero] at q0 r0
      clear hc1 hc2
      have hi0 : (0 : Int) ≤ (k : Int) := by omega
      have hi1 : (k : Int) < (xs.length : Int) := by omega
      go_upto_region 6 with fail
      go_still_tail 8, (by kernel_rfl)
      change wpList _ _ _ _ _ wr.drew
      have hE1d := elemRule.fr hE1 (Fr.refl (fun _ => False) wr).drew (fun _ _ _ => id)
      have hE2d := elemRule.fr hE2 (Fr.refl (fun _ => False) wr).drew (fun _ _ _ => id)
      clear q0 r0 q1 r1 q2 r2 q3 r3
      go_wp2_with fail
      refine (Hel.out x HM.out wr.drew _ _ hE1d hE2d).mono ?_
      rintro e w2 ⟨rfl, hf2⟩
      go_wp2_with fail
      go_roundw
      case rel => exact ⟨k + 1, by omega, by go_num, hf.drew.trans hf2⟩
      case measure => simp [intOf]; omega
    · obtain rfl : k = xs.length := by omega
      go_wp2_with fail
      go_ret
      exact ⟨rfl, hf⟩

set_option maxRecDepth 100000 in
set_option maxHeartbeats 1000000 in
theorem sameDecls_of {w : World} {v v' : Value} {xs : List GDecl} (hel : ∀ x, x ∈ xs → ∀ (w' : World) (cs cs' : List Value), RDecl w' Any x cs → RDecl w' Any x cs' → Calls Try.prog 51 #[.agg ⟨cs⟩, .agg ⟨cs'⟩] w' (SPost w')) (h1 : RRow w Any 4 (RDecl w Any) v xs) (h2 : RRow w Any 4 (RDecl w Any) v' xs) (hn : xs.length ≤ 1099511627776) :
    Calls Try.prog 25 #[v, v'] w (SPost w) := by
  obtain ⟨va, vc, rfl⟩ := h1.form
  obtain ⟨ua, uc, rfl⟩ := h2.form
  have Hel := Lib.hid hel
  clear hel
  go_enter Try.func25, Try.ntmps25
  go_wp2_with fail
  go_loopw [5] (fun i wr => ∃ k : Nat, k ≤ xs.length ∧ i = .int .i64 k ∧ Fr (fun _ => False) w wr) (fun i wr => xs.length - (intOf i).toNat)
  case atStart => exact ⟨0, Nat.zero_le _, rfl, Fr.refl _ w⟩
  case round =>
    obtain ⟨k, hk, rfl, hf⟩ := hrel
    by_cases hlt : k < xs.length
    · obtain ⟨ka, oa, ca, cs1, hv, -, -, -, hE1, hc1⟩ := (any_row' elemDecl h1 hf).get hlt noDecl
      obtain ⟨kb, ob, cb, cs2, hv', -, -, -, hE2, hc2⟩ := (any_row' elemDecl h2 hf).get hlt noDecl
      injection hv with hv1 hv2 hv3
      injection hv' with hv1' hv2' hv3'
      subst hv1 hv1'
      clear hv2 hv3 hv2' hv3'
      have hM0 := getD_mem noDecl hlt
      generalize xs.getD k noDecl = x at *
      have HM := Lib.hid hM0
      clear hM0
      obtain ⟨n1, y1, a1, m1, c1, k1, rfl⟩ := hE1.form
      obtain ⟨n2, y2, a2, m2, c2, k2, rfl⟩ := hE2.form
      have q0 := hc1 0 _ rfl
      have r0 := hc2 0 _ rfl
      have q1 := hc1 1 _ rfl
      have r1 := hc2 1 _ rfl
      have q2 := hc1 2 _ rfl
      have r2 := hc2 2 _ rfl
      have q3 := hc1 3 _ rfl
      have r3 := hc2 3 _ rfl
      rw [Nat.add_zero] at q0 r0
      clear hc1 hc2
      have hi0 : (0 : Int) ≤ (k : Int) := by omega
      have hi1 : (k : Int) < (xs.length : Int) := by omega
      go_upto_region 6 with fail
      go_still_tail 8, (by kernel_rfl)
      change wpList _ _ _ _ _ wr.drew
      have hE1d := elemDecl.fr hE1 (Fr.refl (fun _ => False) wr).drew (fun _ _ _ => id)
      have hE2d := elemDecl.fr hE2 (Fr.refl (fun _ => False) wr).drew (fun _ _ _ => id)
      clear q0 r0 q1 r1 q2 r2 q3 r3
      go_wp2_with fail
      refine (Hel.out x HM.out wr.drew _ _ hE1d hE2d).mono ?_
      rintro e w2 ⟨rfl, hf2⟩
      go_wp2_with fail
      go_roundw
      case rel => exact ⟨k + 1, by omega, by go_num, hf.drew.trans hf2⟩
      case measure => simp [intOf]; omega
    · obtain rfl : k = xs.length := by omega
      go_wp2_with fail
      go_ret
      exact ⟨rfl, hf⟩

set_option maxRecDepth 100000 in
set_option maxHeartbeats 1000000 in
theorem sameWord_step {w : World} {n : ByteArray} {args : List GWord} {a b : Option Addr} {c d : Nat} {k : Int} (Hel : Hid (∀ x, x ∈ args → ∀ (w' : World) (cs cs' : List Value), RWord w' Any x cs → RWord w' Any x cs' → Calls Try.prog 91 #[.agg ⟨cs⟩, .agg ⟨cs'⟩] w' (SPost w')))
    (h1 : RRow w Any 3 (RWord w Any) (.slice a args.length c) args) (h2 : RRow w Any 3 (RWord w Any) (.slice b args.length d) args) (hn : args.length ≤ 1099511627776) :
    Calls Try.prog 91 #[.agg #[.string n, .slice a args.length c, .int .i64 k], .agg #[.string n, .slice b args.length d, .int .i64 k]] w (SPost w) := by
  have hf1 : Fr (fun _ => False) w ((w.alloc (.cells #[.string n, .slice a args.length c, .int .i64 k] 50)).alloc (.cells #[.string n, .slice b args.length d, .int .i64 k] 50)) := ((Fr.refl _ w).alloc _).alloc _
  have hA : Blk ((w.alloc (.cells #[.string n, .slice a args.length c, .int .i64 k] 50)).alloc (.cells #[.string n, .slice b args.length d, .int .i64 k] 50)) w.heap.size #[.string n, .slice a args.length c, .int .i64 k] 50 := (Blk.new w _ _).alloc _
  have hB : Blk ((w.alloc (.cells #[.string n, .slice a args.length c, .int .i64 k] 50)).alloc (.cells #[.string n, .slice b args.length d, .int .i64 k] 50)) (w.heap.size + 1) #[.string n, .slice b args.length d, .int .i64 k] 50 := by
    have := Blk.new (w.alloc (.cells #[.string n, .slice a args.length c, .int .i64 k] 50)) #[.string n, .slice b args.length d, .int .i64 k] 50
    rwa [show (w.alloc (.cells #[.string n, .slice a args.length c, .int .i64 k] 50)).heap.size = w.heap.size + 1 by simp] at this
  have q0 := hA.cell 0 rfl
  have r0 := hB.cell 0 rfl
  have q1 := hA.cell 1 rfl
  have r1 := hB.cell 1 rfl
  have q2 := hA.cell 2 rfl
  have r2 := hB.cell 2 rfl
  go_enter Try.func91, Try.ntmps91
  go_wp2_with fail
  clear q0 r0 q1 r1 q2 r2
  generalize (w.alloc (.cells #[.string n, .slice a args.length c, .int .i64 k] 50)).alloc (.cells #[.string n, .slice b args.length d, .int .i64 k] 50) = w1 at *
  refine (sameWords_of Hel.out (any_row' elemWord h1 hf1) (any_row' elemWord h2 hf1) hn).mono ?_
  rintro e w2 ⟨rfl, hf2⟩
  have q0 := (hA.fr hf2 id).cell 0 rfl
  have r0 := (hB.fr hf2 id).cell 0 rfl
  have q1 := (hA.fr hf2 id).cell 1 rfl
  have r1 := (hB.fr hf2 id).cell 1 rfl
  have q2 := (hA.fr hf2 id).cell 2 rfl
  have r2 := (hB.fr hf2 id).cell 2 rfl
  go_wp2_with fail
  clear q0 r0 q1 r1 q2 r2
  replace hf1 := hf1.trans hf2
  replace hA := hA.fr hf2 id
  replace hB := hB.fr hf2 id
  go_ret
  exact ⟨rfl, hf1⟩
theorem sameWord_any (m : Nat) : ∀ x, SizeOf.sizeOf x < m → wsize x ≤ 1099511627776 → ∀ (w : World) (cs cs' : List Value), RWord w Any x cs → RWord w Any x cs' → Calls Try.prog 91 #[.agg ⟨cs⟩, .agg ⟨cs'⟩] w (SPost w) := by
  induction m with
  | zero => intro x hx; omega
  | succ m ih =>
    intro x hx hs w cs cs' h h'
    obtain ⟨n, args, k⟩ := x
    obtain ⟨v, rfl, hr⟩ := RWord.row.1 h
    obtain ⟨v', rfl, hr'⟩ := RWord.row.1 h'
    obtain ⟨a, c, rfl⟩ := hr.form
    obtain ⟨b, d, rfl⟩ := hr'.form
    rw [wsize] at hs
    refine sameWord_step (Lib.hid (fun y hy w' cs cs' h h' => ih y ?_ ?_ w' cs cs' h h')) hr hr' ?_
    · have := List.sizeOf_lt_of_mem hy
      simp only [GWord.mk.sizeOf_spec] at hx
      omega
    · have := wsizes_mem hy; omega
    · have := wsizes_len args; omega
theorem sameWords_any {w : World} {v v' : Value} {xs : List GWord} (hs : wsizes xs ≤ 1099511627776) (h : RRow w Any 3 (RWord w Any) v xs) (h' : RRow w Any 3 (RWord w Any) v' xs) : Calls Try.prog 86 #[v, v'] w (SPost w) :=
  sameWords_of (fun x hx w' cs cs' h h' => sameWord_any _ x (Nat.lt_succ_self _) (by have := wsizes_mem hx; omega) w' cs cs' h h') h h' (by have := wsizes_len xs; omega)

set_option maxRecDepth 100000 in
set_option maxHeartbeats 1000000 in
theorem sameAlt_step {w : World} {ws : List GWord} {p s : ByteArray} {b : Bool} {a e : Option Addr} {c d : Nat} {k j : Int} (h1 : RRow w Any 3 (RWord w Any) (.slice a ws.length c) ws) (h2 : RRow w Any 3 (RWord w Any) (.slice e ws.length d) ws) (hn : wsizes ws ≤ 1099511627776) :
    Calls Try.prog 81 #[.agg #[.slice a ws.length c, .string p, .bool b, .string s, .int .i64 k, .int .i64 j], .agg #[.slice e ws.length d, .string p, .bool b, .string s, .int .i64 k, .int .i64 j]] w (SPost w) := by
  have hf1 : Fr (fun _ => False) w ((w.alloc (.cells #[.slice a ws.length c, .string p, .bool b, .string s, .int .i64 k, .int .i64 j] 47)).alloc (.cells #[.slice e ws.length d, .string p, .bool b, .string s, .int .i64 k, .int .i64 j] 47)) := ((Fr.refl _ w).alloc _).alloc _
  have hA : Blk ((w.alloc (.cells #[.slice a ws.length c, .string p, .bool b, .string s, .int .i64 k, .int .i64 j] 47)).alloc (.cells #[.slice e ws.length d, .string p, .bool b, .string s, .int .i64 k, .int .i64 j] 47)) w.heap.size #[.slice a ws.length c, .string p, .bool b, .string s, .int .i64 k, .int .i64 j] 47 := (Blk.new w _ _).alloc _
  have hB : Blk ((w.alloc (.cells #[.slice a ws.length c, .string p, .bool b, .string s, .int .i64 k, .int .i64 j] 47)).alloc (.cells #[.slice e ws.length d, .string p, .bool b, .string s, .int .i64 k, .int .i64 j] 47)) (w.heap.size + 1) #[.slice e ws.length d, .string p, .bool b, .string s, .int .i64 k, .int .i64 j] 47 := by
    have := Blk.new (w.alloc (.cells #[.slice a ws.length c, .string p, .bool b, .string s, .int .i64 k, .int .i64 j] 47)) #[.slice e ws.length d, .string p, .bool b, .string s, .int .i64 k, .int .i64 j] 47
    rwa [show (w.alloc (.cells #[.slice a ws.length c, .string p, .bool b, .string s, .int .i64 k, .int .i64 j] 47)).heap.size = w.heap.size + 1 by simp] at this
  have q0 := hA.cell 0 rfl
  have r0 := hB.cell 0 rfl
  have q1 := hA.cell 1 rfl
  have r1 := hB.cell 1 rfl
  have q2 := hA.cell 2 rfl
  have r2 := hB.cell 2 rfl
  have q3 := hA.cell 3 rfl
  have r3 := hB.cell 3 rfl
  have q4 := hA.cell 4 rfl
  have r4 := hB.cell 4 rfl
  have q5 := hA.cell 5 rfl
  have r5 := hB.cell 5 rfl
  go_enter Try.func81, Try.ntmps81
  go_wp2_with fail
  clear q0 r0 q1 r1 q2 r2 q3 r3 q4 r4 q5 r5
  generalize (w.alloc (.cells #[.slice a ws.length c, .string p, .bool b, .string s, .int .i64 k, .int .i64 j] 47)).alloc (.cells #[.slice e ws.length d, .string p, .bool b, .string s, .int .i64 k, .int .i64 j] 47) = w1 at *
  refine (sameWords_any hn (any_row' elemWord h1 hf1) (any_row' elemWord h2 hf1)).mono ?_
  rintro e w2 ⟨rfl, hf2⟩
  have q0 := (hA.fr hf2 id).cell 0 rfl
  have r0 := (hB.fr hf2 id).cell 0 rfl
  have q1 := (hA.fr hf2 id).cell 1 rfl
  have r1 := (hB.fr hf2 id).cell 1 rfl
  have q2 := (hA.fr hf2 id).cell 2 rfl
  have r2 := (hB.fr hf2 id).cell 2 rfl
  have q3 := (hA.fr hf2 id).cell 3 rfl
  have r3 := (hB.fr hf2 id).cell 3 rfl
  have q4 := (hA.fr hf2 id).cell 4 rfl
  have r4 := (hB.fr hf2 id).cell 4 rfl
  have q5 := (hA.fr hf2 id).cell 5 rfl
  have r5 := (hB.fr hf2 id).cell 5 rfl
  go_wp2_with fail
  clear q0 r0 q1 r1 q2 r2 q3 r3 q4 r4 q5 r5
  replace hf1 := hf1.trans hf2
  replace hA := hA.fr hf2 id
  replace hB := hB.fr hf2 id
  go_ret
  exact ⟨rfl, hf1⟩
theorem sameAlt_any {w : World} {x : GAlt} {cs cs' : List Value} (hs : asize x ≤ 1099511627776) (h : RAlt w Any x cs) (h' : RAlt w Any x cs') : Calls Try.prog 81 #[.agg ⟨cs⟩, .agg ⟨cs'⟩] w (SPost w) := by
  obtain ⟨ws, p, b, s, k, j⟩ := x
  obtain ⟨v, rfl, hr⟩ := h
  obtain ⟨v', rfl, hr'⟩ := h'
  obtain ⟨a, c, rfl⟩ := hr.form
  obtain ⟨e, d, rfl⟩ := hr'.form
  unfold asize at hs
  have hs' : wsizes ws ≤ 1099511627776 := by dsimp only at hs; omega
  exact sameAlt_step hr hr' hs'
theorem sameAlts_any {w : World} {v v' : Value} {xs : List GAlt} (hs : asizes xs ≤ 1099511627776) (h : RRow w Any 6 (RAlt w Any) v xs) (h' : RRow w Any 6 (RAlt w Any) v' xs) : Calls Try.prog 68 #[v, v'] w (SPost w) :=
  sameAlts_of (fun x hx w' cs cs' h h' => sameAlt_any (by have := sum_mem (f := asize) hx; unfold asizes at hs; omega) h h') h h' (by have := sum_len (f := asize) (fun x => by unfold asize; omega) xs; unfold asizes at hs; omega)

set_option maxRecDepth 100000 in
set_option maxHeartbeats 1000000 in
theorem sameDecl_step {w : World} {n y : ByteArray} {ns : List ByteArray} {a b : Option Addr} {c d : Nat} {k : Int} (h1 : RRow w Any 1 (EStrs w Any) (.slice a ns.length c) ns) (h2 : RRow w Any 1 (EStrs w Any) (.slice b ns.length d) ns) (hn : ns.length ≤ 1099511627776) :
    Calls Try.prog 51 #[.agg #[.string n, .string y, .slice a ns.length c, .int .i64 k], .agg #[.string n, .string y, .slice b ns.length d, .int .i64 k]] w (SPost w) := by
  have hf1 : Fr (fun _ => False) w ((w.alloc (.cells #[.string n, .string y, .slice a ns.length c, .int .i64 k] 41)).alloc (.cells #[.string n, .string y, .slice b ns.length d, .int .i64 k] 41)) := ((Fr.refl _ w).alloc _).alloc _
  have hA : Blk ((w.alloc (.cells #[.string n, .string y, .slice a ns.length c, .int .i64 k] 41)).alloc (.cells #[.string n, .string y, .slice b ns.length d, .int .i64 k] 41)) w.heap.size #[.string n, .string y, .slice a ns.length c, .int .i64 k] 41 := (Blk.new w _ _).alloc _
  have hB : Blk ((w.alloc (.cells #[.string n, .string y, .slice a ns.length c, .int .i64 k] 41)).alloc (.cells #[.string n, .string y, .slice b ns.length d, .int .i64 k] 41)) (w.heap.size + 1) #[.string n, .string y, .slice b ns.length d, .int .i64 k] 41 := by
    have := Blk.new (w.alloc (.cells #[.string n, .string y, .slice a ns.length c, .int .i64 k] 41)) #[.string n, .string y, .slice b ns.length d, .int .i64 k] 41
    rwa [show (w.alloc (.cells #[.string n, .string y, .slice a ns.length c, .int .i64 k] 41)).heap.size = w.heap.size + 1 by simp] at this
  have q0 := hA.cell 0 rfl
  have r0 := hB.cell 0 rfl
  have q1 := hA.cell 1 rfl
  have r1 := hB.cell 1 rfl
  have q2 := hA.cell 2 rfl
  have r2 := hB.cell 2 rfl
  have q3 := hA.cell 3 rfl
  have r3 := hB.cell 3 rfl
  go_enter Try.func51, Try.ntmps51
  go_wp2_with fail
  clear q0 r0 q1 r1 q2 r2 q3 r3
  generalize (w.alloc (.cells #[.string n, .string y, .slice a ns.length c, .int .i64 k] 41)).alloc (.cells #[.string n, .string y, .slice b ns.length d, .int .i64 k] 41) = w1 at *
  refine (sameTexts_any (any_row' elemStr h1 hf1) (any_row' elemStr h2 hf1) hn).mono ?_
  rintro e w2 ⟨rfl, hf2⟩
  have q0 := (hA.fr hf2 id).cell 0 rfl
  have r0 := (hB.fr hf2 id).cell 0 rfl
  have q1 := (hA.fr hf2 id).cell 1 rfl
  have r1 := (hB.fr hf2 id).cell 1 rfl
  have q2 := (hA.fr hf2 id).cell 2 rfl
  have r2 := (hB.fr hf2 id).cell 2 rfl
  have q3 := (hA.fr hf2 id).cell 3 rfl
  have r3 := (hB.fr hf2 id).cell 3 rfl
  go_wp2_with fail
  clear q0 r0 q1 r1 q2 r2 q3 r3
  replace hf1 := hf1.trans hf2
  replace hA := hA.fr hf2 id
  replace hB := hB.fr hf2 id
  go_ret
  exact ⟨rfl, hf1⟩
theorem sameDecl_any {w : World} {x : GDecl} {cs cs' : List Value} (hs : dsize x ≤ 1099511627776) (h : RDecl w Any x cs) (h' : RDecl w Any x cs') : Calls Try.prog 51 #[.agg ⟨cs⟩, .agg ⟨cs'⟩] w (SPost w) := by
  obtain ⟨n, y, ns, k⟩ := x
  obtain ⟨v, rfl, hr⟩ := h
  obtain ⟨v', rfl, hr'⟩ := h'
  obtain ⟨a, c, rfl⟩ := hr.form
  obtain ⟨b, d, rfl⟩ := hr'.form
  unfold dsize at hs
  have hs' : ns.length ≤ 1099511627776 := by dsimp only at hs; omega
  exact sameDecl_step hr hr' hs'
theorem sameDecls_any {w : World} {v v' : Value} {xs : List GDecl} (hs : dsizes xs ≤ 1099511627776) (h : RRow w Any 4 (RDecl w Any) v xs) (h' : RRow w Any 4 (RDecl w Any) v' xs) : Calls Try.prog 25 #[v, v'] w (SPost w) :=
  sameDecls_of (fun x hx w' cs cs' h h' => sameDecl_any (by have := sum_mem (f := dsize) hx; unfold dsizes at hs; omega) h h') h h' (by have := sum_len (f := dsize) (fun x => by unfold dsize; omega) xs; unfold dsizes at hs; omega)

set_option maxRecDepth 100000 in
set_option maxHeartbeats 1000000 in
theorem sameRule_step {w : World} {n : ByteArray} {ps : List ByteArray} {al : List GAlt} {a b e g : Option Addr} {c d f h : Nat} {k : Int} (h1 : RRow w Any 1 (EStrs w Any) (.slice a ps.length c) ps) (h2 : RRow w Any 1 (EStrs w Any) (.slice e ps.length f) ps) (h3 : RRow w Any 6 (RAlt w Any) (.slice b al.length d) al) (h4 : RRow w Any 6 (RAlt w Any) (.slice g al.length h) al) (hn : ps.length ≤ 1099511627776) (hm : asizes al ≤ 1099511627776) :
    Calls Try.prog 52 #[.agg #[.string n, .slice a ps.length c, .slice b al.length d, .int .i64 k], .agg #[.string n, .slice e ps.length f, .slice g al.length h, .int .i64 k]] w (SPost w) := by
  have hf1 : Fr (fun _ => False) w ((w.alloc (.cells #[.string n, .slice a ps.length c, .slice b al.length d, .int .i64 k] 44)).alloc (.cells #[.string n, .slice e ps.length f, .slice g al.length h, .int .i64 k] 44)) := ((Fr.refl _ w).alloc _).alloc _
  have hA : Blk ((w.alloc (.cells #[.string n, .slice a ps.length c, .slice b al.length d, .int .i64 k] 44)).alloc (.cells #[.string n, .slice e ps.length f, .slice g al.length h, .int .i64 k] 44)) w.heap.size #[.string n, .slice a ps.length c, .slice b al.length d, .int .i64 k] 44 := (Blk.new w _ _).alloc _
  have hB : Blk ((w.alloc (.cells #[.string n, .slice a ps.length c, .slice b al.length d, .int .i64 k] 44)).alloc (.cells #[.string n, .slice e ps.length f, .slice g al.length h, .int .i64 k] 44)) (w.heap.size + 1) #[.string n, .slice e ps.length f, .slice g al.length h, .int .i64 k] 44 := by
    have := Blk.new (w.alloc (.cells #[.string n, .slice a ps.length c, .slice b al.length d, .int .i64 k] 44)) #[.string n, .slice e ps.length f, .slice g al.length h, .int .i64 k] 44
    rwa [show (w.alloc (.cells #[.string n, .slice a ps.length c, .slice b al.length d, .int .i64 k] 44)).heap.size = w.heap.size + 1 by simp] at this
  have q0 := hA.cell 0 rfl
  have r0 := hB.cell 0 rfl
  have q1 := hA.cell 1 rfl
  have r1 := hB.cell 1 rfl
  have q2 := hA.cell 2 rfl
  have r2 := hB.cell 2 rfl
  have q3 := hA.cell 3 rfl
  have r3 := hB.cell 3 rfl
  go_enter Try.func52, Try.ntmps52
  go_wp2_with fail
  clear q0 r0 q1 r1 q2 r2 q3 r3
  generalize (w.alloc (.cells #[.string n, .slice a ps.length c, .slice b al.length d, .int .i64 k] 44)).alloc (.cells #[.string n, .slice e ps.length f, .slice g al.length h, .int .i64 k] 44) = w1 at *
  refine (sameTexts_any (any_row' elemStr h1 hf1) (any_row' elemStr h2 hf1) hn).mono ?_
  rintro e w2 ⟨rfl, hf2⟩
  have q0 := (hA.fr hf2 id).cell 0 rfl
  have r0 := (hB.fr hf2 id).cell 0 rfl
  have q1 := (hA.fr hf2 id).cell 1 rfl
  have r1 := (hB.fr hf2 id).cell 1 rfl
  have q2 := (hA.fr hf2 id).cell 2 rfl
  have r2 := (hB.fr hf2 id).cell 2 rfl
  have q3 := (hA.fr hf2 id).cell 3 rfl
  have r3 := (hB.fr hf2 id).cell 3 rfl
  go_wp2_with fail
  clear q0 r0 q1 r1 q2 r2 q3 r3
  replace hf1 := hf1.trans hf2
  replace hA := hA.fr hf2 id
  replace hB := hB.fr hf2 id
  refine (sameAlts_any hm (any_row' elemAlt h3 hf1) (any_row' elemAlt h4 hf1)).mono ?_
  rintro e w3 ⟨rfl, hf3⟩
  have q0 := (hA.fr hf3 id).cell 0 rfl
  have r0 := (hB.fr hf3 id).cell 0 rfl
  have q1 := (hA.fr hf3 id).cell 1 rfl
  have r1 := (hB.fr hf3 id).cell 1 rfl
  have q2 := (hA.fr hf3 id).cell 2 rfl
  have r2 := (hB.fr hf3 id).cell 2 rfl
  have q3 := (hA.fr hf3 id).cell 3 rfl
  have r3 := (hB.fr hf3 id).cell 3 rfl
  go_wp2_with fail
  clear q0 r0 q1 r1 q2 r2 q3 r3
  replace hf1 := hf1.trans hf3
  replace hA := hA.fr hf3 id
  replace hB := hB.fr hf3 id
  go_ret
  exact ⟨rfl, hf1⟩
theorem sameRule_any {w : World} {x : GRule} {cs cs' : List Value} (hs : rsize x ≤ 1099511627776) (h : RRule w Any x cs) (h' : RRule w Any x cs') : Calls Try.prog 52 #[.agg ⟨cs⟩, .agg ⟨cs'⟩] w (SPost w) := by
  obtain ⟨n, ps, al, k⟩ := x
  obtain ⟨v, u, rfl, hr, hs1⟩ := h
  obtain ⟨v', u', rfl, hr', hs2⟩ := h'
  obtain ⟨a, c, rfl⟩ := hr.form
  obtain ⟨b, d, rfl⟩ := hr'.form
  obtain ⟨a2, c2, rfl⟩ := hs1.form
  obtain ⟨b2, d2, rfl⟩ := hs2.form
  unfold rsize at hs
  have hs' : ps.length ≤ 1099511627776 ∧ asizes al ≤ 1099511627776 := by dsimp only at hs; omega
  exact sameRule_step hr hr' hs1 hs2 hs'.1 hs'.2
theorem sameRules_any {w : World} {v v' : Value} {xs : List GRule} (hs : rsizes xs ≤ 1099511627776) (h : RRow w Any 4 (RRule w Any) v xs) (h' : RRow w Any 4 (RRule w Any) v' xs) : Calls Try.prog 26 #[v, v'] w (SPost w) :=
  sameRules_of (fun x hx w' cs cs' h h' => sameRule_any (by have := sum_mem (f := rsize) hx; unfold rsizes at hs; omega) h h') h h' (by have := sum_len (f := rsize) (fun x => by unfold rsize; omega) xs; unfold rsizes at hs; omega)

set_option maxRecDepth 100000 in
set_option maxHeartbeats 1000000 in
theorem sameSource_any {w : World} {x : GText} {a b e g : Option Addr} {c d f h : Nat} (h1 : RRow w Any 4 (RDecl w Any) (.slice a x.decls.length c) x.decls) (h2 : RRow w Any 4 (RDecl w Any) (.slice e x.decls.length f) x.decls) (h3 : RRow w Any 4 (RRule w Any) (.slice b x.rules.length d) x.rules) (h4 : RRow w Any 4 (RRule w Any) (.slice g x.rules.length h) x.rules) (hn : dsizes x.decls ≤ 1099511627776) (hm : rsizes x.rules ≤ 1099511627776) :
    Calls Try.prog 9 #[.agg #[.slice a x.decls.length c, .slice b x.rules.length d], .agg #[.slice e x.decls.length f, .slice g x.rules.length h]] w (SPost w) := by
  have hf1 : Fr (fun _ => False) w ((w.alloc (.cells #[.slice a x.decls.length c, .slice b x.rules.length d] 25)).alloc (.cells #[.slice e x.decls.length f, .slice g x.rules.length h] 25)) := ((Fr.refl _ w).alloc _).alloc _
  have hA : Blk ((w.alloc (.cells #[.slice a x.decls.length c, .slice b x.rules.length d] 25)).alloc (.cells #[.slice e x.decls.length f, .slice g x.rules.length h] 25)) w.heap.size #[.slice a x.decls.length c, .slice b x.rules.length d] 25 := (Blk.new w _ _).alloc _
  have hB : Blk ((w.alloc (.cells #[.slice a x.decls.length c, .slice b x.rules.length d] 25)).alloc (.cells #[.slice e x.decls.length f, .slice g x.rules.length h] 25)) (w.heap.size + 1) #[.slice e x.decls.length f, .slice g x.rules.length h] 25 := by
    have := Blk.new (w.alloc (.cells #[.slice a x.decls.length c, .slice b x.rules.length d] 25)) #[.slice e x.decls.length f, .slice g x.rules.length h] 25
    rwa [show (w.alloc (.cells #[.slice a x.decls.length c, .slice b x.rules.length d] 25)).heap.size = w.heap.size + 1 by simp] at this
  have q0 := hA.cell 0 rfl
  have r0 := hB.cell 0 rfl
  have q1 := hA.cell 1 rfl
  have r1 := hB.cell 1 rfl
  go_enter Try.func9, Try.ntmps9
  go_wp2_with fail
  clear q0 r0 q1 r1
  generalize (w.alloc (.cells #[.slice a x.decls.length c, .slice b x.rules.length d] 25)).alloc (.cells #[.slice e x.decls.length f, .slice g x.rules.length h] 25) = w1 at *
  refine (sameDecls_any hn (any_row' elemDecl h1 hf1) (any_row' elemDecl h2 hf1)).mono ?_
  rintro e w2 ⟨rfl, hf2⟩
  have q0 := (hA.fr hf2 id).cell 0 rfl
  have r0 := (hB.fr hf2 id).cell 0 rfl
  have q1 := (hA.fr hf2 id).cell 1 rfl
  have r1 := (hB.fr hf2 id).cell 1 rfl
  go_wp2_with fail
  clear q0 r0 q1 r1
  replace hf1 := hf1.trans hf2
  replace hA := hA.fr hf2 id
  replace hB := hB.fr hf2 id
  refine (sameRules_any hm (any_row' elemRule h3 hf1) (any_row' elemRule h4 hf1)).mono ?_
  rintro e w3 ⟨rfl, hf3⟩
  have q0 := (hA.fr hf3 id).cell 0 rfl
  have r0 := (hB.fr hf3 id).cell 0 rfl
  have q1 := (hA.fr hf3 id).cell 1 rfl
  have r1 := (hB.fr hf3 id).cell 1 rfl
  go_wp2_with fail
  clear q0 r0 q1 r1
  replace hf1 := hf1.trans hf3
  replace hA := hA.fr hf3 id
  replace hB := hB.fr hf3 id
  go_ret
  exact ⟨rfl, hf1⟩
end Go.Proofs.Ytejpmdlokmlmeaa
