/- A word is written: what it gives, in plain Lean, and the walk. Conditions: the bytes are at most 2^40. -/
import Derived.Test.YtejpmdlokmlmeaaWriteE
import Derived.Test.YtejpmdlokmlmeaaReadB
import Derived.StillTailTactics
set_option linter.unusedVariables false
set_option linter.unusedSimpArgs false
namespace Go.Proofs.Ytejpmdlokmlmeaa
open Go.RowKit

def rowL (xs : List (List UInt8)) : List UInt8 := rowOut xs.length (fun i => xs.getD i [])
mutual
def wordOut : GWord → List UInt8
  | .mk n args _ => n.data.toList ++ rowL (wordsOut args)
def wordsOut : List GWord → List (List UInt8)
  | [] => []
  | x :: l => wordOut x :: wordsOut l
end
mutual
def wordOk : GWord → Nat → Bool
  | .mk n args _, d => decide (d ≤ 60) && (nameB n && wordsOk args (d + 1))
def wordsOk : List GWord → Nat → Bool
  | [], _ => true
  | x :: l, d => wordOk x d && wordsOk l d
end
theorem wordsOut_map (l : List GWord) : wordsOut l = l.map wordOut := by
  induction l with
  | nil => rfl
  | cons x l ih => rw [wordsOut, ih]; rfl
theorem wordsOk_all (l : List GWord) (d : Nat) : wordsOk l d = l.all (wordOk · d) := by
  induction l with
  | nil => rfl
  | cons x l ih => rw [wordsOk, ih]; rfl
def noWord : GWord := .mk ⟨#[]⟩ [] 0
theorem okTo_all {l : List GWord} {d : Nat} : okTo (fun i => wordOk (l.getD i noWord) d) l.length = l.all (wordOk · d) := by
  have h : ∀ n, n ≤ l.length → okTo (fun i => wordOk (l.getD i noWord) d) n = (l.take n).all (wordOk · d) := by
    intro n
    induction n with
    | zero => intro _; rfl
    | succ n ih => intro hn; rw [okTo, ih (by omega), take_snoc_getD l n noWord (by omega), List.all_append]; simp
  rw [h _ (Nat.le_refl _), List.take_length]

theorem moreOut_congr {f g : Nat → List UInt8} : ∀ {n : Nat}, (∀ i, i < n → f i = g i) → moreOut f n = moreOut g n := by
  intro n
  induction n with
  | zero => intro _; rfl
  | succ n ih => intro h; rw [moreOut, moreOut, ih (fun i hi => h i (by omega)), h n (by omega)]
theorem rowOut_congr {f g : Nat → List UInt8} {n : Nat} (h : ∀ i, i < n → f i = g i) : rowOut n f = rowOut n g := by
  unfold rowOut
  rw [moreOut_congr h]
theorem moreOut_len (f : Nat → List UInt8) (n : Nat) : n ≤ (moreOut f n).length := by
  induction n with
  | zero => exact Nat.zero_le _
  | succ n ih =>
    rw [moreOut, List.length_append, List.length_append]
    have : 1 ≤ (if n = 0 then [40] else [44, 32] : List UInt8).length := by split <;> simp
    omega
theorem rowOut_len (n : Nat) (f : Nat → List UInt8) : n ≤ (rowOut n f).length := by
  unfold rowOut
  split
  · omega
  · have := moreOut_len f n
    simp
    omega
theorem mkFunc_run (fn : Fn) (first cap : Array Value) (w : World) : (Instr.makeFunc fn first cap).run Try.prog w = .ok (.func fn first cap) w := rfl

/-- Words in a row that lies ahead of the writer. -/
def WRow (b : Nat) (w : World) (v : Value) (xs : List GWord) : Prop := RRow w (· < b) 3 (RWord w (· < b)) v xs
theorem WRow.wf {b : Nat} {w w' : World} {v : Value} {xs : List GWord} (h : WRow b w v xs) (hf : Wf b w w') : WRow b w' v xs :=
  RRow.fr (E' := RWord w' (· < b)) h hf.low (fun k hk hlt e => by omega) (fun x cs h => h.fr hf.low (fun k hk hlt e => by omega))
/-- One of them. -/
theorem WRow.get {b : Nat} {w : World} {v : Value} {xs : List GWord} (h : WRow b w v xs) {j : Nat} (hj : j < xs.length) :
    ∃ k off c n args at_ a ac, v = .slice (some ⟨k, off, none⟩) xs.length c ∧ xs.getD j noWord = .mk n args at_ ∧ WRow b w (.slice a args.length ac) args ∧
      w.cell? ⟨k, off + j * 3, none⟩ = some (.string n) ∧ w.cell? ⟨k, off + j * 3 + 1, none⟩ = some (.slice a args.length ac) ∧ w.cell? ⟨k, off + j * 3 + 2, none⟩ = some (.int .i64 at_) := by
  obtain ⟨a0, c, css, hv, hl, hr, he⟩ := h
  obtain ⟨k, off, ha, -, -, hlen, hc⟩ := hr j hj
  subst ha
  have hx : xs[j]? = some (xs.getD j noWord) := by simp [List.getD_eq_getElem?_getD, hj]
  cases hxe : xs.getD j noWord with | mk n args at_ =>
  rw [hxe] at hx
  obtain ⟨u, hu, hrow⟩ := RWord.row.1 (he j _ hx)
  obtain ⟨a, ac, css', rfl, hrest⟩ := hrow
  exact ⟨k, off, c, n, args, at_, a, ac, hv, rfl, ⟨a, ac, css', rfl, hrest⟩, hc 0 _ (by rw [hu]; rfl), hc 1 _ (by rw [hu]; rfl), hc 2 _ (by rw [hu]; rfl)⟩

theorem sizeOf_getD {l : List GWord} {j : Nat} {n : ByteArray} {a : Int} (h : j < l.length) : SizeOf.sizeOf (l.getD j noWord) < SizeOf.sizeOf (GWord.mk n l a) := by
  have : l.getD j noWord ∈ l := by
    rw [List.getD_eq_getElem?_getD, List.getElem?_eq_getElem h]
    exact List.getElem_mem h
  have := List.sizeOf_lt_of_mem this
  simp only [GWord.mk.sizeOf_spec]
  omega
def WordW (m : Nat) : Prop := ∀ {w : World} {b : Nat} {acc : List UInt8} {n : ByteArray} {args : List GWord} {at_ : Int} {a : Option Addr} {ac : Nat} {d : Nat} {z : Int}, SizeOf.sizeOf (GWord.mk n args at_) < m → z = (d : Int) → d ≤ 1000 → HM w → 0 < b → WB w b acc → WRow b w (.slice a args.length ac) args →
    acc.length + (wordOut (.mk n args at_)).length ≤ 1099511627776 → Calls Try.prog 57 #[.pointer (some ⟨b, 0, none⟩), .agg #[.string n, .slice a args.length ac, .int .i64 at_], .int .i64 z] w (WPost b acc w (wordOk (.mk n args at_) d) (wordOut (.mk n args at_)))
/-- What stands while a word's own words are written. -/
def WwInv (b N : Nat) (n : ByteArray) (a : Option Addr) (ac : Nat) (args : List GWord) (at_ : Int) (d : Nat) (w : World) : Prop :=
  HM w ∧ Blk w N #[.pointer (some ⟨b, 0, none⟩)] 54 ∧ Blk w (N + 1) #[.string n, .slice a args.length ac, .int .i64 at_] 50 ∧ Blk w (N + 1 + 1) #[.int .i64 d] 3 ∧ WRow b w (.slice a args.length ac) args ∧ 0 < b ∧ b < N
theorem WwInv.wf {b N : Nat} {n : ByteArray} {a : Option Addr} {ac : Nat} {args : List GWord} {at_ : Int} {d : Nat} {w w' : World} (h : WwInv b N n a ac args at_ d w) (hf : Wf b w w') : WwInv b N n a ac args at_ d w' := by
  obtain ⟨h1, h2, h3, h4, h5, h6, h7⟩ := h
  exact ⟨h1.wf hf h6, hf.keep h2 (by decide) (by omega), hf.keep h3 (by decide) (by omega), hf.keep h4 (by decide) (by omega), h5.wf hf, h6, h7⟩

set_option maxRecDepth 100000 in
set_option maxHeartbeats 1000000 in
theorem wword_part {m b N : Nat} {n : ByteArray} {a : Option Addr} {ac : Nat} {args : List GWord} {at_ : Int} {d : Nat} (IH : WordW m) (hs : SizeOf.sizeOf (GWord.mk n args at_) ≤ m) (hd : d ≤ 60) {w : World} {acc : List UInt8} {i : Nat} {z : Int} (hz : z = (i : Int)) (h : WwInv b N n a ac args at_ d w) (hw : WB w b acc) (hi : i < args.length)
    (hlen : acc.length + (wordOut (args.getD i noWord)).length ≤ 1099511627776) :
    Calls Try.prog 72 (#[.int .i64 z] ++ #[.pointer (some ⟨N, 0, none⟩), .pointer (some ⟨N + 1, 0, none⟩), .pointer (some ⟨N + 1 + 1, 0, none⟩)]) w (WPost b acc w (wordOk (args.getD i noWord) (d + 1)) (wordOut (args.getD i noWord))) := by
  subst hz
  obtain ⟨h1, h2, h3, h4, h5, h6, h7⟩ := h
  obtain ⟨k, off, c, n1, args1, at1, a1, ac1, hv, hx, hr1, c0, c1, c2⟩ := h5.get hi
  injection hv with hv1 hv2 hv3
  subst hv1 hv3
  clear hv2
  have hsz := sizeOf_getD (n := n) (a := at_) hi
  rw [hx] at hsz hlen ⊢
  have x0 := h2.cell 0 rfl
  have x1 := h3.cell 1 rfl
  have x2 := h4.cell 0 rfl
  have hwr : IntKind.i64.wrap ((d : Int) + 1) = (d : Int) + 1 := IntWalk.i64_in _ (by omega)
  have hi0 : (0 : Int) ≤ (i : Int) := by omega
  have hi1 : (i : Int) < (args.length : Int) := by omega
  clear h2 h3 h4 h5 hi
  have HX := Lib.hid hx
  clear hx
  go_enter Try.func72, Try.ntmps72
  go_still_tail 8, (by kernel_rfl)
  change wpList _ _ _ _ _ w.drew
  have hfd : Wf b w w.drew := (Wf.refl b w).drew
  have h1d : HM w.drew := h1.wf hfd h6
  have hrd : WRow b w.drew (.slice a1 args1.length ac1) args1 := hr1.wf hfd
  have hwd : WB w.drew b acc := hw
  clear c0 c1 c2 x0 x1 x2 hwr hi0 hi1 h1 hr1 hw
  go_wp2_with fail
  refine WPost.call (IH (d := d + 1) (by omega) (by omega) (by omega) h1d h6 hwd hrd hlen) ?_ ?_
  · intro w2 hq hf2
    exact ⟨rfl, WPost.bad hq.out (hfd.trans hf2) rfl⟩
  intro w2 hq hf2 hw2
  go_wp2_with fail
  go_end0
  exact WPost.good hq.out (hfd.trans hf2) rfl hw2

set_option maxRecDepth 100000 in
set_option maxHeartbeats 1000000 in
theorem wword_step (m : Nat) (IH : WordW m) : WordW (m + 1) := by
  intro w b acc n args at_ a ac d z hs hz hd hm hb hw hr hlen
  subst hz
  have hout : wordOut (.mk n args at_) = namesOut ⟨#[]⟩ [n] ++ rowOut args.length (fun i => wordOut (args.getD i noWord)) := by
    rw [wordOut, namesOut_one, rowL, wordsOut_map, List.length_map]
    congr 1
    exact rowOut_congr (fun i hi => by simp [List.getD_eq_getElem?_getD, hi])
  have hok : wordOk (.mk n args at_) d = (decide (d ≤ 60) && (nameB n && okTo (fun i => wordOk (args.getD i noWord) (d + 1)) args.length)) := by
    rw [wordOk, okTo_all, wordsOk_all]
  rw [hout] at hlen ⊢
  rw [List.length_append] at hlen
  have HO := Lib.hid hok
  clear hok hout
  have hlb := hw.lt
  have hf1 : Wf b w (((w.alloc (.cells #[.pointer (some ⟨b, 0, none⟩)] 54)).alloc (.cells #[.string n, .slice a args.length ac, .int .i64 at_] 50)).alloc (.cells #[.int .i64 d] 3)) := (((Wf.refl b w).alloc _).alloc _).alloc _
  have hw1 : WB (((w.alloc (.cells #[.pointer (some ⟨b, 0, none⟩)] 54)).alloc (.cells #[.string n, .slice a args.length ac, .int .i64 at_] 50)).alloc (.cells #[.int .i64 d] 3)) b acc := ((hw.alloc _).alloc _).alloc _
  have hI1 : WwInv b w.heap.size n a ac args at_ d (((w.alloc (.cells #[.pointer (some ⟨b, 0, none⟩)] 54)).alloc (.cells #[.string n, .slice a args.length ac, .int .i64 at_] 50)).alloc (.cells #[.int .i64 d] 3)) := by
    refine ⟨hm.wf hf1 hb, ((Blk.new w _ _).alloc _).alloc _, ?_, ?_, hr.wf hf1, hb, hlb⟩
    · have := (Blk.new (w.alloc (.cells #[.pointer (some ⟨b, 0, none⟩)] 54)) #[.string n, .slice a args.length ac, .int .i64 at_] 50).alloc (.cells #[.int .i64 d] 3)
      rwa [show (w.alloc (.cells #[.pointer (some ⟨b, 0, none⟩)] 54)).heap.size = w.heap.size + 1 by simp] at this
    · have := Blk.new ((w.alloc (.cells #[.pointer (some ⟨b, 0, none⟩)] 54)).alloc (.cells #[.string n, .slice a args.length ac, .int .i64 at_] 50)) #[.int .i64 d] 3
      rwa [show ((w.alloc (.cells #[.pointer (some ⟨b, 0, none⟩)] 54)).alloc (.cells #[.string n, .slice a args.length ac, .int .i64 at_] 50)).heap.size = w.heap.size + 1 + 1 by simp] at this
  have hsa := rowOut_len args.length (fun i => wordOut (args.getD i noWord))
  have hmf := mkFunc_run
  clear hm hw hr
  have HS := Lib.hid (show (((w.alloc (.cells #[.pointer (some ⟨b, 0, none⟩)] 54)).alloc (.cells #[.string n, .slice a args.length ac, .int .i64 at_] 50)).alloc (.cells #[.int .i64 d] 3)).heap.size = w.heap.size + 1 + 1 + 1 by simp)
  by_cases hd6 : d ≤ 60
  · have hd6' : decide ((d : Int) ≤ 60) = true := decide_eq_true (by omega)
    go_enter Try.func57, Try.ntmps57
    go_wp2_with fail
    generalize ((w.alloc (.cells #[.pointer (some ⟨b, 0, none⟩)] 54)).alloc (.cells #[.string n, .slice a args.length ac, .int .i64 at_] 50)).alloc (.cells #[.int .i64 d] 3) = w1 at *
    refine (must_one true (n := 1) HS.out rfl).mono ?_
    rintro e w2 ⟨he, rfl⟩
    rcases he with ⟨-, rfl⟩ | ⟨h, -⟩
    rotate_left
    · cases h
    have hf2 := hf1.alloc (.cells #[.bool true] 4)
    have hw2 := hw1.alloc (.cells #[.bool true] 4)
    have hI2 := hI1.wf ((Wf.refl b w1).alloc (.cells #[.bool true] 4))
    clear hf1 hw1 hI1 HS hd6'
    generalize w1.alloc (.cells #[.bool true] 4) = w2 at *
    obtain ⟨hm2, x0, x1, x2, -⟩ := id hI2
    have c0 := x0.cell 0 rfl
    have c1 := x1.cell 0 rfl
    clear x0 x1 x2
    go_wp2_with fail
    refine WPost.call (names_any (hm2.alloc _) hb (hw2.alloc _) ⟨#[]⟩ (SRow.lit w2 [n] (n := 1) rfl rfl rfl hw2.lt) (by simp) (by omega)) ?_ ?_
    · intro w4 hq hf4
      refine ⟨rfl, WPost.bad ?_ ((hf2.alloc _).trans hf4) rfl⟩
      have hq' : nameB n = false := by simpa using hq.out
      rw [HO.out, hq']
      simp
    intro w4 hq hf4 hw4
    have hf24 : Wf b w2 w4 := ((Wf.refl b w2).alloc _).trans hf4
    have hI4 := hI2.wf hf24
    have hf04 := hf2.trans hf24
    clear hI2 hw2 hf4 hf24 hm2 c0 c1 hf2
    obtain ⟨hm4, x0, x1, x2, -⟩ := id hI4
    have c0 := x0.cell 0 rfl
    have c1 := x1.cell 1 rfl
    clear x0 x1 x2 hm4
    go_wp2_with fail
    refine WPost.call (row_any (n := args.length) (ok := fun i => wordOk (args.getD i noWord) (d + 1)) (out := fun i => wordOut (args.getD i noWord)) hw4 (Inv := WwInv b w.heap.size n a ac args at_ d) ⟨fun hz hI hw hi hl => wword_part IH (by omega) hd6 hz hI hw hi hl, fun hI hf => hI.wf hf, fun args w => by kernel_rfl⟩ hI4 (by omega) (by rw [List.length_append]; omega)) ?_ ?_
    · intro w6 hq6 hf6
      refine ⟨rfl, WPost.bad ?_ (hf04.trans hf6) rfl⟩
      rw [HO.out, hq6.out]
      simp
    intro w6 hq6 hf6 hw6
    go_wp2_with fail
    go_end0
    refine WPost.good ?_ (hf04.trans hf6) rfl (by rw [← List.append_assoc]; exact hw6)
    have hq' : nameB n = true := by simpa using hq.out
    rw [HO.out, hq6.out, hq', decide_eq_true hd6]
    rfl
  · have hd6' : decide ((d : Int) ≤ 60) = false := decide_eq_false (by omega)
    go_enter Try.func57, Try.ntmps57
    go_wp2_with fail
    generalize ((w.alloc (.cells #[.pointer (some ⟨b, 0, none⟩)] 54)).alloc (.cells #[.string n, .slice a args.length ac, .int .i64 at_] 50)).alloc (.cells #[.int .i64 d] 3) = w1 at *
    refine (must_one false (n := 1) HS.out rfl).mono ?_
    rintro e w2 ⟨he, rfl⟩
    rcases he with ⟨h, -⟩ | ⟨-, rfl⟩
    · cases h
    refine ⟨rfl, WPost.bad ?_ (hf1.alloc _) rfl⟩
    rw [HO.out, decide_eq_false hd6]
    rfl
theorem wword_any (m : Nat) : WordW m := by
  induction m with
  | zero => intro w b acc n args at_ a ac d z hs; omega
  | succ m ih => exact wword_step m ih
end Go.Proofs.Ytejpmdlokmlmeaa
