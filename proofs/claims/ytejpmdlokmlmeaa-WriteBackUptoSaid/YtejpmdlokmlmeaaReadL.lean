/- A rule is read: what it gives, in plain Lean, and the walk. Conditions: the reader's block over a row of tokens, at a place within. -/
import Derived.Test.YtejpmdlokmlmeaaReadK
import Derived.Test.YtejpmdlokmlmeaaOrdE
set_option linter.unusedVariables false
set_option linter.unusedSimpArgs false
namespace Go.Proofs.Ytejpmdlokmlmeaa
open Go.RowKit

def ruleS (l : List Tk) : RE (GRule × List Tk) := do
  let (n, l1) ← nameS l
  let (ps, l2) ← givenS nameS l1
  let (_, l3) ← mustS 6 [⟨#[58]⟩] l2
  let (al, l4) ← listS ⟨#[124]⟩ altS l3
  let (_, l5) ← mustS 6 [⟨#[59]⟩] l4
  .ok (⟨n, ps, al, (hd l).at_⟩, l5)
def set4 (w : World) (T : Nat) (a b c d : Value) : World := (((w.setCell ⟨T, 0, none⟩ a).setCell ⟨T, 1, none⟩ b).setCell ⟨T, 2, none⟩ c).setCell ⟨T, 3, none⟩ d
theorem Mk.fin4 {w0 w : World} {r R cap pos T : Nat} {cur : Array Value} {toks : List Tk} (h : Mk w0 w r R cap cur toks pos) (hT : w0.heap.size ≤ T) (a b c d : Value) : Mk w0 (set4 w T a b c d) r R cap cur toks pos :=
  (((h.far (p := ⟨T, 0, none⟩) hT a).far (p := ⟨T, 1, none⟩) hT b).far (p := ⟨T, 2, none⟩) hT c).far (p := ⟨T, 3, none⟩) hT d
theorem Blk.far4 {w : World} {T B : Nat} {cs : Array Value} {ty : TypeId} (h : Blk w B cs ty) (hT : T ≠ B) (a b c d : Value) : Blk (set4 w T a b c d) B cs ty :=
  (((h.far (p := ⟨T, 0, none⟩) hT a).far (p := ⟨T, 1, none⟩) hT b).far (p := ⟨T, 2, none⟩) hT c).far (p := ⟨T, 3, none⟩) hT d
theorem Blk.set4 {w : World} {T : Nat} {x0 x1 x2 x3 : Value} {ty : TypeId} (h : Blk w T #[x0, x1, x2, x3] ty) (a b c d : Value) : Blk (set4 w T a b c d) T #[a, b, c, d] ty :=
  (((h.set 0 a rfl).set 1 b rfl).set 2 c rfl).set 3 d rfl

set_option maxRecDepth 100000 in
set_option maxHeartbeats 0 in
theorem rule_any {w : World} {r R cap pos : Nat} {cur : Array Value} {toks : List Tk} (h : RIn w r R cap cur toks pos) (hend : ∀ t, toks.getLast? = some t → t.kind = 7) :
    Calls Try.prog 24 #[.pointer (some ⟨r, 0, none⟩)] w (RPost (· = r) w r R cap cur toks (ruleS (toks.drop pos)) (fun x v w' => RAgg (RRule w' (w.heap.size ≤ ·) x) v)) := by
  have hf1 := field_at
  have hMa := ((Mk.start h).alloc (.cells #[.pointer (some ⟨r, 0, none⟩)] 68)).alloc (.cells #[.string ⟨#[]⟩, .slice none 0 0, .slice none 0 0, .int .i64 0] 44)
  have hNa := (Blk.new w #[.pointer (some ⟨r, 0, none⟩)] 68).alloc (.cells #[.string ⟨#[]⟩, .slice none 0 0, .slice none 0 0, .int .i64 0] 44)
  have hDa := Blk.new (w.alloc (.cells #[.pointer (some ⟨r, 0, none⟩)] 68)) #[.string ⟨#[]⟩, .slice none 0 0, .slice none 0 0, .int .i64 0] 44
  rw [show (w.alloc (.cells #[.pointer (some ⟨r, 0, none⟩)] 68)).heap.size = w.heap.size + 1 by simp] at hDa
  have hr0 := hMa.r0
  have hmf := makeFunc_run
  clear h
  go_enter Try.func24, Try.ntmps24
  go_wp2_with fail
  generalize (w.alloc (.cells #[.pointer (some ⟨r, 0, none⟩)] 68)).alloc (.cells #[.string ⟨#[]⟩, .slice none 0 0, .slice none 0 0, .int .i64 0] 44) = wa at *
  obtain ⟨N, hNe⟩ : ∃ N, N = w.heap.size := ⟨_, rfl⟩
  rw [← hNe] at hNa hDa hr0 ⊢
  obtain ⟨D, hDe⟩ : ∃ D, D = N + 1 := ⟨_, rfl⟩
  rw [← hDe] at hDa ⊢
  have hND : N < D := by omega
  have hN0 : w.heap.size ≤ N := by omega
  have hDW := Lib.hid (show D = w.heap.size + 1 by omega)
  clear hNe hDe
  obtain ⟨at0, ha0⟩ : ∃ a, a = (hd (toks.drop pos)).at_ := ⟨_, rfl⟩
  have Ha0 := Lib.hid ha0
  clear ha0
  have HB := Lib.hid (show ∀ m a, nameS (toks.drop pos) = .error (m, a) → ruleS (toks.drop pos) = .error (m, a) from fun m a h => by rw [ruleS, h, exErr])
  go_upto_region 2 with fail
  go_cut [3] from 4 to 11 (fun u wx => ∃ T n l1 p1, u = .pointer (some ⟨T, 0, none⟩) ∧ Aside (nameS (toks.drop pos) = .ok (n, l1)) ∧ Mk w wx r R cap cur toks p1 ∧ Aside (toks.drop p1 = l1) ∧ Blk wx N #[.pointer (some ⟨r, 0, none⟩)] 68 ∧ Blk wx D #[.string ⟨#[]⟩, .slice none 0 0, .slice none 0 0, .int .i64 0] 44 ∧ Blk wx T #[.string n, .slice none 0 0, .slice none 0 0, .int .i64 (hd (toks.drop pos)).at_] 44 ∧ N < T ∧ D < T)
  case first =>
    have hMb := hMa.drew
    have hNb : Blk wa.drew N _ _ := hNa
    have hDb : Blk wa.drew D _ _ := hDa
    have hS0 : (fun w' : World => w'.cell? ⟨N, 0, none⟩ = some (.pointer (some ⟨r, 0, none⟩))) wa.drew := hNb.cell 0 rfl
    refine wp_region_E (S := fun w' : World => w'.cell? ⟨N, 0, none⟩ = some (.pointer (some ⟨r, 0, none⟩))) (e := 9) (by kernel_rfl) ?_
    generalize wa.drew = b at *
    refine wpAnyE_take (i := 0) (v := ?_) rfl (by kernel_rfl) (by kernel_rfl) (by kernel_rfl) (fun _ _ _ h => h) (by decide) rfl (by kernel_rfl) (by kernel_rfl) (Or.inl ⟨by rfl, ?_⟩) hS0 ?_
    rotate_left
    · intro wq hSw
      replace hSw : wq.cell? ⟨N, 0, none⟩ = some (.pointer (some ⟨r, 0, none⟩)) := hSw
      go_simp
      try with_reducible rfl
    try simp only [Act.put, List.setIfInBounds_toArray, List.set_cons_zero, List.set_cons_succ]
    refine wpAnyE_take (i := 1) (v := ?_) rfl (by kernel_rfl) (by kernel_rfl) (by kernel_rfl) (fun _ _ _ h => h) (by decide) rfl (by kernel_rfl) (by kernel_rfl) (Or.inl ⟨by rfl, ?_⟩) hS0 ?_
    rotate_left
    · intro wq hSw
      replace hSw : wq.cell? ⟨N, 0, none⟩ = some (.pointer (some ⟨r, 0, none⟩)) := hSw
      go_simp
      try with_reducible rfl
    try simp only [Act.put, List.setIfInBounds_toArray, List.set_cons_zero, List.set_cons_succ]
    refine wpAnyE_take (i := 2) (v := ?_) rfl (by kernel_rfl) (by kernel_rfl) (by kernel_rfl) (fun _ _ _ h => h) (by decide) rfl (by kernel_rfl) (by kernel_rfl) (Or.inl ⟨by rfl, ?_⟩) hS0 ?_
    rotate_left
    · intro wq hSw
      replace hSw : wq.cell? ⟨N, 0, none⟩ = some (.pointer (some ⟨r, 0, none⟩)) := hSw
      go_simp
      try with_reducible rfl
    try simp only [Act.put, List.setIfInBounds_toArray, List.set_cons_zero, List.set_cons_succ]
    refine wpAnyE_take (i := 5) (v := ?_) rfl (by kernel_rfl) (by kernel_rfl) (by kernel_rfl) (fun _ _ _ h => h) (by decide) rfl (by kernel_rfl) (by kernel_rfl) (Or.inl ⟨by rfl, ?_⟩) hS0 ?_
    rotate_left
    · intro wq hSw
      replace hSw : wq.cell? ⟨N, 0, none⟩ = some (.pointer (some ⟨r, 0, none⟩)) := hSw
      go_simp
      try with_reducible rfl
    try simp only [Act.put, List.setIfInBounds_toArray, List.set_cons_zero, List.set_cons_succ]
    refine wpAnyE_all (rs := [3, 8]) (by kernel_rfl) (by simp) ?_
    intro j hj
    rcases List.mem_cons.1 hj with rfl | hj
    · skip
      refine wpOp_step rfl (fun K hK => ?_)
      go_simp
      refine (next_any hMb.rin).mono ?_
      rintro e c ⟨rfl, hfc⟩
      have hMc := hMb.still hfc
      have hNc := hNb.fr hfc id
      have hDc := hDb.fr hfc id
      have hSc : (fun w' : World => w'.cell? ⟨N, 0, none⟩ = some (.pointer (some ⟨r, 0, none⟩))) c := hNc.cell 0 rfl
      refine hK _ _ ⟨fun _ => hSc, ?_⟩
      clear hK K
      try simp only [Act.put, List.setIfInBounds_toArray, List.set_cons_zero, List.set_cons_succ]
      refine wpAnyE_take (i := 4) (v := ?_) rfl (by kernel_rfl) (by kernel_rfl) (by kernel_rfl) (fun _ _ _ h => h) (by decide) rfl (by kernel_rfl) (by kernel_rfl) (Or.inl ⟨by rfl, ?_⟩) hSc ?_
      rotate_left
      · intro wq hSw
        replace hSw : wq.cell? ⟨N, 0, none⟩ = some (.pointer (some ⟨r, 0, none⟩)) := hSw
        go_simp
        try with_reducible rfl
      try simp only [Act.put, List.setIfInBounds_toArray, List.set_cons_zero, List.set_cons_succ]
      refine wpAnyE_all (rs := [6, 8]) (by kernel_rfl) (by simp) ?_
      intro j hj
      rcases List.mem_cons.1 hj with rfl | hj
      · skip
        refine wpOp_step rfl (fun K hK => ?_)
        go_simp
        refine RPost.call (name_tok hMc.rin hend) (fun w9 m a H4 hf8 => ⟨rfl, RPost.bad (HB.out _ _ H4.out) (hMc.fin.trans hf8) rfl⟩) ?_
        intro d x l1 vx p1 H4 hfd hvx hrd H5
        subst hvx
        have hMd := hMc.step hfd hrd
        have hNd := hNc.fr hfd (by show ¬ N = r; omega)
        have hDd := hDc.fr hfd (by show ¬ D = r; omega)
        have hSd : (fun w' : World => w'.cell? ⟨N, 0, none⟩ = some (.pointer (some ⟨r, 0, none⟩))) d := hNd.cell 0 rfl
        have hszd := hfd.size
        refine hK _ _ ⟨fun _ => hSd, ?_⟩
        clear hK K
        try simp only [Act.put, List.setIfInBounds_toArray, List.set_cons_zero, List.set_cons_succ]
        refine wpAnyE_take (i := 7) (v := ?_) rfl (by kernel_rfl) (by kernel_rfl) (by kernel_rfl) (fun _ _ _ h => h) (by decide) rfl (by kernel_rfl) (by kernel_rfl) (Or.inl ⟨by rfl, ?_⟩) hSd ?_
        rotate_left
        · intro wq hSw
          replace hSw : wq.cell? ⟨N, 0, none⟩ = some (.pointer (some ⟨r, 0, none⟩)) := hSw
          go_simp
          try with_reducible rfl
        try simp only [Act.put, List.setIfInBounds_toArray, List.set_cons_zero, List.set_cons_succ]
        refine wpAnyE_all (rs := [8]) (by kernel_rfl) (by simp) ?_
        intro j hj
        rcases List.mem_singleton.1 hj with rfl
        refine wpOp_step rfl (fun K hK => ?_)
        go_simp
        have hMe := hMd.alloc (.cells #[.string ⟨#[]⟩, .slice none 0 0, .slice none 0 0, .int .i64 0] 44)
        have hNe := hNd.alloc (.cells #[.string ⟨#[]⟩, .slice none 0 0, .slice none 0 0, .int .i64 0] 44)
        have hDe := hDd.alloc (.cells #[.string ⟨#[]⟩, .slice none 0 0, .slice none 0 0, .int .i64 0] 44)
        have hTe := Blk.new d #[.string ⟨#[]⟩, .slice none 0 0, .slice none 0 0, .int .i64 0] 44
        have hle := hDd.lt
        have hke := hNd.lt
        have hSe : (fun w' : World => w'.cell? ⟨N, 0, none⟩ = some (.pointer (some ⟨r, 0, none⟩))) (d.alloc (.cells #[.string ⟨#[]⟩, .slice none 0 0, .slice none 0 0, .int .i64 0] 44)) := hNe.cell 0 rfl
        refine hK _ _ ⟨fun _ => hSe, ?_⟩
        have hze : (d.alloc (.cells #[.string ⟨#[]⟩, .slice none 0 0, .slice none 0 0, .int .i64 0] 44)).heap.size = d.heap.size + 1 := by simp
        generalize d.alloc (.cells #[.string ⟨#[]⟩, .slice none 0 0, .slice none 0 0, .int .i64 0] 44) = e at *
        generalize d.heap.size = T at *
        clear hK K
        try simp only [Act.put, List.setIfInBounds_toArray, List.set_cons_zero, List.set_cons_succ]
        refine wpAnyE_all (rs := [9]) (by kernel_rfl) (by simp) ?_
        intro j hj
        rcases List.mem_singleton.1 hj with rfl
        have q0 := hTe.cell 0 rfl
        have q1 := hTe.cell 1 rfl
        have q2 := hTe.cell 2 rfl
        have q3 := hTe.cell 3 rfl
        have q4 := hTe.frozen 0
        have q5 := hTe.frozen 1
        have q6 := hTe.frozen 2
        have q7 := hTe.frozen 3
        refine wpOp_step rfl (fun K hK => ?_)
        go_simp
        refine hK _ _ ⟨fun h => (Bool.false_ne_true (h.symm.trans (by kernel_rfl))).elim, ?_⟩
        clear hK K
        try simp only [Act.put, List.setIfInBounds_toArray, List.set_cons_zero, List.set_cons_succ]
        refine wpAnyE_done (by kernel_rfl) ?_ _
        go_wp2_with fail
        go_meet
        exact ⟨T, x, l1, p1, rfl, H4.out, hMe.fin4 (by omega) _ _ _ _, H5.out, hNe.far4 (by omega) _ _ _ _, hDe.far4 (by omega) _ _ _ _, hTe.set4 _ _ _ _, by omega, by omega⟩
      · rcases List.mem_singleton.1 hj with rfl
        refine wpOp_step rfl (fun K hK => ?_)
        go_simp
        have hMd := hMc.alloc (.cells #[.string ⟨#[]⟩, .slice none 0 0, .slice none 0 0, .int .i64 0] 44)
        have hNd := hNc.alloc (.cells #[.string ⟨#[]⟩, .slice none 0 0, .slice none 0 0, .int .i64 0] 44)
        have hDd := hDc.alloc (.cells #[.string ⟨#[]⟩, .slice none 0 0, .slice none 0 0, .int .i64 0] 44)
        have hTd := Blk.new c #[.string ⟨#[]⟩, .slice none 0 0, .slice none 0 0, .int .i64 0] 44
        have hld := hDc.lt
        have hkd := hNc.lt
        have hSd : (fun w' : World => w'.cell? ⟨N, 0, none⟩ = some (.pointer (some ⟨r, 0, none⟩))) (c.alloc (.cells #[.string ⟨#[]⟩, .slice none 0 0, .slice none 0 0, .int .i64 0] 44)) := hNd.cell 0 rfl
        refine hK _ _ ⟨fun _ => hSd, ?_⟩
        have hzd : (c.alloc (.cells #[.string ⟨#[]⟩, .slice none 0 0, .slice none 0 0, .int .i64 0] 44)).heap.size = c.heap.size + 1 := by simp
        generalize c.alloc (.cells #[.string ⟨#[]⟩, .slice none 0 0, .slice none 0 0, .int .i64 0] 44) = d at *
        generalize c.heap.size = T at *
        clear hK K
        try simp only [Act.put, List.setIfInBounds_toArray, List.set_cons_zero, List.set_cons_succ]
        refine wpAnyE_all (rs := [6]) (by kernel_rfl) (by simp) ?_
        intro j hj
        rcases List.mem_singleton.1 hj with rfl
        refine wpOp_step rfl (fun K hK => ?_)
        go_simp
        refine RPost.call (name_tok hMd.rin hend) (fun w9 m a H4 hf8 => ⟨rfl, RPost.bad (HB.out _ _ H4.out) (hMd.fin.trans hf8) rfl⟩) ?_
        intro e x l1 vx p1 H4 hfe hvx hre H5
        subst hvx
        have hMe := hMd.step hfe hre
        have hNe := hNd.fr hfe (by show ¬ N = r; omega)
        have hDe := hDd.fr hfe (by show ¬ D = r; omega)
        have hTe := hTd.fr hfe (by show ¬ _ = r; omega)
        have hSe : (fun w' : World => w'.cell? ⟨N, 0, none⟩ = some (.pointer (some ⟨r, 0, none⟩))) e := hNe.cell 0 rfl
        have hsze := hfe.size
        refine hK _ _ ⟨fun _ => hSe, ?_⟩
        clear hK K
        try simp only [Act.put, List.setIfInBounds_toArray, List.set_cons_zero, List.set_cons_succ]
        refine wpAnyE_take (i := 7) (v := ?_) rfl (by kernel_rfl) (by kernel_rfl) (by kernel_rfl) (fun _ _ _ h => h) (by decide) rfl (by kernel_rfl) (by kernel_rfl) (Or.inl ⟨by rfl, ?_⟩) hSe ?_
        rotate_left
        · intro wq hSw
          replace hSw : wq.cell? ⟨N, 0, none⟩ = some (.pointer (some ⟨r, 0, none⟩)) := hSw
          go_simp
          try with_reducible rfl
        try simp only [Act.put, List.setIfInBounds_toArray, List.set_cons_zero, List.set_cons_succ]
        refine wpAnyE_all (rs := [9]) (by kernel_rfl) (by simp) ?_
        intro j hj
        rcases List.mem_singleton.1 hj with rfl
        have q0 := hTe.cell 0 rfl
        have q1 := hTe.cell 1 rfl
        have q2 := hTe.cell 2 rfl
        have q3 := hTe.cell 3 rfl
        have q4 := hTe.frozen 0
        have q5 := hTe.frozen 1
        have q6 := hTe.frozen 2
        have q7 := hTe.frozen 3
        refine wpOp_step rfl (fun K hK => ?_)
        go_simp
        refine hK _ _ ⟨fun h => (Bool.false_ne_true (h.symm.trans (by kernel_rfl))).elim, ?_⟩
        clear hK K
        try simp only [Act.put, List.setIfInBounds_toArray, List.set_cons_zero, List.set_cons_succ]
        refine wpAnyE_done (by kernel_rfl) ?_ _
        go_wp2_with fail
        go_meet
        exact ⟨T, x, l1, p1, rfl, H4.out, hMe.fin4 (by omega) _ _ _ _, H5.out, hNe.far4 (by omega) _ _ _ _, hDe.far4 (by omega) _ _ _ _, hTe.set4 _ _ _ _, by omega, by omega⟩
    · rcases List.mem_singleton.1 hj with rfl
      refine wpOp_step rfl (fun K hK => ?_)
      go_simp
      have hMc := hMb.alloc (.cells #[.string ⟨#[]⟩, .slice none 0 0, .slice none 0 0, .int .i64 0] 44)
      have hNc := hNb.alloc (.cells #[.string ⟨#[]⟩, .slice none 0 0, .slice none 0 0, .int .i64 0] 44)
      have hDc := hDb.alloc (.cells #[.string ⟨#[]⟩, .slice none 0 0, .slice none 0 0, .int .i64 0] 44)
      have hTc := Blk.new b #[.string ⟨#[]⟩, .slice none 0 0, .slice none 0 0, .int .i64 0] 44
      have hlc := hDb.lt
      have hkc := hNb.lt
      have hSc : (fun w' : World => w'.cell? ⟨N, 0, none⟩ = some (.pointer (some ⟨r, 0, none⟩))) (b.alloc (.cells #[.string ⟨#[]⟩, .slice none 0 0, .slice none 0 0, .int .i64 0] 44)) := hNc.cell 0 rfl
      refine hK _ _ ⟨fun _ => hSc, ?_⟩
      have hzc : (b.alloc (.cells #[.string ⟨#[]⟩, .slice none 0 0, .slice none 0 0, .int .i64 0] 44)).heap.size = b.heap.size + 1 := by simp
      generalize b.alloc (.cells #[.string ⟨#[]⟩, .slice none 0 0, .slice none 0 0, .int .i64 0] 44) = c at *
      generalize b.heap.size = T at *
      clear hK K
      try simp only [Act.put, List.setIfInBounds_toArray, List.set_cons_zero, List.set_cons_succ]
      refine wpAnyE_all (rs := [3]) (by kernel_rfl) (by simp) ?_
      intro j hj
      rcases List.mem_singleton.1 hj with rfl
      refine wpOp_step rfl (fun K hK => ?_)
      go_simp
      refine (next_any hMc.rin).mono ?_
      rintro e d ⟨rfl, hfd⟩
      have hMd := hMc.still hfd
      have hNd := hNc.fr hfd id
      have hDd := hDc.fr hfd id
      have hTd := hTc.fr hfd id
      have hSd : (fun w' : World => w'.cell? ⟨N, 0, none⟩ = some (.pointer (some ⟨r, 0, none⟩))) d := hNd.cell 0 rfl
      refine hK _ _ ⟨fun _ => hSd, ?_⟩
      clear hK K
      try simp only [Act.put, List.setIfInBounds_toArray, List.set_cons_zero, List.set_cons_succ]
      refine wpAnyE_take (i := 4) (v := ?_) rfl (by kernel_rfl) (by kernel_rfl) (by kernel_rfl) (fun _ _ _ h => h) (by decide) rfl (by kernel_rfl) (by kernel_rfl) (Or.inl ⟨by rfl, ?_⟩) hSd ?_
      rotate_left
      · intro wq hSw
        replace hSw : wq.cell? ⟨N, 0, none⟩ = some (.pointer (some ⟨r, 0, none⟩)) := hSw
        go_simp
        try with_reducible rfl
      try simp only [Act.put, List.setIfInBounds_toArray, List.set_cons_zero, List.set_cons_succ]
      refine wpAnyE_all (rs := [6]) (by kernel_rfl) (by simp) ?_
      intro j hj
      rcases List.mem_singleton.1 hj with rfl
      refine wpOp_step rfl (fun K hK => ?_)
      go_simp
      refine RPost.call (name_tok hMd.rin hend) (fun w9 m a H4 hf8 => ⟨rfl, RPost.bad (HB.out _ _ H4.out) (hMd.fin.trans hf8) rfl⟩) ?_
      intro e x l1 vx p1 H4 hfe hvx hre H5
      subst hvx
      have hMe := hMd.step hfe hre
      have hNe := hNd.fr hfe (by show ¬ N = r; omega)
      have hDe := hDd.fr hfe (by show ¬ D = r; omega)
      have hTe := hTd.fr hfe (by show ¬ _ = r; omega)
      have hSe : (fun w' : World => w'.cell? ⟨N, 0, none⟩ = some (.pointer (some ⟨r, 0, none⟩))) e := hNe.cell 0 rfl
      have hsze := hfe.size
      refine hK _ _ ⟨fun _ => hSe, ?_⟩
      clear hK K
      try simp only [Act.put, List.setIfInBounds_toArray, List.set_cons_zero, List.set_cons_succ]
      refine wpAnyE_take (i := 7) (v := ?_) rfl (by kernel_rfl) (by kernel_rfl) (by kernel_rfl) (fun _ _ _ h => h) (by decide) rfl (by kernel_rfl) (by kernel_rfl) (Or.inl ⟨by rfl, ?_⟩) hSe ?_
      rotate_left
      · intro wq hSw
        replace hSw : wq.cell? ⟨N, 0, none⟩ = some (.pointer (some ⟨r, 0, none⟩)) := hSw
        go_simp
        try with_reducible rfl
      try simp only [Act.put, List.setIfInBounds_toArray, List.set_cons_zero, List.set_cons_succ]
      refine wpAnyE_all (rs := [9]) (by kernel_rfl) (by simp) ?_
      intro j hj
      rcases List.mem_singleton.1 hj with rfl
      have q0 := hTe.cell 0 rfl
      have q1 := hTe.cell 1 rfl
      have q2 := hTe.cell 2 rfl
      have q3 := hTe.cell 3 rfl
      have q4 := hTe.frozen 0
      have q5 := hTe.frozen 1
      have q6 := hTe.frozen 2
      have q7 := hTe.frozen 3
      refine wpOp_step rfl (fun K hK => ?_)
      go_simp
      refine hK _ _ ⟨fun h => (Bool.false_ne_true (h.symm.trans (by kernel_rfl))).elim, ?_⟩
      clear hK K
      try simp only [Act.put, List.setIfInBounds_toArray, List.set_cons_zero, List.set_cons_succ]
      refine wpAnyE_done (by kernel_rfl) ?_ _
      go_wp2_with fail
      go_meet
      exact ⟨T, x, l1, p1, rfl, H4.out, hMe.fin4 (by omega) _ _ _ _, H5.out, hNe.far4 (by omega) _ _ _ _, hDe.far4 (by omega) _ _ _ _, hTe.set4 _ _ _ _, by omega, by omega⟩
  case rest =>
    obtain ⟨T, n, l1, p1, rfl, H1, hM, H2, hN, hD, hT, hNT, hDT⟩ := hcut
    rw [← Ha0.out] at hT
    have HC := Lib.hid (show ruleS (toks.drop pos) = (do
        let (ps, l2) ← givenS nameS (toks.drop p1)
        let (_, l3) ← mustS 6 [⟨#[58]⟩] l2
        let (al, l4) ← listS ⟨#[124]⟩ altS l3
        let (_, l5) ← mustS 6 [⟨#[59]⟩] l4
        .ok (⟨n, ps, al, at0⟩, l5)) by rw [ruleS, H1.out, exOk, H2.out, Ha0.out])
    clear H1 H2 HB hMa hNa hDa
    generalize wc = w1 at *
    have n0 := hN.cell 0 rfl
    have hO : Own w1 (T + 1) 9 1 (EStrs w1) (.slice none 0 0) [] := Own.nil
    go_wp2_with fail
    refine LPost.call (given_any (S := fun k => k = r ∨ w.heap.size ≤ k) (Inv := PInv w r R cap cur toks N D T n at0) (part := nameS) ⟨fun h _ => param_part hend h, fun h => h.1.rin, fun h hf hr hp => h.step hf hr hp, fun h => Nat.le_of_lt (nameS_len h), .inl rfl, fun args w => by kernel_rfl⟩ ⟨hM, hN, hD, hN0, by omega, hNT, hDT, by simp, _, hT, hO⟩ (by simp) hend) ?_ ?_
    · intro w2 m a H3 hf2
      refine ⟨rfl, RPost.bad ?_ ((hM.fr.trans hf2).mono (fun k hk e => by rcases e with e | e; exact e; omega)) rfl⟩
      rw [HC.out, H3.out, exErr]
    intro w2 ps l2 p2 H3 hf2 hi2 H4
    rw [List.nil_append] at hi2
    obtain ⟨hM2, hN2, hD2, -, -, -, -, hxp2, pv, hT2, hO2⟩ := hi2
    have HC2 := Lib.hid (show ruleS (toks.drop pos) = (do
        let (_, l3) ← mustS 6 [⟨#[58]⟩] (toks.drop p2)
        let (al, l4) ← listS ⟨#[124]⟩ altS l3
        let (_, l5) ← mustS 6 [⟨#[59]⟩] l4
        .ok (⟨n, ps, al, at0⟩, l5)) by rw [HC.out, H3.out, exOk, H4.out])
    clear H3 H4 HC hM hN hD hT hO n0 hf2
    have hR2 := hO2.all elemStr (by decide)
    obtain ⟨pa, pc, hpv⟩ := hR2.form
    subst hpv
    clear hO2
    have n0 := hN2.cell 0 rfl
    go_wp2_with fail
    refine RPost.call (must_lit hM2.rin hend 6 (by decide) (ts := [⟨#[58]⟩]) (n := 1) rfl (by decide) (by decide) rfl rfl) ?_ ?_
    · intro w3 m a H5 hf3
      refine ⟨rfl, RPost.bad ?_ (hM2.fin.trans hf3) rfl⟩
      rw [HC2.out, H5.out, exErr]
    intro w3 x3 l3 v3 p3 H5 hf3 hv3 hr3 H6
    have HC3 := Lib.hid (show ruleS (toks.drop pos) = (do
        let (al, l4) ← listS ⟨#[124]⟩ altS (toks.drop p3)
        let (_, l5) ← mustS 6 [⟨#[59]⟩] l4
        .ok (⟨n, ps, al, at0⟩, l5)) by rw [HC2.out, H5.out, exOk, H6.out])
    have hM3 := hM2.step hf3 hr3
    have hN3 := hN2.fr hf3 (by show ¬ N = r; omega)
    have hD3 := hD2.fr hf3 (by show ¬ D = r; omega)
    have hT3 := hT2.fr hf3 (by show ¬ T = r; omega)
    have hR3 : RRow w3 (fun k => T + 1 ≤ k ∧ k < w3.heap.size) 1 EStr (.slice pa ps.length pc) ps := (hR2.fr (E' := EStr) hf3 (fun k hk _ e => by have e' : k = r := e; have e2 : T + 1 ≤ k := hk; omega) (fun _ _ h => h)).mono (fun k hk hlt => ⟨hk, hlt⟩) (fun _ _ h => h)
    have hp3 : p2 ≤ p3 := drop_le hr3.hp H6.out (mustS_len H5.out)
    clear HC2 H5 H6 hM2 hN2 hD2 hT2 hR2 n0 hf3 hr3
    have n0 := hN3.cell 0 rfl
    have hTB := hT3.lt
    have hO3 : Own w3 w3.heap.size 47 6 (RAlt w3) (.slice none 0 0) [] := Own.nil
    go_wp2_with fail
    refine LPost.call (list_any (S := fun k => k = r ∨ w.heap.size ≤ k) (Inv := QInv w r R cap cur toks N D T w3.heap.size n (.slice pa ps.length pc) ps at0) (part := altS) ⟨fun h hx => alt_part hend h hx, fun h => h.1.rin, fun h hf hr hp => h.step hf hr hp, fun h => altS_len h, .inl rfl, fun args w => by kernel_rfl⟩ ⟨hM3, hN3, hD3, hN0, by omega, hNT, hDT, hTB, Nat.le_refl _, hR3, _, hT3, hO3⟩ (by simp) hend ⟨#[124]⟩) ?_ ?_
    · intro w4 m a H7 hf4
      refine ⟨rfl, RPost.bad ?_ ((hM3.fr.trans hf4).mono (fun k hk e => by rcases e with e | e; exact e; omega)) rfl⟩
      rw [HC3.out, H7.out, exErr]
    intro w4 al l4 p4 H7 hf4 hi4 H8
    rw [List.nil_append] at hi4
    obtain ⟨hM4, hN4, hD4, -, -, -, -, -, hB4, hR4, v, hT4, hO4⟩ := hi4
    have HC4 := Lib.hid (show ruleS (toks.drop pos) = (do
        let (_, l5) ← mustS 6 [⟨#[59]⟩] (toks.drop p4)
        .ok (⟨n, ps, al, at0⟩, l5)) by rw [HC3.out, H7.out, exOk, H8.out])
    clear H7 H8 HC3 hM3 hN3 hD3 hT3 hR3 n0 hf4 hO3
    have hA4 := hO4.all elemAlt (by decide)
    obtain ⟨va, vc, hvv⟩ := hA4.form
    subst hvv
    clear hO4
    generalize hBe : w3.heap.size = B at *
    clear hBe
    have n0 := hN4.cell 0 rfl
    go_wp2_with fail
    refine RPost.call (must_lit hM4.rin hend 6 (by decide) (ts := [⟨#[59]⟩]) (n := 1) rfl (by decide) (by decide) rfl rfl) ?_ ?_
    · intro w5 m a H9 hf5
      refine ⟨rfl, RPost.bad ?_ (hM4.fin.trans hf5) rfl⟩
      rw [HC4.out, H9.out, exErr]
    intro w5 x5 l5 v5 p5 H9 hf5 hv5 hr5 H10
    have HF := Lib.hid (show ruleS (toks.drop pos) = .ok (⟨n, ps, al, at0⟩, l5) by rw [HC4.out, H9.out, exOk])
    have hMz := hM4.step hf5 hr5
    have hDz := hD4.fr hf5 (by show ¬ D = r; omega)
    have hTz := hT4.fr hf5 (by show ¬ T = r; omega)
    have hRz := hR4.fr (E' := EStr) hf5 (fun k hk _ e => by have e' : k = r := e; omega) (fun _ _ h => h)
    have hAz := hA4.fr (E' := RAlt w5 (B ≤ ·)) hf5 (fun k hk _ e => by have e' : k = r := e; have e2 : B ≤ k := hk; omega) (fun x cs h => h.fr hf5 (fun k hk _ e => by have e' : k = r := e; have e2 : B ≤ k := hk; omega))
    clear HC4 H9 hM4 hN4 hD4 hT4 hR4 hA4 n0 hf5 hr5
    have a0 := hTz.cell 0 rfl
    have a1 := hTz.cell 1 rfl
    have a2 := hTz.cell 2 rfl
    have a3 := hTz.cell 3 rfl
    have d0 := hDz.cell 0 rfl
    have d1 := hDz.cell 1 rfl
    have d2 := hDz.cell 2 rfl
    have d3 := hDz.cell 3 rfl
    have e0 := hDz.frozen 0
    have e1 := hDz.frozen 1
    have e2 := hDz.frozen 2
    have e3 := hDz.frozen 3
    have hMF := hMz.fin4 (T := D) (by omega) (.string n) (.slice pa ps.length pc) (.slice va al.length vc) (.int .i64 at0)
    have hFF : Fr (· = D) w5 (set4 w5 D (.string n) (.slice pa ps.length pc) (.slice va al.length vc) (.int .i64 at0)) := ((((Fr.refl (· = D) w5).setCell (p := ⟨D, 0, none⟩) (fun _ => rfl) _).setCell (p := ⟨D, 1, none⟩) (fun _ => rfl) _).setCell (p := ⟨D, 2, none⟩) (fun _ => rfl) _).setCell (p := ⟨D, 3, none⟩) (fun _ => rfl) _
    have hRF := (hRz.fr (E' := EStr) hFF (fun k hk _ e => by have e' : k = D := e; omega) (fun _ _ h => h)).mono (Q := (w.heap.size ≤ ·)) (fun k hk _ => by omega) (fun _ _ h => h)
    have hAF := (hAz.fr (E' := RAlt _ (B ≤ ·)) hFF (fun k hk _ e => by have e' : k = D := e; have e2 : B ≤ k := hk; omega) (fun x cs h => h.fr hFF (fun k hk _ e => by have e' : k = D := e; have e2 : B ≤ k := hk; omega))).mono (Q := (w.heap.size ≤ ·)) (E' := RAlt _ (w.heap.size ≤ ·)) (fun k hk _ => by have e2 : B ≤ k := hk; omega) (fun x cs h => h.mono (fun k hk _ => by have e2 : B ≤ k := hk; omega))
    have hDF := hDz.set4 (.string n) (.slice pa ps.length pc) (.slice va al.length vc) (.int .i64 at0)
    unfold set4 at hMF hRF hAF hDF
    go_wp2_with fail
    have f0 := hDF.cell 0 rfl
    have f1 := hDF.cell 1 rfl
    have f2 := hDF.cell 2 rfl
    have f3 := hDF.cell 3 rfl
    refine bodyPost_ret (v := .agg #[.string n, .slice pa ps.length pc, .slice va al.length vc, .int .i64 at0]) (by simp [results, Try.results24, go_sem, f0, f1, f2, f3]) rfl (RPost.good HF.out hMF.fin rfl ?_ hMF.rin H10.out)
    exact ⟨_, rfl, _, _, rfl, hRF, hAF⟩
end Go.Proofs.Ytejpmdlokmlmeaa
