/- A region that draws its order: a condition on the world that is kept until the last store of the region, so that loads may be taken first. No condition. -/
import Derived.Test.YtejpmdlokmlmeaaBase
import Derived.OrdersHeld
set_option linter.unusedVariables false
set_option linter.unusedSimpArgs false
namespace Go.Proofs.Ytejpmdlokmlmeaa

section
variable {P : Program} {ops : Array Oper} {Q : Exit → Act → World → Prop} {md : Region.Mode} {S : World → Prop} {e : Nat}

/-- Whatever order is picked, S holding behind each operation while number e has not come up. -/
def wpAnyE (P : Program) (md : Region.Mode) (ops : Array Oper) (Q : Exit → Act → World → Prop) (S : World → Prop) (e : Nat) : Nat → Array Bool → Act → World → Prop
  | 0, listed, a, w => Region.ready md ops listed = [] ∧ Q .normal a w
  | n + 1, listed, a, w => (Region.ready md ops listed = [] → Q .normal a w) ∧
      ∀ j ∈ Region.ready md ops listed, wpOp P ops Q j (fun a' w' => ((listed.setIfInBounds j true).getD e false = false → S w') ∧ wpAnyE P md ops Q S e n (listed.setIfInBounds j true) a' w') a w
theorem wpAnyE_any : ∀ (n : Nat) {listed : Array Bool} {a : Act} {w : World}, wpAnyE P md ops Q S e n listed a w → wpAny P md ops Q n listed a w := by
  intro n
  induction n with
  | zero => intro listed a w h; exact h
  | succ n ih => intro listed a w h; exact ⟨h.1, fun j hj => wpOp_mono (fun _ _ h' => ih h'.2) (h.2 j hj)⟩
theorem wpAnyE_first {i : Nat} {oi oe : Oper} {v : Value} (hi : ops[i]? = some oi) (hs : Region.noSelect ops = true) (hQ : ∀ c a w, Q (.panic c) (a.put oi.dst v) w → Q (.panic c) a w) (hie : i ≠ e) (hoe : ops[e]? = some oe) (hwait : ∃ x ∈ oe.after, Region.binds md x = true ∧ x.on = i) :
    ∀ (n : Nat) {listed : Array Bool} {a : Act} {w : World}, (∀ j oj, ops[j]? = some oj → j ≠ i → listed.getD j true = false → (∀ x ∈ oj.after, Region.binds md x = true → x.on ≠ i) → oi.apart ops oj = true) →
      i ∈ Region.ready md ops listed → listed.getD e false = false → YieldsIf P ops S oi v a → S w → wpAnyE P md ops Q S e n (listed.setIfInBounds i true) (a.put oi.dst v) w → wpAnyE P md ops Q S e (n + 1) listed a w := by
  intro n
  induction n with
  | zero =>
    intro listed a w _ hr he hy hS H
    refine ⟨fun h => by rw [h] at hr; simp at hr, fun j hj => ?_⟩
    by_cases hji : j = i
    · subst hji
      exact hy.wpOp hi hS ⟨fun _ => hS, H⟩
    · have h1 := ready_mono (i := i) hj hji
      rw [H.1] at h1
      simp at h1
  | succ n ih =>
    intro listed a w hfree hr he hy hS H
    refine ⟨fun h => by rw [h] at hr; simp at hr, fun j hj => ?_⟩
    by_cases hji : j = i
    · subst hji
      exact hy.wpOp hi hS ⟨fun _ => hS, H⟩
    · obtain ⟨hjun, oj, hoj, hall⟩ := mem_ready.1 hj
      have hiun := (mem_ready.1 hr).1
      have hifalse : listed.getD i false = false := by
        cases hh : listed[i]? with
        | none => simp [hh]
        | some b => simp [hh] at hiun ⊢; exact hiun
      have hno : ∀ x ∈ oj.after, Region.binds md x = true → x.on ≠ i := fun x hx hb hxi => by
        have := hall x hx hb
        rw [hxi, hifalse] at this
        cases this
      have hje : j ≠ e := by
        rintro rfl
        rw [hoe] at hoj
        injection hoj with hoj
        subst hoj
        obtain ⟨x, hx, hb, hxi⟩ := hwait
        exact hno x hx hb hxi
      have h2 := wpOp_putIf hoj (hfree j oj hoj hji hjun hno) (fun cs b => Region.noSelect_spec hs i oi cs b hi) (fun cs b => Region.noSelect_spec hs j oj cs b hoj) hQ hy (H.2 j (ready_mono hj hji))
      refine wpOp_mono (fun a' w' h3 => ?_) h2
      have he' : (listed.setIfInBounds j true).getD e false = false := by rw [getD_set_ne false hje]; exact he
      have hS' : S w' := h3.2.1 (by rw [getD_set_ne false hje, getD_set_ne false hie]; exact he)
      refine ⟨fun _ => hS', ih (listed := listed.setIfInBounds j true) (fun k ok hk hki hun hn => hfree k ok hk hki ?_ hn) (ready_mono hr (Ne.symm hji)) he' h3.1 hS' ?_⟩
      · by_cases hjk : j = k
        · subst hjk; exact hjun
        · rw [getD_set_ne true hjk] at hun; exact hun
      · rw [Array.setIfInBounds_comm _ _ hji]
        exact h3.2.2
/-- Take number i first: it yields v in every world that meets S, and the last store waits for it. -/
theorem wpAnyE_take {i : Nat} {oi oe : Oper} {v : Value} {n : Nat} {listed : Array Bool} {a : Act} {w : World} (hi : ops[i]? = some oi) (hs : Region.noSelect ops = true) (hf : Region.free md ops listed i = true) (hr : (Region.ready md ops listed).contains i = true)
    (hQ : ∀ c a w, Q (.panic c) (a.put oi.dst v) w → Q (.panic c) a w) (hie : i ≠ e) (hoe : ops[e]? = some oe) (hwait : oe.after.any (fun x => Region.binds md x && x.on == i) = true) (he : listed.getD e false = false) (hy : YieldsIf P ops S oi v a) (hS : S w)
    (h : wpAnyE P md ops Q S e n (listed.setIfInBounds i true) (a.put oi.dst v) w) : wpAnyE P md ops Q S e (n + 1) listed a w :=
  wpAnyE_first hi hs hQ hie hoe (by obtain ⟨x, hx, hb⟩ := Array.any_eq_true'.1 hwait; simp at hb; exact ⟨x, hx, hb.1, hb.2⟩) n (Region.free_spec hi hf) (by simpa using hr) he hy hS h
theorem wpAnyE_all {rs : List Nat} {n : Nat} {listed : Array Bool} {a : Act} {w : World} (hr : Region.ready md ops listed = rs) (hne : rs ≠ [])
    (h : ∀ j ∈ rs, wpOp P ops Q j (fun a' w' => ((listed.setIfInBounds j true).getD e false = false → S w') ∧ wpAnyE P md ops Q S e n (listed.setIfInBounds j true) a' w') a w) : wpAnyE P md ops Q S e (n + 1) listed a w :=
  ⟨fun h0 => absurd (hr ▸ h0) hne, hr ▸ h⟩
theorem wpAnyE_done {listed : Array Bool} {a : Act} {w : World} (hr : Region.ready md ops listed = []) (h : Q .normal a w) : ∀ n, wpAnyE P md ops Q S e n listed a w
  | 0 => ⟨hr, h⟩
  | _ + 1 => ⟨fun _ => h, by rw [hr]; simp⟩
/-- Once no more loads are to be taken first, S may go. -/
theorem wp_region_E {id : Nat} {a : Act} {w : World} (hm : P.follows .mixedOrders = true) (h : wpAnyE P .any ops Q S e ops.size (Array.replicate ops.size false) a w.drew) : (Code.region id ops true).wp P Q a w :=
  wp_region_any hm (wpAnyE_any _ h)
end
end Go.Proofs.Ytejpmdlokmlmeaa
