/- The region law once more, where an operation may be a call of a loop's round (yield). -/
import Derived.Test.YtjamakapkpkfeaaDoorEnd
namespace Go.Proofs.YtjamakapkpkfeaaDoor
open Go.RowKit Go.Shelf

section law
variable {P : Program} {ops : Array Oper} {K : Act → World → Prop}

theorem _root_.Go.YieldsIf.wpOpIn' {S : World → Prop} {Q : Exit → Act → World → Prop} {i : Nat} {o : Oper} {v : Value} {a : Act} (hi : ops[i]? = some o) (hy : YieldsIf P ops S o v a)
    {K : Act → World → Prop} {w : World} (hS : S w) (h : K (a.put o.dst v) w) : wpOpIn Fence.wide 0 P ops Q i K a w := by
  unfold Go.wpOpIn
  simp only [hi]
  rcases hy with ⟨hw, hv⟩ | ⟨hw, rfl⟩
  · simp only [hw, if_true]
    refine ⟨fun _ _ => trivial, ?_⟩
    have := hv w hS
    rw [show (o.semAt Fence.wide.round a.eval) = execOp a.eval o from rfl, this]
    exact h
  · simp only [hw, Bool.false_eq_true, if_false]; exact ⟨fun _ _ => trivial, h⟩

theorem wpOpIn_putIf {S : World → Prop} {Q : Exit → Act → World → Prop} {j : Nat} {oi oj : Oper} {v : Value} (hj : ops[j]? = some oj) (hap : oi.apart ops oj = true)
    (hsi : ∀ cs b, oi.op ≠ .select cs b) (hsj : ∀ cs b, oj.op ≠ .select cs b)
    (hQ : ∀ c a w, Q (.panic c) (a.put oi.dst v) w → Q (.panic c) a w) {K : Act → World → Prop} {a : Act} {w : World}
    (hy : YieldsIf P ops S oi v a) (h : wpOpIn Fence.wide 0 P ops Q j K (a.put oi.dst v) w) :
    wpOpIn Fence.wide 0 P ops Q j (fun a' w' => YieldsIf P ops S oi v a' ∧ K (a'.put oi.dst v) w') a w := by
  obtain ⟨h1, h2, h3⟩ := Oper.apart_spec hap
  have keep : ∀ (a : Act), YieldsIf P ops S oi v a → ∀ u, YieldsIf P ops S oi v (a.put oj.dst u) := fun a hy u =>
    hy.of_same (execOp_put oi hsi a oj.dst u h3) (wanted_put oi a oj.dst u h3)
  have keepD : ∀ d, YieldsIf P ops S oi v { a with defers := d :: a.defers } := fun d => hy.of_same rfl rfl
  unfold wpOpIn at *
  simp only [hj] at *
  rw [wanted_put oj a oi.dst v h1] at h
  split
  · rename_i hw
    simp only [hw, if_true] at h
    refine ⟨fun _ _ => trivial, ?_⟩
    have h := h.2
    rw [show (oj.semAt Fence.wide.round (a.put oi.dst v).eval) = execOp (a.put oi.dst v).eval oj from rfl, execOp_put oj hsj a oi.dst v h1] at h
    rw [show (oj.semAt Fence.wide.round a.eval) = execOp a.eval oj from rfl]
    generalize (execOp a.eval oj).run P w = r at *
    cases r with
    | ok n w' =>
      cases n <;> simp only [Oper.uponIn] at h ⊢
      case value u => exact ⟨keep a hy u, by rw [← Act.put_comm a v u h2]; exact h⟩
      case skip => exact ⟨keep a hy _, by rw [← Act.put_comm a v undef h2]; exact h⟩
      case defer d =>
        refine ⟨keep _ (keepD d) _, ?_⟩
        rw [← Act.put_comm _ v undef h2, ← Act.put_defers]
        exact h
      case enter f args =>
        refine ⟨h.1, CallsIn.mono h.2 fun e w'' he => ?_⟩
        cases e with
        | returned u => exact ⟨keep a hy u, by rw [← Act.put_comm a v u h2]; exact he⟩
        | panicked c => exact hQ _ _ _ he
        | outgrown => exact he
      case row row args => exact ⟨h.1, RowsIn.mono h.2 fun u w'' he => ⟨keep a hy u, by rw [← Act.put_comm a v u h2]; exact he⟩⟩
      case round l f tmps assign body =>
        refine ⟨h.1, RoundIn.mono h.2 fun e w'' he => ?_⟩
        cases e with
        | returned u => exact ⟨keep a hy u, by rw [← Act.put_comm a v u h2]; exact he⟩
        | panicked c => exact hQ _ _ _ he
        | outgrown => exact he
    | halt x w' =>
      cases x <;> simp only [Oper.uponIn] at h ⊢
      case panic u => exact hQ _ _ _ h
  · rename_i hw
    simp only [hw] at h
    exact ⟨fun _ _ => trivial, keep a hy _, by rw [← Act.put_comm a v undef h2]; exact h.2⟩

/-- Whatever order comes: b is a world that the present one extends. -/
def wpAnyXI (P : Program) (ops : Array Oper) (ms : List Nat) (K : Act → World → Prop) : Nat → Array Bool → Act → World → World → Prop
  | 0, listed, a, _, w => Region.ready .any ops listed = [] ∧ K a w
  | fuel + 1, listed, a, b, w => (Region.ready .any ops listed = [] → K a w) ∧
    ∀ i ∈ Region.ready .any ops listed, wpOpIn Fence.wide 0 P ops (okQ K) i (fun a' w' => ∃ b', (i ∉ ms → Ext b b') ∧ Ext b' w' ∧ wpAnyXI P ops ms K fuel (listed.setIfInBounds i true) a' b' w') a w

theorem wpAnyI_of_X {ms : List Nat} : ∀ (fuel : Nat) (listed : Array Bool) (a : Act) (b w : World), wpAnyXI P ops ms K fuel listed a b w → wpAnyIn Fence.wide 0 P .any ops (okQ K) fuel listed a w
  | 0, _, _, _, _, h => h
  | fuel + 1, _, _, _, _, h => ⟨h.1, fun i hi => wpOpIn_mono (fun _ _ ⟨_, _, _, h'⟩ => wpAnyI_of_X fuel _ _ _ _ h') (h.2 i hi)⟩

/-- An operation that yields v in every world that extends b (S: or in every world at all) may be taken first. -/
theorem wpAnyXI_first {ms : List Nat} {S : World → World → Prop} (hSe : ∀ {b b' w}, Ext b b' → S b' w → S b w) (hS0 : ∀ {b w}, Ext b w → S b w) (D : List Nat) {i : Nat} {oi : Oper} {v : Value} (hi : ops[i]? = some oi)
    (hsel : ∀ (j : Nat) (o : Oper) cs b, ops[j]? = some o → o.op ≠ .select cs b)
    (hSm : ((∀ b w, S b w) ∧ D = []) ∨ (descB ops i D = true ∧ ∀ m ∈ ms, m ∈ D)) :
    ∀ (fuel : Nat) (listed : Array Bool) (a : Act) (b w : World),
      (∀ j oj, ops[j]? = some oj → j ≠ i → listed.getD j true = false → (∀ e ∈ oj.after, Region.binds .any e = true → e.on ≠ i) → oi.apart ops oj = true) →
      i ∈ Region.ready .any ops listed → (∀ j ∈ D, listed.getD j true = false) → YieldsIf P ops (S b) oi v a → Ext b w →
      wpAnyXI P ops ms K fuel (listed.setIfInBounds i true) (a.put oi.dst v) b w → wpAnyXI P ops ms K (fuel + 1) listed a b w := by
  intro fuel
  induction fuel with
  | zero =>
    intro listed a b w _ hr _ hy hS H
    refine ⟨fun h => (by rw [h] at hr; cases hr), fun j hj => ?_⟩
    by_cases hji : j = i
    · subst hji; exact hy.wpOpIn' hi (hS0 hS) ⟨b, fun _ => Ext.refl b, hS, H⟩
    · have := ready_mono hj hji
      rw [H.1] at this
      cases this
  | succ fuel ih =>
    intro listed a b w hfree hr hDl hy hS H
    refine ⟨fun h => (by rw [h] at hr; cases hr), fun j hj => ?_⟩
    by_cases hji : j = i
    · subst hji; exact hy.wpOpIn' hi (hS0 hS) ⟨b, fun _ => Ext.refl b, hS, H⟩
    · have h1 := H.2 j (ready_mono hj hji)
      obtain ⟨hjun, oj, hoj, hall⟩ := mem_ready.1 hj
      have hiun := (mem_ready.1 hr).1
      have hnot : ∀ e ∈ oj.after, Region.binds .any e = true → e.on ≠ i := fun e he hb heq => by
        have h1 := hall e he hb
        have h0 := (mem_ready.1 hr).1
        rw [heq] at h1
        rcases Nat.lt_or_ge i listed.size with h' | h'
        · simp [h'] at h0 h1; rw [h0] at h1; cases h1
        · simp [Array.getElem?_eq_none h'] at h1
      have hjD : descB ops i D = true → j ∉ D := fun hd h => desc_not_ready hd hiun hDl j h hj
      have h2 := wpOpIn_putIf hoj (hfree j oj hoj hji hjun hnot) (fun cs b => hsel i oi cs b hi) (fun cs b => hsel j oj cs b hoj) (fun _ _ _ h => h) hy h1
      have hfree' : ∀ k ok, ops[k]? = some ok → k ≠ i → (listed.setIfInBounds j true).getD k true = false →
          (∀ e ∈ ok.after, Region.binds .any e = true → e.on ≠ i) → oi.apart ops ok = true := fun k ok hk hki hun hno => by
        refine hfree k ok hk hki ?_ hno
        by_cases hjk : j = k
        · subst hjk; exact hjun
        · rw [getD_set_ne true hjk] at hun; exact hun
      refine wpOpIn_mono (fun a' w' h3 => ?_) h2
      obtain ⟨hy', b', hbb, hbw, h4⟩ := h3
      have hfin : (∀ k ∈ D, (listed.setIfInBounds j true).getD k true = false) → YieldsIf P ops (S b') oi v a' → wpAnyXI P ops ms K (fuel + 1) (listed.setIfInBounds j true) a' b' w' := fun hD' hyy =>
        ih (listed.setIfInBounds j true) a' b' w' hfree' (ready_mono hr (Ne.symm hji)) hD' hyy hbw (by
          rw [Array.setIfInBounds_comm _ _ hji]
          exact h4)
      refine ⟨b', hbb, hbw, ?_⟩
      rcases hSm with ⟨hall', hD0⟩ | ⟨hd, hm⟩
      · exact hfin (by rw [hD0]; intro k hk; cases hk) (hy'.imp (fun ⟨h5, h6⟩ => ⟨h5, fun w _ => h6 w (hall' b w)⟩) id)
      · have hjm : j ∉ ms := fun h => hjD hd (hm j h)
        exact hfin (fun k hk => by
            have hjk : j ≠ k := fun e => hjD hd (e ▸ hk)
            rw [getD_set_ne true hjk]; exact hDl k hk)
          (hy'.imp (fun ⟨h5, h6⟩ => ⟨h5, fun w hw => h6 w (hSe (hbb hjm) hw)⟩) id)
def wpPlanI (P : Program) (ops : Array Oper) (K : Act → World → Prop) : Plan Oper → Act → World → World → Prop
  | .fin, a, _, w => K a w
  | .step o .pure r, a, b, w => if Region.wanted o (yielded ops a.tmps) then o.quiet P a (fun _ => True) (fun a' => wpPlanI P ops K r a' b w) else wpPlanI P ops K r (a.put o.dst undef) b w
  | .step o .read r, a, b, w => if Region.wanted o (yielded ops a.tmps) then o.quiet P a (fun w' => ∃ u, w' = wplus b u) (fun a' => wpPlanI P ops K r a' b w) else wpPlanI P ops K r (a.put o.dst undef) b w
  | .step o (.eff m) r, a, b, w => if Region.wanted o (yielded ops a.tmps) then o.wpIn Fence.wide 0 P a w (fun a' w' => ∃ b', (m = false → Ext b b') ∧ Ext b' w' ∧ wpPlanI P ops K r a' b' w') (okQ fun _ _ => False)
      else wpPlanI P ops K r (a.put o.dst undef) b w
  | .br t u, a, b, w => wpPlanI P ops K t a b w ∧ wpPlanI P ops K u a b w

theorem planI_sound {ms : List Nat} (hs : Region.noSelect ops = true) : ∀ (t : Plan Nat) (listed : Array Bool) (fuel : Nat) (a : Act) (b w : World) (H : Option (List Nat)),
    planB ops ms t listed H = true → planPlain ops t = true → planLen t ≤ fuel → Ext b w → wpPlanI P ops K (pickOps ops.toList t) a b w →
      (H = none → wpAnyXI P ops ms K fuel listed a b w) ∧
      (∀ j ∈ heads t, 1 ≤ fuel ∧ wpOpIn Fence.wide 0 P ops (okQ K) j (fun a' w' => ∃ b', (j ∉ ms → Ext b b') ∧ Ext b' w' ∧ wpAnyXI P ops ms K (fuel - 1) (listed.setIfInBounds j true) a' b' w') a w) ∧
      (∀ h, H = some h → ∀ j ∈ Region.ready .any ops listed, j ∈ h) := by
  intro t
  induction t with
  | fin =>
    intro listed fuel a b w H hB _ _ _ h
    simp only [planB, Bool.and_eq_true, Option.isNone_iff_eq_none, List.isEmpty_iff] at hB
    refine ⟨fun _ => ?_, (fun j hj => by cases hj), fun h' e => by rw [hB.1] at e; cases e⟩
    cases fuel with
    | zero => exact ⟨hB.2, h⟩
    | succ fuel => exact ⟨fun _ => h, by rw [hB.2]; intro i hi; cases hi⟩
  | br t u iht ihu =>
    intro listed fuel a b w H hB hP hl hE h
    simp only [planB, Bool.and_eq_true] at hB
    simp only [planPlain, Bool.and_eq_true] at hP
    simp only [planLen] at hl
    simp only [pickOps, wpPlanI] at h
    obtain ⟨_, t2, t3⟩ := iht listed fuel a b w _ hB.1 hP.1 (by omega) hE h.1
    obtain ⟨_, u2, _⟩ := ihu listed fuel a b w _ hB.2 hP.2 (by omega) hE h.2
    have h2 : ∀ j ∈ heads (.br t u), 1 ≤ fuel ∧ wpOpIn Fence.wide 0 P ops (okQ K) j (fun a' w' => ∃ b', (j ∉ ms → Ext b b') ∧ Ext b' w' ∧ wpAnyXI P ops ms K (fuel - 1) (listed.setIfInBounds j true) a' b' w') a w := fun j hj => by
      rcases List.mem_append.1 (show j ∈ heads t ++ heads u from hj) with h | h
      · exact t2 j h
      · exact u2 j h
    refine ⟨fun hH => ?_, h2, fun h' e j hj => ?_⟩
    · subst hH
      have hne : ∃ i, i ∈ Region.ready .any ops listed := by
        have aux : ∀ (t : Plan Nat) (h' : List Nat), planB ops ms t listed (some h') = true → ∃ i, i ∈ Region.ready .any ops listed := by
          intro t
          induction t with
          | fin => intro h' hb; simp [planB] at hb
          | step i k t _ =>
            intro h' hb
            cases k with
            | pure => simp [planB] at hb
            | read => simp [planB] at hb
            | eff m => simp only [planB, Bool.and_eq_true, List.contains_eq_mem, decide_eq_true_eq] at hb; exact ⟨i, hb.1.1.1⟩
          | br t u iht _ => intro h' hb; simp only [planB, Bool.and_eq_true, Option.getD_some] at hb; exact iht h' hb.1
        exact aux t _ hB.1
      obtain ⟨i0, hi0⟩ := hne
      obtain ⟨f, rfl⟩ : ∃ f, fuel = f + 1 := ⟨fuel - 1, by have := (h2 i0 (t3 _ rfl i0 hi0)).1; omega⟩
      exact ⟨fun h0 => (by rw [h0] at hi0; cases hi0), fun j hj => (h2 j (t3 _ rfl j hj)).2⟩
    · subst e
      exact t3 _ rfl j hj
  | step i k r ih =>
    intro listed fuel a b w H hB hP hl hE h
    simp only [planLen] at hl
    obtain ⟨fuel, rfl⟩ : ∃ f, fuel = f + 1 := ⟨fuel - 1, by omega⟩
    have hget : ∀ (hr : i ∈ Region.ready .any ops listed), ∃ o, ops[i]? = some o ∧ ops.toList.getD i default = o ∧ ops.getD i default = o := fun hr => by
      obtain ⟨_, o, ho, _⟩ := mem_ready.1 hr
      exact ⟨o, ho, by rw [List.getD_eq_getElem?_getD, Array.getElem?_toList, ho]; rfl, by rw [Array.getD_eq_getD_getElem?, ho]; rfl⟩
    cases k with
    | pure =>
      simp only [planPlain, Bool.and_eq_true] at hP
      simp only [planB, Bool.and_eq_true, List.contains_eq_mem, decide_eq_true_eq, Option.isNone_iff_eq_none] at hB
      obtain ⟨hH, ⟨hr, hf⟩, hB'⟩ := hB
      obtain ⟨o, ho, ho1, ho2⟩ := hget hr
      simp only [pickOps, ho1, wpPlanI] at h
      simp only [ho2] at hP
      have take : ∀ v, YieldsIf P ops (fun _ => True) o v a → wpPlanI P ops K (pickOps ops.toList r) (a.put o.dst v) b w → wpAnyXI P ops ms K (fuel + 1) listed a b w := fun v hy hn =>
        wpAnyXI_first (S := fun _ _ => True) (fun _ _ => trivial) (fun _ => trivial) [] ho (Region.noSelect_spec hs) (.inl ⟨fun _ _ => trivial, rfl⟩) fuel listed a b w (Region.free_spec ho hf) hr (by intro j hj; cases hj) hy hE
          ((ih _ _ _ _ _ none hB' hP.2 (by omega) hE hn).1 rfl)
      refine ⟨fun _ => ?_, (fun j hj => by cases hj), fun h' e => by rw [hH] at e; cases e⟩
      split at h
      · rename_i hw
        obtain ⟨v, hy, hn⟩ := yieldsIf_of_quiet hw hP.1 h
        exact take v hy hn
      · rename_i hw
        exact take undef (.inr ⟨by simpa using hw, rfl⟩) h
    | read =>
      simp only [planPlain, Bool.and_eq_true] at hP
      simp only [planB, Bool.and_eq_true, List.contains_eq_mem, decide_eq_true_eq, Option.isNone_iff_eq_none] at hB
      obtain ⟨hH, ⟨⟨hr, hf⟩, hD⟩, hB'⟩ := hB
      obtain ⟨o, ho, ho1, ho2⟩ := hget hr
      simp only [pickOps, ho1, wpPlanI] at h
      simp only [ho2] at hP
      have hD' : ∃ D, (∀ j ∈ D, listed.getD j true = false) ∧ descB ops i D = true ∧ ∀ m ∈ ms, m ∈ D := by
        by_cases hme : ms = []
        · subst hme
          exact ⟨[], (by intro j hj; cases hj), rfl, (by intro m hm; cases hm)⟩
        · refine ⟨descOf ops i, ?_⟩
          simp only [Bool.or_eq_true, List.isEmpty_iff, hme, false_or, Bool.and_eq_true, List.all_eq_true, Bool.not_eq_true', List.contains_eq_mem, decide_eq_true_eq] at hD
          exact ⟨hD.2, hD.1.1, hD.1.2⟩
      obtain ⟨D, hD1, hD2, hD3⟩ := hD'
      have take : ∀ v, YieldsIf P ops (fun w' => ∃ u, w' = wplus b u) o v a → wpPlanI P ops K (pickOps ops.toList r) (a.put o.dst v) b w → wpAnyXI P ops ms K (fuel + 1) listed a b w := fun v hy hn =>
        wpAnyXI_first (S := fun b w' => ∃ u, w' = wplus b u) (fun {_ b' w''} he hw => by
            obtain ⟨u, rfl⟩ := hw
            exact (he.trans (ext_wplus b' u)).plus) (fun he => he.plus) D ho (Region.noSelect_spec hs) (.inr ⟨hD2, hD3⟩) fuel listed a b w (Region.free_spec ho hf) hr hD1 hy hE
          ((ih _ _ _ _ _ none hB' hP.2 (by omega) hE hn).1 rfl)
      refine ⟨fun _ => ?_, (fun j hj => by cases hj), fun h' e => by rw [hH] at e; cases e⟩
      split at h
      · rename_i hw
        obtain ⟨v, hy, hn⟩ := yieldsIf_of_quiet hw hP.1 h
        exact take v hy hn
      · rename_i hw
        exact take undef (.inr ⟨by simpa using hw, rfl⟩) h
    | eff m =>
      simp only [planPlain] at hP
      simp only [planB, Bool.and_eq_true, beq_iff_eq, List.contains_eq_mem, decide_eq_true_eq, List.all_eq_true] at hB
      obtain ⟨⟨⟨hri, hrs⟩, hm⟩, hB'⟩ := hB
      obtain ⟨o, ho, ho1, _⟩ := hget hri
      simp only [pickOps, ho1, wpPlanI] at h
      have hop : wpOpIn Fence.wide 0 P ops (okQ K) i (fun a' w' => ∃ b', (i ∉ ms → Ext b b') ∧ Ext b' w' ∧ wpAnyXI P ops ms K fuel (listed.setIfInBounds i true) a' b' w') a w := by
        unfold wpOpIn
        simp only [ho]
        split at h
        · rename_i hw
          rw [if_pos hw]
          have h1 : o.wpIn Fence.wide 0 P a w (fun a' w' => ∃ b', (i ∉ ms → Ext b b') ∧ Ext b' w' ∧ wpAnyXI P ops ms K fuel (listed.setIfInBounds i true) a' b' w') (okQ fun _ _ => False) :=
            Oper.wpIn_mono (fun a' w' ⟨b', h2, h3, h4⟩ => ⟨b', fun hj => h2 (by rw [hm]; simpa using hj), h3, (ih _ _ _ _ _ none hB' hP (by omega) h3 h4).1 rfl⟩) h
          unfold Oper.wpIn at *
          refine ⟨fun _ _ => trivial, ?_⟩
          have h1 := h1.2
          generalize (o.semAt Fence.wide.round a.eval).run P w = rr at *
          cases rr with
          | ok n w' =>
            cases n <;> simp only [Oper.uponIn] at h1 ⊢ <;> first
              | exact h1
              | (exact ⟨h1.1, CallsIn.mono h1.2 (fun e w'' he => by
                  cases e with
                  | returned u => exact he
                  | panicked c => exact he.elim
                  | outgrown => obtain ⟨_, _, hx⟩ := he; exact hx.elim)⟩)
              | (exact ⟨h1.1, RoundIn.mono h1.2 (fun e w'' he => by
                  cases e with
                  | returned u => exact he
                  | panicked c => exact he.elim
                  | outgrown => obtain ⟨_, _, hx⟩ := he; exact hx.elim)⟩)
          | halt x w' => cases x <;> simp only [Oper.uponIn] at h1 ⊢ <;> first | exact h1 | exact h1.elim
        · rename_i hw
          rw [if_neg hw]
          exact ⟨fun _ _ => trivial, b, fun _ => Ext.refl b, hE, (ih _ _ _ _ _ none hB' hP (by omega) hE h).1 rfl⟩
      refine ⟨fun hH => ⟨fun h0 => (by rw [h0] at hri; cases hri), fun j hj => ?_⟩, fun j hj => ?_, fun h' e j hj => ?_⟩
      · subst hH
        have := hrs j hj
        simp only [Option.getD_none, List.mem_singleton] at this
        subst this
        exact hop
      · simp only [heads, List.mem_singleton] at hj
        subst hj
        exact ⟨by omega, hop⟩
      · subst e
        exact hrs j hj

/-- THE REGION LAW: the plan's walk serves every order. -/
theorem wpIn_region_plan {id : Nat} {a : Act} {b w : World} {l : List Oper} {Q : Exit → Act → World → Prop} (ms : List Nat) (pl : Plan Nat) (hm : P.follows .mixedOrders = true)
    (hB : planOk l.toArray ms pl = true) (hE : Ext b w) (h : wpPlanI P l.toArray (Q .normal) (pickOps l pl) a b w.drew) : (Code.region id l.toArray true).wpIn Fence.wide 0 P Q a w := by
  simp only [planOk, Bool.and_eq_true, decide_eq_true_eq] at hB
  obtain ⟨⟨⟨h1, h2⟩, h3⟩, h4⟩ := hB
  have h5 := (planI_sound (P := P) (K := Q .normal) h1 pl _ l.toArray.size a b w.drew none h2 h3 h4 hE.drew (by simpa using h)).1 rfl
  have h6 := wpIn_region_any (id := id) (Q := okQ (Q .normal)) hm (wpAnyI_of_X _ _ _ _ _ h5)
  exact Code.wpIn_mono (fun e a w hq => by cases e <;> first | exact hq | exact hq.elim) h6

section steps
variable {r t u : Plan Oper} {o : Oper} {a : Act} {b w : World}
theorem planI_pure (hw : Region.wanted o (yielded ops a.tmps) = true) (h : ∀ N : Act → Prop, (∀ a', wpPlanI P ops K r a' b w → N a') → o.quiet P a (fun _ => True) N) : wpPlanI P ops K (.step o .pure r) a b w := by
  simp only [wpPlanI, hw, if_true]; exact h _ fun _ h => h
theorem planI_read (hw : Region.wanted o (yielded ops a.tmps) = true) (h : ∀ N : Act → Prop, (∀ a', wpPlanI P ops K r a' b w → N a') → o.quiet P a (fun w' => ∃ u, w' = wplus b u) N) : wpPlanI P ops K (.step o .read r) a b w := by
  simp only [wpPlanI, hw, if_true]; exact h _ fun _ h => h
theorem planI_eff {m : Bool} (hw : Region.wanted o (yielded ops a.tmps) = true) (h : ∀ N : Act → World → Prop, (∀ a' b' w', (m = false → Ext b b') → Ext b' w' → wpPlanI P ops K r a' b' w' → N a' w') → o.wpIn Fence.wide 0 P a w N (okQ fun _ _ => False)) :
    wpPlanI P ops K (.step o (.eff m) r) a b w := by
  simp only [wpPlanI, hw, if_true]; exact h _ fun _ b' _ h1 h2 h3 => ⟨b', h1, h2, h3⟩
theorem planI_skip {k : Kd} (hw : Region.wanted o (yielded ops a.tmps) = false) (h : wpPlanI P ops K r (a.put o.dst undef) b w) : wpPlanI P ops K (.step o k r) a b w := by
  cases k <;> simp only [wpPlanI, hw, Bool.false_eq_true, if_false] <;> exact h
theorem planI_br (h1 : wpPlanI P ops K t a b w) (h2 : wpPlanI P ops K u a b w) : wpPlanI P ops K (.br t u) a b w := ⟨h1, h2⟩
theorem planI_nil (h : K a w) : wpPlanI P ops K .fin a b w := h
end steps
end law
attribute [irreducible] wpPlanI
end Go.Proofs.YtjamakapkpkfeaaDoor
