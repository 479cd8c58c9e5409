/- The ground of the walks of this seat: worlds that extend a world (Ext), and one law for a region that draws its order: operations that only compute or read may be taken first, all others come in the one order that the edges leave. -/
import Derived.Test.YtjamakapkpkfeaaDoorRows
import Derived.WalkKit
import Derived.WalkSpells
import Derived.WalkLawsBesides
import Derived.OrdersHeld
import Derived.BigQuiet
import Derived.Lib.Hide
namespace Go.Proofs.YtjamakapkpkfeaaDoor
open Go.RowKit

/-! ### Worlds that extend a world -/

/-- Every block of w lies in w' as it lay; w' may have more. -/
def Ext (w w' : World) : Prop := Below w.heap.size w w'

theorem Ext.refl (w : World) : Ext w w := Below.refl _ _
theorem Ext.trans {a b c : World} (h : Ext a b) (k : Ext b c) : Ext a c := Below.trans h (Below.mono k (Below.size h))
theorem Ext.alloc {a w : World} (h : Ext a w) (o : Obj) : Ext a (w.alloc o) := Below.alloc h (Below.size h) o
theorem Ext.drew {a w : World} (h : Ext a w) : Ext a w.drew := Below.drew h
theorem Ext.drewN {a w : World} (h : Ext a w) (n : Nat) : Ext a (w.drewN n) := ⟨h.os, h.tape, h.output, h.size, h.block⟩
theorem Ext.setCell {a w : World} (h : Ext a w) {p : Addr} (hp : a.heap.size ≤ p.block) (u : Value) : Ext a (w.setCell p u) := Below.setCell h hp u
theorem Ext.size {a w : World} (h : Ext a w) : a.heap.size ≤ w.heap.size := Below.size h
theorem Ext.heap {a w : World} (h : Ext a w) {k : Nat} {o : Obj} (hk : a.heap[k]? = some o) : w.heap[k]? = some o :=
  (Below.block h k (Array.getElem?_eq_some_iff.1 hk).1).trans hk
theorem lt_of_cell {w : World} {p : Addr} {v : Value} (h : w.cell? p = some v) : p.block < w.heap.size := by
  unfold World.cell? at h
  cases hb : w.heap[p.block]? with
  | none => rw [hb] at h; cases h
  | some o => exact (Array.getElem?_eq_some_iff.1 hb).1
theorem Ext.cell {a w : World} (h : Ext a w) {p : Addr} {v : Value} (hp : a.cell? p = some v) : w.cell? p = some v :=
  (Below.cell h (lt_of_cell hp)).trans hp
theorem Ext.frozen {a w : World} (h : Ext a w) {p : Addr} (hp : p.block < a.heap.size) : w.frozen? p = a.frozen? p := Below.frozen h hp

open Classical in
/-- A world that extends w: u, if it does. -/
noncomputable def wplus (w u : World) : World := if Ext w u then u else w
theorem ext_wplus (w u : World) : Ext w (wplus w u) := by
  unfold wplus
  split
  · assumption
  · exact Ext.refl w
theorem wplus_of {w w' : World} (h : Ext w w') : wplus w w' = w' := by unfold wplus; rw [if_pos h]
theorem Ext.plus {w w' : World} (h : Ext w w') : ∃ u, w' = wplus w u := ⟨w', (wplus_of h).symm⟩
@[go_sem, simp] theorem wplus_drew (w u : World) : (wplus w u).drew = wplus w (wplus w u).drew := (wplus_of (ext_wplus w u).drew).symm
theorem wplus_self (w : World) : wplus w w = w := wplus_of (Ext.refl w)
theorem wplus_lt {w : World} (u : World) {n : Nat} (h : n < w.heap.size) : n < (wplus w u).heap.size := Nat.lt_of_lt_of_le h (ext_wplus w u).size

/-- What is in a cell lies there in every world that extends this one. -/
def At (w : World) (p : Addr) (v : Value) : Prop := ∀ u, (wplus w u).cell? p = some v
theorem At.of {w : World} {p : Addr} {v : Value} (h : w.cell? p = some v) : At w p v := fun u => (ext_wplus w u).cell h
theorem At.ext {w w' : World} {p : Addr} {v : Value} (h : At w p v) (e : Ext w w') : At w' p v := At.of (by have := h w'; rwa [wplus_of e] at this)
theorem At.cell {w w' : World} {p : Addr} {v : Value} (h : At w p v) (e : Ext w w') : w'.cell? p = some v := by have := h w'; rwa [wplus_of e] at this

/-! ### The region law -/

/-- The kinds of an operation in a plan: it computes; it reads; it acts (and what extends nothing: m). -/
inductive Kd where
  | pure
  | read
  | eff (m : Bool)

section law
variable {P : Program} {ops : Array Oper} {K : Act → World → Prop}

/-- A post that asks for the normal end alone. -/
def okQ (K : Act → World → Prop) : Exit → Act → World → Prop
  | .normal, a, w => K a w
  | _, _, _ => False

/-- Whatever order comes: b is a world that the present one extends. -/
def wpAnyX (P : Program) (ops : Array Oper) (ms : List Nat) (K : Act → World → Prop) : Nat → Array Bool → Act → World → World → Prop
  | 0, listed, a, _, w => Region.ready .any ops listed = [] ∧ K a w
  | fuel + 1, listed, a, b, w => (Region.ready .any ops listed = [] → K a w) ∧
    ∀ i ∈ Region.ready .any ops listed, wpOp P ops (okQ K) i (fun a' w' => ∃ b', (i ∉ ms → Ext b b') ∧ Ext b' w' ∧ wpAnyX P ops ms K fuel (listed.setIfInBounds i true) a' b' w') a w

theorem wpAny_of_X {ms : List Nat} : ∀ (fuel : Nat) (listed : Array Bool) (a : Act) (b w : World), wpAnyX P ops ms K fuel listed a b w → wpAny P .any ops (okQ K) fuel listed a w
  | 0, _, _, _, _, h => h
  | fuel + 1, _, _, _, _, h => ⟨h.1, fun i hi => wpOp_mono (fun _ _ ⟨_, _, _, h'⟩ => wpAny_of_X fuel _ _ _ _ h') (h.2 i hi)⟩

/-- j comes behind i, by the list D of those that do. -/
def descB (ops : Array Oper) (i : Nat) (D : List Nat) : Bool :=
  D.all fun j => match ops[j]? with
    | some o => o.after.any fun e => Region.binds .any e && (e.on == i || D.contains e.on)
    | none => false

theorem desc_not_ready {i : Nat} {D : List Nat} (hD : descB ops i D = true) {listed : Array Bool} (hi : listed.getD i true = false) (hl : ∀ j ∈ D, listed.getD j true = false) :
    ∀ j ∈ D, j ∉ Region.ready .any ops listed := by
  intro j hj hr
  unfold descB at hD
  rw [List.all_eq_true] at hD
  have h1 := hD j hj
  obtain ⟨_, o, ho, hall⟩ := mem_ready.1 hr
  rw [ho] at h1
  obtain ⟨e, he, hb⟩ := Array.any_eq_true'.1 h1
  simp only [Bool.and_eq_true, Bool.or_eq_true, beq_iff_eq, List.contains_eq_mem, decide_eq_true_eq] at hb
  have h2 := hall e he hb.1
  have key : ∀ k, listed.getD k true = false → listed.getD k false = true → False := by
    intro k h3 h4
    rcases Nat.lt_or_ge k listed.size with h' | h'
    · simp [h'] at h3 h4; rw [h3] at h4; cases h4
    · simp [Array.getElem?_eq_none h'] at h4
  rcases hb.2 with h3 | h3
  · rw [h3] at h2; exact key i hi h2
  · exact key _ (hl _ h3) h2

/-- An operation that yields v in every world that extends b (S: or in every world at all) may be taken first. -/
theorem wpAnyX_first {ms : List Nat} {S : World → World → Prop} (hSe : ∀ {b b' w}, Ext b b' → S b' w → S b w) (hS0 : ∀ {b w}, Ext b w → S b w) (D : List Nat) {i : Nat} {oi : Oper} {v : Value} (hi : ops[i]? = some oi)
    (hsel : ∀ (j : Nat) (o : Oper) cs b, ops[j]? = some o → o.op ≠ .select cs b)
    (hSm : ((∀ b w, S b w) ∧ D = []) ∨ (descB ops i D = true ∧ ∀ m ∈ ms, m ∈ D)) :
    ∀ (fuel : Nat) (listed : Array Bool) (a : Act) (b w : World),
      (∀ j oj, ops[j]? = some oj → j ≠ i → listed.getD j true = false → (∀ e ∈ oj.after, Region.binds .any e = true → e.on ≠ i) → oi.apart ops oj = true) →
      i ∈ Region.ready .any ops listed → (∀ j ∈ D, listed.getD j true = false) → YieldsIf P ops (S b) oi v a → Ext b w →
      wpAnyX P ops ms K fuel (listed.setIfInBounds i true) (a.put oi.dst v) b w → wpAnyX P ops ms K (fuel + 1) listed a b w := by
  intro fuel
  induction fuel with
  | zero =>
    intro listed a b w _ hr _ hy hS H
    refine ⟨fun h => (by rw [h] at hr; cases hr), fun j hj => ?_⟩
    by_cases hji : j = i
    · subst hji; exact hy.wpOp hi (hS0 hS) ⟨b, fun _ => Ext.refl b, hS, H⟩
    · have := ready_mono hj hji
      rw [H.1] at this
      cases this
  | succ fuel ih =>
    intro listed a b w hfree hr hDl hy hS H
    refine ⟨fun h => (by rw [h] at hr; cases hr), fun j hj => ?_⟩
    by_cases hji : j = i
    · subst hji; exact hy.wpOp hi (hS0 hS) ⟨b, fun _ => Ext.refl b, hS, H⟩
    · have h1 := H.2 j (ready_mono hj hji)
      obtain ⟨hjun, oj, hoj, hall⟩ := mem_ready.1 hj
      have hiun := (mem_ready.1 hr).1
      have hnot : ∀ e ∈ oj.after, Region.binds .any e = true → e.on ≠ i := fun e he hb heq => by
        have h1 := hall e he hb
        have h0 := (mem_ready.1 hr).1
        rw [heq] at h1
        rcases Nat.lt_or_ge i listed.size with h' | h'
        · simp [h'] at h0 h1; rw [h0] at h1; cases h1
        · simp [Array.getElem?_eq_none h'] at h1
      have hjD : descB ops i D = true → j ∉ D := fun hd h => desc_not_ready hd hiun hDl j h hj
      have h2 := wpOp_putIf hoj (hfree j oj hoj hji hjun hnot) (fun cs b => hsel i oi cs b hi) (fun cs b => hsel j oj cs b hoj) (fun _ _ _ h => h) hy h1
      have hfree' : ∀ k ok, ops[k]? = some ok → k ≠ i → (listed.setIfInBounds j true).getD k true = false →
          (∀ e ∈ ok.after, Region.binds .any e = true → e.on ≠ i) → oi.apart ops ok = true := fun k ok hk hki hun hno => by
        refine hfree k ok hk hki ?_ hno
        by_cases hjk : j = k
        · subst hjk; exact hjun
        · rw [getD_set_ne true hjk] at hun; exact hun
      refine wpOp_mono (fun a' w' h3 => ?_) h2
      obtain ⟨hy', b', hbb, hbw, h4⟩ := h3
      have hfin : (∀ k ∈ D, (listed.setIfInBounds j true).getD k true = false) → YieldsIf P ops (S b') oi v a' → wpAnyX P ops ms K (fuel + 1) (listed.setIfInBounds j true) a' b' w' := fun hD' hyy =>
        ih (listed.setIfInBounds j true) a' b' w' hfree' (ready_mono hr (Ne.symm hji)) hD' hyy hbw (by
          rw [Array.setIfInBounds_comm _ _ hji]
          exact h4)
      refine ⟨b', hbb, hbw, ?_⟩
      rcases hSm with ⟨hall', hD0⟩ | ⟨hd, hm⟩
      · exact hfin (by rw [hD0]; intro k hk; cases hk) (hy'.imp (fun ⟨h5, h6⟩ => ⟨h5, fun w _ => h6 w (hall' b w)⟩) id)
      · have hjm : j ∉ ms := fun h => hjD hd (hm j h)
        exact hfin (fun k hk => by
            have hjk : j ≠ k := fun e => hjD hd (e ▸ hk)
            rw [getD_set_ne true hjk]; exact hDl k hk)
          (hy'.imp (fun ⟨h5, h6⟩ => ⟨h5, fun w hw => h6 w (hSe (hbb hjm) hw)⟩) id)
/-- A plan: pure and reading operations, each as soon as it may come; an acting one where nothing else may, or each of those that may. -/
inductive Plan (α : Type) where
  | fin
  | step (i : α) (k : Kd) (t : Plan α)
  | br (t u : Plan α)

def wpPlan (P : Program) (ops : Array Oper) (K : Act → World → Prop) : Plan Oper → Act → World → World → Prop
  | .fin, a, _, w => K a w
  | .step o .pure r, a, b, w => if Region.wanted o (yielded ops a.tmps) then o.quiet P a (fun _ => True) (fun a' => wpPlan P ops K r a' b w) else wpPlan P ops K r (a.put o.dst undef) b w
  | .step o .read r, a, b, w => if Region.wanted o (yielded ops a.tmps) then o.quiet P a (fun w' => ∃ u, w' = wplus b u) (fun a' => wpPlan P ops K r a' b w) else wpPlan P ops K r (a.put o.dst undef) b w
  | .step o (.eff m) r, a, b, w => if Region.wanted o (yielded ops a.tmps) then o.wp P a w (fun a' w' => ∃ b', (m = false → Ext b b') ∧ Ext b' w' ∧ wpPlan P ops K r a' b' w') (okQ fun _ _ => False)
      else wpPlan P ops K r (a.put o.dst undef) b w
  | .br t u, a, b, w => wpPlan P ops K t a b w ∧ wpPlan P ops K u a b w

def pickOps (l : List Oper) : Plan Nat → Plan Oper
  | .fin => .fin
  | .step i k t => .step (l.getD i default) k (pickOps l t)
  | .br t u => .br (pickOps l t) (pickOps l u)

/-- The operations behind i (by the edges' chains). -/
def descOf (ops : Array Oper) (i : Nat) : List Nat :=
  ((List.range ops.size).foldl (fun (acc : List Nat) j => match ops[j]? with
    | some o => if o.after.any fun e => Region.binds .any e && (e.on == i || acc.contains e.on) then j :: acc else acc
    | none => acc) []) 

def heads : Plan Nat → List Nat
  | .step i (.eff _) _ => [i]
  | .br t u => heads t ++ heads u
  | _ => []

def planB (ops : Array Oper) (ms : List Nat) : Plan Nat → Array Bool → Option (List Nat) → Bool
  | .fin, listed, H => H.isNone && (Region.ready .any ops listed).isEmpty
  | .step i .pure r, listed, H => H.isNone && ((Region.ready .any ops listed).contains i && Region.free .any ops listed i && planB ops ms r (listed.setIfInBounds i true) none)
  | .step i .read r, listed, H => H.isNone && ((Region.ready .any ops listed).contains i && Region.free .any ops listed i &&
      (let D := descOf ops i; ms.isEmpty || (descB ops i D && ms.all D.contains && D.all fun j => !listed.getD j true)) && planB ops ms r (listed.setIfInBounds i true) none)
  | .step i (.eff m) r, listed, H => ((Region.ready .any ops listed).contains i && (Region.ready .any ops listed).all (H.getD [i]).contains) && (m == ms.contains i) && planB ops ms r (listed.setIfInBounds i true) none
  | .br t u, listed, H => let h := H.getD (heads (.br t u)); planB ops ms t listed (some h) && planB ops ms u listed (some h)

def planLen : Plan Nat → Nat
  | .fin => 0
  | .step _ _ t => planLen t + 1
  | .br t u => max (planLen t) (planLen u)

def plainOp (o : Op) : Bool := match o with
  | .move _ | .assign _ | .pick .. | .load .. | .nilCheck _ | .binOp .. | .unOp .. | .convert .. | .fieldAddr .. | .field .. | .indexAddr .. | .index .. | .slice .. | .extract .. | .lookup .. | .makeFunc .. | .build .. | .makeInterface .. => true
  | .call { callee := .builtin .len, .. } | .call { callee := .builtin .cap, .. } | .call { callee := .builtin .max, .. } | .call { callee := .builtin .min, .. } => true
  | _ => false

/-- The quiet ones are of the plain kinds. -/
def planPlain (ops : Array Oper) : Plan Nat → Bool
  | .fin => true
  | .step _ (.eff _) t => planPlain ops t
  | .step i _ t => plainOp (ops.getD i default).op && planPlain ops t
  | .br t u => planPlain ops t && planPlain ops u

theorem run_value {s : Sem Value} {w w' : World} {n : Next} (h : (do pure (Next.value (← s)) : Sem Next).run P w = .ok n w') : ∃ v, n = .value v := by
  simp only [Sem.run_bind] at h
  cases hs : s.run P w with
  | ok x w1 => rw [hs] at h; simp only [Result.andThen, Sem.run_pure, Result.ok.injEq] at h; exact ⟨x, h.1.symm⟩
  | halt x w1 => rw [hs] at h; simp [Result.andThen] at h
theorem only_value {o : Oper} (hp : plainOp o.op = true) {ρ : Operand → Value} {w w' : World} {n : Next} (h : (execOp ρ o).run P w = .ok n w') : ∃ v, n = .value v := by
  unfold execOp at h
  generalize hop : o.op = op at h hp
  cases op with
  | move x => simp [pure] at h; exact ⟨_, h.1.symm⟩
  | assign x => simp [pure] at h; exact ⟨_, h.1.symm⟩
  | pick c a b =>
    simp only [Sem.run_bind] at h
    cases hs : (asBool (ρ c)).run P w with
    | ok x w1 => rw [hs] at h; simp [Result.andThen, Sem.run_pure] at h; exact ⟨_, h.1.symm⟩
    | halt x w1 => rw [hs] at h; simp [Result.andThen] at h
  | nilCheck x =>
    simp only at h
    split at h
    all_goals first
      | (simp [Sem.run_pure] at h; exact ⟨_, h.1.symm⟩)
      | (simp [runtimePanic, goPanic, Sem.run_bind, program, Sem.run, Result.andThen] at h; done)
      | skip
    split at h
    · simp [runtimePanic, goPanic, Sem.run_bind, program, Sem.run, Result.andThen] at h
    · simp only [Sem.run_bind] at h
      generalize (program : Sem Program).run P w = r1 at h
      cases r1 with
      | halt => simp [Result.andThen] at h
      | ok p w1 =>
        simp only [Result.andThen] at h
        generalize (nilAhead _ _ _ _ : Sem (Option Bool)).run P w1 = r2 at h
        cases r2 with
        | halt => simp at h
        | ok q w2 =>
          simp only at h
          split at h
          · simp [unsupported, Sem.run, Result.andThen] at h
          · simp [Sem.run_pure] at h; exact ⟨_, h.1.symm⟩
    · simp [Sem.run_pure] at h; exact ⟨_, h.1.symm⟩
  | call c =>
    obtain ⟨callee, args0, ats⟩ := c
    cases callee with
    | value f => cases hp
    | invoke r m => cases hp
    | builtin b =>
      simp only [resolve, pure_bind, invoke] at h
      cases b with
      | len => exact run_value h
      | cap => exact run_value h
      | max => exact run_value h
      | min => exact run_value h
      | _ => cases hp
  | load t a => exact run_value h
  | binOp _ _ _ _ _ => exact run_value h
  | unOp _ _ _ => exact run_value h
  | convert _ _ _ => exact run_value h
  | fieldAddr _ _ _ => exact run_value h
  | field _ _ _ => exact run_value h
  | indexAddr _ _ _ => exact run_value h
  | index _ _ _ => exact run_value h
  | slice _ _ _ _ _ => exact run_value h
  | extract _ _ => exact run_value h
  | lookup _ _ _ _ => exact run_value h
  | makeFunc _ _ _ => exact run_value h
  | build _ _ => exact run_value h
  | makeInterface _ _ => exact run_value h
  | _ => cases hp

theorem yieldsIf_of_quiet {S : World → Prop} {o : Oper} {a : Act} {N : Act → Prop} (hw : Region.wanted o (yielded ops a.tmps) = true) (hp : plainOp o.op = true)
    (h : o.quiet P a S N) : ∃ v, YieldsIf P ops S o v a ∧ N (a.put o.dst v) := by
  obtain ⟨v, h1, h2⟩ := h
  refine ⟨v, .inl ⟨hw, fun w hS => ?_⟩, h2⟩
  have h3 := h1 w hS
  unfold Oper.quietAt at h3
  generalize hr : (execOp a.eval o).run P w = r at h3
  cases r with
  | halt x w' => exact h3.elim
  | ok n w' =>
    obtain ⟨u, rfl⟩ := only_value hp hr
    obtain ⟨rfl, rfl⟩ := h3
    rfl

theorem plan_sound {ms : List Nat} (hs : Region.noSelect ops = true) : ∀ (t : Plan Nat) (listed : Array Bool) (fuel : Nat) (a : Act) (b w : World) (H : Option (List Nat)),
    planB ops ms t listed H = true → planPlain ops t = true → planLen t ≤ fuel → Ext b w → wpPlan P ops K (pickOps ops.toList t) a b w →
      (H = none → wpAnyX P ops ms K fuel listed a b w) ∧
      (∀ j ∈ heads t, 1 ≤ fuel ∧ wpOp P ops (okQ K) j (fun a' w' => ∃ b', (j ∉ ms → Ext b b') ∧ Ext b' w' ∧ wpAnyX P ops ms K (fuel - 1) (listed.setIfInBounds j true) a' b' w') a w) ∧
      (∀ h, H = some h → ∀ j ∈ Region.ready .any ops listed, j ∈ h) := by
  intro t
  induction t with
  | fin =>
    intro listed fuel a b w H hB _ _ _ h
    simp only [planB, Bool.and_eq_true, Option.isNone_iff_eq_none, List.isEmpty_iff] at hB
    refine ⟨fun _ => ?_, (fun j hj => by cases hj), fun h' e => by rw [hB.1] at e; cases e⟩
    cases fuel with
    | zero => exact ⟨hB.2, h⟩
    | succ fuel => exact ⟨fun _ => h, by rw [hB.2]; intro i hi; cases hi⟩
  | br t u iht ihu =>
    intro listed fuel a b w H hB hP hl hE h
    simp only [planB, Bool.and_eq_true] at hB
    simp only [planPlain, Bool.and_eq_true] at hP
    simp only [planLen] at hl
    simp only [pickOps, wpPlan] at h
    obtain ⟨_, t2, t3⟩ := iht listed fuel a b w _ hB.1 hP.1 (by omega) hE h.1
    obtain ⟨_, u2, _⟩ := ihu listed fuel a b w _ hB.2 hP.2 (by omega) hE h.2
    have h2 : ∀ j ∈ heads (.br t u), 1 ≤ fuel ∧ wpOp P ops (okQ K) j (fun a' w' => ∃ b', (j ∉ ms → Ext b b') ∧ Ext b' w' ∧ wpAnyX P ops ms K (fuel - 1) (listed.setIfInBounds j true) a' b' w') a w := fun j hj => by
      rcases List.mem_append.1 (show j ∈ heads t ++ heads u from hj) with h | h
      · exact t2 j h
      · exact u2 j h
    refine ⟨fun hH => ?_, h2, fun h' e j hj => ?_⟩
    · subst hH
      have hne : ∃ i, i ∈ Region.ready .any ops listed := by
        have aux : ∀ (t : Plan Nat) (h' : List Nat), planB ops ms t listed (some h') = true → ∃ i, i ∈ Region.ready .any ops listed := by
          intro t
          induction t with
          | fin => intro h' hb; simp [planB] at hb
          | step i k t _ =>
            intro h' hb
            cases k with
            | pure => simp [planB] at hb
            | read => simp [planB] at hb
            | eff m => simp only [planB, Bool.and_eq_true, List.contains_eq_mem, decide_eq_true_eq] at hb; exact ⟨i, hb.1.1.1⟩
          | br t u iht _ => intro h' hb; simp only [planB, Bool.and_eq_true, Option.getD_some] at hb; exact iht h' hb.1
        exact aux t _ hB.1
      obtain ⟨i0, hi0⟩ := hne
      obtain ⟨f, rfl⟩ : ∃ f, fuel = f + 1 := ⟨fuel - 1, by have := (h2 i0 (t3 _ rfl i0 hi0)).1; omega⟩
      exact ⟨fun h0 => (by rw [h0] at hi0; cases hi0), fun j hj => (h2 j (t3 _ rfl j hj)).2⟩
    · subst e
      exact t3 _ rfl j hj
  | step i k r ih =>
    intro listed fuel a b w H hB hP hl hE h
    simp only [planLen] at hl
    obtain ⟨fuel, rfl⟩ : ∃ f, fuel = f + 1 := ⟨fuel - 1, by omega⟩
    have hget : ∀ (hr : i ∈ Region.ready .any ops listed), ∃ o, ops[i]? = some o ∧ ops.toList.getD i default = o ∧ ops.getD i default = o := fun hr => by
      obtain ⟨_, o, ho, _⟩ := mem_ready.1 hr
      exact ⟨o, ho, by rw [List.getD_eq_getElem?_getD, Array.getElem?_toList, ho]; rfl, by rw [Array.getD_eq_getD_getElem?, ho]; rfl⟩
    cases k with
    | pure =>
      simp only [planPlain, Bool.and_eq_true] at hP
      simp only [planB, Bool.and_eq_true, List.contains_eq_mem, decide_eq_true_eq, Option.isNone_iff_eq_none] at hB
      obtain ⟨hH, ⟨hr, hf⟩, hB'⟩ := hB
      obtain ⟨o, ho, ho1, ho2⟩ := hget hr
      simp only [pickOps, ho1, wpPlan] at h
      simp only [ho2] at hP
      have take : ∀ v, YieldsIf P ops (fun _ => True) o v a → wpPlan P ops K (pickOps ops.toList r) (a.put o.dst v) b w → wpAnyX P ops ms K (fuel + 1) listed a b w := fun v hy hn =>
        wpAnyX_first (S := fun _ _ => True) (fun _ _ => trivial) (fun _ => trivial) [] ho (Region.noSelect_spec hs) (.inl ⟨fun _ _ => trivial, rfl⟩) fuel listed a b w (Region.free_spec ho hf) hr (by intro j hj; cases hj) hy hE
          ((ih _ _ _ _ _ none hB' hP.2 (by omega) hE hn).1 rfl)
      refine ⟨fun _ => ?_, (fun j hj => by cases hj), fun h' e => by rw [hH] at e; cases e⟩
      split at h
      · rename_i hw
        obtain ⟨v, hy, hn⟩ := yieldsIf_of_quiet hw hP.1 h
        exact take v hy hn
      · rename_i hw
        exact take undef (.inr ⟨by simpa using hw, rfl⟩) h
    | read =>
      simp only [planPlain, Bool.and_eq_true] at hP
      simp only [planB, Bool.and_eq_true, List.contains_eq_mem, decide_eq_true_eq, Option.isNone_iff_eq_none] at hB
      obtain ⟨hH, ⟨⟨hr, hf⟩, hD⟩, hB'⟩ := hB
      obtain ⟨o, ho, ho1, ho2⟩ := hget hr
      simp only [pickOps, ho1, wpPlan] at h
      simp only [ho2] at hP
      have hD' : ∃ D, (∀ j ∈ D, listed.getD j true = false) ∧ descB ops i D = true ∧ ∀ m ∈ ms, m ∈ D := by
        by_cases hme : ms = []
        · subst hme
          exact ⟨[], (by intro j hj; cases hj), rfl, (by intro m hm; cases hm)⟩
        · refine ⟨descOf ops i, ?_⟩
          simp only [Bool.or_eq_true, List.isEmpty_iff, hme, false_or, Bool.and_eq_true, List.all_eq_true, Bool.not_eq_true', List.contains_eq_mem, decide_eq_true_eq] at hD
          exact ⟨hD.2, hD.1.1, hD.1.2⟩
      obtain ⟨D, hD1, hD2, hD3⟩ := hD'
      have take : ∀ v, YieldsIf P ops (fun w' => ∃ u, w' = wplus b u) o v a → wpPlan P ops K (pickOps ops.toList r) (a.put o.dst v) b w → wpAnyX P ops ms K (fuel + 1) listed a b w := fun v hy hn =>
        wpAnyX_first (S := fun b w' => ∃ u, w' = wplus b u) (fun {_ b' w''} he hw => by
            obtain ⟨u, rfl⟩ := hw
            exact (he.trans (ext_wplus b' u)).plus) (fun he => he.plus) D ho (Region.noSelect_spec hs) (.inr ⟨hD2, hD3⟩) fuel listed a b w (Region.free_spec ho hf) hr hD1 hy hE
          ((ih _ _ _ _ _ none hB' hP.2 (by omega) hE hn).1 rfl)
      refine ⟨fun _ => ?_, (fun j hj => by cases hj), fun h' e => by rw [hH] at e; cases e⟩
      split at h
      · rename_i hw
        obtain ⟨v, hy, hn⟩ := yieldsIf_of_quiet hw hP.1 h
        exact take v hy hn
      · rename_i hw
        exact take undef (.inr ⟨by simpa using hw, rfl⟩) h
    | eff m =>
      simp only [planPlain] at hP
      simp only [planB, Bool.and_eq_true, beq_iff_eq, List.contains_eq_mem, decide_eq_true_eq, List.all_eq_true] at hB
      obtain ⟨⟨⟨hri, hrs⟩, hm⟩, hB'⟩ := hB
      obtain ⟨o, ho, ho1, _⟩ := hget hri
      simp only [pickOps, ho1, wpPlan] at h
      have hop : wpOp P ops (okQ K) i (fun a' w' => ∃ b', (i ∉ ms → Ext b b') ∧ Ext b' w' ∧ wpAnyX P ops ms K fuel (listed.setIfInBounds i true) a' b' w') a w := by
        unfold wpOp
        simp only [ho]
        split at h
        · rename_i hw
          rw [if_pos hw]
          refine .inl ?_
          have h1 : o.wp P a w (fun a' w' => ∃ b', (i ∉ ms → Ext b b') ∧ Ext b' w' ∧ wpAnyX P ops ms K fuel (listed.setIfInBounds i true) a' b' w') (okQ fun _ _ => False) :=
            Oper.wp_mono (fun a' w' ⟨b', h2, h3, h4⟩ => ⟨b', fun hj => h2 (by rw [hm]; simpa using hj), h3, (ih _ _ _ _ _ none hB' hP (by omega) h3 h4).1 rfl⟩) h
          unfold Oper.wp at *
          generalize (execOp a.eval o).run P w = rr at *
          cases rr with
          | ok n w' =>
            cases n <;> simp only [Oper.upon] at h1 ⊢ <;> first
              | exact h1
              | (exact Calls.mono h1 (fun e w'' he => by
                  cases e with
                  | returned u => exact he
                  | panicked c => exact he.elim
                  | outgrown => obtain ⟨_, _, hx⟩ := he; exact hx.elim))
          | halt x w' => cases x <;> simp only [Oper.upon] at h1 ⊢ <;> first | exact h1 | exact h1.elim
        · rename_i hw
          rw [if_neg hw]
          exact ⟨b, fun _ => Ext.refl b, hE, (ih _ _ _ _ _ none hB' hP (by omega) hE h).1 rfl⟩
      refine ⟨fun hH => ⟨fun h0 => (by rw [h0] at hri; cases hri), fun j hj => ?_⟩, fun j hj => ?_, fun h' e j hj => ?_⟩
      · subst hH
        have := hrs j hj
        simp only [Option.getD_none, List.mem_singleton] at this
        subst this
        exact hop
      · simp only [heads, List.mem_singleton] at hj
        subst hj
        exact ⟨by omega, hop⟩
      · subst e
        exact hrs j hj

/-- All that is asked of a plan, in one Bool. -/
def planOk (ops : Array Oper) (ms : List Nat) (pl : Plan Nat) : Bool :=
  Region.noSelect ops && planB ops ms pl (Array.replicate ops.size false) none && planPlain ops pl && decide (planLen pl ≤ ops.size)

/-- THE REGION LAW: the plan's walk serves every order. -/
theorem wp_region_plan {id : Nat} {a : Act} {b w : World} {l : List Oper} {Q : Exit → Act → World → Prop} (ms : List Nat) (pl : Plan Nat) (hm : P.follows .mixedOrders = true)
    (hB : planOk l.toArray ms pl = true) (hE : Ext b w) (h : wpPlan P l.toArray (Q .normal) (pickOps l pl) a b w.drew) : (Code.region id l.toArray true).wp P Q a w := by
  simp only [planOk, Bool.and_eq_true, decide_eq_true_eq] at hB
  obtain ⟨⟨⟨h1, h2⟩, h3⟩, h4⟩ := hB
  have h5 := (plan_sound (P := P) (K := Q .normal) h1 pl _ l.toArray.size a b w.drew none h2 h3 h4 hE.drew (by simpa using h)).1 rfl
  have h6 := wp_region_any (id := id) (Q := okQ (Q .normal)) hm (wpAny_of_X _ _ _ _ _ h5)
  exact Code.wp_mono (fun e a w hq => by cases e <;> first | exact hq | exact hq.elim) h6

/-! ### The steps of a plan's walk -/
section steps
variable {r t u : Plan Oper} {o : Oper} {a : Act} {b w : World}
theorem plan_pure (hw : Region.wanted o (yielded ops a.tmps) = true) (h : ∀ N : Act → Prop, (∀ a', wpPlan P ops K r a' b w → N a') → o.quiet P a (fun _ => True) N) : wpPlan P ops K (.step o .pure r) a b w := by
  simp only [wpPlan, hw, if_true]; exact h _ fun _ h => h
theorem plan_read (hw : Region.wanted o (yielded ops a.tmps) = true) (h : ∀ N : Act → Prop, (∀ a', wpPlan P ops K r a' b w → N a') → o.quiet P a (fun w' => ∃ u, w' = wplus b u) N) : wpPlan P ops K (.step o .read r) a b w := by
  simp only [wpPlan, hw, if_true]; exact h _ fun _ h => h
theorem plan_eff {m : Bool} (hw : Region.wanted o (yielded ops a.tmps) = true) (h : ∀ N : Act → World → Prop, (∀ a' b' w', (m = false → Ext b b') → Ext b' w' → wpPlan P ops K r a' b' w' → N a' w') → o.wp P a w N (okQ fun _ _ => False)) :
    wpPlan P ops K (.step o (.eff m) r) a b w := by
  simp only [wpPlan, hw, if_true]; exact h _ fun _ b' _ h1 h2 h3 => ⟨b', h1, h2, h3⟩
theorem plan_skip {k : Kd} (hw : Region.wanted o (yielded ops a.tmps) = false) (h : wpPlan P ops K r (a.put o.dst undef) b w) : wpPlan P ops K (.step o k r) a b w := by
  cases k <;> simp only [wpPlan, hw, Bool.false_eq_true, if_false] <;> exact h
theorem plan_br (h1 : wpPlan P ops K t a b w) (h2 : wpPlan P ops K u a b w) : wpPlan P ops K (.br t u) a b w := ⟨h1, h2⟩
theorem plan_nil (h : K a w) : wpPlan P ops K .fin a b w := h
end steps
end law
attribute [irreducible] wpPlan
end Go.Proofs.YtjamakapkpkfeaaDoor
