/- A range over a function: ONE law in which the iterator may write blocks of its own (q) and asks that a round keeps others (p); the iterator yields a list that is fixed. -/
import Derived.Test.YtjamakapkpkfeaaDoorDig
import Derived.RangeFuncNested
import Derived.RangeFuncLeaves
import Derived.Shelf.Abstract
import Derived.Shelf.RegionOpen
import Derived.OwnWalkIn
import Derived.TacticsInMore
import Derived.LoopNIn
import Derived.LoopIn
namespace Go.Proofs.YtjamakapkpkfeaaDoor
open Go.RowKit Go.Shelf Sha

/-- The blocks that p names lie as they lay. -/
structure Keeps (p : Nat → Prop) (W W' : World) : Prop where
  size : W.heap.size ≤ W'.heap.size
  block : ∀ k, p k → k < W.heap.size → W'.heap[k]? = W.heap[k]?

section
variable {p : Nat → Prop} {W W' W3 : World}
theorem Keeps.refl (p : Nat → Prop) (W : World) : Keeps p W W := ⟨Nat.le_refl _, fun _ _ _ => rfl⟩
theorem Keeps.trans (h : Keeps p W W') (k : Keeps p W' W3) : Keeps p W W3 :=
  ⟨Nat.le_trans h.size k.size, fun i hp hi => (k.block i hp (Nat.lt_of_lt_of_le hi h.size)).trans (h.block i hp hi)⟩
theorem Keeps.grown (h : Keeps p W W') {r : Option Nat} (hg : W'.grownBy W3 r) (hr : ∀ k, r = some k → ¬ p k) : Keeps p W W3 :=
  h.trans ⟨hg.size, fun i hp hi => hg.block i hi (fun e => hr i e.symm hp)⟩
theorem Keeps.drew (h : Keeps p W W') : Keeps p W W'.drew := ⟨h.size, h.block⟩
theorem Keeps.alloc (h : Keeps p W W') (o : Obj) : Keeps p W (W'.alloc o) := h.grown (World.grownBy_alloc W' o none) (by simp)
theorem Keeps.setCell (h : Keeps p W W') {b j : Nat} (hb : ¬ p b) (v : Value) : Keeps p W (W'.setCell ⟨b, j, none⟩ v) :=
  h.trans ⟨by simp [World.setCell], fun i hp hi => by
    by_cases e : i = b
    · subst e; exact absurd hp hb
    · exact Below.heap_setCell _ _ _ _ (by simpa using e)⟩
theorem Keeps.ext (h : Keeps p W W') (e : Ext W' W3) : Keeps p W W3 := h.trans ⟨e.size, fun i _ hi => Below.block e i hi⟩
theorem Keeps.heap (h : Keeps p W W') {k : Nat} {o : Obj} (hk : W.heap[k]? = some o) (hp : p k) : W'.heap[k]? = some o :=
  (h.block k hp (Array.getElem?_eq_some_iff.1 hk).1).trans hk
theorem Keeps.row {b : Nat} {t : TypeId} {l : List Value} (h : Keeps p W W') (hr : Row W b t l) (hp : p b) : Row W' b t l := h.heap hr hp
theorem Keeps.cell (h : Keeps p W W') {a : Addr} {v : Value} (hc : W.cell? a = some v) (hp : p a.block) : W'.cell? a = some v := by
  have hb := h.block a.block hp (lt_of_cell hc)
  unfold World.cell? at hc ⊢
  rw [hb]
  exact hc
theorem Keeps.cells {b o : Nat} {k : IntKind} {l : List Nat} (h : Keeps p W W') (hc : Cells W b o k l) (hp : p b) : Cells W' b o k l := fun j hj => h.cell (hc j hj) hp
theorem grown_cell {W W' : World} {a : Addr} {v : Value} (hc : W.cell? a = some v) {r : Option Nat} (hg : W.grownBy W' r) (hr : some a.block ≠ r) : W'.cell? a = some v := by
  have hb := hg.block a.block (lt_of_cell hc) hr
  unfold World.cell? at hc ⊢
  rw [hb]
  exact hc
end

theorem Cells.kept {W W' : World} {b o : Nat} {k : IntKind} {l : List Nat} (h : Cells W b o k l) {r : Option Nat} (hg : W.grownBy W' r) (hr : some b ≠ r) : Cells W' b o k l := fun j hj => grown_cell (h j hj) hg hr
/-- The iterator's word: it yields xs, one after the other; it writes blocks of q alone; it asks that a round keeps those of p. -/
def Seq {α : Type} (P : Program) (g : Nat) (lb : Array Value) (encs : α → Array Value) (p q : Nat → Prop) (xs : List α) (w : World) : Prop :=
  ∀ (l : Nat) (J Jx : Nat → World → Prop) (W : World), Ext w W →
    (∀ s A B r, J s A → A.grownBy B r → (∀ k, r = some k → q k) → J s B) → (∀ s A B r, Jx s A → A.grownBy B r → (∀ k, r = some k → q k) → Jx s B) →
    (∀ j x W1, xs[j]? = some x → J j W1 → YieldAt Fence.wide 0 P l (encs x) W1 fun e W' =>
      (e = .returned (.bool true) ∧ J (j + 1) W' ∧ Keeps p W1 W') ∨ (e = .returned (.bool false) ∧ Jx (j + 1) W')) →
    J 0 W →
    CallsIn Fence.wide 0 P g (#[.func (.yield l) #[] #[]] ++ lb) W fun e W' => (∃ v, e = .returned v) ∧ (J xs.length W' ∨ ∃ j, j ≤ xs.length ∧ Jx j W')

/-- The two blocks of a range that begins at n. -/
def two (n k : Nat) : Prop := k = n ∨ k = n + 1

/-- How a round may be left. -/
def rPost (n : Nat) (p : Nat → Prop) (I : Nat → World → Prop) (Ix : Code → Nat → World → Prop) (j : Nat) (W W2 : World) : Exit → Act → World → Prop
  | .normal, _, W' => Keeps (two n) W2 W' ∧ Keeps p W W' ∧ I (j + 1) W'
  | .ret, _, W' => Keeps (two n) W2 W' ∧ Ix .ret (j + 1) W'
  | .exit id, _, W' => Keeps (two n) W2 W' ∧ Ix (.exit id) (j + 1) W'
  | .goto t, _, W' => Keeps (two n) W2 W' ∧ Ix (.goto t) (j + 1) W'
  | .panic _, _, _ => False
  | .outgrown, _, _ => False

theorem wp_range {α : Type} {P : Program} {g : Operand} {ps : Array Tmp} {assign body : Code} {Q : Exit → Act → World → Prop} {a : Act} {w : World} {gf : Nat} {lb : Array Value} (hg : a.eval g = .func (.func gf) #[] lb) (eg : Enters P gf)
    {encs : α → Array Value} {p q : Nat → Prop} {xs : List α} {w0 : World} (hseq : Seq P gf lb encs p q xs w0) (hE : Ext w0 w)
    (hp : ∀ k, p k → ¬ two w.heap.size k) (hq : ∀ k, q k → k < w.heap.size) (hps : ∀ x, (encs x).size = ps.size)
    (I : Nat → World → Prop) (Ix : Code → Nat → World → Prop)
    (hI : ∀ j A B r, I j A → A.grownBy B r → (∀ k, r = some k → q k ∨ two w.heap.size k) → I j B)
    (hIx : ∀ c j A B r, Ix c j A → A.grownBy B r → (∀ k, r = some k → q k ∨ two w.heap.size k) → Ix c j B) (h0 : I 0 w)
    (hround : ∀ (l j : Nat) (x : α) (W : World), xs[j]? = some x → I j W → w.heap.size + 1 < W.heap.size →
      assign.wpIn (Fence.wide.inRound l) 0 P (Exit.then (fun a₁ w₁ => Keeps (two w.heap.size) W w₁ ∧ ∀ w₂, w₁.grownBy w₂ (some (w.heap.size + 1)) → body.wpIn (Fence.wide.inRound l) 0 P (rPost w.heap.size p I Ix j W w₂) a₁ w₂) (fun _ _ _ => False))
        { tmps := (ps.zip (encs x)).foldl (fun t (p, v) => t.setIfInBounds p v) a.tmps, defers := [] } W)
    (hdone : ∀ (D : Nat) (W : World), I xs.length W → W.heap[D]? = some (.deferred (some [])) → w.heap.size = D → Q .normal { a with defers := { target := .collected D, args := #[] } :: a.defers } W)
    (hstop : ∀ (D : Nat) (c : Code) (j : Nat) (W : World), j ≤ xs.length → Ix c j W → W.heap[D]? = some (.deferred (some [])) → w.heap.size = D → c.wpIn Fence.wide 0 P Q { a with defers := { target := .collected D, args := #[] } :: a.defers } W) :
    (Code.rangeFunc g ps assign body).wpIn Fence.wide 0 P Q a w := by
  refine wpIn_rangeFunc ?_
  intro fn hfn
  rw [show Fence.wide.round = none from rfl]
  obtain ⟨rec, hrec⟩ : ∃ rec : LoopState → Option Code → Loop, rec = fun st pe => { state := st, pending := pe, fn, tmps := a.tmps, params := ps, assign, body, defers := w.heap.size } := ⟨_, rfl⟩
  obtain ⟨W1, hW1⟩ : ∃ W1, (w.alloc (.deferred (some []))).alloc (.loop (rec .ready none)) = W1 := ⟨_, rfl⟩
  have hs1 : W1.heap.size = w.heap.size + 2 := by rw [← hW1]; simp
  have hL1 : W1.heap[w.heap.size + 1]? = some (.loop (rec .ready none)) := by
    rw [← hW1]; have := World.alloc_heap_new (w.alloc (.deferred (some []))) (.loop (rec .ready none)); rwa [World.size_alloc] at this
  have hK1 : W1.heap[w.heap.size]? = some (.deferred (some [])) := by
    rw [← hW1]; exact (Below.heap_alloc _ _ _ (by simp)).trans (World.alloc_heap_new w _)
  have hI1 : I 0 W1 := by
    rw [← hW1]
    exact hI _ _ _ none (hI _ _ _ none h0 (World.grownBy_alloc _ _ none) (by simp)) (World.grownBy_alloc _ _ none) (by simp)
  have hput : ∀ {s : Nat} {W : World} (o : Obj), I s W → I s (W.putObj (w.heap.size + 1) o) := fun o h => hI _ _ _ _ h (grownBy_putObj' _ _ o) (fun k e => by cases e; exact .inr (.inr rfl))
  have hputx : ∀ {c : Code} {s : Nat} {W : World} (o : Obj), Ix c s W → Ix c s (W.putObj (w.heap.size + 1) o) := fun o h => hIx _ _ _ _ _ h (grownBy_putObj' _ _ o) (fun k e => by cases e; exact .inr (.inr rfl))
  refine ⟨w.heap.size + 1, [{ target := .collected w.heap.size, args := #[] }], W1, { target := .fn (.func gf) lb, args := #[.func (.yield (w.heap.size + 1)) #[] #[]] }, W1, gf,
    #[.func (.yield (w.heap.size + 1)) #[] #[]] ++ lb, W1, ?_, ?_, fun _ _ => trivial, ?_, (fun h => by cases h), ?_⟩
  · rw [← hW1, hrec]; exact run_enterLoop_outer _ _ _ _ _
  · simp only [resolve, hg]
    simp [go_sem]
  · simp [invoke, go_sem, eg _ _]
  · have hqn : ∀ {r : Option Nat}, (∀ k, r = some k → q k) → some (w.heap.size + 1) ≠ r ∧ some w.heap.size ≠ r := fun hr =>
      ⟨fun e => by have := hq _ (hr _ e.symm); omega, fun e => by have := hq _ (hr _ e.symm); omega⟩
    refine (hseq (w.heap.size + 1)
      (fun j W => I j W ∧ W.heap[w.heap.size + 1]? = some (.loop (rec .ready none)) ∧ W.heap[w.heap.size]? = some (.deferred (some [])))
      (fun j W => ∃ c, Ix c j W ∧ W.heap[w.heap.size + 1]? = some (.loop (rec .done (some c))) ∧ W.heap[w.heap.size]? = some (.deferred (some [])))
      W1 (by rw [← hW1]; exact (hE.alloc _).alloc _)
      (fun s A B r hs hgr hr => ⟨hI _ _ _ _ hs.1 hgr (fun k e => .inl (hr k e)), (hgr.block _ (Array.getElem?_eq_some_iff.1 hs.2.1).1 (hqn hr).1).trans hs.2.1, (hgr.block _ (Array.getElem?_eq_some_iff.1 hs.2.2).1 (hqn hr).2).trans hs.2.2⟩)
      (fun s A B r hs hgr hr => by
        obtain ⟨c, hc, hl, hk⟩ := hs
        exact ⟨c, hIx _ _ _ _ _ hc hgr (fun k e => .inl (hr k e)), (hgr.block _ (Array.getElem?_eq_some_iff.1 hl).1 (hqn hr).1).trans hl, (hgr.block _ (Array.getElem?_eq_some_iff.1 hk).1 (hqn hr).2).trans hk⟩)
      ?_ ⟨hI1, hL1, hK1⟩).mono ?_
    · rintro j x W hx ⟨hi, hl, hk⟩
      have hlt : w.heap.size + 1 < W.heap.size := (Array.getElem?_eq_some_iff.1 hl).1
      have hy := run_yield (P := P) (args := encs x) hl (by rw [hrec]; exact hps x)
      rw [hrec] at hy
      refine ⟨fn, _, assign, body, hy, roundIn_of_wpIn hfn (wpIn_mono (hround (w.heap.size + 1) j x W hx hi hlt) ?_)⟩
      intro e a₁ w₁ he
      cases e with
      | normal =>
        obtain ⟨hk1, hb⟩ := he
        have hl1 := hk1.heap hl (.inr rfl)
        have hk1' := hk1.heap hk (.inl rfl)
        have hlt1 : w.heap.size + 1 < w₁.heap.size := (Array.getElem?_eq_some_iff.1 hl1).1
        refine ⟨_, run_beginRound hl1 (by rw [hrec]), ?_⟩
        have hl2 : (w₁.putObj (w.heap.size + 1) (.loop { rec .ready none with state := .busy })).heap[w.heap.size + 1]? = some (.loop { rec .ready none with state := .busy }) := World.putObj_heap_same hlt1
        have hk2 : (w₁.putObj (w.heap.size + 1) (.loop { rec .ready none with state := .busy })).heap[w.heap.size]? = some (.deferred (some [])) := (World.putObj_heap_other (by omega)).trans hk1'
        refine wpIn_mono (hb _ (grownBy_putObj' _ _ _)) ?_
        have fin : ∀ (jump : Option Code) (W3 : World), Keeps (two w.heap.size) (w₁.putObj (w.heap.size + 1) (.loop { rec .ready none with state := .busy })) W3 →
            (Instr.endRound (w.heap.size + 1) jump).run P W3 = .ok (.bool jump.isNone) (W3.putObj (w.heap.size + 1) (.loop (rec (if jump.isNone then .ready else .done) jump))) ∧
            (W3.putObj (w.heap.size + 1) (.loop (rec (if jump.isNone then .ready else .done) jump))).heap[w.heap.size + 1]? = some (.loop (rec (if jump.isNone then .ready else .done) jump)) ∧
            (W3.putObj (w.heap.size + 1) (.loop (rec (if jump.isNone then .ready else .done) jump))).heap[w.heap.size]? = some (.deferred (some [])) := fun jump W3 hk3 => by
          have hl3 := hk3.heap hl2 (.inr rfl)
          have := run_endRound (P := P) jump hl3
          rw [hrec] at this ⊢
          exact ⟨this, World.putObj_heap_same (Array.getElem?_eq_some_iff.1 hl3).1, (World.putObj_heap_other (by omega)).trans (hk3.heap hk2 (.inl rfl))⟩
        rintro e a3 W3 hpost
        cases e with
        | normal =>
          obtain ⟨hk3, hkp3, hi3⟩ := hpost
          obtain ⟨hr, hl4, hk4⟩ := fin none W3 hk3
          exact ⟨_, _, hr, .inl ⟨rfl, ⟨hput _ hi3, hl4, hk4⟩, hkp3.grown (grownBy_putObj' _ _ _) (fun k e hpk => by cases e; exact hp _ hpk (.inr rfl))⟩⟩
        | ret =>
          obtain ⟨hk3, hi3⟩ := hpost
          obtain ⟨hr, hl4, hk4⟩ := fin (some .ret) W3 hk3
          exact ⟨_, _, hr, .inr ⟨rfl, .ret, hputx _ hi3, hl4, hk4⟩⟩
        | exit id =>
          obtain ⟨hk3, hi3⟩ := hpost
          obtain ⟨hr, hl4, hk4⟩ := fin (some (.exit id)) W3 hk3
          exact ⟨_, _, hr, .inr ⟨rfl, .exit id, hputx _ hi3, hl4, hk4⟩⟩
        | goto t =>
          obtain ⟨hk3, hi3⟩ := hpost
          obtain ⟨hr, hl4, hk4⟩ := fin (some (.goto t)) W3 hk3
          exact ⟨_, _, hr, .inr ⟨rfl, .goto t, hputx _ hi3, hl4, hk4⟩⟩
        | panic ch => exact hpost.elim
        | outgrown => exact hpost.elim
      | ret => exact he.elim
      | exit id => exact he.elim
      | goto t => exact he.elim
      | panic ch => exact he.elim
      | outgrown => exact he.elim
    · rintro e W2 ⟨⟨v, rfl⟩, (⟨hi, hl, hk⟩ | ⟨j, hj, c, hi, hl, hk⟩)⟩
      · exact ⟨none, _, by have := run_endLoop (P := P) hl (by rw [hrec]; simp); rw [hrec] at this; exact this, hdone _ _ (hput _ hi) ((World.putObj_heap_other (by omega)).trans hk) rfl⟩
      · exact ⟨some c, _, by have := run_endLoop (P := P) hl (by rw [hrec]; simp); rw [hrec] at this; exact this, hstop _ c j _ hj (hputx _ hi) ((World.putObj_heap_other (by omega)).trans hk) rfl⟩

/-- The end of a function that holds one range. -/
theorem bodyPostM_end {P : Program} {fn : Func} {R : Ending → World → Prop} {a : Act} {W : World} {D : Nat} {v : Value} (hd : a.defers = [{ target := .collected D, args := #[] }]) (hK : W.heap[D]? = some (.deferred (some [])))
    (hr : (results fn a.tmps).run P (W.putObj D (.deferred none)) = .ok v (W.putObj D (.deferred none))) (h : R (.returned v) (W.putObj D (.deferred none))) : bodyPostM Fence.wide 0 P fn R .ret a W ∧ bodyPostM Fence.wide 0 P fn R .normal a W := by
  have key : LeavesInM Fence.wide 0 P fn a.tmps R a.defers .returning W := by
    rw [hd]
    exact ⟨by simp, .inl ⟨_, _, rfl, run_takeDeferred hK, v, hr, h⟩⟩
  exact ⟨key, key⟩
theorem Ext.putObj {a w : World} (h : Ext a w) {D : Nat} (hD : a.heap.size ≤ D) (o : Obj) : Ext a (w.putObj D o) := h.grown (grownBy_putObj' w D o) (fun k e => by cases e; exact hD)
theorem grown_none {W W' : World} (e : Ext W W') : W.grownBy W' none := ⟨Below.os e, Below.tape e, Below.output e, e.size, fun k hk _ => Below.block e k hk⟩

/-! ### Regions in a round -/
def noDefer (ops : Array Oper) : Bool := ops.all fun o => match o.op with | .defer _ => false | _ => true

theorem wpOpsIn_of {P : Program} {ops : Array Oper} {Q : Exit → Act → World → Prop} {l : Nat} (hd : noDefer ops = true) (hQ : ¬ LetsOut Q) : ∀ (is : List Nat) (a : Act) (w : World), wpOps P ops Q is a w → wpOpsIn (Fence.wide.inRound l) 0 P ops Q is a w := by
  intro is
  induction is with
  | nil => intro a w h; exact h
  | cons i is ih =>
    intro a w h
    simp only [wpOps] at h
    simp only [wpOpsIn]
    cases ho : ops[i]? with
    | none => simp only [ho] at h; exact ih _ _ h
    | some o =>
      simp only [ho] at h
      have hnd : ∀ c, o.op ≠ .defer c := by
        intro c hc
        unfold noDefer at hd
        rw [Array.all_eq_true'] at hd
        have := hd o (Array.mem_of_getElem? ho)
        rw [hc] at this; cases this
      simp only
      split at h
      · rename_i hw
        rw [if_pos hw]
        have h := h.resolve_right (fun hx => hQ hx.2)
        unfold Oper.wpIn
        refine ⟨fun _ _ => trivial, ?_⟩
        rw [show (o.semAt (Fence.wide.inRound l).round a.eval) = _ from Oper.semAt_some l _ _ hnd]
        unfold Oper.wp at h
        generalize (execOp a.eval o).run P w = r at *
        cases r with
        | ok n w' =>
          cases n <;> simp only [Oper.upon] at h <;> simp only [Oper.uponIn]
          case value => exact ih _ _ h
          case skip => exact ih _ _ h
          case defer => exact ih _ _ h
          case enter f args =>
            refine ⟨(fun h => by cases h), callsIn_wide.2 (Calls.mono h ?_)⟩
            intro e w'' he
            cases e with
            | returned v => exact ih _ _ he
            | panicked c => exact he
            | outgrown => exact he
          case row row args =>
            refine ⟨(fun h => by cases h), fun c cs _ => ?_⟩
            obtain ⟨v, w'', hv, hs⟩ := h c cs
            exact ⟨v, w'', ih _ _ hv, stepsIn_wide.2 hs⟩
        | halt x w' =>
          cases x <;> simp only [Oper.upon] at h <;> simp only [Oper.uponIn]
          case panic => exact h
      · rename_i hw
        rw [if_neg hw]
        exact ⟨fun _ _ => trivial, ih _ _ h⟩
end Go.Proofs.YtjamakapkpkfeaaDoor
