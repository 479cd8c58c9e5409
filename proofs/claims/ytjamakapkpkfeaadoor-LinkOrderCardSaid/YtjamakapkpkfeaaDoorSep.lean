/- Things that lie apart from each other in the heap: each is written without the others. -/
import Derived.Test.YtjamakapkpkfeaaDoorApp3
namespace Go.Proofs.YtjamakapkpkfeaaDoor
open Go.RowKit Go.Shelf Sha

/-- A thing in the heap: what it says of a world and the blocks that it has; other blocks may turn. -/
structure Thing where
  P : World → (Nat → Prop) → Prop
  frame : ∀ {W W' : World} {F G : Nat → Prop}, P W F → Mod G W W' → (∀ k, F k → ¬ G k) → P W' F
  low : ∀ {W : World} {F : Nat → Prop}, P W F → ∀ k, F k → k < W.heap.size

/-- The things lie in W, at or beyond base, apart from each other. -/
def Sep (W : World) (base : Nat) (os : List Thing) : Prop :=
  ∃ fp : Nat → Nat → Prop, (∀ (i : Nat) (O : Thing), os[i]? = some O → O.P W (fp i)) ∧ (∀ i j : Nat, i < os.length → j < os.length → i ≠ j → ∀ k, fp i k → ¬ fp j k) ∧ ∀ i k : Nat, i < os.length → fp i k → base ≤ k

section
variable {W W' : World} {base : Nat} {os : List Thing}
theorem Sep.nil (W : World) (base : Nat) : Sep W base [] := ⟨fun _ _ => False, fun i O h => by simp at h, fun i j h => absurd h (Nat.not_lt_zero _), fun i k h => absurd h (Nat.not_lt_zero _)⟩
theorem Sep.mod (h : Sep W base os) {G : Nat → Prop} (hm : Mod G W W') (hG : ∀ k, G k → k < base ∨ W.heap.size ≤ k) : Sep W' base os := by
  obtain ⟨fp, h1, h2, h3⟩ := h
  refine ⟨fp, fun i O hO => O.frame (h1 i O hO) hm (fun k hk hg => ?_), h2, h3⟩
  have hi : i < os.length := (List.getElem?_eq_some_iff.1 hO).1
  have a1 := h3 i k hi hk
  have a2 := O.low (h1 i O hO) k hk
  rcases hG k hg with h | h <;> omega
theorem Sep.ext (h : Sep W base os) (e : Ext W W') : Sep W' base os := h.mod (Mod.of_ext (fp := fun _ => False) e) (fun _ h => h.elim)
/-- One thing, and what is to be shown where it is written. -/
theorem Sep.get (h : Sep W base os) {i : Nat} {O : Thing} (hi : os[i]? = some O) :
    ∃ F : Nat → Prop, O.P W F ∧ (∀ k, F k → base ≤ k ∧ k < W.heap.size) ∧
      ∀ {W' : World} {O' : Thing} {F' : Nat → Prop}, Mod F W W' → O'.P W' F' → (∀ k, F' k → F k ∨ W.heap.size ≤ k) → base ≤ W.heap.size → Sep W' base (os.set i O') := by
  obtain ⟨fp, h1, h2, h3⟩ := h
  have hlt : i < os.length := (List.getElem?_eq_some_iff.1 hi).1
  refine ⟨fp i, h1 i O hi, fun k hk => ⟨h3 i k hlt hk, O.low (h1 i O hi) k hk⟩, fun {W' O' F'} hm ho hf hb => ?_⟩
  have hlow : ∀ j k, j < os.length → fp j k → k < W.heap.size := fun j k hj hk => by
    exact (os[j]).low (h1 j _ (List.getElem?_eq_getElem hj)) k hk
  refine ⟨fun j => if j = i then F' else fp j, fun j Q hQ => ?_, fun j l hj hl hne k hjk hlk => ?_, fun j k hj hk => ?_⟩
  · by_cases hji : j = i
    · subst hji
      rw [List.getElem?_set_self hlt] at hQ
      cases hQ
      simp only [if_true]; exact ho
    · rw [List.getElem?_set_ne (Ne.symm hji)] at hQ
      simp only [if_neg hji]
      exact Q.frame (h1 j Q hQ) hm (fun k hk hg => h2 j i (List.getElem?_eq_some_iff.1 hQ).1 hlt hji k hk hg)
  · rw [List.length_set] at hj hl
    by_cases hji : j = i
    · subst hji
      have hli : ¬ l = j := fun e => hne e.symm
      simp only [if_true] at hjk
      simp only [if_neg hli] at hlk
      rcases hf k hjk with h4 | h4
      · exact h2 j l hlt hl hne k h4 hlk
      · have := hlow l k hl hlk; omega
    · simp only [if_neg hji] at hjk
      by_cases hli : l = i
      · subst hli
        simp only [if_true] at hlk
        rcases hf k hlk with h4 | h4
        · exact h2 j l hj hl hne k hjk h4
        · have := hlow j k hj hjk; omega
      · simp only [if_neg hli] at hlk
        exact h2 j l hj hl hne k hjk hlk
  · rw [List.length_set] at hj
    by_cases hji : j = i
    · subst hji
      simp only [if_true] at hk
      rcases hf k hk with h4 | h4
      · exact h3 j k hlt h4
      · omega
    · simp only [if_neg hji] at hk
      exact h3 j k hj hk
/-- One more thing. -/
theorem Sep.push (h : Sep W base os) (e : Ext W W') {O : Thing} {F : Nat → Prop} (ho : O.P W' F) (hf : ∀ k, F k → W.heap.size ≤ k) (hb : base ≤ W.heap.size) : Sep W' base (os ++ [O]) := by
  have hw : ∀ i k (Q : Thing) (fp : Nat → Nat → Prop), Q.P W (fp i) → fp i k → k < W.heap.size := fun i k Q fp h hk => Q.low h k hk
  obtain ⟨fp, h1, h2, h3⟩ := h
  have hlow : ∀ j k, j < os.length → fp j k → k < W.heap.size := fun j k hj hk => hw j k _ fp (h1 j _ (List.getElem?_eq_getElem hj)) hk
  refine ⟨fun j => if j = os.length then F else fp j, fun j Q hQ => ?_, fun j l hj hl hne k hjk hlk => ?_, fun j k hj hk => ?_⟩
  · by_cases hji : j = os.length
    · subst hji
      rw [List.getElem?_append_right (Nat.le_refl _), Nat.sub_self] at hQ
      cases hQ
      simp only [if_true]; exact ho
    · have hj : j < os.length := by
        have := (List.getElem?_eq_some_iff.1 hQ).1
        rw [List.length_append] at this; simp at this; omega
      rw [List.getElem?_append_left hj] at hQ
      simp only [if_neg hji]
      exact Q.frame (h1 j Q hQ) (Mod.of_ext (fp := fun _ => False) e) (fun _ _ h => h)
  · rw [List.length_append] at hj hl
    simp at hj hl
    by_cases hji : j = os.length
    · subst hji
      have hli : ¬ l = os.length := fun e => hne e.symm
      simp only [if_true] at hjk
      simp only [if_neg hli] at hlk
      have := hlow l k (by omega) hlk; have := hf k hjk; omega
    · simp only [if_neg hji] at hjk
      by_cases hli : l = os.length
      · subst hli
        simp only [if_true] at hlk
        have := hlow j k (by omega) hjk; have := hf k hlk; omega
      · simp only [if_neg hli] at hlk
        exact h2 j l (by omega) (by omega) hne k hjk hlk
  · rw [List.length_append] at hj
    simp at hj
    by_cases hji : j = os.length
    · subst hji
      simp only [if_true] at hk
      have := hf k hk; omega
    · simp only [if_neg hji] at hk
      exact h3 j k (by omega) hk
end

/-! ### Kinds of things -/
/-- A row. -/
def RowT (b : Nat) (t : TypeId) (l : List Value) : Thing where
  P W F := Row W b t l ∧ F b ∧ ∀ k, F k → k < W.heap.size
  frame h hm hd := ⟨hm.row h.1 (hd _ h.2.1), h.2.1, fun k hk => Nat.lt_of_lt_of_le (h.2.2 k hk) hm.size⟩
  low h := h.2.2
/-- A slice that is owned. -/
def OwnT (e : TypeId) (size : Nat) (v : Value) (n : Nat) (xs : List Value) : Thing where
  P W F := Own W 0 e size v n xs ∧ (∀ k, v.ownBlock = some k → F k) ∧ ∀ k, F k → k < W.heap.size
  frame h hm hd := ⟨hm.own h.1 (fun k hk => hd _ (h.2.1 k hk)), h.2.1, fun k hk => Nat.lt_of_lt_of_le (h.2.2 k hk) hm.size⟩
  low h := h.2.2
/-- An end of a link. -/
def EndT (E : Nat) (L : Lk) : Thing where
  P W F := EndAt W F E L
  frame h hm hd := h.mod hm hd
  low h k hk := by obtain ⟨v, M, h⟩ := h; exact h.low k hk
/-- A slice that is read alone. -/
def SlT (v : Value) (size n : Nat) (xs : List Value) : Thing where
  P W F := Sl W v size n xs ∧ (∀ k, v.ownBlock = some k → F k) ∧ ∀ k, F k → k < W.heap.size
  frame h hm hd := ⟨by
    obtain ⟨h1, p, c, rfl, h2⟩ := h.1
    refine ⟨h1, p, c, rfl, fun hn => ?_⟩
    obtain ⟨g, rfl, h3⟩ := h2 hn
    exact ⟨g, rfl, fun j u hu => hm.cell (h3 j u hu) (hd _ (h.2.1 g rfl))⟩, h.2.1, fun k hk => Nat.lt_of_lt_of_le (h.2.2 k hk) hm.size⟩
  low h := h.2.2

section
variable {W W' : World} {base : Nat} {os : List Thing}
theorem Sep.row (h : Sep W base os) {i b : Nat} {t : TypeId} {l : List Value} (hi : os[i]? = some (RowT b t l)) : Row W b t l := by
  obtain ⟨F, h1, _⟩ := h.get hi; exact h1.1
theorem Sep.own (h : Sep W base os) {i : Nat} {e : TypeId} {size : Nat} {v : Value} {n : Nat} {xs : List Value} (hi : os[i]? = some (OwnT e size v n xs)) : Own W 0 e size v n xs := by
  obtain ⟨F, h1, _⟩ := h.get hi; exact h1.1
theorem Sep.sl (h : Sep W base os) {i : Nat} {v : Value} {size n : Nat} {xs : List Value} (hi : os[i]? = some (SlT v size n xs)) : Sl W v size n xs := by
  obtain ⟨F, h1, _⟩ := h.get hi; exact h1.1
/-- A row is written. -/
theorem Sep.setRow (h : Sep W base os) {i b : Nat} {t : TypeId} {l : List Value} (hi : os[i]? = some (RowT b t l)) {l' : List Value} (hg : W.grownBy W' (some b)) (hr : Row W' b t l') (hb : base ≤ W.heap.size) : Sep W' base (os.set i (RowT b t l')) := by
  obtain ⟨F, h1, h2, h3⟩ := h.get hi
  refine h3 (O' := RowT b t l') (F' := F) ((Mod.refl F W).grown hg (fun k hk => .inl (by cases hk; exact h1.2.1))) ⟨hr, h1.2.1, fun k hk => Nat.lt_of_lt_of_le (h2 k hk).2 hg.size⟩ (fun k hk => .inl hk) hb
/-- A slice that is owned is appended to. -/
theorem Sep.setOwn (h : Sep W base os) {i : Nat} {e : TypeId} {size : Nat} {v : Value} {n : Nat} {xs : List Value} (hi : os[i]? = some (OwnT e size v n xs)) {v' : Value} {n' : Nat} {xs' : List Value} (hg : W.grownBy W' v.ownBlock)
    (ho : Own W' 0 e size v' n' xs') (hn : ∀ k, v'.ownBlock = some k → v.ownBlock = some k ∨ W.heap.size ≤ k) (hb : base ≤ W.heap.size) : Sep W' base (os.set i (OwnT e size v' n' xs')) := by
  obtain ⟨F, h1, h2, h3⟩ := h.get hi
  refine h3 (O' := OwnT e size v' n' xs') (F' := fun k => v'.ownBlock = some k) ((Mod.refl F W).grown hg (fun k hk => .inl (h1.2.1 k hk))) ⟨ho, fun k hk => hk, fun k hk => (ho.lt k hk).2⟩ (fun k hk => ?_) hb
  rcases hn k hk with h4 | h4
  · exact .inl (h1.2.1 k h4)
  · exact .inr h4
/-- A new row. -/
theorem Sep.newRow (h : Sep W base os) (e : Ext W W') {b : Nat} {t : TypeId} {l : List Value} (hr : Row W' b t l) (hn : W.heap.size ≤ b) (hb : base ≤ W.heap.size) : Sep W' base (os ++ [RowT b t l]) :=
  h.push (O := RowT b t l) (F := fun k => k = b) e ⟨hr, rfl, fun k hk => by rw [hk]; exact hr.lt⟩ (fun k hk => by rw [hk]; exact hn) hb
theorem Sep.newOwn (h : Sep W base os) (e : Ext W W') {t : TypeId} {size : Nat} {v : Value} {n : Nat} {xs : List Value} (ho : Own W' 0 t size v n xs) (hn : ∀ k, v.ownBlock = some k → W.heap.size ≤ k) (hb : base ≤ W.heap.size) : Sep W' base (os ++ [OwnT t size v n xs]) :=
  h.push (O := OwnT t size v n xs) (F := fun k => v.ownBlock = some k) e ⟨ho, fun k hk => hk, fun k hk => (ho.lt k hk).2⟩ (fun k hk => hn k hk) hb
theorem Sep.newSl (h : Sep W base os) (e : Ext W W') {size : Nat} {v : Value} {n : Nat} {xs : List Value} (ho : Sl W' v size n xs) (hn : ∀ k, v.ownBlock = some k → W.heap.size ≤ k ∧ k < W'.heap.size) (hb : base ≤ W.heap.size) : Sep W' base (os ++ [SlT v size n xs]) :=
  h.push (O := SlT v size n xs) (F := fun k => v.ownBlock = some k) e ⟨ho, fun k hk => hk, fun k hk => (hn k hk).2⟩ (fun k hk => (hn k hk).1) hb
/-- What writes one thing keeps all that was there before base. -/
theorem Ext.modGe {w : World} {G : Nat → Prop} (h : Ext w W) (hm : Mod G W W') (hG : ∀ k, G k → w.heap.size ≤ k) : Ext w W' := by
  have h1 : Mod G w W := Mod.of_ext h
  have h2 := h1.trans hm (fun k hk => .inl hk)
  exact ⟨h2.os, h2.tape, h2.output, h2.size, fun k hk => h2.block k hk (fun hf => by have := hG k hf; omega)⟩
end
end Go.Proofs.YtjamakapkpkfeaaDoor
