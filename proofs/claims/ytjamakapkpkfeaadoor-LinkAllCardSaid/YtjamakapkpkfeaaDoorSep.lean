/- Things that lie apart from each other in the heap: each is written without the others. -/
import Derived.Test.YtjamakapkpkfeaaDoorApp3
import Derived.Test.YtjamakapkpkfeaaDoorTwo
import Derived.Test.YtjamakapkpkfeaaDoorOpen
namespace Go.Proofs.YtjamakapkpkfeaaDoor
open Go.RowKit Go.Shelf Sha

theorem Ints.ext {W W' : World} {v : Value} {n : Nat} {x : Nat → Int} (h : Ints W v n x) (e : Ext W W') : Ints W' v n x := by
  obtain ⟨p, c, rfl, h1, h2, h3⟩ := h
  refine ⟨p, c, rfl, h1, h2, fun hn => ?_⟩
  obtain ⟨g, o, rfl, h4⟩ := h3 hn
  exact ⟨g, o, rfl, fun i hi => e.cell (h4 i hi)⟩
theorem Ints.cell {W : World} {n : Nat} {x : Nat → Int} {g o c : Nat} (h : Ints W (.slice (some ⟨g, o, none⟩) n c) n x) {i : Nat} (hi : i < n) : W.cell? ⟨g, o + i, none⟩ = some (.int .i64 (x i)) := by
  obtain ⟨p, c', he, _, _, h2⟩ := h
  obtain ⟨g', o', rfl, h3⟩ := h2 (by omega)
  cases he
  exact h3 i hi

theorem outC_any {w : World} {fp : Nat → Prop} {E : Nat} {L : Lk} (h : EndAt w fp E L) (ht : Tab w) :
    Calls Tryd.prog 22 #[.pointer (some ⟨E, 0, none⟩)] w fun e w' => ∃ p c, e = .returned (.slice p L.out.length c) ∧ Sl w' (.slice p L.out.length c) 4 L.out.length (pcells L.out) ∧ Ext w w' ∧ (∀ g, (Value.slice p L.out.length c).ownBlock = some g → w.heap.size ≤ g) ∧ L.out.length ≤ c := by
  refine (out_any h ht).mono ?_
  rintro e w' ⟨v, rfl, ho, hE⟩
  obtain ⟨p, c, rfl, hc⟩ := (toOwn ho).form'
  exact ⟨p, c, rfl, (toOwn ho).sl, hE, fun g hg => ((toOwn ho).lt g hg).1, hc⟩
theorem Sl.pktT {W : World} {g n c : Nat} {l : List Pkt} (h : Sl W (.slice (some ⟨g, 0, none⟩) n c) 4 n (pcells l)) (hn : 0 < n) {k : Nat} {pk : Pkt} (hk : l[k]? = some pk) (j : Nat) (hj : j < 4) : W.cell? ⟨g, k * 4 + j, none⟩ = some (pk.cells.getD j undef) := by
  obtain ⟨hlt, he⟩ := List.getElem?_eq_some_iff.1 hk
  rw [← he]; exact h.pkt hn k hlt j hj
/-- A thing in the heap: what it says of a world and the blocks that it has; other blocks may turn. -/
structure Thing where
  P : World → (Nat → Prop) → Prop
  frame : ∀ {W W' : World} {F G : Nat → Prop}, P W F → Mod G W W' → (∀ k, F k → ¬ G k) → P W' F
  low : ∀ {W : World} {F : Nat → Prop}, P W F → ∀ k, F k → k < W.heap.size

/-- The things lie in W, at or beyond base, apart from each other. -/
def Sep (W : World) (base : Nat) (os : List Thing) : Prop :=
  ∃ fp : Nat → Nat → Prop, (∀ (i : Nat) (O : Thing), os[i]? = some O → O.P W (fp i)) ∧ (∀ i j : Nat, i < os.length → j < os.length → i ≠ j → ∀ k, fp i k → ¬ fp j k) ∧ ∀ i k : Nat, i < os.length → fp i k → base ≤ k

section
variable {W W' : World} {base : Nat} {os : List Thing}
theorem Sep.nil (W : World) (base : Nat) : Sep W base [] := ⟨fun _ _ => False, fun i O h => by simp at h, fun i j h => absurd h (Nat.not_lt_zero _), fun i k h => absurd h (Nat.not_lt_zero _)⟩
theorem Sep.mod (h : Sep W base os) {G : Nat → Prop} (hm : Mod G W W') (hG : ∀ k, G k → k < base ∨ W.heap.size ≤ k) : Sep W' base os := by
  obtain ⟨fp, h1, h2, h3⟩ := h
  refine ⟨fp, fun i O hO => O.frame (h1 i O hO) hm (fun k hk hg => ?_), h2, h3⟩
  have hi : i < os.length := (List.getElem?_eq_some_iff.1 hO).1
  have a1 := h3 i k hi hk
  have a2 := O.low (h1 i O hO) k hk
  rcases hG k hg with h | h <;> omega
theorem Sep.ext (h : Sep W base os) (e : Ext W W') : Sep W' base os := h.mod (Mod.of_ext (fp := fun _ => False) e) (fun _ h => h.elim)
/-- One thing, and what is to be shown where it is written. -/
theorem Sep.get (h : Sep W base os) {i : Nat} {O : Thing} (hi : os[i]? = some O) :
    ∃ F : Nat → Prop, O.P W F ∧ (∀ k, F k → base ≤ k ∧ k < W.heap.size) ∧
      ∀ {W' : World} {O' : Thing} {F' : Nat → Prop}, Mod F W W' → O'.P W' F' → (∀ k, F' k → F k ∨ W.heap.size ≤ k) → base ≤ W.heap.size → Sep W' base (os.set i O') := by
  obtain ⟨fp, h1, h2, h3⟩ := h
  have hlt : i < os.length := (List.getElem?_eq_some_iff.1 hi).1
  refine ⟨fp i, h1 i O hi, fun k hk => ⟨h3 i k hlt hk, O.low (h1 i O hi) k hk⟩, fun {W' O' F'} hm ho hf hb => ?_⟩
  have hlow : ∀ j k, j < os.length → fp j k → k < W.heap.size := fun j k hj hk => by
    exact (os[j]).low (h1 j _ (List.getElem?_eq_getElem hj)) k hk
  refine ⟨fun j => if j = i then F' else fp j, fun j Q hQ => ?_, fun j l hj hl hne k hjk hlk => ?_, fun j k hj hk => ?_⟩
  · by_cases hji : j = i
    · subst hji
      rw [List.getElem?_set_self hlt] at hQ
      cases hQ
      simp only [if_true]; exact ho
    · rw [List.getElem?_set_ne (Ne.symm hji)] at hQ
      simp only [if_neg hji]
      exact Q.frame (h1 j Q hQ) hm (fun k hk hg => h2 j i (List.getElem?_eq_some_iff.1 hQ).1 hlt hji k hk hg)
  · rw [List.length_set] at hj hl
    by_cases hji : j = i
    · subst hji
      have hli : ¬ l = j := fun e => hne e.symm
      simp only [if_true] at hjk
      simp only [if_neg hli] at hlk
      rcases hf k hjk with h4 | h4
      · exact h2 j l hlt hl hne k h4 hlk
      · have := hlow l k hl hlk; omega
    · simp only [if_neg hji] at hjk
      by_cases hli : l = i
      · subst hli
        simp only [if_true] at hlk
        rcases hf k hlk with h4 | h4
        · exact h2 j l hj hl hne k hjk h4
        · have := hlow j k hj hjk; omega
      · simp only [if_neg hli] at hlk
        exact h2 j l hj hl hne k hjk hlk
  · rw [List.length_set] at hj
    by_cases hji : j = i
    · subst hji
      simp only [if_true] at hk
      rcases hf k hk with h4 | h4
      · exact h3 j k hlt h4
      · omega
    · simp only [if_neg hji] at hk
      exact h3 j k hj hk
/-- One more thing. -/
theorem Sep.push (h : Sep W base os) (e : Ext W W') {O : Thing} {F : Nat → Prop} (ho : O.P W' F) (hf : ∀ k, F k → W.heap.size ≤ k) (hb : base ≤ W.heap.size) : Sep W' base (os ++ [O]) := by
  have hw : ∀ i k (Q : Thing) (fp : Nat → Nat → Prop), Q.P W (fp i) → fp i k → k < W.heap.size := fun i k Q fp h hk => Q.low h k hk
  obtain ⟨fp, h1, h2, h3⟩ := h
  have hlow : ∀ j k, j < os.length → fp j k → k < W.heap.size := fun j k hj hk => hw j k _ fp (h1 j _ (List.getElem?_eq_getElem hj)) hk
  refine ⟨fun j => if j = os.length then F else fp j, fun j Q hQ => ?_, fun j l hj hl hne k hjk hlk => ?_, fun j k hj hk => ?_⟩
  · by_cases hji : j = os.length
    · subst hji
      rw [List.getElem?_append_right (Nat.le_refl _), Nat.sub_self] at hQ
      cases hQ
      simp only [if_true]; exact ho
    · have hj : j < os.length := by
        have := (List.getElem?_eq_some_iff.1 hQ).1
        rw [List.length_append] at this; simp at this; omega
      rw [List.getElem?_append_left hj] at hQ
      simp only [if_neg hji]
      exact Q.frame (h1 j Q hQ) (Mod.of_ext (fp := fun _ => False) e) (fun _ _ h => h)
  · rw [List.length_append] at hj hl
    simp at hj hl
    by_cases hji : j = os.length
    · subst hji
      have hli : ¬ l = os.length := fun e => hne e.symm
      simp only [if_true] at hjk
      simp only [if_neg hli] at hlk
      have := hlow l k (by omega) hlk; have := hf k hjk; omega
    · simp only [if_neg hji] at hjk
      by_cases hli : l = os.length
      · subst hli
        simp only [if_true] at hlk
        have := hlow j k (by omega) hjk; have := hf k hlk; omega
      · simp only [if_neg hli] at hlk
        exact h2 j l (by omega) (by omega) hne k hjk hlk
  · rw [List.length_append] at hj
    simp at hj
    by_cases hji : j = os.length
    · subst hji
      simp only [if_true] at hk
      have := hf k hk; omega
    · simp only [if_neg hji] at hk
      exact h3 j k (by omega) hk
end

/-! ### Kinds of things -/
/-- A row. -/
def RowT (b : Nat) (t : TypeId) (l : List Value) : Thing where
  P W F := Row W b t l ∧ F b ∧ ∀ k, F k → k < W.heap.size
  frame h hm hd := ⟨hm.row h.1 (hd _ h.2.1), h.2.1, fun k hk => Nat.lt_of_lt_of_le (h.2.2 k hk) hm.size⟩
  low h := h.2.2
/-- A slice that is owned. -/
def OwnT (e : TypeId) (size : Nat) (v : Value) (n : Nat) (xs : List Value) : Thing where
  P W F := Own W 0 e size v n xs ∧ (∀ k, v.ownBlock = some k → F k) ∧ ∀ k, F k → k < W.heap.size
  frame h hm hd := ⟨hm.own h.1 (fun k hk => hd _ (h.2.1 k hk)), h.2.1, fun k hk => Nat.lt_of_lt_of_le (h.2.2 k hk) hm.size⟩
  low h := h.2.2
/-- An end of a link. -/
def EndT (E : Nat) (L : Lk) : Thing where
  P W F := EndAt W F E L
  frame h hm hd := h.mod hm hd
  low h k hk := by obtain ⟨v, M, h⟩ := h; exact h.low k hk
/-- A slice that is read alone. -/
def SlT (v : Value) (size n : Nat) (xs : List Value) : Thing where
  P W F := Sl W v size n xs ∧ (∀ k, v.ownBlock = some k → F k) ∧ ∀ k, F k → k < W.heap.size
  frame h hm hd := ⟨by
    obtain ⟨h1, p, c, rfl, h2⟩ := h.1
    refine ⟨h1, p, c, rfl, fun hn => ?_⟩
    obtain ⟨g, rfl, h3⟩ := h2 hn
    exact ⟨g, rfl, fun j u hu => hm.cell (h3 j u hu) (hd _ (h.2.1 g rfl))⟩, h.2.1, fun k hk => Nat.lt_of_lt_of_le (h.2.2 k hk) hm.size⟩
  low h := h.2.2

section
variable {W W' : World} {base : Nat} {os : List Thing}
theorem Sep.row (h : Sep W base os) {i b : Nat} {t : TypeId} {l : List Value} (hi : os[i]? = some (RowT b t l)) : Row W b t l := by
  obtain ⟨F, h1, _⟩ := h.get hi; exact h1.1
theorem Sep.own (h : Sep W base os) {i : Nat} {e : TypeId} {size : Nat} {v : Value} {n : Nat} {xs : List Value} (hi : os[i]? = some (OwnT e size v n xs)) : Own W 0 e size v n xs := by
  obtain ⟨F, h1, _⟩ := h.get hi; exact h1.1
theorem Sep.sl (h : Sep W base os) {i : Nat} {v : Value} {size n : Nat} {xs : List Value} (hi : os[i]? = some (SlT v size n xs)) : Sl W v size n xs := by
  obtain ⟨F, h1, _⟩ := h.get hi; exact h1.1
theorem Sep.rowGe (h : Sep W base os) {i b : Nat} {t : TypeId} {l : List Value} (hi : os[i]? = some (RowT b t l)) : base ≤ b := by
  obtain ⟨F, h1, h2, _⟩ := h.get hi; exact (h2 b h1.2.1).1
theorem Sep.ownGe (h : Sep W base os) {i : Nat} {e : TypeId} {size : Nat} {v : Value} {n : Nat} {xs : List Value} (hi : os[i]? = some (OwnT e size v n xs)) : ∀ k, v.ownBlock = some k → base ≤ k := by
  obtain ⟨F, h1, h2, _⟩ := h.get hi; exact fun k hk => (h2 k (h1.2.1 k hk)).1
/-- A row is written. -/
theorem Sep.setRow (h : Sep W base os) {i b : Nat} {t : TypeId} {l : List Value} (hi : os[i]? = some (RowT b t l)) {l' : List Value} (hg : W.grownBy W' (some b)) (hr : Row W' b t l') (hb : base ≤ W.heap.size) : Sep W' base (os.set i (RowT b t l')) := by
  obtain ⟨F, h1, h2, h3⟩ := h.get hi
  refine h3 (O' := RowT b t l') (F' := F) ((Mod.refl F W).grown hg (fun k hk => .inl (by cases hk; exact h1.2.1))) ⟨hr, h1.2.1, fun k hk => Nat.lt_of_lt_of_le (h2 k hk).2 hg.size⟩ (fun k hk => .inl hk) hb
/-- A slice that is owned is appended to. -/
theorem Sep.setOwn (h : Sep W base os) {i : Nat} {e : TypeId} {size : Nat} {v : Value} {n : Nat} {xs : List Value} (hi : os[i]? = some (OwnT e size v n xs)) {v' : Value} {n' : Nat} {xs' : List Value} (hg : W.grownBy W' v.ownBlock)
    (ho : Own W' 0 e size v' n' xs') (hn : ∀ k, v'.ownBlock = some k → v.ownBlock = some k ∨ W.heap.size ≤ k) (hb : base ≤ W.heap.size) : Sep W' base (os.set i (OwnT e size v' n' xs')) := by
  obtain ⟨F, h1, h2, h3⟩ := h.get hi
  refine h3 (O' := OwnT e size v' n' xs') (F' := fun k => v'.ownBlock = some k) ((Mod.refl F W).grown hg (fun k hk => .inl (h1.2.1 k hk))) ⟨ho, fun k hk => hk, fun k hk => (ho.lt k hk).2⟩ (fun k hk => ?_) hb
  rcases hn k hk with h4 | h4
  · exact .inl (h1.2.1 k h4)
  · exact .inr h4
/-- A new row. -/
theorem Sep.newRow (h : Sep W base os) (e : Ext W W') {b : Nat} {t : TypeId} {l : List Value} (hr : Row W' b t l) (hn : W.heap.size ≤ b) (hb : base ≤ W.heap.size) : Sep W' base (os ++ [RowT b t l]) :=
  h.push (O := RowT b t l) (F := fun k => k = b) e ⟨hr, rfl, fun k hk => by rw [hk]; exact hr.lt⟩ (fun k hk => by rw [hk]; exact hn) hb
theorem Sep.newOwn (h : Sep W base os) (e : Ext W W') {t : TypeId} {size : Nat} {v : Value} {n : Nat} {xs : List Value} (ho : Own W' 0 t size v n xs) (hn : ∀ k, v.ownBlock = some k → W.heap.size ≤ k) (hb : base ≤ W.heap.size) : Sep W' base (os ++ [OwnT t size v n xs]) :=
  h.push (O := OwnT t size v n xs) (F := fun k => v.ownBlock = some k) e ⟨ho, fun _ hk => hk, fun k hk => (ho.lt k hk).2⟩ (fun k hk => hn k hk) hb
theorem Sep.newSl (h : Sep W base os) (e : Ext W W') {size : Nat} {v : Value} {n : Nat} {xs : List Value} (ho : Sl W' v size n xs) (hn : ∀ k, v.ownBlock = some k → W.heap.size ≤ k ∧ k < W'.heap.size) (hb : base ≤ W.heap.size) : Sep W' base (os ++ [SlT v size n xs]) :=
  h.push (O := SlT v size n xs) (F := fun k => v.ownBlock = some k) e ⟨ho, fun _ hk => hk, fun k hk => (hn k hk).2⟩ (fun k hk => (hn k hk).1) hb
/-- What writes one thing keeps all that was there before base. -/
theorem Ext.modGe {w : World} {G : Nat → Prop} (h : Ext w W) (hm : Mod G W W') (hG : ∀ k, G k → w.heap.size ≤ k) : Ext w W' := by
  have h1 : Mod G w W := Mod.of_ext h
  have h2 := h1.trans hm (fun k hk => .inl hk)
  exact ⟨h2.os, h2.tape, h2.output, h2.size, fun k hk => h2.block k hk (fun hf => by have := hG k hf; omega)⟩
end
/-! ### The ends' methods, where the ends are things -/
theorem Two.sep {W : World} {base : Nat} {fp : Nat → Nat → Prop} {E : Nat → Nat} {L : Nat → Lk} (h : Two W base fp E L) : Sep W base [EndT (E 0) (L 0), EndT (E 1) (L 1)] := by
  refine ⟨fp, fun i O hO => ?_, fun i j hi hj hne k hk hk2 => ?_, fun i k hi hk => h.low i k hi hk⟩
  · match i, hO with
    | 0, hO => cases hO; exact h.here 0 (by omega)
    | 1, hO => cases hO; exact h.here 1 (by omega)
  · exact h.apart hi hj hne hk hk2
section
variable {w : World} {base : Nat} {os : List Thing} {i E : Nat} {L : Lk}
theorem Sep.endAt (h : Sep w base os) (hi : os[i]? = some (EndT E L)) : ∃ F, EndAt w F E L := by
  obtain ⟨F, h1, _⟩ := h.get hi; exact ⟨F, h1⟩
theorem sendT_any (h : Sep w base os) (hi : os[i]? = some (EndT E L)) (hb : base ≤ w.heap.size) (s : ByteArray) (hs : sendOk L s) :
    Calls Tryd.prog 20 #[.pointer (some ⟨E, 0, none⟩), .string s] w fun e w' => e = .returned (.int .i64 0) ∧ Sep w' base (os.set i (EndT E (L.send s))) ∧ Mod (fun k => base ≤ k) w w' := by
  obtain ⟨F, h1, h2, h3⟩ := h.get hi
  refine (send_any h1 s hs).mono ?_
  rintro e w' ⟨rfl, hm, fp', h4, h5⟩
  exact ⟨rfl, h3 (O' := EndT E (L.send s)) hm h4 h5 hb, hm.mono (fun k hk => (h2 k hk).1)⟩
theorem inT_any (h : Sep w base os) (hi : os[i]? = some (EndT E L)) (hb : base ≤ w.heap.size) (ht : Tab w) (hins : L.ins < 1000000) (p : Pkt) (hp : L.Takes p) :
    Calls Tryd.prog 26 #[.pointer (some ⟨E, 0, none⟩), p.val] w fun e w' => ∃ q c, e = .returned (.tuple #[.slice q (L.inn p).2.length c, .int .i64 0]) ∧ Own w' w.heap.size 9 1 (.slice q (L.inn p).2.length c) (L.inn p).2.length (svals (L.inn p).2) ∧
      Sep w' base (os.set i (EndT E (L.inn p).1)) ∧ Mod (fun k => base ≤ k) w w' := by
  obtain ⟨F, h1, h2, h3⟩ := h.get hi
  refine (inn_any h1 ht hins p hp).mono ?_
  rintro e w' ⟨v, rfl, ho, hm, h4⟩
  obtain ⟨q, c, rfl, _⟩ := ho.form'
  exact ⟨q, c, rfl, ho, h3 (O' := EndT E (L.inn p).1) hm h4 (fun k hk => .inl hk) hb, hm.mono (fun k hk => (h2 k hk).1)⟩
theorem inTE_any {w0 : World} (h0 : Ext w0 w) (h : Sep w w0.heap.size os) (hi : os[i]? = some (EndT E L)) (ht : Tab w) (hins : L.ins < 1000000) (p : Pkt) (hp : L.Takes p) :
    Calls Tryd.prog 26 #[.pointer (some ⟨E, 0, none⟩), p.val] w fun e w' => ∃ q c, e = .returned (.tuple #[.slice q (L.inn p).2.length c, .int .i64 0]) ∧ Own w' w.heap.size 9 1 (.slice q (L.inn p).2.length c) (L.inn p).2.length (svals (L.inn p).2) ∧
      Sep w' w0.heap.size (os.set i (EndT E (L.inn p).1)) ∧ Ext w0 w' :=
  (inT_any h hi h0.size ht hins p hp).mono fun _ _ ⟨q, c, h1, h2, h3, h4⟩ => ⟨q, c, h1, h2, h3, h0.modGe h4 (fun _ h => h)⟩
theorem outT_any (h : Sep w base os) (hi : os[i]? = some (EndT E L)) (ht : Tab w) :
    Calls Tryd.prog 22 #[.pointer (some ⟨E, 0, none⟩)] w fun e w' => ∃ p c, e = .returned (.slice p L.out.length c) ∧ Sl w' (.slice p L.out.length c) 4 L.out.length (pcells L.out) ∧ Ext w w' ∧ (∀ g, (Value.slice p L.out.length c).ownBlock = some g → w.heap.size ≤ g ∧ g < w'.heap.size) ∧ L.out.length ≤ c := by
  obtain ⟨F, h1⟩ := h.endAt hi
  refine (out_any h1 ht).mono ?_
  rintro e w' ⟨v, rfl, ho, hE⟩
  obtain ⟨p, c, rfl, hc⟩ := (toOwn ho).form'
  exact ⟨p, c, rfl, (toOwn ho).sl, hE, fun g hg => (toOwn ho).lt g hg, hc⟩
theorem Sep.take (h : Sep w base os) (n : Nat) : Sep w base (os.take n) := by
  obtain ⟨fp, h1, h2, h3⟩ := h
  have hl : (os.take n).length ≤ os.length := by rw [List.length_take]; omega
  refine ⟨fp, fun i O hO => ?_, fun i j hi hj => h2 i j (by omega) (by omega), fun i k hi => h3 i k (by omega)⟩
  have hi := (List.getElem?_eq_some_iff.1 hO).1
  rw [List.length_take] at hi
  rw [List.getElem?_take_of_lt (by omega)] at hO
  exact h1 i O hO
end
end Go.Proofs.YtjamakapkpkfeaaDoor
