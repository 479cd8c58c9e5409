/- Two ends that send to each other: what is kept whatever arrives; plain laws, no program here. -/
import Derived.Test.YtjamakapkpkfeaaDoorInn
namespace Go.Proofs.YtjamakapkpkfeaaDoor
open Sha

/-- What a drain makes of an end. -/
structure Drained (L L' : Lk) (o : List ByteArray) : Prop where
  key : L'.key = L.key
  other : L'.other = L.other
  sent : L'.sent = L.sent
  acked : L'.acked = L.acked
  ins : L'.ins = L.ins
  got : L'.got = L.got + o.length
  early : ∀ x : Int, (L'.got : Int) < x → L'.early x = L.early x
  next : L'.early ((L'.got : Int) + 1) = none
  out : ∀ (i : Nat) s, o[i]? = some s → L.early ((L.got : Int) + 1 + i) = some s

theorem drained : ∀ (f : Nat) (L : Lk), L.Ok → 100 < L.got + f → Drained L (Lk.drain f L).1 (Lk.drain f L).2
  | 0, L, h, hf => by have := h.got; omega
  | f + 1, L, h, hf => by
    cases hs : L.early ((L.got : Int) + 1) with
    | none => rw [drain_none hs]; exact ⟨rfl, rfl, rfl, rfl, rfl, rfl, fun _ _ => rfl, hs, fun i s h => by simp at h⟩
    | some s =>
      rw [drain_some hs]
      have ih := drained f L.step (h.step hs) (by show 100 < L.got + 1 + f; omega)
      generalize Lk.drain f L.step = r at *
      have hg : r.1.got = L.got + 1 + r.2.length := ih.got
      refine ⟨ih.key, ih.other, ih.sent, ih.acked, ih.ins, by rw [hg, List.length_cons]; omega, fun x hx => ?_, ih.next, fun i t ht => ?_⟩
      · rw [ih.early x hx]
        show (if x = (L.got : Int) + 1 then none else L.early x) = _
        rw [if_neg (by dsimp only at hx; omega)]
      · cases i with
        | zero => rw [List.getElem?_cons_zero] at ht; rw [← ht, ← hs]; congr 1
        | succ i =>
          rw [List.getElem?_cons_succ] at ht
          have h1 := ih.out i t ht
          have h2 : (if ((L.got + 1 : Nat) : Int) + 1 + i = (L.got : Int) + 1 then none else L.early (((L.got + 1 : Nat) : Int) + 1 + i)) = some t := h1
          rw [if_neg (by omega)] at h2
          rw [← h2]; congr 1; omega

/-- What R holds of S's messages. -/
structure HalfW (S R : Lk) : Prop where
  got : R.got ≤ S.sent.length
  win : R.got ≤ S.acked + 4
  early : ∀ x s, R.early x = some s → x ≤ (S.acked : Int) + 4 ∧ S.sent[x.toNat - 1]? = some s
  acked : S.acked ≤ R.got
structure Half (S R : Lk) : Prop extends HalfW S R where
  next : R.early ((R.got : Int) + 1) = none
/-- A packet that S has sent. -/
structure Sound (S : Lk) (p : Pkt) : Prop where
  sl : p.sl = sealOf S.key p
  ack0 : 0 ≤ p.ack
  ack : p.ack ≤ (S.got : Int)
  ser0 : 0 ≤ p.ser
  win : p.ser ≤ (S.acked : Int) + 4
  body : (p.ser = 0 ∧ p.body = ⟨#[]⟩) ∨ (1 ≤ p.ser ∧ S.sent[p.ser.toNat - 1]? = some p.body)
/-- Two ends with each other's keys. -/
structure Net (A B : Lk) : Prop where
  okA : A.Ok
  okB : B.Ok
  keyA : A.key = B.other
  keyB : B.key = A.other
  ab : Half A B
  ba : Half B A
theorem Net.symm {A B : Lk} (h : Net A B) : Net B A := ⟨h.okB, h.okA, h.keyB, h.keyA, h.ba, h.ab⟩

/-- S is at least as far as it was. -/
structure Far (S S' : Lk) : Prop where
  key : S'.key = S.key
  got : S.got ≤ S'.got
  acked : S.acked ≤ S'.acked
  sent : S.sent <+: S'.sent
theorem Far.refl (S : Lk) : Far S S := ⟨rfl, Nat.le_refl _, Nat.le_refl _, List.prefix_refl _⟩
theorem Far.trans {S S' S2 : Lk} (h : Far S S') (k : Far S' S2) : Far S S2 := ⟨k.key.trans h.key, Nat.le_trans h.got k.got, Nat.le_trans h.acked k.acked, h.sent.trans k.sent⟩
theorem pre_get {α : Type} {l r : List α} (h : l <+: r) {i : Nat} {x : α} (hx : l[i]? = some x) : r[i]? = some x := by
  obtain ⟨t, rfl⟩ := h
  rw [List.getElem?_append_left (by rcases Nat.lt_or_ge i l.length with h | h; exact h; rw [List.getElem?_eq_none h] at hx; cases hx)]; exact hx
theorem Sound.far {S S' : Lk} {p : Pkt} (h : Sound S p) (hf : Far S S') : Sound S' p :=
  ⟨by rw [hf.key]; exact h.sl, h.ack0, by have := h.ack; have := hf.got; omega, h.ser0, by have := h.win; have := hf.acked; omega,
    h.body.imp id (fun ⟨h1, h2⟩ => ⟨h1, pre_get hf.sent h2⟩)⟩

theorem sound_out {S : Lk} (h : S.Ok) {p : Pkt} (hp : p ∈ S.out) : Sound S p := by
  unfold Lk.out at hp
  obtain ⟨q, hq, rfl⟩ := List.mem_map.1 hp
  have ha := h.acked
  unfold Lk.bare at hq
  split at hq
  · rw [List.mem_singleton] at hq
    subst hq
    exact ⟨rfl, Int.natCast_nonneg _, Int.le_refl _, Int.le_refl _, by dsimp only; omega, .inl ⟨rfl, rfl⟩⟩
  · obtain ⟨j, hj, rfl⟩ := List.mem_map.1 hq
    rw [List.mem_range] at hj
    refine ⟨rfl, Int.natCast_nonneg _, Int.le_refl _, by dsimp only; omega, by dsimp only; omega, .inr ⟨by dsimp only; omega, ?_⟩⟩
    have hlt : S.acked + j < S.sent.length := by omega
    rw [show ((S.acked : Int) + (j : Int) + 1).toNat - 1 = S.acked + j by omega, List.getElem?_eq_getElem hlt]
    rfl

/-- An empty body is the only one of serial 0. -/
theorem Sound.takes {S R : Lk} {p : Pkt} (h : Sound S p) (hS : S.Ok) (hR : R.Ok) (hk : S.key = R.other) (hg : S.got ≤ R.sent.length) : R.Takes p := by
  have h1 := h.ack; have h2 := h.ack0; have h3 := hS.got; have h4 := h.ser0
  refine ⟨⟨hR.other, ?_, by rw [← hk]; exact h.sl⟩, by omega⟩
  rcases h.body with ⟨h5, h6⟩ | ⟨h5, h6⟩
  · refine ⟨⟨h4, by omega⟩, ⟨h2, by omega⟩, by rw [h6]; decide, .inr (by rw [h6, Lib.toList_data]), by rw [h.sl]; exact sha_size _⟩
  · have h7 : p.ser.toNat - 1 < S.sent.length := by
      rcases Nat.lt_or_ge (p.ser.toNat - 1) S.sent.length with h | h
      · exact h
      · rw [List.getElem?_eq_none h] at h6; cases h6
    have h8 := hS.sent
    have h9 : p.body ∈ S.sent := List.mem_of_getElem? h6
    exact ⟨⟨h4, by omega⟩, ⟨h2, by omega⟩, hS.body _ h9, .inl (by omega), by rw [h.sl]; exact sha_size _⟩

theorem stored_fields (L : Lk) (p : Pkt) : (L.stored p).key = L.key ∧ (L.stored p).other = L.other ∧ (L.stored p).sent = L.sent ∧ (L.stored p).got = L.got ∧ (L.stored p).acked = max L.acked p.ack.toNat ∧ (L.stored p).ins ≤ L.ins + 1 := by
  unfold Lk.stored; split <;> exact ⟨rfl, rfl, rfl, rfl, rfl, by first | exact Nat.le_refl _ | exact Nat.le_succ _⟩
theorem stored_early (L : Lk) (p : Pkt) (x : Int) : (L.stored p).early x = if L.Fits p ∧ x = p.ser then some p.body else L.early x := by
  unfold Lk.stored
  split
  · rename_i h
    show (if x = p.ser then some p.body else L.early x) = _
    simp only [h, true_and]
  · rename_i h
    simp only [h, false_and, if_false]
    rfl

/-- What taking a packet makes of an end. -/
structure Took (L L' : Lk) (p : Pkt) (o : List ByteArray) : Prop where
  key : L'.key = L.key
  other : L'.other = L.other
  sent : L'.sent = L.sent
  acked : L'.acked = max L.acked p.ack.toNat
  ins : L'.ins ≤ L.ins + 1
  got : L'.got = L.got + o.length
  early : ∀ x : Int, (L'.got : Int) < x → L'.early x = (L.stored p).early x
  next : L'.early ((L'.got : Int) + 1) = none
  out : ∀ (i : Nat) s, o[i]? = some s → (L.stored p).early ((L.got : Int) + 1 + i) = some s
theorem took {L : Lk} {p : Pkt} (h : L.Ok) (hp : L.Takes p) (hi : L.ins < 1000000) : Took L (L.inn p).1 p (L.inn p).2 := by
  unfold Lk.inn
  rw [if_pos hp]
  have hd := drained 101 (L.stored p) (h.stored hp hi) (by omega)
  obtain ⟨h1, h2, h3, h4, h5, h6⟩ := stored_fields L p
  exact ⟨hd.key.trans h1, hd.other.trans h2, hd.sent.trans h3, hd.acked.trans h5, by rw [hd.ins]; exact h6, by rw [hd.got, h4], hd.early, hd.next, fun i s hs => by rw [← h4]; exact hd.out i s hs⟩
theorem Lk.Ok.inn {L : Lk} {p : Pkt} (h : L.Ok) (hi : L.ins < 1000000) : (L.inn p).1.Ok := by
  unfold Lk.inn
  split
  · rename_i hp; exact Lk.Ok.drain _ (h.stored hp hi)
  · exact h
theorem inn_ins {L : Lk} {p : Pkt} (h : L.Ok) (hi : L.ins < 1000000) : (L.inn p).1.ins ≤ L.ins + 1 := by
  by_cases hp : L.Takes p
  · exact (took h hp hi).ins
  · unfold Lk.inn; rw [if_neg hp]; exact Nat.le_succ _

/-- The end has received the packet's message, or keeps it. -/
def Has (R : Lk) (x : Int) : Prop := x ≤ (R.got : Int) ∨ R.early x ≠ none

section
variable {S R : Lk} {p : Pkt}
/-- A packet of S arrives at R. -/
theorem Net.inn (h : Net S R) (hs : Sound S p) (hi : R.ins < 1000000) :
    Net S (R.inn p).1 ∧ Far R (R.inn p).1 ∧ Took R (R.inn p).1 p (R.inn p).2 ∧ (R.inn p).2 = (S.sent.drop R.got).take ((R.inn p).1.got - R.got) ∧ Has (R.inn p).1 p.ser ∧ (∀ x, Has R x → Has (R.inn p).1 x) := by
  have htk : R.Takes p := hs.takes h.okA h.okB h.keyA h.ba.got
  have T := took h.okB htk hi
  have hok := h.okB.inn (p := p) hi
  generalize R.inn p = r at *
  have hE : ∀ x s, (R.stored p).early x = some s → x ≤ (S.acked : Int) + 4 ∧ S.sent[x.toNat - 1]? = some s := by
    intro x s hx
    rw [stored_early] at hx
    split at hx
    · rename_i hf
      obtain ⟨hf, rfl⟩ := hf
      have h1 := hf.2.1
      rcases hs.body with ⟨h5, h6⟩ | ⟨h5, h6⟩
      · omega
      · exact ⟨hs.win, by rw [← Option.some.inj hx]; exact h6⟩
    · exact h.ab.early x s hx
  have hO : ∀ i s, r.2[i]? = some s → S.sent[R.got + i]? = some s ∧ R.got + i + 1 ≤ S.acked + 4 := by
    intro i s hs
    obtain ⟨h1, h2⟩ := hE _ _ (T.out i s hs)
    rw [show ((R.got : Int) + 1 + i).toNat - 1 = R.got + i by omega] at h2
    exact ⟨h2, by omega⟩
  have hlast : r.1.got ≤ S.sent.length ∧ r.1.got ≤ S.acked + 4 := by
    have h1 := h.ab.got; have h2 := h.ab.win; have h3 := T.got
    rcases Nat.eq_zero_or_pos r.2.length with h0 | h0
    · omega
    · obtain ⟨h4, h5⟩ := hO (r.2.length - 1) _ (List.getElem?_eq_getElem (show r.2.length - 1 < r.2.length by omega))
      have h6 : R.got + (r.2.length - 1) < S.sent.length := by
        rcases Nat.lt_or_ge (R.got + (r.2.length - 1)) S.sent.length with h | h
        · exact h
        · rw [List.getElem?_eq_none h] at h4; cases h4
      omega
  have hack := hs.ack
  have hmax : r.1.acked ≤ S.got := by rw [T.acked]; have := h.ba.acked; omega
  refine ⟨⟨h.okA, hok, h.keyA.trans T.other.symm, T.key.trans h.keyB, ⟨⟨hlast.1, hlast.2, fun x s hx => ?_, by have := h.ab.acked; have := T.got; omega⟩, T.next⟩,
    ⟨⟨by rw [T.sent]; exact h.ba.got, by have := h.ba.win; have := T.acked; omega, fun x s hx => by obtain ⟨h1, h2⟩ := h.ba.early x s hx; exact ⟨by have := T.acked; omega, by rw [T.sent]; exact h2⟩, hmax⟩, h.ba.next⟩⟩,
    ⟨T.key, by have := T.got; omega, by have := T.acked; omega, by rw [T.sent]; exact List.prefix_refl _⟩, T, ?_, ?_, ?_⟩
  · have h1 := (hok.early x s hx).1
    rw [T.early x h1] at hx
    exact hE x s hx
  · apply List.ext_getElem?
    intro i
    rw [List.getElem?_take, List.getElem?_drop, T.got]
    by_cases hl : i < r.2.length
    · rw [if_pos (by omega), List.getElem?_eq_getElem hl]
      exact ((hO i _ (List.getElem?_eq_getElem hl)).1).symm
    · rw [if_neg (by omega), List.getElem?_eq_none (by omega)]
  · rcases Int.lt_or_le (r.1.got : Int) p.ser with hlt | hle
    · refine .inr ?_
      rw [T.early _ hlt, stored_early]
      split
      · intro e; cases e
      · rename_i hnf
        intro he
        have := hs.win; have := h.ab.acked; have := T.got
        exact hnf ⟨⟨he, by omega, by omega⟩, rfl⟩
    · exact .inl hle
  · intro x hx
    rcases Int.lt_or_le (r.1.got : Int) x with hlt | hle
    · refine .inr ?_
      rw [T.early _ hlt, stored_early]
      split
      · intro e; cases e
      · rcases hx with hx | hx
        · have := T.got; omega
        · exact hx
    · exact .inl hle
/-- S adds a message. -/
theorem Net.send (h : Net S R) {s : ByteArray} (hs : sendOk S s) : Net (S.send s) R ∧ Far S (S.send s) := by
  have hp : S.sent <+: S.sent ++ [s] := List.prefix_append _ _
  have hl : S.sent.length ≤ (S.sent ++ [s]).length := hp.length_le
  refine ⟨⟨h.okA.send hs, h.okB, h.keyA, h.keyB, ⟨⟨Nat.le_trans h.ab.got hl, h.ab.win, fun x t hx => ?_, h.ab.acked⟩, h.ab.next⟩, ⟨⟨h.ba.got, h.ba.win, h.ba.early, h.ba.acked⟩, h.ba.next⟩⟩, ⟨rfl, Nat.le_refl _, Nat.le_refl _, hp⟩⟩
  obtain ⟨h1, h2⟩ := h.ab.early x t hx
  exact ⟨h1, pre_get hp h2⟩
end

/-- What is received of S when all of its packets have arrived. -/
theorem Net.full {S R : Lk} (h : Net S R) (hall : ∀ p ∈ S.out, Has R p.ser) : R.got = min (S.acked + 4) S.sent.length := by
  have h1 := h.ab.got; have h2 := h.ab.win; have h3 := h.ab.acked
  rcases Nat.lt_or_ge R.got (min (S.acked + 4) S.sent.length) with hlt | hge
  · exfalso
    have hne : S.acked ≠ S.sent.length := by omega
    have hmem : (⟨(S.acked : Int) + ((R.got - S.acked : Nat) : Int) + 1, S.got, (S.sent[S.acked + (R.got - S.acked)]?).getD ⟨#[]⟩, ⟨#[]⟩⟩ : Pkt) ∈ S.bare := by
      unfold Lk.bare
      rw [if_neg hne]
      exact List.mem_map.2 ⟨R.got - S.acked, List.mem_range.2 (by omega), rfl⟩
    have := hall _ (List.mem_map.2 ⟨_, hmem, rfl⟩)
    have he : (S.acked : Int) + ((R.got - S.acked : Nat) : Int) + 1 = (R.got : Int) + 1 := by omega
    rcases this with h9 | h9
    · simp only at h9; omega
    · apply h9
      show R.early ((S.acked : Int) + ((R.got - S.acked : Nat) : Int) + 1) = none
      rw [he]; exact h.ab.next
  · omega
theorem out_pos (S : Lk) (h : S.Ok) : 1 ≤ S.out.length := by
  rw [out_len]
  unfold Lk.bare
  have := h.acked
  split
  · exact Nat.le_refl _
  · rw [List.length_map, List.length_range]; omega
theorem out_ack {S : Lk} {p : Pkt} (hp : p ∈ S.out) : p.ack = S.got := by
  unfold Lk.out at hp
  obtain ⟨q, hq, rfl⟩ := List.mem_map.1 hp
  unfold Lk.bare at hq
  split at hq
  · rw [List.mem_singleton] at hq; subst hq; rfl
  · obtain ⟨j, hj, rfl⟩ := List.mem_map.1 hq; rfl
end Go.Proofs.YtjamakapkpkfeaaDoor
