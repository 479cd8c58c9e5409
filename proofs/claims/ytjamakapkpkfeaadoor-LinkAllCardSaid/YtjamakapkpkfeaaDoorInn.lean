/- A packet comes in: what becomes of an end, as a function. -/
import Derived.Test.YtjamakapkpkfeaaDoorOut
namespace Go.Proofs.YtjamakapkpkfeaaDoor
open Go.RowKit Go.Shelf Sha

/-- The end takes the packet. -/
def Lk.Takes (L : Lk) (p : Pkt) : Prop := Genuine L.other p ∧ p.ack ≤ L.sent.length
instance (L : Lk) (p : Pkt) : Decidable (L.Takes p) := by unfold Lk.Takes; infer_instance
/-- The packet's message is kept for later. -/
def Lk.Fits (L : Lk) (p : Pkt) : Prop := L.early p.ser = none ∧ (L.got : Int) + 1 ≤ p.ser ∧ p.ser ≤ (L.got : Int) + 4
instance (L : Lk) (p : Pkt) : Decidable (L.Fits p) := by unfold Lk.Fits; infer_instance
def Lk.ackd (L : Lk) (p : Pkt) : Lk := { L with acked := max L.acked p.ack.toNat }
def Lk.kept (L : Lk) (p : Pkt) : Lk := { L with early := fun y => if y = p.ser then some p.body else L.early y, ins := L.ins + 1 }
def Lk.stored (L : Lk) (p : Pkt) : Lk := if L.Fits p then (L.ackd p).kept p else L.ackd p
/-- The next message is received. -/
def Lk.step (L : Lk) : Lk := { L with got := L.got + 1, early := fun y => if y = (L.got : Int) + 1 then none else L.early y }
def Lk.drain : Nat → Lk → Lk × List ByteArray
  | 0, L => (L, [])
  | f + 1, L => match L.early ((L.got : Int) + 1) with
    | none => (L, [])
    | some s => ((Lk.drain f L.step).1, s :: (Lk.drain f L.step).2)
def Lk.inn (L : Lk) (p : Pkt) : Lk × List ByteArray := if L.Takes p then Lk.drain 101 (L.stored p) else (L, [])

theorem Lk.Ok.ackd {L : Lk} (h : L.Ok) {p : Pkt} (hp : L.Takes p) : (L.ackd p).Ok :=
  ⟨h.key, h.other, h.sent, h.body, by have h1 := h.acked; have h2 := hp.2; have h3 := hp.1.2.1.2.1.1; show max L.acked p.ack.toNat ≤ L.sent.length; omega, h.got, h.early, h.ins⟩
theorem Lk.Ok.stored {L : Lk} (h : L.Ok) {p : Pkt} (hp : L.Takes p) (hi : L.ins < 1000000) : (L.stored p).Ok := by
  unfold Lk.stored
  split
  · rename_i hf
    have ha := h.ackd hp
    refine ⟨ha.key, ha.other, ha.sent, ha.body, ha.acked, ha.got, fun x s hx => ?_, hi⟩
    unfold Lk.kept at hx
    dsimp only at hx
    split at hx
    · rename_i hxs
      cases hx
      have h1 := hf.2.1; have h2 := hp.1.2.1.1.2; have h3 := hp.1.2.1.2.2.1
      subst hxs
      exact ⟨by show (L.got : Int) < p.ser; omega, h2, h3⟩
    · exact ha.early x s hx
  · exact h.ackd hp
theorem Lk.Ok.step {L : Lk} (h : L.Ok) {s : ByteArray} (hs : L.early ((L.got : Int) + 1) = some s) : L.step.Ok := by
  have h1 := h.early _ s hs
  refine ⟨h.key, h.other, h.sent, h.body, h.acked, by show L.got + 1 ≤ 100; omega, fun x t hx => ?_, h.ins⟩
  unfold Lk.step at hx
  dsimp only at hx
  split at hx
  · cases hx
  · rename_i hne
    have h2 := h.early x t hx
    exact ⟨by show ((L.got + 1 : Nat) : Int) < x; omega, h2.2⟩
theorem drain_some {L : Lk} {f : Nat} {s : ByteArray} (hs : L.early ((L.got : Int) + 1) = some s) : Lk.drain (f + 1) L = ((Lk.drain f L.step).1, s :: (Lk.drain f L.step).2) := by
  show (match L.early ((L.got : Int) + 1) with | none => (L, []) | some s => ((Lk.drain f L.step).1, s :: (Lk.drain f L.step).2)) = _
  rw [hs]
theorem drain_none {L : Lk} {f : Nat} (hs : L.early ((L.got : Int) + 1) = none) : Lk.drain f L = (L, []) := by
  cases f with
  | zero => rfl
  | succ f =>
    show (match L.early ((L.got : Int) + 1) with | none => (L, []) | some s => ((Lk.drain f L.step).1, s :: (Lk.drain f L.step).2)) = _
    rw [hs]
theorem Lk.Ok.drain : ∀ (f : Nat) {L : Lk}, L.Ok → (Lk.drain f L).1.Ok
  | 0, _, h => h
  | f + 1, L, h => by
    cases hs : L.early ((L.got : Int) + 1) with
    | none => rw [drain_none hs]; exact h
    | some s => rw [drain_some hs]; exact Lk.Ok.drain f (h.step hs)
attribute [irreducible] Lk.drain

theorem Mp.plus {W : World} {M n : Nat} {f : Int → Option ByteArray} (h : Mp W M n f) (u : World) : Mp (wplus W u) M n f := h.heap (Below.block (ext_wplus W u) M h.lt)

end Go.Proofs.YtjamakapkpkfeaaDoor
