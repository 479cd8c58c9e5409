/- The chapter's example, as functions: what both ends are after each call; plain laws, no program here. -/
import Derived.Test.YtjamakapkpkfeaaDoorFacts
namespace Go.Proofs.YtjamakapkpkfeaaDoor
open Sha

def sP (i : Nat) (b : ByteArray) : Pkt := ⟨(i : Int) + 1, 0, b, sealOf (keyAt 0) ⟨(i : Int) + 1, 0, b, ⟨#[]⟩⟩⟩
def sA : Lk := (((open0 0).send ⟨#[120]⟩).send ⟨#[121]⟩).send ⟨#[122]⟩
def sOut : List Pkt := [sP 0 ⟨#[120]⟩, sP 1 ⟨#[121]⟩, sP 2 ⟨#[122]⟩]
theorem sA_out : sA.out = sOut := rfl
theorem seal_sl (k : ByteArray) (p : Pkt) (s : ByteArray) : sealOf k { p with sl := s } = sealOf k p := rfl
theorem sP_formed (i : Nat) (hi : i < 3) (b : ByteArray) (hb : b.size ≤ 200) : Formed (sP i b) := by
  refine ⟨⟨?_, ?_⟩, ⟨?_, ?_⟩, hb, .inl ?_, sha_size _⟩
  all_goals (unfold sP; dsimp only; omega)
theorem sP_genuine (i : Nat) (hi : i < 3) (b : ByteArray) (hb : b.size ≤ 200) : Genuine (keyAt 0) (sP i b) := ⟨sha_size _, sP_formed i hi b hb, rfl⟩
theorem sP_other : ¬ Genuine (keyAt 1) (sP 0 ⟨#[120]⟩) ∧ ¬ Genuine (keyAt 1) (sP 1 ⟨#[121]⟩) ∧ ¬ Genuine (keyAt 1) (sP 2 ⟨#[122]⟩) := by
  refine ⟨fun h => ?_, fun h => ?_, fun h => ?_⟩
  · exact ex_other0 h.2.2
  · exact ex_other1 h.2.2
  · exact ex_other2 h.2.2
theorem odd_not : ¬ Genuine (keyAt 0) { sP 2 ⟨#[122]⟩ with body := ⟨#[119]⟩ } := fun h =>
  ex_odd h.2.2
theorem first_seal : (sP 0 ⟨#[120]⟩).sl = node (keyAt 0) (leaf ⟨#[16, 2, 0, 2, 120]⟩) := by
  have := ex_content
  show node (keyAt 0) (leaf (content (exPkt 0))) = _
  rw [this]; rfl

theorem inn_eq {L : Lk} {p : Pkt} (h : L.Takes p) : L.inn p = Lk.drain 101 (L.stored p) := by unfold Lk.inn; rw [if_pos h]
theorem sP_takes {L : Lk} (ho : L.other = keyAt 0) (i : Nat) (hi : i < 3) (b : ByteArray) (hb : b.size ≤ 200) : L.Takes (sP i b) := ⟨by rw [ho]; exact sP_genuine i hi b hb, Int.natCast_nonneg _⟩

def sB1 : Lk := ((open0 1).stored (sP 1 ⟨#[121]⟩))
theorem sB1_eq : (open0 1).inn (sP 1 ⟨#[121]⟩) = (sB1, []) := by
  rw [inn_eq (sP_takes rfl 1 (by decide) _ (by decide))]
  refine drain_none ?_
  rw [stored_early, if_neg (fun h => by have := h.2; exact absurd this (by decide))]
  rfl
theorem sB1_early (x : Int) : sB1.early x = if x = 2 then some ⟨#[121]⟩ else none := by
  unfold sB1
  rw [stored_early]
  have hf : (open0 1).Fits (sP 1 ⟨#[121]⟩) := ⟨rfl, by decide, by decide⟩
  by_cases hx : x = 2
  · rw [if_pos ⟨hf, hx⟩, if_pos hx]; rfl
  · rw [if_neg (fun h => hx h.2), if_neg hx]; rfl
def sB2 : Lk := (sB1.stored (sP 0 ⟨#[120]⟩)).step.step
theorem sB1s_early (x : Int) : (sB1.stored (sP 0 ⟨#[120]⟩)).early x = if x = 1 then some ⟨#[120]⟩ else if x = 2 then some ⟨#[121]⟩ else none := by
  rw [stored_early]
  have hf : sB1.Fits (sP 0 ⟨#[120]⟩) := ⟨by rw [sB1_early]; decide, by decide, by decide⟩
  by_cases hx : x = 1
  · rw [if_pos ⟨hf, hx⟩, if_pos hx]; rfl
  · rw [if_neg (fun h => hx h.2), if_neg hx, sB1_early]
theorem sB1_got : sB1.got = 0 := (stored_fields _ _).2.2.2.1
theorem sB1_other : sB1.other = keyAt 0 := (stored_fields _ _).2.1
theorem sB1s_got : (sB1.stored (sP 0 ⟨#[120]⟩)).got = 0 := (stored_fields _ _).2.2.2.1.trans sB1_got
theorem sB2_got : sB2.got = 2 := by show (sB1.stored (sP 0 ⟨#[120]⟩)).got + 1 + 1 = 2; rw [sB1s_got]
theorem step_early (L : Lk) (x : Int) : L.step.early x = if x = (L.got : Int) + 1 then none else L.early x := rfl
theorem step_got (L : Lk) : L.step.got = L.got + 1 := rfl
theorem sB2_early (x : Int) : sB2.early x = none := by
  show (if x = (((sB1.stored (sP 0 ⟨#[120]⟩)).got + 1 : Nat) : Int) + 1 then none else if x = ((sB1.stored (sP 0 ⟨#[120]⟩)).got : Int) + 1 then none else (sB1.stored (sP 0 ⟨#[120]⟩)).early x) = none
  rw [sB1s_got, sB1s_early]
  by_cases h2 : x = 2
  · subst h2; rfl
  · by_cases h1 : x = 1
    · rw [if_neg (by omega), if_pos (by omega)]
    · rw [if_neg (by omega), if_neg (by omega), if_neg h1, if_neg h2]
theorem sB2_eq : sB1.inn (sP 0 ⟨#[120]⟩) = (sB2, [⟨#[120]⟩, ⟨#[121]⟩]) := by
  rw [inn_eq (sP_takes sB1_other 0 (by decide) _ (by decide))]
  rw [drain_some (s := ⟨#[120]⟩) (by rw [sB1s_got, sB1s_early]; rfl)]
  rw [drain_some (L := (sB1.stored (sP 0 ⟨#[120]⟩)).step) (s := ⟨#[121]⟩) (by rw [step_got, step_early, sB1s_got, sB1s_early]; rfl)]
  rw [drain_none (L := (sB1.stored (sP 0 ⟨#[120]⟩)).step.step) (show sB2.early _ = none from sB2_early _)]
  rfl
theorem sB2_other : sB2.other = keyAt 0 := by show (sB1.stored (sP 0 ⟨#[120]⟩)).other = _; rw [(stored_fields _ _).2.1, sB1_other]
theorem sB2_eq' : sB2.inn (sP 1 ⟨#[121]⟩) = (sB2.ackd (sP 1 ⟨#[121]⟩), []) := by
  rw [inn_eq (sP_takes sB2_other 1 (by decide) _ (by decide))]
  have hf : ¬ sB2.Fits (sP 1 ⟨#[121]⟩) := fun h => by have := h.2.1; rw [sB2_got] at this; exact absurd this (by decide)
  rw [show sB2.stored (sP 1 ⟨#[121]⟩) = sB2.ackd (sP 1 ⟨#[121]⟩) from by unfold Lk.stored; rw [if_neg hf]]
  exact drain_none (show sB2.early _ = none from sB2_early _)
def sB3 : Lk := sB2.ackd (sP 1 ⟨#[121]⟩)
theorem sB3_got : sB3.got = 2 := sB2_got
theorem sB3_sent : sB3.sent = [] := by show (sB1.stored (sP 0 ⟨#[120]⟩)).sent = []; rw [(stored_fields _ _).2.2.1]; show sB1.sent = []; unfold sB1; rw [(stored_fields _ _).2.2.1]; rfl
theorem sB3_key : sB3.key = keyAt 1 := by show (sB1.stored (sP 0 ⟨#[120]⟩)).key = _; rw [(stored_fields _ _).1]; show sB1.key = _; unfold sB1; rw [(stored_fields _ _).1]; rfl
theorem sB3_other : sB3.other = keyAt 0 := sB2_other
theorem sB3_acked : sB3.acked = 0 := by
  show max (sB1.stored (sP 0 ⟨#[120]⟩)).acked _ = 0
  rw [(stored_fields _ _).2.2.2.2.1]
  show max (max sB1.acked _) _ = 0
  unfold sB1
  rw [(stored_fields _ _).2.2.2.2.1]; rfl
def sAck : Pkt := ⟨0, 2, ⟨#[]⟩, sealOf (keyAt 1) ⟨0, 2, ⟨#[]⟩, ⟨#[]⟩⟩⟩
theorem sB3_out : sB3.out = [sAck] := by
  unfold Lk.out Lk.bare
  rw [sB3_acked, sB3_sent, sB3_got, sB3_key]; rfl
theorem sA_takes : sA.Takes sAck := ⟨⟨sha_size _, ⟨⟨by decide, by decide⟩, ⟨by decide, by decide⟩, by decide, .inr (by rw [Lib.toList_data]; rfl), sha_size _⟩, rfl⟩, by decide⟩
def sA2 : Lk := sA.ackd sAck
theorem sA2_eq : sA.inn sAck = (sA2, []) := by
  rw [inn_eq sA_takes]
  have hf : ¬ sA.Fits sAck := fun h => by have := h.2.1; exact absurd this (by decide)
  rw [show sA.stored sAck = sA2 from by unfold Lk.stored; rw [if_neg hf]; rfl]
  exact drain_none rfl
theorem sA2_acked : sA2.acked = 2 := rfl
theorem odd_takes : ¬ sB3.Takes { sP 2 ⟨#[122]⟩ with body := ⟨#[119]⟩ } := fun h => odd_not (by have := h.1; rw [sB3_other] at this; exact this)
theorem sA_len : sA.sent.length = 3 := rfl
theorem sA_acked : sA.acked = 0 := rfl
theorem sA2_len : sA2.sent.length = 3 := rfl
def sRest : List Pkt := [⟨3, 0, ⟨#[122]⟩, sealOf (keyAt 0) ⟨3, 0, ⟨#[122]⟩, ⟨#[]⟩⟩⟩]
theorem sA2_out : sA2.out = sRest := rfl
theorem sA_ins : sA.ins = 0 := rfl
theorem sB1_ins : sB1.ins ≤ 1 := (stored_fields _ _).2.2.2.2.2
theorem sB2_ins : sB2.ins ≤ 2 := by
  have h1 : (sB1.stored (sP 0 ⟨#[120]⟩)).ins ≤ sB1.ins + 1 := (stored_fields _ _).2.2.2.2.2
  have h2 := sB1_ins
  show (sB1.stored (sP 0 ⟨#[120]⟩)).ins ≤ 2
  omega
theorem sB3_eq : sB2.inn (sP 1 ⟨#[121]⟩) = (sB3, []) := sB2_eq'
attribute [irreducible] sA sB1 sB2 sB3 sA2
end Go.Proofs.YtjamakapkpkfeaaDoor
