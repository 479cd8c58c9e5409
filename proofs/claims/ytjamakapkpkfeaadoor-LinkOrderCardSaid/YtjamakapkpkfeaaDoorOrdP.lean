/- The order in which packets arrive plays no part; plain laws, no program here. -/
import Derived.Test.YtjamakapkpkfeaaDoorOutP
namespace Go.Proofs.YtjamakapkpkfeaaDoor
open Sha

/-- Some of S's packets have arrived at R0, which has become R; rest are still to come. -/
structure Rest (S R0 R : Lk) (o : List ByteArray) (rest : List Pkt) : Prop where
  los : Lossy S R0 R o
  sub : ∀ p ∈ rest, p ∈ S.out
  has : ∀ p ∈ S.out, p ∈ rest ∨ (Has R p.ser ∧ R.acked = max R0.acked S.got)
  ack : R.acked = R0.acked ∨ R.acked = max R0.acked S.got
  ins : R.ins + rest.length ≤ R0.ins + S.out.length
theorem Rest.start {S R : Lk} (h : Net S R) : Rest S R R [] S.out := ⟨⟨h, Far.refl _, rfl, by simp, fun _ h => h⟩, fun _ h => h, fun _ h => .inl h, .inl rfl, Nat.le_refl _⟩
theorem mem_eraseIdx_or {α : Type} {l : List α} {k : Nat} {p q : α} (hk : l[k]? = some p) (hq : q ∈ l) : q = p ∨ q ∈ l.eraseIdx k := by
  obtain ⟨hlt, rfl⟩ := List.getElem?_eq_some_iff.1 hk
  obtain ⟨j, hj, rfl⟩ := List.mem_iff_getElem.1 hq
  by_cases h : j = k
  · subst h; exact .inl rfl
  · exact .inr (List.mem_eraseIdx_iff_getElem.2 ⟨j, hj, h, rfl⟩)
theorem Rest.step {S R0 R : Lk} {o : List ByteArray} {rest : List Pkt} (h : Rest S R0 R o rest) (hi : R0.ins ≤ 1000) {k : Nat} {p : Pkt} (hk : rest[k]? = some p) :
    R.Takes p ∧ R.ins < 1000000 ∧ Rest S R0 (R.inn p).1 (o ++ (R.inn p).2) (rest.eraseIdx k) := by
  have hlt : k < rest.length := (List.getElem?_eq_some_iff.1 hk).1
  have hp : p ∈ S.out := h.sub p (List.mem_of_getElem? hk)
  have hs : Sound S p := sound_out h.los.net.okA hp
  have hle := out_le S
  have hins := h.ins
  have hi2 : R.ins < 1000000 := by omega
  have htk := hs.takes h.los.net.okA h.los.net.okB h.los.net.keyA h.los.net.ba.got
  obtain ⟨hN, hF, hT, hM, hH, hK⟩ := h.los.net.inn hs hi2
  have hack : (R.inn p).1.acked = max R0.acked S.got := by
    rw [hT.acked, out_ack hp, Int.toNat_natCast]
    rcases h.ack with h1 | h1 <;> rw [h1] <;> omega
  refine ⟨htk, hi2, ⟨⟨hN, h.los.far.trans hF, hT.sent.trans h.los.sent, ?_, fun x hx => hK x (h.los.has x hx)⟩, fun q hq => h.sub q (List.mem_of_mem_eraseIdx hq), fun q hq => ?_, .inr hack, ?_⟩⟩
  · have h1 := h.los.far.got; have h2 := hF.got
    rw [h.los.msgs, hM]
    have e1 : (R.inn p).1.got - R0.got = (R.got - R0.got) + ((R.inn p).1.got - R.got) := by omega
    rw [e1, List.take_add, List.drop_drop]
    congr 3
    omega
  · rcases h.has q hq with h1 | ⟨h1, _⟩
    · rcases mem_eraseIdx_or hk h1 with rfl | h2
      · exact .inr ⟨hH, hack⟩
      · exact .inl h2
    · exact .inr ⟨hK _ h1, hack⟩
  · have := hT.ins
    rw [List.length_eraseIdx_of_lt hlt]
    omega
theorem Rest.done {S R0 R : Lk} {o : List ByteArray} (h : Rest S R0 R o []) : R.got = min (S.acked + 4) S.sent.length ∧ R.acked = max R0.acked S.got := by
  have hall : ∀ p ∈ S.out, Has R p.ser ∧ R.acked = max R0.acked S.got := fun p hp => (h.has p hp).resolve_left (by simp)
  refine ⟨h.los.net.full (fun p hp => (hall p hp).1), ?_⟩
  have hpos := out_pos S h.los.net.okA
  obtain ⟨p, hp⟩ : ∃ p, p ∈ S.out := ⟨_, List.getElem_mem (show 0 < S.out.length by omega)⟩
  exact (hall p hp).2
theorem out_congr {A B : Lk} (hk : A.key = B.key) (hs : A.sent = B.sent) (ha : A.acked = B.acked) (hg : A.got = B.got) : A.out = B.out := by
  unfold Lk.out Lk.bare
  rw [hk, hs, ha, hg]
/-- Two ways to take them all: the same is received, and the same goes out. -/
theorem Rest.same {S R0 A B : Lk} {oa ob : List ByteArray} (ha : Rest S R0 A oa []) (hb : Rest S R0 B ob []) :
    oa = ob ∧ A.got = B.got ∧ A.acked = B.acked ∧ A.sent = B.sent ∧ A.out = B.out := by
  obtain ⟨a1, a2⟩ := ha.done
  obtain ⟨b1, b2⟩ := hb.done
  have hg : A.got = B.got := a1.trans b1.symm
  have hk : A.acked = B.acked := a2.trans b2.symm
  have hs : A.sent = B.sent := ha.los.sent.trans hb.los.sent.symm
  exact ⟨by rw [ha.los.msgs, hb.los.msgs, hg], hg, hk, hs, out_congr (ha.los.far.key.trans hb.los.far.key.symm) hs hk hg⟩
theorem Rest.len {S R0 R : Lk} {o : List ByteArray} {rest : List Pkt} (h : Rest S R0 R o rest) : o.length ≤ 100 := by
  rw [h.los.msgs, List.length_take]
  have := h.los.net.okB.got; omega
end Go.Proofs.YtjamakapkpkfeaaDoor
