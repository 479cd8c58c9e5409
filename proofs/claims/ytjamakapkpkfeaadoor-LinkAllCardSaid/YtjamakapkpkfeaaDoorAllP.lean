/- Rounds of packets, packet by packet; plain laws, no program here. -/
import Derived.Test.YtjamakapkpkfeaaDoorNet3
namespace Go.Proofs.YtjamakapkpkfeaaDoor
open Sha

/-- The first k messages that the end n sends. -/
def msgs (n k : Nat) : List ByteArray := (List.range k).map fun i : Nat => bodyOf (17 * (i : Int) + (n : Int))
theorem msgs_zero (n : Nat) : msgs n 0 = [] := rfl
theorem msgs_succ (n k : Nat) : msgs n (k + 1) = msgs n k ++ [bodyOf (17 * (k : Int) + (n : Int))] := by unfold msgs; rw [List.range_succ, List.map_append]; rfl
theorem msgs_length (n k : Nat) : (msgs n k).length = k := by unfold msgs; rw [List.length_map, List.length_range]
/-- An end that has sent so many messages. -/
def lkC (m c : Nat) : Lk := { open0 m with sent := msgs m c }
def lkS (c : Nat → Nat) (m : Nat) : Lk := lkC m (c m)
theorem lkC_zero (m : Nat) : lkC m 0 = open0 m := rfl
theorem lkC_ok {m c : Nat} (h : c ≤ 9) : (lkC m c).Ok := by
  have h0 := open0_ok m
  refine ⟨h0.key, h0.other, by show (msgs m c).length ≤ 100; rw [msgs_length]; omega, fun s hs => ?_, Nat.zero_le _, h0.got, h0.early, h0.ins⟩
  obtain ⟨i, _, rfl⟩ := List.mem_map.1 (show s ∈ msgs m c from hs)
  have := bodyOf_size (17 * (i : Int) + (m : Int))
  omega
theorem lkS_net {c : Nat → Nat} (h : ∀ m, m < 2 → c m ≤ 9) : NetF (lkS c) :=
  ⟨lkC_ok (h 0 (by omega)), lkC_ok (h 1 (by omega)), rfl, rfl, ⟨⟨Nat.zero_le _, Nat.zero_le _, (by intro x s hs; cases hs), Nat.le_refl _⟩, rfl⟩, ⟨⟨Nat.zero_le _, Nat.zero_le _, (by intro x s hs; cases hs), Nat.le_refl _⟩, rfl⟩⟩
theorem lkC_send (m c : Nat) : (lkC m c).send (bodyOf (17 * (c : Int) + (m : Int))) = lkC m (c + 1) := by
  unfold lkC Lk.send
  rw [msgs_succ]
theorem lkC_sendOk {m c : Nat} (h : c < 9) (z : Int) : sendOk (lkC m c) (bodyOf z) := by
  have := bodyOf_size z
  exact ⟨by omega, by show (msgs m c).length < 100; rw [msgs_length]; omega⟩

/-- What end n has received of the other one after r rounds. -/
def gotR (which : List Int) (s : Nat) (L : Nat → Lk) (r n : Nat) : List ByteArray := ((L (1 - n)).sent).take (roundsM which s L r n).got
theorem gotR_zero (which : List Int) (s : Nat) (c : Nat → Nat) (n : Nat) : gotR which s (lkS c) 0 n = [] := by
  unfold gotR; show List.take 0 _ = []; rfl
theorem gotR_succ {which : List Int} {s : Nat} {L : Nat → Lk} (h : NetF L) (h0 : ∀ n, n < 2 → (L n).ins ≤ 100000) {r : Nat} (hr : r < 100000) {n : Nat} (hn : n < 2) :
    gotR which s L (r + 1) n = gotR which s L r n ++ (roundL which s r (roundsM which s L r) n).2 := by
  obtain ⟨h1, h2⟩ := rounds_spec (which := which) (s := s) h h0 r (by omega)
  obtain ⟨h3, _, h5, _⟩ := round_spec (which := which) (s := s) (r := r) h1.net (fun n hn => by have := h0 n hn; have := h2 n hn; omega)
  unfold gotR
  rw [h5 n hn, h1.sent (1 - n) (by omega)]
  show List.take (roundM which s r (roundsM which s L r) n).got _ = _
  have := h3.got n hn
  rw [show (roundM which s r (roundsM which s L r) n).got = (roundsM which s L r n).got + ((roundM which s r (roundsM which s L r) n).got - (roundsM which s L r n).got) by omega, List.take_add]
  congr 2
  omega
theorem gotR_len {which : List Int} {s : Nat} {L : Nat → Lk} {r n : Nat} (h : (L (1 - n)).sent.length ≤ 100) : (gotR which s L r n).length ≤ 100 := by
  unfold gotR; rw [List.length_take]; omega

theorem arrives {which : List Int} {s r n : Nat} {S0 S R : Lk} (h : Net S R) (hS : ∀ p ∈ S0.out, Sound S p) (hi : R.ins ≤ 900000) {i : Nat} (hl : i < S0.out.length) :
    (∀ p, S0.out[i]? = some p → (lossy (arr which s r n S0.out) S0.out R i).1.Takes p) ∧ (lossy (arr which s r n S0.out) S0.out R i).1.ins < 1000000 ∧ (lossy (arr which s r n S0.out) S0.out R (i + 1)).2.length ≤ 100 ∧ (lossy (arr which s r n S0.out) S0.out R i).2.length ≤ 100 := by
  have h4 := out_le S0
  obtain ⟨a1, a2, _⟩ := lossy_spec (c := arr which s r n S0.out) h hS i (by omega)
  obtain ⟨b1, _, _⟩ := lossy_spec (c := arr which s r n S0.out) h hS (i + 1) (by omega)
  refine ⟨fun p hp => ?_, by omega, ?_, ?_⟩
  · exact (hS p (List.mem_of_getElem? hp)).takes a1.net.okA a1.net.okB a1.net.keyA a1.net.ba.got
  · rw [b1.msgs, List.length_take]
    have := b1.net.okB.got; omega
  · rw [a1.msgs, List.length_take]
    have := a1.net.okB.got; omega
/-- What the rounds come to. -/
theorem all_fin {which : List Int} {s : Nat} {c : Nat → Nat} (hs : 0 < s) (hs4 : s ≤ 4) (hc : ∀ n, n < 2 → c n ≤ 9) {rounds : Nat} (hr : rounds = (2 * s - 1) * (2 * (c 0 + c 1) + 1)) {n : Nat} (hn : n < 2) :
    gotR which s (lkS c) rounds n = msgs (1 - n) (c (1 - n)) ∧ (roundsM which s (lkS c) rounds n).sent.length = (roundsM which s (lkS c) rounds n).acked := by
  have hnet : NetF (lkS c) := lkS_net hc
  have hl : ∀ n, (lkS c n).sent.length = c n := fun n => msgs_length n (c n)
  have h0 := hc 0 (by omega); have h1 := hc 1 (by omega)
  have hmul : (2 * s - 1) * (2 * (c 0 + c 1) + 1) ≤ 7 * 37 := Nat.mul_le_mul (by omega) (by omega)
  have hfin := all_rounds (which := which) hs hs4 hnet (fun n _ => Nat.zero_le _) ⟨by rw [hl]; omega, by rw [hl]; omega⟩ rounds (by rw [hl, hl]; exact hr)
  have hsp := (rounds_spec (which := which) (s := s) hnet (fun n _ => Nat.zero_le _) rounds (by omega)).1
  refine ⟨?_, ?_⟩
  · have h2 := (hfin (1 - n) (by omega)).2
    rw [show 1 - (1 - n) = n by omega] at h2
    unfold gotR
    rw [h2, List.take_length]; rfl
  · rw [hsp.sent n hn]; exact (hfin n hn).1.symm
theorem whenOf_map (y : Nat → Int) (m s r n : Nat) (x : Int) : whenOf ((List.range m).map y) s r n x = if m = 0 then 0 else pickN (y (pickN (7 * ((r / s : Nat) : Int) + 3 * x + (n : Int)) m)) s := by
  unfold whenOf
  rw [List.length_map, List.length_range]
  split
  · rfl
  · rename_i h
    have hl := pickN_lt (7 * ((r / s : Nat) : Int) + 3 * x + (n : Int)) (n := m) (by omega)
    rw [List.getD_eq_getElem?_getD, List.getElem?_map, List.getElem?_range hl]
    rfl
theorem arr_at {which : List Int} {s r n : Nat} {out : List Pkt} {k : Nat} {p : Pkt} (h : out[k]? = some p) : arr which s r n out k = (r % s == whenOf which s r n p.ser) := by
  unfold arr; rw [h]
end Go.Proofs.YtjamakapkpkfeaaDoor
