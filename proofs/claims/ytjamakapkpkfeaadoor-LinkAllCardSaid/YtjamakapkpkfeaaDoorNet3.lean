/- If of each message's packets one arrives in each block of rounds, all messages arrive; plain laws, no program here. -/
import Derived.Test.YtjamakapkpkfeaaDoorNet2
namespace Go.Proofs.YtjamakapkpkfeaaDoor
open Sha

def whenOf (which : List Int) (s r n : Nat) (x : Int) : Nat := if which.length = 0 then 0 else pickN (which.getD (pickN (7 * ((r / s : Nat) : Int) + 3 * x + (n : Int)) which.length) 0) s
def arr (which : List Int) (s r n : Nat) (out : List Pkt) (k : Nat) : Bool := match out[k]? with
  | some p => r % s == whenOf which s r n p.ser
  | none => false
def roundL (which : List Int) (s r : Nat) (L : Nat → Lk) (n : Nat) : Lk × List ByteArray := lossy (arr which s r (1 - n) (L (1 - n)).out) (L (1 - n)).out (L n) (L (1 - n)).out.length
def roundM (which : List Int) (s r : Nat) (L : Nat → Lk) : Nat → Lk := fun n => (roundL which s r L n).1
def roundsM (which : List Int) (s : Nat) (L : Nat → Lk) : Nat → Nat → Lk
  | 0 => L
  | r + 1 => roundM which s r (roundsM which s L r)

/-- The serial of the first packet that goes out. -/
def firstSer (S : Lk) : Int := if S.acked = S.sent.length then 0 else (S.acked : Int) + 1
theorem out_first {S : Lk} (h : S.Ok) : ∃ p, S.out[0]? = some p ∧ p.ser = firstSer S ∧ p.ack = (S.got : Int) := by
  unfold Lk.out firstSer Lk.bare
  have ha := h.acked
  split
  · exact ⟨_, rfl, rfl, rfl⟩
  · refine ⟨⟨(S.acked : Int) + ((0 : Nat) : Int) + 1, S.got, (S.sent[S.acked + 0]?).getD ⟨#[]⟩, sealOf S.key ⟨(S.acked : Int) + ((0 : Nat) : Int) + 1, S.got, (S.sent[S.acked + 0]?).getD ⟨#[]⟩, ⟨#[]⟩⟩⟩, ?_, ?_, rfl⟩
    · rw [List.getElem?_map, List.getElem?_map, List.getElem?_range (by omega)]
      rfl
    · simp

structure Round (L L' : Nat → Lk) : Prop where
  net : NetF L'
  sent : ∀ n, n < 2 → (L' n).sent = (L n).sent
  got : ∀ n, n < 2 → (L n).got ≤ (L' n).got
  acked : ∀ n, n < 2 → (L n).acked ≤ (L' n).acked
theorem Round.refl {L : Nat → Lk} (h : NetF L) : Round L L := ⟨h, fun _ _ => rfl, fun _ _ => Nat.le_refl _, fun _ _ => Nat.le_refl _⟩
theorem Round.trans {L L' L2 : Nat → Lk} (h : Round L L') (k : Round L' L2) : Round L L2 :=
  ⟨k.net, fun n hn => (k.sent n hn).trans (h.sent n hn), fun n hn => Nat.le_trans (h.got n hn) (k.got n hn), fun n hn => Nat.le_trans (h.acked n hn) (k.acked n hn)⟩
theorem NetF.okn {L : Nat → Lk} (h : NetF L) {n : Nat} (hn : n < 2) : (L n).Ok := (h.at hn).okA

/-- What becomes of two ends in one round: each of them takes packets of the other one, as they went out before it. -/
theorem round_spec {which : List Int} {s r : Nat} {L : Nat → Lk} (h : NetF L) (hi : ∀ n, n < 2 → (L n).ins ≤ 900000) :
    Round L (roundM which s r L) ∧ (∀ n, n < 2 → (roundM which s r L n).ins ≤ (L n).ins + 4) ∧
    (∀ n, n < 2 → (roundL which s r L n).2 = ((L (1 - n)).sent.drop (L n).got).take ((roundM which s r L n).got - (L n).got)) ∧
    ∀ n, n < 2 → r % s = whenOf which s r (1 - n) (firstSer (L (1 - n))) → Has (roundM which s r L n) (firstSer (L (1 - n))) ∧ (L (1 - n)).got ≤ (roundM which s r L n).acked := by
  have spec : ∀ n, n < 2 → _ := fun n hn => lossy_spec (c := arr which s r (1 - n) (L (1 - n)).out) (h.at (n := 1 - n) (by omega)) (fun p hp => sound_out (h.at (n := 1 - n) (by omega)).okA hp) (L (1 - n)).out.length
    (by have := out_le (L (1 - n)); have := hi (1 - (1 - n)) (by omega); omega)
  have e11 : ∀ n, n < 2 → 1 - (1 - n) = n := fun n hn => by omega
  have spec2 : ∀ n, n < 2 → Lossy (L (1 - n)) (L n) (roundM which s r L n) (roundL which s r L n).2 ∧ (roundM which s r L n).ins ≤ (L n).ins + 4 ∧
      ∀ j p, j < (L (1 - n)).out.length → arr which s r (1 - n) (L (1 - n)).out j = true → (L (1 - n)).out[j]? = some p → Has (roundM which s r L n) p.ser ∧ p.ack ≤ ((roundM which s r L n).acked : Int) := by
    intro n hn
    have h1 := spec n hn
    rw [e11 n hn] at h1
    have := out_le (L (1 - n))
    exact ⟨h1.1, by have := h1.2.1; unfold roundM roundL; omega, h1.2.2⟩
  clear spec
  have a0 := (spec2 0 (by omega)).1
  have a1 := (spec2 1 (by omega)).1
  -- both ends at once
  have hnet : NetF (roundM which s r L) := by
    have h1 := lossy_spec (c := arr which s r 1 (L 1).out) (S := roundM which s r L 1) (R := L 0) a1.net.symm (fun p hp => (sound_out (h.okn (n := 1) (by omega)) hp).far a1.far) (L 1).out.length (by have := out_le (L 1); have := hi 0 (by omega); omega)
    exact h1.1.net.symm
  refine ⟨⟨hnet, fun n hn => (spec2 n hn).1.sent, fun n hn => (spec2 n hn).1.far.got, fun n hn => (spec2 n hn).1.far.acked⟩, fun n hn => (spec2 n hn).2.1, fun n hn => (spec2 n hn).1.msgs, fun n hn hw => ?_⟩
  obtain ⟨p, hp, hs, ha⟩ := out_first (h.okn (n := 1 - n) (by omega))
  have hl := out_pos _ (h.okn (n := 1 - n) (by omega))
  obtain ⟨h1, h2⟩ := (spec2 n hn).2.2 0 p (by omega) (by unfold arr; rw [hp]; simp only [hs]; rw [hw]; simp) hp
  rw [hs] at h1
  exact ⟨h1, by rw [ha] at h2; omega⟩

theorem rounds_spec {which : List Int} {s : Nat} {L : Nat → Lk} (h : NetF L) (h0 : ∀ n, n < 2 → (L n).ins ≤ 100000) : ∀ (r : Nat), r ≤ 100000 → Round L (roundsM which s L r) ∧ ∀ n, n < 2 → (roundsM which s L r n).ins ≤ (L n).ins + 4 * r
  | 0, _ => ⟨Round.refl h, fun _ _ => Nat.le_refl _⟩
  | r + 1, hr => by
    obtain ⟨h1, h2⟩ := rounds_spec h h0 r (by omega)
    obtain ⟨h3, h4, _⟩ := round_spec (which := which) (s := s) (r := r) h1.net (fun n hn => by have := h0 n hn; have := h2 n hn; omega)
    exact ⟨h1.trans h3, fun n hn => by have := h2 n hn; have := h4 n hn; show (roundM which s r (roundsM which s L r) n).ins ≤ _; omega⟩

/-- How far both ends are. -/
def prog (L : Nat → Lk) : Nat := (L 0).acked + (L 1).acked + (L 0).got + (L 1).got
theorem Round.prog_le {L L' : Nat → Lk} (h : Round L L') : prog L ≤ prog L' := by
  have := h.got 0 (by omega); have := h.got 1 (by omega); have := h.acked 0 (by omega); have := h.acked 1 (by omega)
  unfold prog; omega
theorem Round.same {L L' : Nat → Lk} (h : Round L L') (he : prog L' ≤ prog L) {n : Nat} (hn : n < 2) : (L' n).got = (L n).got ∧ (L' n).acked = (L n).acked := by
  have := h.got 0 (by omega); have := h.got 1 (by omega); have := h.acked 0 (by omega); have := h.acked 1 (by omega)
  unfold prog at he
  rcases (show n = 0 ∨ n = 1 by omega) with rfl | rfl <;> omega

/-- In each block of rounds there is a step ahead, unless nothing waits. -/
theorem block_spec {which : List Int} {s : Nat} {L : Nat → Lk} (hs : 0 < s) (h : NetF L) (h0 : ∀ n, n < 2 → (L n).ins ≤ 100000) (b : Nat) (hb : s * b + s ≤ 100000) {n : Nat} (hn : n < 2)
    (hw : (roundsM which s L (s * b) n).acked < (L n).sent.length) : prog (roundsM which s L (s * b)) < prog (roundsM which s L (s * b + s)) := by
  have hR : ∀ i j, i ≤ j → j ≤ 100000 → Round (roundsM which s L i) (roundsM which s L j) := by
    intro i j hij hj
    induction j with
    | zero => have : i = 0 := by omega
              subst this; exact Round.refl h
    | succ j ih =>
      rcases Nat.lt_or_ge i (j + 1) with hlt | hge
      · obtain ⟨h1, h2⟩ := rounds_spec (which := which) (s := s) h h0 j (by omega)
        obtain ⟨h3, _⟩ := round_spec (which := which) (s := s) (r := j) h1.net (fun n hn => by have := h0 n hn; have := h2 n hn; omega)
        exact (ih (by omega) (by omega)).trans h3
      · have : i = j + 1 := by omega
        subst this
        exact Round.refl (rounds_spec (which := which) (s := s) h h0 (j + 1) hj).1.net
  -- the round of the block in which the first packet of end m arrives
  have key : ∀ m, m < 2 → prog (roundsM which s L (s * b + s)) ≤ prog (roundsM which s L (s * b)) →
      ∃ M : Nat → Lk, Round (roundsM which s L (s * b)) M ∧ prog M ≤ prog (roundsM which s L (s * b)) ∧ NetF M ∧ Has (M (1 - m)) (firstSer (roundsM which s L (s * b) m)) ∧ (roundsM which s L (s * b) m).got ≤ (M (1 - m)).acked := by
    intro m hm hle
    have hwl : ∀ r x, whenOf which s r m x < s := by
      intro r x; unfold whenOf; split
      · exact hs
      · exact pickN_lt _ hs
    have ht := hwl (s * b) (firstSer (roundsM which s L (s * b) m))
    generalize htd : whenOf which s (s * b) m (firstSer (roundsM which s L (s * b) m)) = t at ht
    have r1 := hR (s * b) (s * b + t) (by omega) (by omega)
    have r2 := hR (s * b + t) (s * b + t + 1) (by omega) (by omega)
    have r3 := hR (s * b + t + 1) (s * b + s) (by omega) (by omega)
    have p1 := r2.prog_le; have p2 := r3.prog_le; have p3 := r1.prog_le
    obtain ⟨g1, g2⟩ := r1.same (by omega) hm
    obtain ⟨_, h2⟩ := rounds_spec (which := which) (s := s) h h0 (s * b + t) (by omega)
    obtain ⟨_, _, _, h5⟩ := round_spec (which := which) (s := s) (r := s * b + t) r1.net (fun n hn => by have := h0 n hn; have := h2 n hn; omega)
    have e1 : 1 - (1 - m) = m := by omega
    have hf : firstSer (roundsM which s L (s * b + t) m) = firstSer (roundsM which s L (s * b) m) := by unfold firstSer; rw [g2, r1.sent m hm]
    have hq : (s * b + t) / s = s * b / s := by rw [Nat.mul_add_div hs, Nat.div_eq_of_lt ht, Nat.mul_div_cancel_left _ hs]; omega
    have hmod : (s * b + t) % s = t := by rw [Nat.mul_add_mod, Nat.mod_eq_of_lt ht]
    have hwh : (s * b + t) % s = whenOf which s (s * b + t) (1 - (1 - m)) (firstSer (roundsM which s L (s * b + t) (1 - (1 - m)))) := by
      rw [e1, hf, hmod]
      refine htd.symm.trans ?_
      unfold whenOf
      rw [hq]
    have h6 := h5 (1 - m) (by omega) hwh
    rw [e1, hf, g1] at h6
    exact ⟨roundsM which s L (s * b + t + 1), r1.trans r2, by omega, r2.net, h6.1, h6.2⟩
  rcases Nat.lt_or_ge (prog (roundsM which s L (s * b))) (prog (roundsM which s L (s * b + s))) with hlt | hge
  · exact hlt
  · exfalso
    have h0N := hR (s * b) (s * b) (Nat.le_refl _) (by omega)
    have hsent := (hR 0 (s * b) (Nat.zero_le _) (by omega)).sent
    have hN := h0N.net.at hn
    have hak := hN.ab.acked
    rcases Nat.lt_or_ge (roundsM which s L (s * b) n).acked (roundsM which s L (s * b) (1 - n)).got with hl | hg
    · obtain ⟨M, hM, hp, _, _, h7⟩ := key (1 - n) (by omega) hge
      have e1 : 1 - (1 - n) = n := by omega
      rw [e1] at h7
      have := (hM.same hp hn).2
      omega
    · obtain ⟨M, hM, hp, hMN, h7, _⟩ := key n hn hge
      have h8 := (hM.same hp (n := 1 - n) (by omega)).1
      have hf : firstSer (roundsM which s L (s * b) n) = ((M (1 - n)).got : Int) + 1 := by
        unfold firstSer
        rw [if_neg (by rw [hsent n hn]; show _ ≠ (L n).sent.length; omega), h8]
        omega
      rw [hf] at h7
      rcases h7 with h7 | h7
      · omega
      · exact h7 (hMN.at hn).ab.next

/-- After enough blocks nothing waits. -/
theorem all_blocks {which : List Int} {s : Nat} {L : Nat → Lk} (hs : 0 < s) (h : NetF L) (h0 : ∀ n, n < 2 → (L n).ins ≤ 100000) : ∀ (b : Nat), s * b ≤ 100000 →
    b ≤ prog (roundsM which s L (s * b)) ∨ ((roundsM which s L (s * b) 0).acked = (L 0).sent.length ∧ (roundsM which s L (s * b) 1).acked = (L 1).sent.length)
  | 0, _ => .inl (Nat.zero_le _)
  | b + 1, hb => by
    have hb' : s * b + s ≤ 100000 := by rw [Nat.mul_succ] at hb; exact hb
    obtain ⟨r1, i1⟩ := rounds_spec (which := which) (s := s) h h0 (s * b) (by omega)
    obtain ⟨r2, i2⟩ := rounds_spec (which := which) (s := s) h h0 (s * b + s) hb'
    have k0 := (r1.net.okn (n := 0) (by omega)).acked; have k1 := (r1.net.okn (n := 1) (by omega)).acked
    rw [r1.sent 0 (by omega)] at k0; rw [r1.sent 1 (by omega)] at k1
    by_cases hw : (roundsM which s L (s * b) 0).acked = (L 0).sent.length ∧ (roundsM which s L (s * b) 1).acked = (L 1).sent.length
    · refine .inr ?_
      have hR : ∀ j, j ≤ s → Round (roundsM which s L (s * b)) (roundsM which s L (s * b + j)) := by
        intro j hj
        induction j with
        | zero => exact Round.refl r1.net
        | succ j ih =>
          obtain ⟨h1, h2⟩ := rounds_spec (which := which) (s := s) h h0 (s * b + j) (by omega)
          obtain ⟨h3, _⟩ := round_spec (which := which) (s := s) (r := s * b + j) h1.net (fun n hn => by have := h0 n hn; have := h2 n hn; omega)
          exact (ih (by omega)).trans h3
      have hj := hR s (Nat.le_refl _)
      have a0 := hj.acked 0 (by omega); have a1 := hj.acked 1 (by omega)
      have c0 := (hj.net.okn (n := 0) (by omega)).acked; have c1 := (hj.net.okn (n := 1) (by omega)).acked
      rw [hj.sent 0 (by omega), r1.sent 0 (by omega)] at c0; rw [hj.sent 1 (by omega), r1.sent 1 (by omega)] at c1
      rw [Nat.mul_succ]
      omega
    · have hlt : prog (roundsM which s L (s * b)) < prog (roundsM which s L (s * b + s)) := by
        rcases Nat.lt_or_ge (roundsM which s L (s * b) 0).acked (L 0).sent.length with hl | hg
        · exact block_spec hs h h0 b hb' (n := 0) (by omega) hl
        · exact block_spec hs h h0 b hb' (n := 1) (by omega) (by omega)
      rcases all_blocks (which := which) hs h h0 b (by omega) with hp | hd
      · left
        rw [Nat.mul_succ]
        omega
      · exact absurd hd hw

/-- So all messages arrive, and nothing waits any more. -/
theorem all_rounds {which : List Int} {s : Nat} {L : Nat → Lk} (hs : 0 < s) (hs4 : s ≤ 4) (h : NetF L) (h0 : ∀ n, n < 2 → (L n).ins ≤ 100000) (hl : (L 0).sent.length ≤ 100 ∧ (L 1).sent.length ≤ 100) (rounds : Nat)
    (hr : rounds = (2 * s - 1) * (2 * ((L 0).sent.length + (L 1).sent.length) + 1)) :
    ∀ n, n < 2 → (roundsM which s L rounds n).acked = (L n).sent.length ∧ (roundsM which s L rounds (1 - n)).got = (L n).sent.length := by
  have hm : s * (2 * ((L 0).sent.length + (L 1).sent.length)) ≤ rounds := by
    rw [hr]
    refine Nat.mul_le_mul (by omega) (by omega)
  have hr1 : rounds ≤ 7 * 401 := by rw [hr]; exact Nat.mul_le_mul (by omega) (by omega)
  generalize hbd : 2 * ((L 0).sent.length + (L 1).sent.length) = b at *
  obtain ⟨r1, _⟩ := rounds_spec (which := which) (s := s) h h0 (s * b) (by omega)
  have hj : ∀ j, s * b + j ≤ rounds → Round (roundsM which s L (s * b)) (roundsM which s L (s * b + j)) := by
    intro j hj
    induction j with
    | zero => exact Round.refl r1.net
    | succ j ih =>
      obtain ⟨h1, h2⟩ := rounds_spec (which := which) (s := s) h h0 (s * b + j) (by omega)
      obtain ⟨h3, _⟩ := round_spec (which := which) (s := s) (r := s * b + j) h1.net (fun n hn => by have := h0 n hn; have := h2 n hn; omega)
      exact (ih (by omega)).trans h3
  have hk := hj (rounds - s * b) (by omega)
  rw [show s * b + (rounds - s * b) = rounds by omega] at hk
  have fin : ∀ n, n < 2 → (roundsM which s L (s * b) n).acked = (L n).sent.length := by
    have n0 := r1.net.at (n := 0) (by omega); have n1 := r1.net.at (n := 1) (by omega)
    have s0 := r1.sent 0 (by omega); have s1 := r1.sent 1 (by omega)
    have q1 := n0.okA.acked; have q2 := n1.okA.acked
    have q3 := n0.ab.got; have q4 := n1.ab.got
    rw [s0] at q1 q3; rw [s1] at q2 q4
    have q3 : (roundsM which s L (s * b) 1).got ≤ (L 0).sent.length := q3
    have q4 : (roundsM which s L (s * b) 0).got ≤ (L 1).sent.length := q4
    rcases all_blocks (which := which) hs h h0 b (by omega) with hp | hd
    · unfold prog at hp
      intro n hn
      rcases (show n = 0 ∨ n = 1 by omega) with rfl | rfl <;> omega
    · intro n hn
      rcases (show n = 0 ∨ n = 1 by omega) with rfl | rfl
      · exact hd.1
      · exact hd.2
  intro n hn
  have h1 := hk.acked n hn
  have h2 := fin n hn
  have h3 := (hk.net.okn hn).acked
  have h4 := (hk.net.at hn).ab.acked
  have h5 := (hk.net.at hn).ab.got
  rw [hk.sent n hn, r1.sent n hn] at h3 h5
  exact ⟨by omega, by omega⟩
end Go.Proofs.YtjamakapkpkfeaaDoor
