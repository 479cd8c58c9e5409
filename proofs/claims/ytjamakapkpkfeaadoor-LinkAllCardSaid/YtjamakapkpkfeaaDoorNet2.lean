/- Rounds of packets between two ends, some of them lost; plain laws, no program here. -/
import Derived.Test.YtjamakapkpkfeaaDoorNet
namespace Go.Proofs.YtjamakapkpkfeaaDoor
open Sha

/-- Some of the packets arrive, one after the other: what becomes of the end, and what it returns. -/
def lossy (c : Nat → Bool) (out : List Pkt) (R : Lk) : Nat → Lk × List ByteArray
  | 0 => (R, [])
  | k + 1 => if c k then match out[k]? with
      | some p => (((lossy c out R k).1.inn p).1, (lossy c out R k).2 ++ ((lossy c out R k).1.inn p).2)
      | none => lossy c out R k
    else lossy c out R k
theorem lossy_take {c : Nat → Bool} {out : List Pkt} {R : Lk} {k : Nat} {p : Pkt} (hc : c k = true) (hp : out[k]? = some p) : lossy c out R (k + 1) = (((lossy c out R k).1.inn p).1, (lossy c out R k).2 ++ ((lossy c out R k).1.inn p).2) := by
  show (if c k then match out[k]? with | some p => (((lossy c out R k).1.inn p).1, (lossy c out R k).2 ++ ((lossy c out R k).1.inn p).2) | none => lossy c out R k else lossy c out R k) = _
  rw [if_pos hc, hp]
theorem lossy_skip {c : Nat → Bool} {out : List Pkt} {R : Lk} {k : Nat} (hc : c k = false) : lossy c out R (k + 1) = lossy c out R k := by
  show (if c k then match out[k]? with | some p => (((lossy c out R k).1.inn p).1, (lossy c out R k).2 ++ ((lossy c out R k).1.inn p).2) | none => lossy c out R k else lossy c out R k) = _
  rw [if_neg (by rw [hc]; decide)]
theorem lossy_none {c : Nat → Bool} {out : List Pkt} {R : Lk} {k : Nat} (hp : out[k]? = none) : lossy c out R (k + 1) = lossy c out R k := by
  show (if c k then match out[k]? with | some p => (((lossy c out R k).1.inn p).1, (lossy c out R k).2 ++ ((lossy c out R k).1.inn p).2) | none => lossy c out R k else lossy c out R k) = _
  rw [hp]; simp
theorem lossy_zero {c : Nat → Bool} {out : List Pkt} {R : Lk} : lossy c out R 0 = (R, []) := rfl
attribute [irreducible] lossy

structure Lossy (S R R' : Lk) (o : List ByteArray) : Prop where
  net : Net S R'
  far : Far R R'
  sent : R'.sent = R.sent
  msgs : o = (S.sent.drop R.got).take (R'.got - R.got)
  has : ∀ x, Has R x → Has R' x
theorem lossy_spec {S R : Lk} {c : Nat → Bool} {out : List Pkt} (h : Net S R) (ho : ∀ p ∈ out, Sound S p) : ∀ (k : Nat), R.ins + k ≤ 1000000 →
    Lossy S R (lossy c out R k).1 (lossy c out R k).2 ∧ (lossy c out R k).1.ins ≤ R.ins + k ∧
    ∀ j p, j < k → c j = true → out[j]? = some p → Has (lossy c out R k).1 p.ser ∧ p.ack ≤ ((lossy c out R k).1.acked : Int)
  | 0, _ => by
    rw [lossy_zero]
    exact ⟨⟨h, Far.refl _, rfl, by simp, fun _ h => h⟩, Nat.le_refl _, fun j p hj => absurd hj (Nat.not_lt_zero _)⟩
  | k + 1, hi => by
    obtain ⟨L, hins, hd⟩ := lossy_spec (c := c) h ho k (by omega)
    have same : lossy c out R (k + 1) = lossy c out R k → (c k = true → out[k]? = none) → Lossy S R (lossy c out R (k + 1)).1 (lossy c out R (k + 1)).2 ∧ (lossy c out R (k + 1)).1.ins ≤ R.ins + (k + 1) ∧
        ∀ j p, j < k + 1 → c j = true → out[j]? = some p → Has (lossy c out R (k + 1)).1 p.ser ∧ p.ack ≤ ((lossy c out R (k + 1)).1.acked : Int) := by
      intro he hn
      rw [he]
      refine ⟨L, by omega, fun j p hj hc hp => ?_⟩
      rcases Nat.lt_or_ge j k with hlt | hge
      · exact hd j p hlt hc hp
      · have : j = k := by omega
        subst this
        rw [hn hc] at hp; cases hp
    cases hc : c k with
    | false => exact same (lossy_skip hc) (fun h => by rw [hc] at h; cases h)
    | true =>
      cases hp : out[k]? with
      | none => exact same (lossy_none hp) (fun _ => hp)
      | some p =>
        rw [lossy_take hc hp]
        have hs : Sound S p := ho p (List.mem_of_getElem? hp)
        generalize lossy c out R k = r at *
        obtain ⟨hN, hF, hT, hM, hH, hK⟩ := L.net.inn hs (by omega)
        refine ⟨⟨hN, L.far.trans hF, hT.sent.trans L.sent, ?_, fun x hx => hK x (L.has x hx)⟩, ?_, ?_⟩
        · show r.2 ++ (r.1.inn p).2 = _
          have h1 := L.far.got; have h2 := hF.got
          rw [L.msgs, hM]
          have e1 : (r.1.inn p).1.got - R.got = (r.1.got - R.got) + ((r.1.inn p).1.got - r.1.got) := by omega
          rw [e1, List.take_add, List.drop_drop]
          congr 3
          omega
        · show (r.1.inn p).1.ins ≤ _
          have := hT.ins; omega
        · intro j q hj hc' hq
          show Has (r.1.inn p).1 q.ser ∧ q.ack ≤ (((r.1.inn p).1.acked : Nat) : Int)
          have ha := hT.acked
          rcases Nat.lt_or_ge j k with hlt | hge
          · obtain ⟨h1, h2⟩ := hd j q hlt hc' hq
            exact ⟨hK _ h1, by omega⟩
          · have : j = k := by omega
            subst this
            rw [hp] at hq
            cases hq
            have := hs.ack0
            exact ⟨hH, by omega⟩

/-! ### Two ends, by their numbers -/
def upd {α : Type} (f : Nat → α) (n : Nat) (x : α) : Nat → α := fun k => if k = n then x else f k
theorem upd_same {α : Type} (f : Nat → α) (n : Nat) (x : α) : upd f n x n = x := if_pos rfl
theorem upd_ne {α : Type} (f : Nat → α) {n k : Nat} (x : α) (h : k ≠ n) : upd f n x k = f k := if_neg h
def NetF (L : Nat → Lk) : Prop := Net (L 0) (L 1)
theorem NetF.at {L : Nat → Lk} (h : NetF L) {n : Nat} (hn : n < 2) : Net (L n) (L (1 - n)) := by
  rcases (show n = 0 ∨ n = 1 by omega) with rfl | rfl
  · exact h
  · exact Net.symm h
theorem NetF.of {L : Nat → Lk} {n : Nat} (hn : n < 2) (h : Net (L n) (L (1 - n))) : NetF L := by
  rcases (show n = 0 ∨ n = 1 by omega) with rfl | rfl
  · exact h
  · exact Net.symm h
theorem NetF.put {L : Nat → Lk} {n : Nat} (hn : n < 2) {x : Lk} (h : Net x (L (1 - n))) : NetF (upd L n x) := by
  refine NetF.of hn ?_
  rw [upd_same, upd_ne L x (by omega)]; exact h
theorem NetF.put' {L : Nat → Lk} {n : Nat} (hn : n < 2) {x : Lk} (h : Net (L n) x) : NetF (upd L (1 - n) x) := by
  refine NetF.of hn ?_
  rw [upd_same, upd_ne L x (by omega)]; exact h

def open0 (n : Nat) : Lk := ⟨keyAt n, keyAt (1 - n), [], 0, 0, fun _ => none, 0⟩
theorem open0_ok (n : Nat) : (open0 n).Ok := ⟨sha_size _, sha_size _, Nat.zero_le _, (by intro s hs; cases hs), Nat.le_refl _, Nat.zero_le _, (by intro x s hs; cases hs), Nat.zero_le _⟩
theorem open0_net : NetF open0 := ⟨open0_ok 0, open0_ok 1, rfl, rfl, ⟨⟨Nat.le_refl _, Nat.zero_le _, (by intro x s hs; cases hs), Nat.le_refl _⟩, rfl⟩, ⟨⟨Nat.le_refl _, Nat.zero_le _, (by intro x s hs; cases hs), Nat.le_refl _⟩, rfl⟩⟩
theorem bodyOf_size (n : Int) : (bodyOf n).size ≤ 2 := by
  unfold bodyOf
  rw [ByteArray.size_extract, str_size]
  show _ ≤ 2
  simp
  omega

/-- Which packets of a round arrive. -/
def mask (o3 : Int) (k : Nat) : Bool := (pickN o3 16 / 2 ^ (k % 4)) % 2 == 0
/-- One call of busy's. -/
def busyStep (L : Nat → Lk) (o : Nat → Int) : Nat → Lk :=
  if pickN (o 1) 2 = 0 then upd L (pickN (o 0) 2) ((L (pickN (o 0) 2)).send (bodyOf (o 2)))
  else upd L (1 - pickN (o 0) 2) (lossy (mask (o 3)) (L (pickN (o 0) 2)).out (L (1 - pickN (o 0) 2)) (L (pickN (o 0) 2)).out.length).1
def busyM (ops : Nat → Nat → Int) : Nat → Nat → Lk
  | 0 => open0
  | i + 1 => busyStep (busyM ops i) (ops i)

structure Small (L : Nat → Lk) (i : Nat) : Prop where
  sent : ∀ n, n < 2 → (L n).sent.length ≤ i
  ins : ∀ n, n < 2 → (L n).ins ≤ 4 * i
theorem out_le (L : Lk) : L.out.length ≤ 4 := by rw [out_len]; exact bare_length L
theorem busy_step {L : Nat → Lk} {o : Nat → Int} {i : Nat} (h : NetF L) (hs : Small L i) (hi : i < 100) : NetF (busyStep L o) ∧ Small (busyStep L o) (i + 1) := by
  have hn := pickN_lt (o 0) (n := 2) (by decide)
  unfold busyStep
  generalize pickN (o 0) 2 = n at *
  split
  · have hb := bodyOf_size (o 2)
    obtain ⟨h1, _⟩ := (h.at hn).send (s := bodyOf (o 2)) ⟨by omega, by have := hs.sent n hn; omega⟩
    refine ⟨h1.symm.symm |> NetF.put hn, ⟨fun k hk => ?_, fun k hk => ?_⟩⟩
    · by_cases hkn : k = n
      · subst hkn
        rw [upd_same]
        show ((L k).sent ++ [_]).length ≤ _
        rw [List.length_append]
        have := hs.sent k hk
        show (L k).sent.length + 1 ≤ _
        omega
      · rw [upd_ne _ _ hkn]; have := hs.sent k hk; omega
    · by_cases hkn : k = n
      · subst hkn
        rw [upd_same]
        have := hs.ins k hk
        show (L k).ins ≤ _
        omega
      · rw [upd_ne _ _ hkn]; have := hs.ins k hk; omega
  · have hN := h.at hn
    have hl := out_le (L n)
    have hin := hs.ins (1 - n) (by omega)
    obtain ⟨hL, hi2, _⟩ := lossy_spec (c := mask (o 3)) hN (fun p hp => sound_out hN.okA hp) (L n).out.length (by omega)
    refine ⟨NetF.put' hn hL.net, ⟨fun k hk => ?_, fun k hk => ?_⟩⟩
    · by_cases hkn : k = 1 - n
      · subst hkn
        rw [upd_same, hL.sent]; have := hs.sent _ hk; omega
      · rw [upd_ne _ _ hkn]; have := hs.sent k hk; omega
    · by_cases hkn : k = 1 - n
      · subst hkn
        rw [upd_same]; omega
      · rw [upd_ne _ _ hkn]; have := hs.ins k hk; omega
theorem busy_net (ops : Nat → Nat → Int) : ∀ (i : Nat), i ≤ 100 → NetF (busyM ops i) ∧ Small (busyM ops i) i
  | 0, _ => ⟨open0_net, ⟨fun _ _ => Nat.le_refl _, fun _ _ => Nat.le_refl _⟩⟩
  | i + 1, h => by obtain ⟨h1, h2⟩ := busy_net ops i (by omega); exact busy_step h1 h2 (by omega)
end Go.Proofs.YtjamakapkpkfeaaDoor
